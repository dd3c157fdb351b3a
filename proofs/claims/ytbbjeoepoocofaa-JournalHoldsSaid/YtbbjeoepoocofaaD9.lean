import Derived.Test.YtbbjeoepoocofaaD8
import Derived.StillTailTactics
import Derived.StillTailTactics
import Derived.StillTailTactics
import Derived.StillTailTactics
namespace Go.Proofs.Ytbbjeoepoocofaa
open Go.RowKit

/-- Whole numbers, as the cells that hold them. -/
def its (xs : List Int) : List Value := xs.map (Value.int .i64)
theorem its_length (xs : List Int) : (its xs).length = xs.length := by simp [its]
theorem its_get {xs : List Int} {i : Nat} (h : i < xs.length) : (its xs)[i]? = some (.int .i64 (xs.getD i 0)) := by
  simp [its, List.getD, List.getElem?_eq_getElem h]

/-- How many bytes of a write were written, by its fate. -/
def cut (f : Int) (n : Nat) : Nat := if f = -1 ∨ (n : Int) < f then n else f.toNat
theorem cut_le (f : Int) (n : Nat) : cut f n ≤ n := by unfold cut; split <;> omega

/-- The bytes at the last Sync behind some open writes, with their fates. -/
def torn (size : Nat) (L : List Int) (l : List ((Nat × List Int) × Int)) : List Int :=
  l.foldl (fun L x => over L (x.1.1 * size) (x.1.2.take (cut x.2 x.1.2.length))) L
def Dk.torn (D : Dk) (fs : List Int) : List Int := Ytbbjeoepoocofaa.torn D.size D.firm (D.open_.zip fs)
/-- A disk behind a crash. -/
def Dk.crash (D : Dk) (fs : List Int) : Dk := { D with firm := D.torn fs, now := D.torn fs, open_ := [] }

theorem Crash_nil (w : World) (fv : Value) : Calls Try.prog 19 #[.pointer none, fv] w fun e w' => e = .returned (.tuple #[.pointer none, .int .i64 2]) ∧ w = w' := by
  go_enter Try.func19, Try.ntmps19
  go_wp2_with fail
  go_step3
  go_wp2_with fail
  try rw [Exit.noGoto_ret]
  go_ret2
  exact ⟨rfl, rfl⟩
theorem Crash_many (w : World) (d : Nat) (D : Dk) (M S : Nat → Prop) (h : DiskAt w d D M S) (a : Option Addr) (n c : Nat) (hn : D.open_.length < n) :
    Calls Try.prog 19 #[.pointer (some ⟨d, 0, none⟩), .slice a n c] w fun e w' => e = .returned (.tuple #[.pointer none, .int .i64 1]) ∧ w = w' := by
  obtain ⟨fb, fc, nb, nc, ov, vs, l⟩ := h
  obtain ⟨oa, oc, rfl⟩ := own_slice l.openRow
  obtain ⟨-, -, -, -, c4⟩ := l.cells
  clear l
  go_enter Try.func19, Try.ntmps19
  go_wp2_with fail
  go_step3
  go_wp2_with fail
  try rw [Exit.noGoto_ret]
  go_ret2
  exact ⟨rfl, rfl⟩

/-- What holds at the head of a round of Crash: so many fates have been done. -/
structure CrashInv (w : World) (D : Dk) (fs : List Int) (N o g c k : Nat) (wr : World) : Prop where
  below : Below w.heap.size w wr
  out : wr.heap[o]? = some (.cells #[.int .i64 D.blocks, .int .i64 D.size, .slice (some ⟨g, 0, none⟩) N c, .slice none 0 0, .slice none 0 0] 89 (0, 0))
  row : wr.ownsRow 0 5 1 (.slice (some ⟨g, 0, none⟩) N c) N (bts (torn D.size D.firm ((D.open_.zip fs).take k)))
  ne : g ≠ o
  newg : w.heap.size ≤ g
  new : w.heap.size ≤ o
  good : ∀ i, i < k → -1 ≤ fs.getD i 0
  le : k ≤ fs.length

theorem step_copy_keep {P : Program} {ops : Array Oper} {o : Oper} {a : Act} {w : World} {K : Act → World → Prop} {Q : Exit → Act → World → Prop} {E : Prop} (hgd : o.guard = none) (d s : Operand) (dT sT : TypeId)
    (ho : o.op = .call { callee := .builtin .copy, args := #[d, s], argTypes := #[dT, sT] }) (elem : TypeId) (hu : P.underlying dT = some (.slice elem)) (hsz : (P.info? elem).map (·.size) = some 1)
    (sp : Option Addr) (dLen dCap sLen sCap : Nat) (g off : Nat) (hd : a.eval d = .slice (some ⟨g, off, none⟩) dLen dCap) (hs : a.eval s = .slice sp sLen sCap)
    (cur : List Value) (t : TypeId) (hg : w.heap[g]? = some (.cells cur.toArray t (0, 0))) (cs : List Value) (hn : cs.length = Nat.min sLen dLen)
    (hpos : 0 < cs.length → ∃ ad, sp = some ad ∧ ∀ j v, cs[j]? = some v → w.cell? (ad.add j) = some v)
    (hfit : off + cs.length ≤ cur.length) (h1 : ∀ v ∈ cs, v.oneCell' = true)
    (h : ∀ w', CopyOut g cur off cs t w w' → K (a.put o.dst (goInt cs.length)) w') :
    if Region.wanted o (yielded ops a.tmps) = true then Oper.wp P o a w K Q else E := by
  have hw : Region.wanted o (yielded ops a.tmps) = true := by simp [Region.wanted, hgd]
  rw [if_pos hw]
  by_cases h0 : cs.length = 0
  · obtain rfl : cs = [] := List.eq_nil_of_length_eq_zero h0
    have hrun := run_copy_none (P := P) w dT sT o.type elem (some ⟨g, off, none⟩) sp dLen dCap sLen sCap hu hsz (by simpa using hn.symm)
    unfold Oper.wp
    simp [execOp, ho, resolve, invoke, builtin, hd, hs, hrun, Result.andThen]
    exact h w ⟨by simpa [splice] using hg, Keeps.refl _ _⟩
  · obtain ⟨ad, rfl, hsrc⟩ := hpos (by omega)
    have hrun := run_copy_row (P := P) w dT sT o.type elem g off dLen dCap ad sLen sCap cur.toArray t cs hu hsz hg hn hsrc (by simpa using hfit) h1
    unfold Oper.wp
    simp [execOp, ho, resolve, invoke, builtin, hd, hs, hrun, Result.andThen]
    exact h _ ⟨by simpa [splice] using setRow_heap w g _ _ t _ hg, ⟨rfl, rfl, rfl, by simp [World.setRow], fun k _ hk => setRow_other w g k _ hk⟩⟩

theorem torn_snoc (D : Dk) (fs : List Int) (k : Nat) (h1 : k < D.open_.length) (h2 : k < fs.length) :
    torn D.size D.firm ((D.open_.zip fs).take (k + 1)) = over (torn D.size D.firm ((D.open_.zip fs).take k)) ((D.open_.getD k (0, [])).1 * D.size) ((D.open_.getD k (0, [])).2.take (cut (fs.getD k 0) (D.open_.getD k (0, [])).2.length)) := by
  have hz : (D.open_.zip fs)[k]? = some (D.open_[k], fs[k]) := by
    rw [List.getElem?_eq_getElem (by rw [List.length_zip]; omega)]
    simp
  rw [List.take_add_one, hz]
  unfold torn
  rw [List.foldl_append]
  simp [List.getD, List.getElem?_eq_getElem h1, List.getElem?_eq_getElem h2]

theorem crash_start {w w4 : World} {D : Dk} {fs : List Int} {N g c : Nat} (b4 : Keeps (fun _ => False) w w4) (hown : w4.ownsRow w.heap.size 5 1 (.slice (some ⟨g, 0, none⟩) N c) N (bts D.firm)) :
    CrashInv w D fs N w4.heap.size g c 0 (w4.alloc (.cells #[.int .i64 D.blocks, .int .i64 D.size, .slice (some ⟨g, 0, none⟩) N c, .slice none 0 0, .slice none 0 0] 89)) where
  below := (b4.alloc _).below (Nat.le_refl _) (fun _ f => f.elim)
  out := heap_alloc_new _ _
  row := by
    have := own_mono (own_keep hown ((Keeps.refl (fun _ => False) w4).alloc (.cells #[.int .i64 D.blocks, .int .i64 D.size, .slice (some ⟨g, 0, none⟩) N c, .slice none 0 0, .slice none 0 0] 89)) (fun _ _ f => f)) (Nat.zero_le _)
    simpa [torn] using this
  ne := by have := (own_lt hown g rfl).2; omega
  newg := (own_lt hown g rfl).1
  new := b4.size
  good := fun i hi => by omega
  le := Nat.zero_le _

theorem crash_step {w wr wt w3 : World} {D : Dk} {fs : List Int} {N o g c k : Nat} (h : CrashInv w D fs N o g c k wr) (hb : Below wr.heap.size wr wt) (hlt : k < fs.length) (hgood : ∀ i, i < k + 1 → -1 ≤ fs.getD i 0)
    {cur : List Value} {a : Nat} {xs : List Int} (hn4 : cur.take N = bts (torn D.size D.firm ((D.open_.zip fs).take k))) (hn1 : N ≤ c) (hn2 : c ≤ maxLen) (hn3 : cur.length = c) (hf : a + xs.length ≤ N)
    (hco : CopyOut g cur a (bts xs) 5 wt w3) (ht : torn D.size D.firm ((D.open_.zip fs).take (k + 1)) = over (torn D.size D.firm ((D.open_.zip fs).take k)) a xs) : CrashInv w D fs N o g c (k + 1) w3 where
  below := by
    have h1 : Keeps (fun k => k = g) w wt := Keeps.of_below (h.below.trans (hb.mono h.below.size))
    exact (h1.trans hco.keeps (fun _ h => .inl h)).below (Nat.le_refl _) (fun k hk => by rw [hk]; exact h.newg)
  out := by
    have h0 := (Array.getElem?_eq_some_iff.1 h.out).1
    rw [hco.keeps.block o (Nat.lt_of_lt_of_le h0 hb.size) (fun e => h.ne e.symm), hb.block o h0]
    exact h.out
  row := by rw [ht]; exact copy_own hn4 hn1 hn2 hn3 hf hco
  ne := h.ne
  newg := h.newg
  new := h.new
  good := hgood
  le := hlt

/-- Behind a crash whose fates are no more than the open writes. -/
def Crashed (D : Dk) (fs : List Int) (w : World) (e : Ending) (w' : World) : Prop :=
  ((∀ i, i < fs.length → -1 ≤ fs.getD i 0) ∧ Made (D.crash fs) w e w') ∨
  ((∃ i, i < fs.length ∧ fs.getD i 0 < -1) ∧ e = .returned (.tuple #[.pointer none, .int .i64 1]) ∧ Below w.heap.size w w')

theorem crash_lies {w wr w5 : World} {D : Dk} {fs : List Int} {N o g c k vc : Nat} (h : CrashInv w D fs N o g c k wr) (hk : k = fs.length) (hpos : 1 ≤ D.blocks ∧ D.blocks ≤ 1024 ∧ 1 ≤ D.size ∧ D.size ≤ 4096) (hN : N = D.blocks * D.size) (hp : 0 < N)
    (b5 : Below wr.heap.size wr w5) {a : Option Addr} (hown : w5.ownsRow wr.heap.size 5 1 (.slice a N vc) N (bts (torn D.size D.firm ((D.open_.zip fs).take k)))) :
    ∃ M' S', DiskAt (w5.setCell ⟨o, 3, none⟩ (.slice a N vc)) o (D.crash fs) M' S' ∧ (∀ k, S' k → w.heap.size ≤ k) ∧ Below w.heap.size w (w5.setCell ⟨o, 3, none⟩ (.slice a N vc)) := by
  obtain ⟨g', q1, e1, ga, gb⟩ := hown.form hp
  simp only [Value.slice.injEq, true_and] at e1
  obtain ⟨rfl, rfl⟩ := e1
  have ho := (Array.getElem?_eq_some_iff.1 h.out).1
  have hg := (own_lt h.row g rfl).2
  have hd := h.new
  have hng := h.newg
  have hne := h.ne
  have hw := h.below.size
  have et : torn D.size D.firm ((D.open_.zip fs).take k) = D.torn fs := by
    unfold Dk.torn
    rw [List.take_of_length_le (by rw [List.length_zip]; omega)]
  have KS : Keeps (fun k => k = o) w5 (w5.setCell ⟨o, 3, none⟩ (.slice (some ⟨g', 0, none⟩) N vc)) := Keeps.setCell (Keeps.refl _ _) (a := ⟨o, 3, none⟩) (by exact .inl rfl) _
  have KW : Keeps (fun k => k = o) wr (w5.setCell ⟨o, 3, none⟩ (.slice (some ⟨g', 0, none⟩) N vc)) := (Keeps.of_below (X := fun k => k = o) b5).trans KS (fun _ h => .inl h)
  have hh : (w5.setCell ⟨o, 3, none⟩ (.slice (some ⟨g', 0, none⟩) N vc)).heap[o]? = some (.cells #[.int .i64 D.blocks, .int .i64 D.size, .slice (some ⟨g, 0, none⟩) N c, .slice (some ⟨g', 0, none⟩) N vc, .slice none 0 0] 89 (0, 0)) := by
    rw [heap_setCell_same w5 o 3 _ _ _ ((b5.block o ho).trans h.out)]; rfl
  have hfirm : (w5.setCell ⟨o, 3, none⟩ (.slice (some ⟨g', 0, none⟩) N vc)).ownsRow 0 5 1 (.slice (some ⟨g, 0, none⟩) N c) N (bts (D.torn fs)) := by
    rw [← et]
    exact own_keep h.row KW fun k e => by
      obtain rfl : g = k := by simpa [Value.ownBlock] using e
      exact hne
  have hnow : (w5.setCell ⟨o, 3, none⟩ (.slice (some ⟨g', 0, none⟩) N vc)).ownsRow 0 5 1 (.slice (some ⟨g', 0, none⟩) N vc) N (bts (D.torn fs)) := by
    rw [← et]
    exact own_mono (own_keep hown KS fun k e => by
      obtain rfl : g' = k := by simpa [Value.ownBlock] using e
      intro h; omega) (Nat.zero_le _)
  have hlen : (D.torn fs).length = N := by have := hnow.1; rw [bts_length] at this; omega
  have hB : Below w.heap.size w (w5.setCell ⟨o, 3, none⟩ (.slice (some ⟨g', 0, none⟩) N vc)) :=
    h.below.trans (KW.below (by omega) (fun k e => by omega))
  generalize w5.setCell ⟨o, 3, none⟩ (.slice (some ⟨g', 0, none⟩) N vc) = w6 at *
  have z6 := KW.size
  refine ⟨fun k => k = o ∨ k = g ∨ k = g', fun k => k = o ∨ k = g ∨ k = g', ⟨g, c, g', vc, .slice none 0 0, [], ?_⟩, ?_, hB⟩
  · exact { head := by rw [hN] at hh; exact hh, pos := hpos, firmLen := by rw [hN] at hlen; exact hlen, nowLen := by rw [hN] at hlen; exact hlen, firm := by rw [hN] at hfirm; exact hfirm, now := by rw [hN] at hnow; exact hnow,
            openLen := by simp [Dk.crash], vsLen := rfl, openRow := World.ownsRow_nil _ _ _ _, inner := fun i x y hx => by simp at hx, md := .inl rfl, mf := .inr (.inl rfl), mn := .inr (.inr rfl), mo := fun k e => by simp [Value.ownBlock] at e,
            apart := ⟨fun e => hne e.symm, by omega, by omega, fun k e => by simp [Value.ownBlock] at e⟩, sub := fun k h => h, lt := by
              have := KS.size
              rintro k (h | h | h) <;> omega }
  · rintro k (h | h | h) <;> omega

/-- An open write, as the program reads it. -/
theorem Lies.write_at {w : World} {d : Nat} {D : Dk} {M S : Nat → Prop} {fb fc nb nc : Nat} {ov : Value} {vs : List (Nat × Value)} (h : Lies w d D M S fb fc nb nc ov vs) (k : Nat) (hk : k < D.open_.length) :
    ∃ og oc va vc, ov = .slice (some ⟨og, 0, none⟩) D.open_.length oc ∧ D.open_.length ≤ oc ∧ oc ≤ maxLen ∧ w.cell? ⟨og, k * 2, none⟩ = some (.int .i64 (D.open_.getD k (0, [])).1) ∧ w.cell? ⟨og, k * 2 + 1, none⟩ = some (.slice va (D.open_.getD k (0, [])).2.length vc) ∧
      (D.open_.getD k (0, [])).1 < D.blocks ∧ (D.open_.getD k (0, [])).2.length ≤ D.size ∧ Rb w (.slice va (D.open_.getD k (0, [])).2.length vc) (D.open_.getD k (0, [])).2 := by
  have hkv : k < vs.length := by rw [h.vsLen]; exact hk
  have e1 := List.getElem?_eq_getElem hkv
  have e2 := List.getElem?_eq_getElem hk
  have e3 : D.open_.getD k (0, []) = D.open_[k] := by simp [List.getD, e2]
  obtain ⟨f1, f2, f3, f4, f5, f6⟩ := h.inner k _ _ e1 e2
  obtain ⟨sp, sc, hv, -⟩ := f4.form
  obtain ⟨g1, g2⟩ := wcells_get vs k _ e1
  obtain ⟨og, oc, hov, -, -⟩ := h.openRow.form (by omega)
  have hrow := h.openRow
  rw [hov] at hrow
  rw [Nat.mul_comm] at g1 g2
  refine ⟨og, oc, sp, sc, hov, ?_, ?_, ?_, ?_, ?_, ?_, ?_⟩
  · rcases hrow.2 with ⟨h', _⟩ | ⟨_, _, _, h', _, _, h1, _⟩
    · simp at h'
    · simp only [Value.slice.injEq, Option.some.injEq, Addr.mk.injEq, and_true, true_and] at h'
      omega
  · rcases hrow.2 with ⟨h', _⟩ | ⟨_, _, _, h', _, _, _, h1, _⟩
    · simp at h'
    · simp only [Value.slice.injEq, Option.some.injEq, Addr.mk.injEq, and_true, true_and] at h'
      omega
  · rw [hrow.cellAt (k * 2) (by omega), g1, e3, f1]
  · rw [hrow.cellAt (k * 2 + 1) (by omega), g2, e3, hv]
  · rw [e3]; exact f2
  · rw [e3]; exact f3
  · rw [e3, ← hv]; exact f4

set_option maxRecDepth 100000 in
set_option maxHeartbeats 1000000 in
theorem Crash_any (w : World) (d : Nat) (D : Dk) (M S : Nat → Prop) (h : DiskAt w d D M S) (fv : Value) (fs : List Int) (hf : Rd w 1 fv fs.length (its fs)) (hn : fs.length ≤ D.open_.length) :
    Calls Try.prog 19 #[.pointer (some ⟨d, 0, none⟩), fv] w (Crashed D fs w) := by
  obtain ⟨fb, fc, nb, nc, ov, vs, l⟩ := h
  obtain ⟨oa, oc, rfl⟩ := own_slice l.openRow
  obtain ⟨c0, c1, c2, c3, c4⟩ := l.cells
  obtain ⟨sp, sc, rfl, hsp⟩ := hf.form
  have hd := l.lt d (l.sub d l.md)
  obtain ⟨p1, p2, p3, p4⟩ := l.pos
  obtain ⟨-, s2, -⟩ := size_facts (i := 0) p2 p4 (by omega)
  have hpos : 0 < D.blocks * D.size := Nat.mul_pos p1 p3
  have hol := l.openLen
  have LL := Lib.hid l
  have HSP := Lib.hid hsp
  have HFV := Lib.hid hf
  clear l hsp hf
  obtain ⟨N, hN⟩ : ∃ N, N = D.blocks * D.size := ⟨_, rfl⟩
  rw [← hN] at c2 c3 s2 hpos
  have HN := Lib.hid hN
  clear hN
  have HF : Hid (Rd w 1 (.slice (some ⟨fb, 0, none⟩) N fc) N (bts D.firm)) := by unfold Hid; rw [HN.out]; exact Rd.of_own LL.out.firm
  go_enter Try.func19, Try.ntmps19
  go_wp2_with fail
  go_step3
  go_wp2_with fail
  go_region_held3 (fun w' => w'.cell? ⟨d, 0, none⟩ = some (.int .i64 D.blocks) ∧ w'.cell? ⟨d, 1, none⟩ = some (.int .i64 D.size) ∧ w'.cell? ⟨d, 2, none⟩ = some (.slice (some ⟨fb, 0, none⟩) N fc) ∧ w'.cell? ⟨d, 3, none⟩ = some (.slice (some ⟨nb, 0, none⟩) N nc) ∧ w'.cell? ⟨d, 4, none⟩ = some (.slice oa D.open_.length oc))
    (first
      | assumption
      | exact ⟨by assumption, by assumption, by assumption, by assumption, by assumption⟩
      | exact keep5 (Keeps.of_below (X := fun _ => False) b4) (fun f => f.elim) (by first | assumption | exact ⟨by assumption, by assumption, by assumption, by assumption, by assumption⟩)
      | exact keep5 (Keeps.alloc (Keeps.refl (fun _ => False) _) _) (fun f => f.elim) (by first | assumption | exact ⟨by assumption, by assumption, by assumption, by assumption, by assumption⟩)
      | fail)
    (first
      | (go_at_call 50; refine (clone_bytes _ _ _ _ (HF.out.keep ((Keeps.refl (fun _ => False) _).drew) (fun _ _ _ f => f)) bts_one (by omega)).mono ?_; rintro e w4 ⟨v1, rfl, hown4, b4, -⟩; obtain ⟨va1, vc1, rfl⟩ := own_slice hown4; have k4 : Keeps (fun _ => False) w w4 := (Keeps.refl (fun _ => False) w).drew.trans (Keeps.of_below b4) (fun _ f => .inl f))
      | fail)
  go_wp2_with fail
  go_step3
  go_wp2_with fail
  obtain ⟨g1, q1, e1, g1a, g1b⟩ := hown4.form hpos
  simp only [Value.slice.injEq, true_and] at e1
  obtain ⟨rfl, rfl⟩ := e1
  go_loopw [7, 38] (fun e i wr => ∃ k : Nat, e = .int .i64 0 ∧ i = .int .i64 k ∧ CrashInv w D fs N w4.heap.size g1 vc1 k wr) (fun _ i _ => fs.length - (intOf i).toNat)
  case atStart => exact ⟨0, rfl, rfl, crash_start k4 hown4⟩
  case round =>
    obtain ⟨k, rfl, rfl, inv⟩ := hrel
    by_cases hlt : k < fs.length
    · rcases HFV.out.2 with ⟨_, h0⟩ | ⟨fvb, fvo, fvc, hfv, hc1, hc2, hcell⟩
      · omega
      simp only [Value.slice.injEq, true_and] at hfv
      obtain ⟨rfl, rfl⟩ := hfv
      have hfk : wr.cell? ⟨fvb, fvo + k, none⟩ = some (.int .i64 (fs.getD k 0)) := (Keeps.of_below (X := fun _ => False) inv.below).cell (fun f => f) (hcell k _ (its_get hlt))
      have HGD := Lib.hid hcell
      clear hcell
      obtain ⟨og, oc', va, vc, hov, ho1, ho2, w1, w2, w3, w5, w6⟩ := LL.out.write_at k (by omega)
      simp only [Value.slice.injEq, true_and] at hov
      obtain ⟨rfl, rfl⟩ := hov
      have HW6 := Lib.hid w6
      clear w6
      have HT := Lib.hid (torn_snoc D fs k (by omega) hlt)
      have GB : Hid (fs.getD k 0 < -1 → ∃ i, i < fs.length ∧ fs.getD i 0 < -1) := fun h => ⟨k, hlt, h⟩
      have GS : Hid (¬ fs.getD k 0 < -1 → ∀ i, i < k + 1 → -1 ≤ fs.getD i 0) := fun h i hi => by
        by_cases e : i = k
        · rw [e]; omega
        · exact inv.good i (by omega)
      generalize fs.getD k 0 = fk at *
      generalize (D.open_.getD k (0, [])).1 = wk at *
      generalize (D.open_.getD k (0, [])).2 = xk at *
      have KR : Keeps (fun _ => False) w wr := Keeps.of_below inv.below
      have r1 : wr.cell? ⟨og, k * 2, none⟩ = some (.int .i64 wk) := KR.cell (a := ⟨og, k * 2, none⟩) (fun f => f) w1
      have r2 : wr.cell? ⟨og, k * 2 + 1, none⟩ = some (.slice va xk.length vc) := KR.cell (a := ⟨og, k * 2 + 1, none⟩) (fun f => f) w2
      have r4 : wr.cell? ⟨d, 4, none⟩ = some (.slice (some ⟨og, 0, none⟩) D.open_.length oc) := KR.cell (a := ⟨d, 4, none⟩) (fun f => f) c4
      have r0 : wr.cell? ⟨d, 0, none⟩ = some (.int .i64 D.blocks) := KR.cell (a := ⟨d, 0, none⟩) (fun f => f) c0
      have r3 : wr.cell? ⟨d, 1, none⟩ = some (.int .i64 D.size) := KR.cell (a := ⟨d, 1, none⟩) (fun f => f) c1
      have hdr : d < wr.heap.size := World.block_lt_of_cell? wr _ r0
      obtain ⟨s1, -, s3⟩ := size_facts p2 p4 w3
      have e1 : (wk : Int) * (D.size : Int) = ((wk * D.size : Nat) : Int) := by simp
      have e2 : ((wk : Int) + 1) * (D.size : Int) = ((wk * D.size + D.size : Nat) : Int) := by rw [← s3]; simp
      have hspan := span_any D.blocks D.size wk
      rw [e1, e2] at hspan
      have HS := Lib.hid hspan
      clear hspan s3 e1 e2 KR
      obtain ⟨a, ha⟩ : ∃ a, a = wk * D.size := ⟨_, rfl⟩
      rw [← ha] at s1 HS HT
      rw [← HN.out] at s1
      have HA := Lib.hid ha
      clear ha
      have INV := Lib.hid inv
      have PRE := Lib.hid hlt
      clear inv
      have HC4 := Lib.hid c4
      clear c0 c1 c2 c3 c4 w1 w2 hown4 b4 k4 g1a g1b
      by_cases hbad : fk < -1
      · go_wp2_with fail
        try rw [Exit.noGoto_ret]
        go_ret2
        exact .inr ⟨GB.out hbad, rfl, INV.out.below⟩
      · by_cases hw : fk = -1
        · subst hw
          have hcut : cut (-1) xk.length = xk.length := by simp [cut]
          have HCUT := Lib.hid hcut
          clear hcut
          have hw1 : ((-1 : Int) == -1) = true := by simp
          go_wp2_with fail
          have f0 : ∀ o, (wr.alloc o).cell? ⟨d, 0, none⟩ = some (.int .i64 D.blocks) := fun o => ((Keeps.refl (fun _ => False) wr).alloc o).cell (fun f => f) r0
          have f1 : ∀ o, (wr.alloc o).cell? ⟨d, 1, none⟩ = some (.int .i64 D.size) := fun o => ((Keeps.refl (fun _ => False) wr).alloc o).cell (fun f => f) r3
          have f5 : ∀ o, (wr.alloc o).cell? ⟨w4.heap.size, 2, none⟩ = some (.slice (some ⟨g1, 0, none⟩) N vc1) := fun o => ((Keeps.refl (fun _ => False) wr).alloc o).cell (a := ⟨w4.heap.size, 2, none⟩) (fun f => f) (by rw [cell_of_row wr _ 2 _ _ _ INV.out.out]; rfl)
          have f6 : (wr.alloc (Obj.cells #[Value.int .i64 wk, Value.slice va xk.length vc] 91)).cell? ⟨wr.heap.size, 0, none⟩ = some (.int .i64 wk) := by rw [cell_of_row _ _ 0 _ _ _ (heap_alloc_new _ _)]; rfl
          have f7 : (wr.alloc (Obj.cells #[Value.int .i64 wk, Value.slice va xk.length vc] 91)).cell? ⟨wr.heap.size, 1, none⟩ = some (.slice va xk.length vc) := by rw [cell_of_row _ _ 1 _ _ _ (heap_alloc_new _ _)]; rfl
          have BA : Below wr.heap.size wr (wr.alloc (Obj.cells #[Value.int .i64 wk, Value.slice va xk.length vc] 91)) := (Below.refl _ _).alloc (Nat.le_refl _) _
          replace f0 := f0 (Obj.cells #[Value.int .i64 wk, Value.slice va xk.length vc] 91)
          replace f1 := f1 (Obj.cells #[Value.int .i64 wk, Value.slice va xk.length vc] 91)
          replace f5 := f5 (Obj.cells #[Value.int .i64 wk, Value.slice va xk.length vc] 91)
          generalize wr.alloc (Obj.cells #[Value.int .i64 wk, Value.slice va xk.length vc] 91) = ws at *
          have q0 : ∀ k os, (Go.Sort.grow (redrawn ws k) os).cell? ⟨d, 0, none⟩ = some (.int .i64 D.blocks) := fun k os => cell_regrown f0 k os
          have q1 : ∀ k os, (Go.Sort.grow (redrawn ws k) os).cell? ⟨d, 1, none⟩ = some (.int .i64 D.size) := fun k os => cell_regrown f1 k os
          have q2 : ∀ k os, (Go.Sort.grow (redrawn ws k) os).cell? ⟨wr.heap.size, 0, none⟩ = some (.int .i64 wk) := fun k os => cell_regrown f6 k os
          have q5 : ∀ k os, (Go.Sort.grow (redrawn ws k) os).cell? ⟨w4.heap.size, 2, none⟩ = some (.slice (some ⟨g1, 0, none⟩) N vc1) := fun k os => cell_regrown f5 k os
          have q7 : ∀ k os, (Go.Sort.grow (redrawn ws k) os).cell? ⟨wr.heap.size, 1, none⟩ = some (.slice va xk.length vc) := fun k os => cell_regrown f7 k os
          have BQ : ∀ k os, Below wr.heap.size wr (Go.Sort.grow (redrawn ws k) os) := fun k os => BA.trans ((below_regrown ws k os).mono BA.size)
          clear r0 r1 r2 r3 r4 f0 f1 f5 f6 f7 BA
          refine wp_region_quiet_below (by kernel_rfl) (by kernel_rfl) ?_
          repeat (quiet_step (exact Calls.regrown_of (HS.out _ (by omega) (by omega) (by omega) (by omega) (by omega) (by omega))))
          refine wpQuiet_nil ?_
          intro _ hw'
          obtain ⟨⟨dq, osq⟩, hw''⟩ := hw'
          subst hw''
          replace q5 := q5 dq osq
          replace q7 := q7 dq osq
          replace BQ := BQ dq osq
          clear q0 q1 q2
          generalize Go.Sort.grow (redrawn ws dq) osq = wt at *
          go_wp2_with fail
          have hvc : xk.length ≤ vc ∧ vc ≤ maxLen := HW6.out.capOk.2
          obtain ⟨cur, hcur, hn1, hn2, hn3, hn4⟩ := own_row INV.out.row
          have hcur' : wt.heap[g1]? = some (.cells cur.toArray 5 (0, 0)) := (BQ.block g1 (Array.getElem?_eq_some_iff.1 hcur).1).trans hcur
          have HCUR := Lib.hid hcur'
          have HN3 := Lib.hid hn3
          have HN4 := Lib.hid hn4
          clear hcur hcur' hn3 hn4
          unfold maxLen at hvc hn2
          have HNL : Hid ((bts (xk.take (cut (-1) xk.length))).length = Nat.min xk.length (N - a)) := by
            unfold Hid
            rw [bts_length, List.length_take]
            have := cut_le (-1) xk.length
            have := HCUT.out
            show _ = min _ _
            omega
          have HFIT : Hid (a + (bts (xk.take (cut (-1) xk.length))).length ≤ cur.length) := by
            unfold Hid
            have := cut_le (-1) xk.length
            rw [bts_length, List.length_take, HN3.out]
            omega
          have HPOS : Hid (0 < (bts (xk.take (cut (-1) xk.length))).length → ∃ ad, va = some ad ∧ ∀ j u, (bts (xk.take (cut (-1) xk.length)))[j]? = some u → wt.drew.cell? (ad.add j) = some u) := fun hp => by
            obtain ⟨sp, sc, hv, hs⟩ := HW6.out.form
            simp only [Value.slice.injEq, true_and] at hv
            obtain ⟨rfl, rfl⟩ := hv
            have hpp : 0 < (bts xk).length := by
              rw [bts_length, List.length_take] at hp
              rw [bts_length]; omega
            obtain ⟨ad, h1, h2⟩ := hs hpp
            refine ⟨ad, h1, fun j u hj => ?_⟩
            have hj' : (bts xk)[j]? = some u := by
              have e : bts (xk.take (cut (-1) xk.length)) = (bts xk).take (cut (-1) xk.length) := by simp [bts, List.map_take]
              rw [e, List.getElem?_take] at hj
              split at hj
              · exact hj
              · simp at hj
            exact ((Keeps.of_below (X := fun _ => False) (INV.out.below.trans (BQ.mono INV.out.below.size))).drew).cell (fun f => f) (h2 j u hj')
          have z1 : a ≤ N := by omega
          have z2 : ¬ vc1 = a := by omega
          have z4 : N ≤ vc1 := hn1
          have z5 := hvc.1
          go_region_law (first
            | (refine step_copy_keep (by rfl) (.tmp 79) (.tmp 83) 30 30 (by rfl) 5 Try.underlying30 info5s va (N - a) (vc1 - a) _ vc g1 a (by rfl) (by rfl) cur 5 HCUR.out (bts (xk.take (cut (-1) xk.length))) HNL.out HPOS.out HFIT.out bts_one ?_; intro w3 hco)
            | fail)
          all_goals
            go_wp2_with fail
            go_roundw
            case rel => exact ⟨k + 1, rfl, rfl, crash_step INV.out (wt := wt.drew) ⟨BQ.os, BQ.tape, BQ.output, BQ.size, BQ.block⟩ PRE.out (GS.out hbad) HN4.out hn1 (by unfold maxLen; omega) HN3.out (by have := cut_le (-1) xk.length; rw [List.length_take]; omega) hco HT.out⟩
            case measure => simp [intOf]; omega
        · have hw1 : (fk == -1) = false := by simp [hw]
          by_cases hx : (xk.length : Int) < fk
          · have hcut : cut fk xk.length = xk.length := by simp [cut, hx]
            have HCUT := Lib.hid hcut
            clear hcut
            go_wp2_with fail
            have f0 : ∀ o, (wr.alloc o).cell? ⟨d, 0, none⟩ = some (.int .i64 D.blocks) := fun o => ((Keeps.refl (fun _ => False) wr).alloc o).cell (fun f => f) r0
            have f1 : ∀ o, (wr.alloc o).cell? ⟨d, 1, none⟩ = some (.int .i64 D.size) := fun o => ((Keeps.refl (fun _ => False) wr).alloc o).cell (fun f => f) r3
            have f5 : ∀ o, (wr.alloc o).cell? ⟨w4.heap.size, 2, none⟩ = some (.slice (some ⟨g1, 0, none⟩) N vc1) := fun o => ((Keeps.refl (fun _ => False) wr).alloc o).cell (a := ⟨w4.heap.size, 2, none⟩) (fun f => f) (by rw [cell_of_row wr _ 2 _ _ _ INV.out.out]; rfl)
            have f6 : (wr.alloc (Obj.cells #[Value.int .i64 wk, Value.slice va xk.length vc] 91)).cell? ⟨wr.heap.size, 0, none⟩ = some (.int .i64 wk) := by rw [cell_of_row _ _ 0 _ _ _ (heap_alloc_new _ _)]; rfl
            have f7 : (wr.alloc (Obj.cells #[Value.int .i64 wk, Value.slice va xk.length vc] 91)).cell? ⟨wr.heap.size, 1, none⟩ = some (.slice va xk.length vc) := by rw [cell_of_row _ _ 1 _ _ _ (heap_alloc_new _ _)]; rfl
            have BA : Below wr.heap.size wr (wr.alloc (Obj.cells #[Value.int .i64 wk, Value.slice va xk.length vc] 91)) := (Below.refl _ _).alloc (Nat.le_refl _) _
            replace f0 := f0 (Obj.cells #[Value.int .i64 wk, Value.slice va xk.length vc] 91)
            replace f1 := f1 (Obj.cells #[Value.int .i64 wk, Value.slice va xk.length vc] 91)
            replace f5 := f5 (Obj.cells #[Value.int .i64 wk, Value.slice va xk.length vc] 91)
            generalize wr.alloc (Obj.cells #[Value.int .i64 wk, Value.slice va xk.length vc] 91) = ws at *
            have q0 : ∀ k os, (Go.Sort.grow (redrawn ws k) os).cell? ⟨d, 0, none⟩ = some (.int .i64 D.blocks) := fun k os => cell_regrown f0 k os
            have q1 : ∀ k os, (Go.Sort.grow (redrawn ws k) os).cell? ⟨d, 1, none⟩ = some (.int .i64 D.size) := fun k os => cell_regrown f1 k os
            have q2 : ∀ k os, (Go.Sort.grow (redrawn ws k) os).cell? ⟨wr.heap.size, 0, none⟩ = some (.int .i64 wk) := fun k os => cell_regrown f6 k os
            have q5 : ∀ k os, (Go.Sort.grow (redrawn ws k) os).cell? ⟨w4.heap.size, 2, none⟩ = some (.slice (some ⟨g1, 0, none⟩) N vc1) := fun k os => cell_regrown f5 k os
            have q7 : ∀ k os, (Go.Sort.grow (redrawn ws k) os).cell? ⟨wr.heap.size, 1, none⟩ = some (.slice va xk.length vc) := fun k os => cell_regrown f7 k os
            have BQ : ∀ k os, Below wr.heap.size wr (Go.Sort.grow (redrawn ws k) os) := fun k os => BA.trans ((below_regrown ws k os).mono BA.size)
            clear r0 r1 r2 r3 r4 f0 f1 f5 f6 f7 BA
            refine wp_region_quiet_below (by kernel_rfl) (by kernel_rfl) ?_
            repeat (quiet_step (exact Calls.regrown_of (HS.out _ (by omega) (by omega) (by omega) (by omega) (by omega) (by omega))))
            refine wpQuiet_nil ?_
            intro _ hw'
            obtain ⟨⟨dq, osq⟩, hw''⟩ := hw'
            subst hw''
            replace q5 := q5 dq osq
            replace q7 := q7 dq osq
            replace BQ := BQ dq osq
            clear q0 q1 q2
            generalize Go.Sort.grow (redrawn ws dq) osq = wt at *
            go_wp2_with fail
            have hvc : xk.length ≤ vc ∧ vc ≤ maxLen := HW6.out.capOk.2
            obtain ⟨cur, hcur, hn1, hn2, hn3, hn4⟩ := own_row INV.out.row
            have hcur' : wt.heap[g1]? = some (.cells cur.toArray 5 (0, 0)) := (BQ.block g1 (Array.getElem?_eq_some_iff.1 hcur).1).trans hcur
            have HCUR := Lib.hid hcur'
            have HN3 := Lib.hid hn3
            have HN4 := Lib.hid hn4
            clear hcur hcur' hn3 hn4
            unfold maxLen at hvc hn2
            have HNL : Hid ((bts (xk.take (cut fk xk.length))).length = Nat.min xk.length (N - a)) := by
              unfold Hid
              rw [bts_length, List.length_take]
              have := cut_le fk xk.length
              have := HCUT.out
              show _ = min _ _
              omega
            have HFIT : Hid (a + (bts (xk.take (cut fk xk.length))).length ≤ cur.length) := by
              unfold Hid
              have := cut_le fk xk.length
              rw [bts_length, List.length_take, HN3.out]
              omega
            have HPOS : Hid (0 < (bts (xk.take (cut fk xk.length))).length → ∃ ad, va = some ad ∧ ∀ j u, (bts (xk.take (cut fk xk.length)))[j]? = some u → wt.drew.cell? (ad.add j) = some u) := fun hp => by
              obtain ⟨sp, sc, hv, hs⟩ := HW6.out.form
              simp only [Value.slice.injEq, true_and] at hv
              obtain ⟨rfl, rfl⟩ := hv
              have hpp : 0 < (bts xk).length := by
                rw [bts_length, List.length_take] at hp
                rw [bts_length]; omega
              obtain ⟨ad, h1, h2⟩ := hs hpp
              refine ⟨ad, h1, fun j u hj => ?_⟩
              have hj' : (bts xk)[j]? = some u := by
                have e : bts (xk.take (cut fk xk.length)) = (bts xk).take (cut fk xk.length) := by simp [bts, List.map_take]
                rw [e, List.getElem?_take] at hj
                split at hj
                · exact hj
                · simp at hj
              exact ((Keeps.of_below (X := fun _ => False) (INV.out.below.trans (BQ.mono INV.out.below.size))).drew).cell (fun f => f) (h2 j u hj')
            have z1 : a ≤ N := by omega
            have z2 : ¬ vc1 = a := by omega
            have z4 : N ≤ vc1 := hn1
            have z5 := hvc.1
            go_region_law (first
              | (refine step_copy_keep (by rfl) (.tmp 79) (.tmp 83) 30 30 (by rfl) 5 Try.underlying30 info5s va (N - a) (vc1 - a) _ vc g1 a (by rfl) (by rfl) cur 5 HCUR.out (bts (xk.take (cut fk xk.length))) HNL.out HPOS.out HFIT.out bts_one ?_; intro w3 hco)
              | fail)
            all_goals
              go_wp2_with fail
              go_roundw
              case rel => exact ⟨k + 1, rfl, rfl, crash_step INV.out (wt := wt.drew) ⟨BQ.os, BQ.tape, BQ.output, BQ.size, BQ.block⟩ PRE.out (GS.out hbad) HN4.out hn1 (by unfold maxLen; omega) HN3.out (by have := cut_le fk xk.length; rw [List.length_take]; omega) hco HT.out⟩
              case measure => simp [intOf]; omega
          · obtain ⟨m, rfl⟩ : ∃ m : Nat, fk = m := ⟨fk.toNat, by omega⟩
            have hcut : cut (m : Int) xk.length = m := by unfold cut; rw [if_neg (by omega)]; rfl
            have HCUT := Lib.hid hcut
            clear hcut
            go_wp2_with fail
            have f0 : ∀ o, (wr.alloc o).cell? ⟨d, 0, none⟩ = some (.int .i64 D.blocks) := fun o => ((Keeps.refl (fun _ => False) wr).alloc o).cell (fun f => f) r0
            have f1 : ∀ o, (wr.alloc o).cell? ⟨d, 1, none⟩ = some (.int .i64 D.size) := fun o => ((Keeps.refl (fun _ => False) wr).alloc o).cell (fun f => f) r3
            have f5 : ∀ o, (wr.alloc o).cell? ⟨w4.heap.size, 2, none⟩ = some (.slice (some ⟨g1, 0, none⟩) N vc1) := fun o => ((Keeps.refl (fun _ => False) wr).alloc o).cell (a := ⟨w4.heap.size, 2, none⟩) (fun f => f) (by rw [cell_of_row wr _ 2 _ _ _ INV.out.out]; rfl)
            have f6 : (wr.alloc (Obj.cells #[Value.int .i64 wk, Value.slice va xk.length vc] 91)).cell? ⟨wr.heap.size, 0, none⟩ = some (.int .i64 wk) := by rw [cell_of_row _ _ 0 _ _ _ (heap_alloc_new _ _)]; rfl
            have f7 : (wr.alloc (Obj.cells #[Value.int .i64 wk, Value.slice va xk.length vc] 91)).cell? ⟨wr.heap.size, 1, none⟩ = some (.slice va xk.length vc) := by rw [cell_of_row _ _ 1 _ _ _ (heap_alloc_new _ _)]; rfl
            have BA : Below wr.heap.size wr (wr.alloc (Obj.cells #[Value.int .i64 wk, Value.slice va xk.length vc] 91)) := (Below.refl _ _).alloc (Nat.le_refl _) _
            replace f0 := f0 (Obj.cells #[Value.int .i64 wk, Value.slice va xk.length vc] 91)
            replace f1 := f1 (Obj.cells #[Value.int .i64 wk, Value.slice va xk.length vc] 91)
            replace f5 := f5 (Obj.cells #[Value.int .i64 wk, Value.slice va xk.length vc] 91)
            generalize wr.alloc (Obj.cells #[Value.int .i64 wk, Value.slice va xk.length vc] 91) = ws at *
            have q0 : ∀ k os, (Go.Sort.grow (redrawn ws k) os).cell? ⟨d, 0, none⟩ = some (.int .i64 D.blocks) := fun k os => cell_regrown f0 k os
            have q1 : ∀ k os, (Go.Sort.grow (redrawn ws k) os).cell? ⟨d, 1, none⟩ = some (.int .i64 D.size) := fun k os => cell_regrown f1 k os
            have q2 : ∀ k os, (Go.Sort.grow (redrawn ws k) os).cell? ⟨wr.heap.size, 0, none⟩ = some (.int .i64 wk) := fun k os => cell_regrown f6 k os
            have q5 : ∀ k os, (Go.Sort.grow (redrawn ws k) os).cell? ⟨w4.heap.size, 2, none⟩ = some (.slice (some ⟨g1, 0, none⟩) N vc1) := fun k os => cell_regrown f5 k os
            have q7 : ∀ k os, (Go.Sort.grow (redrawn ws k) os).cell? ⟨wr.heap.size, 1, none⟩ = some (.slice va xk.length vc) := fun k os => cell_regrown f7 k os
            have BQ : ∀ k os, Below wr.heap.size wr (Go.Sort.grow (redrawn ws k) os) := fun k os => BA.trans ((below_regrown ws k os).mono BA.size)
            clear r0 r1 r2 r3 r4 f0 f1 f5 f6 f7 BA
            refine wp_region_quiet_below (by kernel_rfl) (by kernel_rfl) ?_
            repeat (quiet_step (exact Calls.regrown_of (HS.out _ (by omega) (by omega) (by omega) (by omega) (by omega) (by omega))))
            refine wpQuiet_nil ?_
            intro _ hw'
            obtain ⟨⟨dq, osq⟩, hw''⟩ := hw'
            subst hw''
            replace q5 := q5 dq osq
            replace q7 := q7 dq osq
            replace BQ := BQ dq osq
            clear q0 q1 q2
            generalize Go.Sort.grow (redrawn ws dq) osq = wt at *
            go_wp2_with fail
            have hvc : xk.length ≤ vc ∧ vc ≤ maxLen := HW6.out.capOk.2
            obtain ⟨cur, hcur, hn1, hn2, hn3, hn4⟩ := own_row INV.out.row
            have hcur' : wt.heap[g1]? = some (.cells cur.toArray 5 (0, 0)) := (BQ.block g1 (Array.getElem?_eq_some_iff.1 hcur).1).trans hcur
            have HCUR := Lib.hid hcur'
            have HN3 := Lib.hid hn3
            have HN4 := Lib.hid hn4
            clear hcur hcur' hn3 hn4
            unfold maxLen at hvc hn2
            have HNL : Hid ((bts (xk.take (cut (m : Int) xk.length))).length = Nat.min m (N - a)) := by
              unfold Hid
              rw [bts_length, List.length_take]
              have := cut_le (m : Int) xk.length
              have := HCUT.out
              show _ = min _ _
              omega
            have HFIT : Hid (a + (bts (xk.take (cut (m : Int) xk.length))).length ≤ cur.length) := by
              unfold Hid
              have := cut_le (m : Int) xk.length
              rw [bts_length, List.length_take, HN3.out]
              omega
            have HPOS : Hid (0 < (bts (xk.take (cut (m : Int) xk.length))).length → ∃ ad, va = some ad ∧ ∀ j u, (bts (xk.take (cut (m : Int) xk.length)))[j]? = some u → wt.drew.cell? (ad.add j) = some u) := fun hp => by
              obtain ⟨sp, sc, hv, hs⟩ := HW6.out.form
              simp only [Value.slice.injEq, true_and] at hv
              obtain ⟨rfl, rfl⟩ := hv
              have hpp : 0 < (bts xk).length := by
                rw [bts_length, List.length_take] at hp
                rw [bts_length]; omega
              obtain ⟨ad, h1, h2⟩ := hs hpp
              refine ⟨ad, h1, fun j u hj => ?_⟩
              have hj' : (bts xk)[j]? = some u := by
                have e : bts (xk.take (cut (m : Int) xk.length)) = (bts xk).take (cut (m : Int) xk.length) := by simp [bts, List.map_take]
                rw [e, List.getElem?_take] at hj
                split at hj
                · exact hj
                · simp at hj
              exact ((Keeps.of_below (X := fun _ => False) (INV.out.below.trans (BQ.mono INV.out.below.size))).drew).cell (fun f => f) (h2 j u hj')
            have z1 : a ≤ N := by omega
            have z2 : ¬ vc1 = a := by omega
            have z4 : N ≤ vc1 := hn1
            have z6 : m ≤ vc := by omega
            have z5 := hvc.1
            go_region_law (first
              | (refine step_copy_keep (by rfl) (.tmp 79) (.tmp 83) 30 30 (by rfl) 5 Try.underlying30 info5s va (N - a) (vc1 - a) _ vc g1 a (by rfl) (by rfl) cur 5 HCUR.out (bts (xk.take (cut (m : Int) xk.length))) HNL.out HPOS.out HFIT.out bts_one ?_; intro w3 hco)
              | fail)
            all_goals
              go_wp2_with fail
              go_roundw
              case rel => exact ⟨k + 1, rfl, rfl, crash_step INV.out (wt := wt.drew) ⟨BQ.os, BQ.tape, BQ.output, BQ.size, BQ.block⟩ PRE.out (GS.out hbad) HN4.out hn1 (by unfold maxLen; omega) HN3.out (by have := cut_le (m : Int) xk.length; rw [List.length_take]; omega) hco HT.out⟩
              case measure => simp [intOf]; omega
    · have hkk : k = fs.length := by have := inv.le; omega
      have q2 : wr.cell? ⟨w4.heap.size, 2, none⟩ = some (.slice (some ⟨g1, 0, none⟩) N vc1) := by rw [cell_of_row wr _ 2 _ _ _ inv.out]; rfl
      have INV := Lib.hid inv
      have HKK := Lib.hid hkk
      clear inv hkk c0 c1 c2 c3 c4 hown4 b4 k4 g1a g1b
      go_wp2_with fail
      refine (clone_bytes _ _ _ _ (Rd.of_own INV.out.row) bts_one (by omega)).mono ?_; rintro e w5 ⟨v, rfl, hown5, b5, -⟩
      obtain ⟨va5, vc5, rfl⟩ := own_slice hown5
      have hol5 : w4.heap.size < wr.heap.size := (Array.getElem?_eq_some_iff.1 INV.out.out).1
      have ho5 := (b5.block w4.heap.size hol5).trans INV.out.out
      have q3 : w5.cell? ⟨w4.heap.size, 3, none⟩ = some (.slice none 0 0) := by rw [cell_of_row w5 _ 3 _ _ _ ho5]; rfl
      have f3 : w5.frozen? ⟨w4.heap.size, 3, none⟩ = false := frozen_of_row w5 _ 3 _ _ ho5
      have HO5 := Lib.hid ho5
      have HOWN := Lib.hid hown5
      clear ho5 hown5
      go_wp2_with fail
      try rw [Exit.noGoto_ret]
      go_ret2
      left
      obtain ⟨M', S', hD, hS, hB⟩ := crash_lies INV.out HKK.out LL.out.pos HN.out hpos b5 HOWN.out
      exact ⟨fun i hi => INV.out.good i (by have := HKK.out; omega), _, M', S', rfl, hD, hS, hB⟩
end Go.Proofs.Ytbbjeoepoocofaa
