/- What JournalHolds asks of a journal: its iterator as a part of a journal on its disk; what a nil disk and a nil journal answer; that there is room. -/
import Derived.Test.YtbbjeoepoocofaaS3
namespace Go.Proofs.Ytbbjeoepoocofaa
open Go.RowKit Go.Shelf

theorem tbl_bb {w : World} {base : Nat} {v : Value} {ls : List (List Int)} (h : Tbl w base v ls) : Bb w v ls := by
  obtain ⟨vs, h, -⟩ := h
  exact h.tb.bb
theorem frms_len64 (rs : List (List Int)) (h : ∀ r ∈ rs, r.length ≤ 30) : (frms rs).length ≤ 64 * rs.length := by
  induction rs with
  | nil => simp [frms]
  | cons r rs ih =>
    have h1 := ih (fun x hx => h x (by simp [hx]))
    have h2 := h r (by simp)
    have h3 := frm_length r
    have e : frms (r :: rs) = frm r ++ frms rs := rfl
    rw [e, List.length_append, List.length_cons]
    omega
theorem fit_small (rs : List (List Int)) (h : ∀ r ∈ rs, r.length ≤ 30) (hn : rs.length ≤ 10) (n : Nat) (h30 : n ≤ 30) : fitB (40 * 40) rs n = true := by
  have h1 := frms_len64 rs h
  unfold fitB roomV
  rw [if_neg (by omega)]
  exact decide_eq_true (by omega)

theorem OpenJ_nil (w : World) : Calls Try.prog 27 #[.pointer none] w fun e w' => e = .returned (.tuple #[.pointer none, .int .i64 2]) ∧ w = w' := by
  go_enter Try.func27, Try.ntmps27
  go_wp2_with fail
  go_ret2
  exact ⟨rfl, rfl⟩

theorem neq_func_nil (w : World) (f : Fn) (a b : Array Value) : (binOp .neq 78 (.func f a b) .nilFunc).run Try.prog w = .ok (.bool true) w := by
  have h : ∀ d : Nat, (Op.equalIn (d + 1) 78 (.func f a b) .nilFunc).run Try.prog w = .ok false w := fun d => by
    simp [Op.equalIn, run_underlying Try.underlying78]
  simp only [binOp]
  simp [Op.equal, Op.maxDepth, h 9999]

theorem Src.keep {X : Nat → Prop} {A B : World} {n0 : Nat} {lv : Value} {ls : List (List Int)} {vs : List Value} (h : Src A n0 lv ls vs) (k : Keeps X A B) (h1 : ∀ i, lv.ownBlock = some i → ¬ X i) (h2 : ∀ u ∈ vs, ∀ i, u.ownBlock = some i → ¬ X i) : Src B n0 lv ls vs :=
  ⟨⟨h.tab.len, own_keep h.tab.row k h1, fun i x u hx hu => own_keep (h.tab.inner i x u hx hu) k (h2 u (List.mem_of_getElem? hu))⟩, h.low, h.inner⟩
theorem Src.high {A : World} {n0 n1 : Nat} {lv : Value} {ls : List (List Int)} {vs : List Value} (h : Src A n0 lv ls vs) (hn : n0 ≤ n1) : Src A n1 lv ls vs :=
  ⟨h.tab, fun k e => Nat.lt_of_lt_of_le (h.low k e) hn, fun u hu k e => Nat.lt_of_lt_of_le (h.inner u hu k e) hn⟩

/-- The iterator of a journal on its disk: what it reads, the journal does not write. -/
theorem All_JJ (w : World) (j d b s : Nat) (rs : List (List Int)) (nf : Nat) (a : Foot) (h : JJ w j d b s rs nf a) :
    Calls Try.prog 47 #[.pointer (some ⟨j, 0, none⟩)] w fun e w' => ∃ B lv vs, e = .returned (.func (.func 64) #[] #[.pointer (some ⟨B, 0, none⟩)]) ∧ w'.cell? ⟨B, 0, none⟩ = some lv ∧ Src w' w'.heap.size lv rs vs ∧ B < w'.heap.size ∧ ¬ a.m B ∧
      (∀ k, lv.ownBlock = some k → ¬ a.m k) ∧ (∀ u ∈ vs, ∀ k, u.ownBlock = some k → ¬ a.m k) ∧ Below w.heap.size w w' := by
  have hsub := h.sub
  have hlt := h.lt
  obtain ⟨D, L, fin, p, q, hp, hb, hs, hb4, hs4, hm, hS⟩ := h
  obtain ⟨ib, ic, rv, vs, l⟩ := hp.jr
  refine (All_any w j d L fin rs p.m p.s ib ic rv vs l).mono ?_
  rintro e w' ⟨B, lv, rfl, hc, ht, h1, h2, h3, hb⟩
  have hz := hb.size
  refine ⟨B, lv, vs, rfl, hc, ⟨ht, fun k e => (h3 k e).2, fun u hu k e => ?_⟩, h2, fun hk => ?_, fun k e hk => ?_, fun u hu k e hk => ?_, hb⟩
  · have := l.lt k (l.inner u hu k e).1
    omega
  · have := hlt B (hsub B hk)
    omega
  · have := hlt k (hsub k hk)
    have := (h3 k e).1
    omega
  · rcases (hm k).1 hk with e1 | e1
    · exact (l.inner u hu k e).2 e1
    · exact hp.ap.2 k e1 (l.inner u hu k e).1

/-- A journal on 40 blocks of 40 bytes, all of it from a height on. -/
structure HI (w : World) (B j d : Nat) (rs : List (List Int)) (wr : World) (a : Foot) : Prop where
  jj : JJ wr j d 40 40 rs 0 a
  s1 : Sits wr B a
  sB : ∀ k, a.s k → B ≤ k
  bel : Below B w wr
  size : B ≤ w.heap.size

section
variable {w : World} {B j d : Nat} {rs : List (List Int)} {wr w4 : World} {a : Foot}
theorem HI.sz (h : HI w B j d rs wr a) : B ≤ wr.heap.size := Nat.le_trans h.size h.bel.size
theorem HI.keep (h : HI w B j d rs wr a) {X : Nat → Prop} (K : Keeps X wr w4) (hX : ∀ k, a.s k → ¬ X k) (hB : ∀ k, X k → B ≤ k) : HI w B j d rs w4 a where
  jj := h.jj.keep K hX
  s1 := h.s1.mono K.size
  sB := h.sB
  bel := h.bel.trans (K.below h.sz hB)
  size := h.size
theorem HI.below (h : HI w B j d rs wr a) (hb : Below wr.heap.size wr w4) : HI w B j d rs w4 a where
  jj := h.jj.below hb
  s1 := h.s1.mono hb.size
  sB := h.sB
  bel := h.bel.trans (hb.mono h.sz)
  size := h.size
/-- A record that fits. -/
theorem HI.append (h : HI w B j d rs wr a) (bv : Value) (r : List Int) (hr : Rb wr bv r) (hrB : isB r) (hrM : ∀ k, bv.ownBlock = some k → 0 < r.length → ¬ a.m k) (h1024 : r.length ≤ 1024) (hfit : fitB (40 * 40) rs r.length = true) :
    Calls Try.prog 46 #[.pointer (some ⟨j, 0, none⟩), bv] wr fun e w' => e = .returned (.int .i64 0) ∧ ∃ a', HI w B j d (rs ++ [r]) w' a' ∧ Upd a a' wr w' := by
  have := Append_JJ wr j d 40 40 rs 0 a h.jj bv r hr hrB hrM h1024
  rw [hfit, if_pos rfl, if_pos rfl] at this
  refine this.mono ?_
  rintro e w' ⟨rfl, a', hj, u⟩
  exact ⟨rfl, a', { jj := hj, s1 := u.fit h.s1 h.sz hj.sub hj.lt, sB := fun k hk => (u.s k hk).elim (h.sB k) (fun e => Nat.le_trans h.sz e), bel := h.bel.trans (u.below h.s1 h.sz), size := h.size }, u⟩
end

/-- A count, between two rounds. -/
structure Cnt (w : World) (H : Nat) (pre : List (Nat × Value)) (W : World) : Prop where
  box : W.heap[H]? = some (.cells #[.int .i64 pre.length] 3)
  below : Below H w W
theorem Cnt.own (w : World) (H : Nat) (B : Nat) (hH : H ≤ w.heap.size) (hB : H ≤ B) : OwnFrom B (Cnt w H) := fun pre W W' row h hg hr =>
  ⟨turn_cells hg hr h.box, h.below.grown hg (by have := h.below.size; omega) (fun k e => by have := (hr k e).1; omega)⟩

theorem KeepsOthers.drewN (W : World) (n : Nat) : KeepsOthers W (W.drewN n) := ⟨Nat.le_refl _, fun _ _ h _ => h⟩
theorem Cnt.cell {w W : World} {H : Nat} {pre : List (Nat × Value)} (h : Cnt w H pre W) : W.cell? ⟨H, 0, none⟩ = some (.int .i64 pre.length) := by rw [cell_of_row W _ 0 _ _ _ h.box]; rfl
theorem Cnt.free {w W : World} {H : Nat} {pre : List (Nat × Value)} (h : Cnt w H pre W) : W.frozen? ⟨H, 0, none⟩ = false := frozen_of_row W _ 0 _ _ h.box
/-- What was handed over was written to, and nothing else. -/
theorem Cnt.kept {w W W6 : World} {H : Nat} {pre : List (Nat × Value)} (h : Cnt w H pre W) {X : Nat → Prop} (K : Keeps X W W6) (hX : ∀ i, X i → H < i) (hH : H ≤ w.heap.size) : Cnt w H pre W6 :=
  ⟨(K.block H (Array.getElem?_eq_some_iff.1 h.box).1 (fun e => by have := hX H e; omega)).trans h.box, h.below.trans (K.below (by have := h.below.size; omega) (fun i e => by have := hX i e; omega))⟩
/-- One more. -/
theorem Cnt.more {w W : World} {H : Nat} {pre : List (Nat × Value)} (h : Cnt w H pre W) (x : Nat × Value) : Cnt w H (pre ++ [x]) (W.setCell ⟨H, 0, none⟩ (.int .i64 ((pre.length : Int) + 1))) := by
  refine ⟨?_, h.below.setCell (p := ⟨H, 0, none⟩) (Nat.le_refl _) _⟩
  rw [heap_setCell_same W H 0 _ _ _ h.box]
  simp
end Go.Proofs.Ytbbjeoepoocofaa
