/- All records of a journal, as the laws read them. -/
import Derived.Test.YtbbjeoepoocofaaR2
namespace Go.Proofs.Ytbbjeoepoocofaa
open Go.RowKit Go.Shelf
attribute [local go_sem] Oper.semAt_some

/-- A row of slices of bytes, all of it in memory from a height on. -/
def Tbl (w : World) (base : Nat) (v : Value) (ls : List (List Int)) : Prop := ∃ vs, Tbv w base v ls vs ∧ ∀ u ∈ vs, ∀ k, u.ownBlock = some k → base ≤ k

/-- Between two rounds: the records so far are in the row that is put together. -/
structure Col (w : World) (Bo R : Nat) (rs : List (List Int)) (pre : List (Nat × Value)) (W : World) : Prop where
  box : ∃ v, W.heap[Bo]? = some (.cells #[v] 50) ∧ Tbl W Bo v (rs.take pre.length)
  res : W.heap[R]? = some (.cells #[.slice none 0 0] 50)
  below : Below w.heap.size w W

theorem turn_cells {w w' : World} {B : Nat} {row : Option Nat} (hg : w.grownBy w' row) (hr : ∀ r, row = some r → B ≤ r ∧ ∃ o : Obj, w.heap[r]? = some o ∧ o.isCells = false) {k : Nat} {cs : Array Value} {t : TypeId} (h : w.heap[k]? = some (.cells cs t)) :
    w'.heap[k]? = some (.cells cs t) := by
  refine (hg.block k (Array.getElem?_eq_some_iff.1 h).1 (fun e => ?_)).trans h
  obtain ⟨_, o, ho, hc⟩ := hr k e.symm
  rw [h] at ho
  simp only [Option.some.injEq] at ho
  rw [← ho] at hc
  simp [Obj.isCells] at hc

theorem Col.own (w : World) (Bo R : Nat) (rs : List (List Int)) (B : Nat) (hB : w.heap.size ≤ B) : OwnFrom B (Col w Bo R rs) := fun pre W W' row h hg hr => by
  obtain ⟨v, h1, vs, h2, h3⟩ := h.box
  refine ⟨⟨v, turn_cells hg hr h1, vs, ⟨h2.len, own_turn h2.row hg hr, fun i x u hx hu => own_turn (h2.inner i x u hx hu) hg hr⟩, h3⟩, turn_cells hg hr h.res, ?_⟩
  exact h.below.grown hg h.below.size (fun k e => by have := (hr k e).1; omega)

/-- One record more. -/
theorem Col.more {w W W7 : World} {Bo R : Nat} {rs : List (List Int)} {pre : List (Nat × Value)} {x : Nat × Value} (hBo : w.heap.size ≤ Bo) (hBR : ¬ R = Bo) {v v7 u : Value} {us : List Value} {r : List Int} {o : Obj} (hb : W.heap[Bo]? = some (.cells #[v] 50)) (ht : Tbv W Bo v (rs.take pre.length) us) (hin : ∀ u ∈ us, ∀ k, u.ownBlock = some k → Bo ≤ k)
    (hres : W.heap[R]? = some (.cells #[.slice none 0 0] 50)) (hbel : Below w.heap.size w W) (hg : rs[pre.length]? = some r) {B0 : Nat} (hB0 : Bo ≤ B0) (ho : W.ownsRow B0 5 1 u r.length (bts r))
    (hown : W7.ownsRow Bo 30 1 v7 (pre.length + 1) (us ++ [u])) (hgr : (W.alloc o).grownBy W7 v.ownBlock) :
    KeepsOthers W (W7.setCell ⟨Bo, 0, none⟩ v7) ∧ Below Bo W (W7.setCell ⟨Bo, 0, none⟩ v7) ∧ Col w Bo R rs (pre ++ [x]) (W7.setCell ⟨Bo, 0, none⟩ v7) := by
  have hlt : pre.length < rs.length := (List.getElem?_eq_some_iff.1 hg).1
  have hlen : (rs.take pre.length).length = pre.length := by rw [List.length_take]; omega
  have e1 : rs.take (pre ++ [x]).length = rs.take pre.length ++ [r] := by rw [List.length_append, List.length_singleton, List.take_add_one, hg]; rfl
  have hrow := ht.row
  have hBlt := (Array.getElem?_eq_some_iff.1 hb).1
  have kA : KeepsOthers (W.alloc o) W7 := KeepsOthers.of_grownBy hgr (fun i ob e1 e2 => by
    obtain ⟨cur, hc⟩ := own_tag (own_keep hrow ((Keeps.refl (fun _ => False) W).alloc o) (fun _ _ f => f)) e1
    rw [hc] at e2
    simp only [Option.some.injEq] at e2
    rw [← e2]
    rfl)
  have bA : Below Bo W W7 := ((Below.refl Bo W).alloc (by omega) o).grown hgr (by simp; omega) (fun k e => (own_lt hrow k e).1)
  have hoff := own_off hrow hb (by decide)
  have hk7 : Keeps (fun k => v.ownBlock = some k) W W7 := ((Keeps.refl _ W).alloc o).trans (Keeps.of_grown (X := fun k => v.ownBlock = some k) hgr (fun _ e => e)) (fun _ e => .inl e)
  have hb7 : W7.heap[Bo]? = some (.cells #[v] 50) := (hk7.block Bo hBlt hoff).trans hb
  have t7 : Tbv W7 Bo v7 (rs.take pre.length ++ [r]) (us ++ [u]) := ht.snoc (own_mono ho (Nat.zero_le _)) (by rw [hlen]; exact hown) hgr
  have k8 : Keeps (fun k => k = Bo) W7 (W7.setCell ⟨Bo, 0, none⟩ v7) := Keeps.setCell (X := fun k => k = Bo) (a := ⟨Bo, 0, none⟩) (Keeps.refl _ W7) (.inl rfl) _
  have hr7 : W7.heap[R]? = some (.cells #[.slice none 0 0] 50) := (hk7.block R (Array.getElem?_eq_some_iff.1 hres).1 (own_off hrow hres (by decide))).trans hres
  refine ⟨((KeepsOthers.alloc W o).trans kA).trans (KeepsOthers.setCell _ _ _), bA.setCell (p := ⟨Bo, 0, none⟩) (Nat.le_refl _) _, ⟨v7, by rw [heap_setCell_same W7 Bo 0 _ _ _ hb7]; rfl, us ++ [u], by rw [e1]; exact t7.off hb7 (by decide) (by decide) k8, fun s hs k e => ?_⟩, (k8.block R (Array.getElem?_eq_some_iff.1 hr7).1 hBR).trans hr7, ?_⟩
  · rw [List.mem_append] at hs
    rcases hs with hs | hs
    · exact hin s hs k e
    · simp at hs
      subst hs
      have := (own_lt ho k e).1
      omega
  · exact (hbel.trans (bA.mono hBo)).setCell (p := ⟨Bo, 0, none⟩) hBo _

theorem eql_func_nil (w : World) (f : Fn) (a b : Array Value) : (binOp .eql 78 (.func f a b) .nilFunc).run Try.prog w = .ok (.bool false) w := by
  have h : ∀ d : Nat, (Op.equalIn (d + 1) 78 (.func f a b) .nilFunc).run Try.prog w = .ok false w := fun d => by
    simp [Op.equalIn, run_underlying Try.underlying78]
  simp only [binOp]
  simp [Op.equal, Op.maxDepth, h 9999]

set_option maxRecDepth 100000 in
set_option maxHeartbeats 2000000 in
theorem Records_core (w : World) (pv : Option Addr) (rs : List (List Int)) (vs : List Value) (hA : Calls Try.prog 47 #[.pointer pv] (w.alloc (.cells #[.slice none 0 0] 50)) (Iter rs vs (w.alloc (.cells #[.slice none 0 0] 50))))
    (hV : ∀ u ∈ vs, ∀ k, u.ownBlock = some k → k < w.heap.size + 1) (hn : rs.length ≤ 200) (hsm : ∀ r ∈ rs, r.length ≤ 1000000) :
    Calls Try.prog 29 #[.pointer pv] w fun e w' => ∃ v, e = .returned v ∧ Tbl w' w.heap.size v rs ∧ Below w.heap.size w w' := by
  have HSM := Lib.hid hsm
  have HA := Lib.hid hA
  have HV := Lib.hid hV
  clear hsm hA hV
  obtain ⟨i3, hi30, hy0, hy1, hy2⟩ := info_parts info30
  have B0 : Below w.heap.size w (w.alloc (.cells #[.slice none 0 0] 50)) := (Below.refl _ _).alloc (Nat.le_refl _) _
  refine (callsIn_wide (n := 5)).1 ?_
  refine callsIn_of_wp_marks Try.func29 rfl trivial ?_ rfl
  simp only [Try.ntmps29, List.size_toArray, List.length_cons, List.length_nil, Nat.reduceAdd, Nat.reduceSub, Array.replicate_succ, Array.replicate_zero, List.push_toArray, List.append_toArray, List.nil_append, List.cons_append]
  gi_wp2_with (first
    | (refine ⟨trivial, ?_⟩; gi_at_call 47; refine (callsIn_wide.2 HA.out).mono ?_; rintro e w1 ⟨B, lv, rfl, hc, ht, hB1, hB2, hlv, b1⟩; have qF := eql_func_nil w1 (.func 64) #[] #[.pointer (some ⟨B, 0, none⟩)])
    | fail)
  have z0 : (w.alloc (.cells #[.slice none 0 0] 50)).heap.size = w.heap.size + 1 := by simp
  have q0 : (w.alloc (.cells #[.slice none 0 0] 50)).heap[w.heap.size]? = some (.cells #[.slice none 0 0] 50) := heap_alloc_new w _
  have qr := ((Below.heap_alloc w1 (.cells #[.slice none 0 0] 50) w.heap.size (by omega)).trans (b1.block w.heap.size (by omega))).trans q0
  have qo : (w1.alloc (.cells #[.slice none 0 0] 50)).heap[w1.heap.size]? = some (.cells #[.slice none 0 0] 50) := heap_alloc_new w1 _
  have B2 : Below w.heap.size w (w1.alloc (.cells #[.slice none 0 0] 50)) := (B0.trans (b1.mono (by omega))).alloc (by have := b1.size; omega) _
  have z2 : (w1.alloc (.cells #[.slice none 0 0] 50)).heap.size = w1.heap.size + 1 := by simp
  have bA : Below w1.heap.size w1 (w1.alloc (.cells #[.slice none 0 0] 50)) := (Below.refl _ _).alloc (Nat.le_refl _) _
  have c2 : (w1.alloc (.cells #[.slice none 0 0] 50)).cell? ⟨B, 0, none⟩ = some lv := (bA.cell (p := ⟨B, 0, none⟩) hB2).trans hc
  have S2 : Src (w1.alloc (.cells #[.slice none 0 0] 50)) w1.heap.size lv rs vs := by
    refine Src.below ⟨ht, fun k e => (hlv k e).2, fun u hu k e => ?_⟩ bA
    have h1 := HV.out u hu k e
    have h2 := b1.size
    omega
  clear q0 hc ht hlv bA b1 qF
  generalize w1.alloc (.cells #[.slice none 0 0] 50) = w2 at *
  have hcol : Col w w1.heap.size w.heap.size rs [] w2 := ⟨⟨_, qo, [], Tbv.nil _ _, fun u hu => by simp at hu⟩, qr, B2⟩
  refine hand_range rfl (by omega) (gf := 64) (lb := #[.pointer (some ⟨B, 0, none⟩)]) rfl trivial (enters_of Try.func64 (by kernel_rfl) rfl)
    (all1_hands (5 - 1) (by omega) w2 B w1.heap.size lv rs vs hB2 (by omega) c2 S2 HSM.out) belowK_t (belowK_b (by omega)) (fun _ => rfl)
    (Col w w1.heap.size w.heap.size rs) (Col.own _ _ _ _ _ B2.size) (fun pre => Handed.own _ _ _ _) hcol
    (fun x => { tmps := #[.pointer pv, undef, .pointer (some ⟨w.heap.size, 0, none⟩), .func (.func 64) #[] #[.pointer (some ⟨B, 0, none⟩)], .pointer (some ⟨w1.heap.size, 0, none⟩), .int .i64 (x.1 : Int), x.2, .pointer pv, .func (.func 64) #[] #[.pointer (some ⟨B, 0, none⟩)], .func (.func 64) #[] #[.pointer (some ⟨B, 0, none⟩)], .bool false, .func (.func 64) #[] #[.pointer (some ⟨B, 0, none⟩)], .int .i64 (x.1 : Int), x.2, undef, undef, undef, undef, undef, undef, undef, undef, undef, undef, undef, undef, undef], defers := [] }) ?assign ?body ?done
  case assign =>
    intro l x W K hK
    gi_wp2
    exact hK
  case body =>
    rintro l pre ⟨i, xv⟩ W hI hH
    obtain ⟨v, hb, us, ht, hin⟩ := hI.box
    obtain ⟨he, r, hg, ho⟩ := hH
    simp only at he ho
    subst he
    have hlt : pre.length < rs.length := (List.getElem?_eq_some_iff.1 hg).1
    have hlen : (rs.take pre.length).length = pre.length := by rw [List.length_take]; omega
    have hrow := ht.row
    rw [hlen] at hrow
    obtain ⟨va, vc, rfl⟩ := own_slice hrow
    obtain ⟨xa, xc, rfl⟩ := own_slice ho
    have c0 : W.cell? ⟨w1.heap.size, 0, none⟩ = some (.slice va pre.length vc) := by rw [cell_of_row W _ 0 _ _ _ hb]; rfl
    have zW : w1.heap.size < W.heap.size := (Array.getElem?_eq_some_iff.1 hb).1
    have HB := Lib.hid hb
    have HT := Lib.hid ht
    have HIN := Lib.hid hin
    have HG := Lib.hid hg
    have HO := Lib.hid ho
    have HROW := Lib.hid hrow
    have HI := Lib.hid hI
    have HL2 := Lib.hid hlen
    clear hb ht hin hg ho hrow hI hlen qr qo c2 S2 hcol
    have zB := B2.size
    gi_wp2_with (first
      | (gi_at_builtin; refine wpListIn_append_own _ rfl _ _ 50 rfl w1.heap.size 30 i3 (.slice none 0 0) 1 24 Try.underlying50 hi30 hy0 hy1 hy2 rfl (by decide) (.slice va pre.length vc) pre.length us rfl (own_keep HROW.out ((Keeps.refl (fun _ => False) W).alloc _) (fun _ _ f => f)) ⟨W.heap.size, 0, none⟩ 1 1 [.slice xa r.length xc] rfl rfl (World.news_of_block (heap_alloc_new W _)) (by simp [Value.oneCell']) (by unfold maxLen; omega) (by omega) (by simp; omega) ?_; rintro v7 W7 hown7 hg7 -; obtain ⟨v7a, v7c, rfl⟩ := own_slice hown7; have k7 : Keeps (fun k => (Value.slice va pre.length vc).ownBlock = some k) W W7 := ((Keeps.refl _ W).alloc _).trans (Keeps.of_grown (X := fun k => (Value.slice va pre.length vc).ownBlock = some k) hg7 (fun _ e => e)) (fun _ e => .inl e); have hb7 := (k7.block w1.heap.size zW (own_off HROW.out HB.out (by decide))).trans HB.out; have c7 : W7.cell? ⟨w1.heap.size, 0, none⟩ = some (.slice va pre.length vc) := (by rw [cell_of_row W7 _ 0 _ _ _ hb7]; rfl); have f7 : W7.frozen? ⟨w1.heap.size, 0, none⟩ = false := frozen_of_row W7 _ 0 _ _ hb7; have HF := Lib.hid (Col.more (x := ((pre.length, .slice xa r.length xc) : Nat × Value)) (by omega) (by omega) HB.out HT.out HIN.out HI.out.res HI.out.below HG.out (by omega) HO.out hown7 hg7); clear hb7 k7 hown7 hg7)
      | fail)
    exact HF.out
  case done =>
    rintro D xs W hD hS hI hK
    obtain ⟨v, hb, us, ht, hin⟩ := hI.box
    have hlen : rs.take xs.length = rs := by rw [hS]; exact List.take_length
    rw [hlen] at ht
    obtain ⟨va, vc, rfl⟩ := own_slice ht.row
    have c0 : W.cell? ⟨w1.heap.size, 0, none⟩ = some (.slice va rs.length vc) := by rw [cell_of_row W _ 0 _ _ _ hb]; rfl
    have f1 : W.frozen? ⟨w.heap.size, 0, none⟩ = false := frozen_of_row W _ 0 _ _ hI.res
    have c1 : W.cell? ⟨w.heap.size, 0, none⟩ = some (.slice none 0 0) := by rw [cell_of_row W _ 0 _ _ _ hI.res]; rfl
    have HT := Lib.hid ht
    have HIN := Lib.hid hin
    have HI := Lib.hid hI
    have HC1 := Lib.hid hI.res
    clear ht hin hb hI hcol qr qo c2 S2
    gi_wp2
    have k8 : Keeps (fun k => k = w.heap.size) W (W.setCell ⟨w.heap.size, 0, none⟩ (.slice va rs.length vc)) := Keeps.setCell (X := fun k => k = w.heap.size) (a := ⟨w.heap.size, 0, none⟩) (Keeps.refl _ W) (.inl rfl) _
    have t8 : Tbv (W.setCell ⟨w.heap.size, 0, none⟩ (.slice va rs.length vc)) w1.heap.size (.slice va rs.length vc) rs us := HT.out.off HC1.out (by decide) (by decide) k8
    have b8 : Below w.heap.size w (W.setCell ⟨w.heap.size, 0, none⟩ (.slice va rs.length vc)) := HI.out.below.setCell (p := ⟨w.heap.size, 0, none⟩) (Nat.le_refl _) _
    have hK8 := (KeepsOthers.setCell W ⟨w.heap.size, 0, none⟩ (.slice va rs.length vc)).same D _ hK rfl
    have q8 : (W.setCell ⟨w.heap.size, 0, none⟩ (.slice va rs.length vc)).heap[w.heap.size]? = some (.cells #[.slice va rs.length vc] 50) := by
      rw [heap_setCell_same W w.heap.size 0 _ _ _ HC1.out]
      rfl
    have hzz : w.heap.size ≤ w1.heap.size := by omega
    have hDz : w.heap.size ≤ D := by have := B2.size; omega
    clear k8
    generalize W.setCell ⟨w.heap.size, 0, none⟩ (.slice va rs.length vc) = W8 at *
    have q9 : (W8.putObj D (.deferred none)).heap[w.heap.size]? = some (.cells #[.slice va rs.length vc] 50) := by
      rw [World.putObj_heap_other (fun e => by rw [← e, q8] at hK8; simp at hK8)]
      exact q8
    have c9 : (W8.putObj D (.deferred none)).cell? ⟨w.heap.size, 0, none⟩ = some (.slice va rs.length vc) := by rw [cell_of_row _ _ 0 _ _ _ q9]; rfl
    have g9 := grownBy_putObj' W8 D (.deferred none)
    have hr9 : ∀ r, some D = some r → 0 ≤ r ∧ ∃ o : Obj, W8.heap[r]? = some o ∧ o.isCells = false := fun r e => by cases e; exact ⟨Nat.zero_le _, _, hK8, rfl⟩
    have t9 : Tbl (W8.putObj D (.deferred none)) w.heap.size (.slice va rs.length vc) rs :=
      ⟨us, ⟨t8.len, own_mono (own_turn t8.row g9 hr9) hzz, fun i x u hx hu => own_turn (t8.inner i x u hx hu) g9 hr9⟩, fun u hu k e => by have := HIN.out u hu k e; omega⟩
    have b9 : Below w.heap.size w (W8.putObj D (.deferred none)) := b8.grown g9 b8.size (fun k e => by cases e; exact hDz)
    refine ⟨by simp, .inl ⟨_, _, rfl, run_takeDeferred hK8, ?_⟩⟩
    exact ⟨.slice va rs.length vc, by simp [results, Try.results29, go_sem, c9], _, rfl, t9, b9⟩

theorem Records_any (w : World) (j d : Nat) (L : List Int) (fin : Nat) (rs : List (List Int)) (M S : Nat → Prop) (h : Jr w j d L fin rs M S) (hn : rs.length ≤ 200) (hsm : ∀ r ∈ rs, r.length ≤ 1000000) :
    Calls Try.prog 29 #[.pointer (some ⟨j, 0, none⟩)] w fun e w' => ∃ v, e = .returned v ∧ Tbl w' w.heap.size v rs ∧ Below w.heap.size w w' := by
  obtain ⟨ib, ic, rv, vs, l⟩ := h
  exact Records_core w _ rs vs (All_any _ j d L fin rs M S ib ic rv vs (l.keep (X := fun _ => False) ((Keeps.refl _ _).alloc _) (fun _ _ f => f))) (fun u hu k e => by have := l.lt k (l.inner u hu k e).1; omega) hn hsm

/-- A nil journal has no records. -/
theorem Records_nil (w : World) : Calls Try.prog 29 #[.pointer none] w fun e w' => ∃ v, e = .returned v ∧ Tbl w' w.heap.size v [] ∧ Below w.heap.size w w' := by
  refine Records_core w none [] [] ((All_nil _).mono ?_) (fun u hu => by simp at hu) (by simp) (fun r hr => by simp at hr)
  rintro e w' ⟨B, rfl, h1, h2, h3, h4⟩
  exact ⟨B, _, rfl, h1, Tbv.nil _ _, h2, h3, fun k e => by simp [Value.ownBlock] at e, h4⟩
end Go.Proofs.Ytbbjeoepoocofaa
