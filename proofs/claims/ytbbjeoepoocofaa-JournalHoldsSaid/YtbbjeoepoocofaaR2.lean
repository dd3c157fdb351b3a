/- The journal's iterator. -/
import Derived.Test.YtbbjeoepoocofaaR1
import Derived.Test.YtbbjeoepoocofaaJ8
namespace Go.Proofs.Ytbbjeoepoocofaa
open Go.RowKit Go.Shelf
attribute [local go_sem] Oper.semAt_some

/-- What an iterator of records reads: a row of slices, all of it below a height. -/
structure Src (w : World) (n0 : Nat) (lv : Value) (ls : List (List Int)) (vs : List Value) : Prop where
  tab : Tbv w 0 lv ls vs
  low : ∀ k, lv.ownBlock = some k → k < n0
  inner : ∀ u ∈ vs, ∀ k, u.ownBlock = some k → k < n0

theorem Src.below {A B : World} {n0 : Nat} {lv : Value} {ls : List (List Int)} {vs : List Value} (h : Src A n0 lv ls vs) (hb : Below n0 A B) : Src B n0 lv ls vs := by
  have k : Keeps (fun k => n0 ≤ k) A B := ⟨hb.os, hb.tape, hb.output, hb.size, fun k _ hx => hb.block k (by omega)⟩
  exact ⟨⟨h.tab.len, own_keep h.tab.row k (fun i e hx => by have := h.low i e; omega), fun i x u hx hu => own_keep (h.tab.inner i x u hx hu) k (fun m e hy => by have := h.inner u (List.mem_of_getElem? hu) m e; omega)⟩, h.low, h.inner⟩

/-- What a round is handed: the number, and bytes of its own. -/
def Handed (B0 : Nat) (ls : List (List Int)) (pre : List (Nat × Value)) (x : Nat × Value) (W : World) : Prop :=
  x.1 = pre.length ∧ ∃ r, ls[pre.length]? = some r ∧ W.ownsRow B0 5 1 x.2 r.length (bts r)

theorem own_turn {w w' : World} {base B : Nat} {e : TypeId} {size : Nat} {v : Value} {n : Nat} {xs : List Value} {row : Option Nat} (h : w.ownsRow base e size v n xs) (hg : w.grownBy w' row)
    (hr : ∀ r, row = some r → B ≤ r ∧ ∃ o : Obj, w.heap[r]? = some o ∧ o.isCells = false) : w'.ownsRow base e size v n xs :=
  own_keep h (Keeps.of_grown (X := fun k => row = some k) hg (fun _ e => e)) (fun k hk e => by
    obtain ⟨_, o, ho, hc⟩ := hr k e
    obtain ⟨cur, ht⟩ := own_tag h hk
    rw [ho] at ht
    simp only [Option.some.injEq] at ht
    rw [ht] at hc
    simp [Obj.isCells] at hc)

theorem Handed.own (B0 B : Nat) (ls : List (List Int)) (pre : List (Nat × Value)) : OwnFrom B (Handed B0 ls pre) := fun x A C row h hg hr => by
  obtain ⟨h1, r, h2, h3⟩ := h
  exact ⟨h1, r, h2, own_turn h3 hg hr⟩

/-- As many have come as there are. -/
def AllCame (ls : List (List Int)) (xs : List (Nat × Value)) : Prop := xs.length = ls.length

set_option maxRecDepth 100000 in
set_option maxHeartbeats 2000000 in
theorem all1_hands (n : Nat) (hn : 1 ≤ n) (w : World) (B n0 : Nat) (lv : Value) (ls : List (List Int)) (vs : List Value) (hB : B < n0) (hn0 : n0 ≤ w.heap.size) (hc : w.cell? ⟨B, 0, none⟩ = some lv) (hs : Src w n0 lv ls vs) (hsm : ∀ r ∈ ls, r.length ≤ 1000000) :
    Hands Fence.wide n Try.prog 64 #[.pointer (some ⟨B, 0, none⟩)] (fun x : Nat × Value => #[.int .i64 (x.1 : Int), x.2]) (Below n0) (Handed w.heap.size ls) (AllCame ls) w := by
  intro l J W hW hJ hY h0
  have hc' : W.cell? ⟨B, 0, none⟩ = some lv := (hW.cell (p := ⟨B, 0, none⟩) (by show B < w.heap.size; omega)).trans hc
  have hS : Hid (Src W n0 lv ls vs) := hs.below (hW.mono hn0)
  have HJ := Lib.hid hJ
  have HY := Lib.hid hY
  have HW := Lib.hid hW
  have HSM := Lib.hid hsm
  have hlm : ls.length ≤ 9223372036854775807 := by
    have := (Rd.of_own hs.tab.row).len
    unfold maxLen at this
    exact this
  obtain ⟨la, lc, rfl⟩ := own_slice hs.tab.row
  clear hJ hY hs hc hW hsm
  refine callsIn_of_wp Try.func64 rfl trivial ?_ rfl
  simp only [Try.ntmps64, List.size_toArray, List.length_cons, List.length_nil, Nat.reduceAdd, Nat.reduceSub, Array.replicate_succ, Array.replicate_zero, List.push_toArray, List.append_toArray, List.nil_append, List.cons_append]
  gi_wp2
  gi_loopw [7] (fun i wr => ∃ (k : Nat) (pre : List (Nat × Value)), k ≤ ls.length ∧ i = .int .i64 k ∧ Hid (pre.length = k) ∧ J pre wr ∧ Below n0 W wr) (fun i _ => ls.length - (intOf i).toNat)
  case atStart => exact ⟨0, [], Nat.zero_le _, rfl, rfl, h0, Below.refl _ _⟩
  case round =>
    obtain ⟨k, pre, hk, rfl, hpl, hJs, hnx⟩ := hrel
    have HJs := Lib.hid hJs
    have HNX := Lib.hid hnx
    clear hJs hnx
    by_cases hlt : k < ls.length
    · have hS2 := hS.out.below HNX.out
      obtain ⟨b, off, cap, va, vc, e1, hcell, hrow⟩ := hS2.tab.tb.at hlt
      simp only [Value.slice.injEq, true_and] at e1
      obtain ⟨rfl, rfl⟩ := e1
      have HRD : Hid (Rd wr 1 (.slice va ls[k].length vc) ls[k].length (bts ls[k])) := Rd.of_own hrow
      have HLE : Hid (ls[k].length ≤ 1000000000) := by have := HSM.out _ (List.getElem_mem hlt); unfold Hid; omega
      have HGE : Hid (ls[k]? = some ls[k]) := List.getElem?_eq_getElem hlt
      clear hS2 hrow
      generalize ls[k] = r at *
      gi_wp2_with (first
        | (refine ⟨trivial, ?_⟩; gi_at_call 50; refine (callsIn_wide.2 (clone_bytes wr _ _ _ HRD.out bts_one HLE.out)).mono ?_; rintro e w3 ⟨v3, rfl, hown3, b3, -⟩
           have zw := HW.out.size
           have zr := HNX.out.size
           have HJ3 : J pre w3 := HJ.out _ _ _ HJs.out b3
           have HH : Handed w.heap.size ls pre (k, v3) w3 := ⟨hpl.out.symm, r, by rw [hpl.out]; exact HGE.out, own_mono hown3 (by omega)⟩
           have HB3 : Hid (Below n0 W w3) := HNX.out.trans (b3.mono (by omega))
           have HNP : Hid ((pre ++ [(k, v3)]).length = k + 1) := by
             unfold Hid
             rw [List.length_append, hpl.out]
             rfl
           obtain ⟨fn, tmps, assign, body, hy, hR⟩ := HY.out pre (k, v3) w3 HJ3 HH
           dsimp only at hy
           clear HJ3 HH hown3 b3 zw zr)
        | fail)
      refine hR.mono ?_
      rintro e W3 ⟨rfl, hJ3, hk3⟩
      have HJ3 := Lib.hid hJ3
      have HB4 := Lib.hid (HB3.out.trans hk3)
      clear hJ3 hk3
      gi_wp2
      go_roundw
      case rel => exact ⟨k + 1, pre ++ [(k, v3)], hlt, by simp, HNP, HJ3.out, HB4.out⟩
      case measure => simp [intOf]; omega
    · obtain rfl : k = ls.length := by omega
      gi_wp2
      go_end0
      exact ⟨⟨_, rfl⟩, pre, hpl.out, HJs.out⟩

/-- Behind All: the iterator, behind a box; what it reads: a row of its own of the journal's slices. -/
def Iter (rs : List (List Int)) (vs : List Value) (w : World) (e : Ending) (w' : World) : Prop :=
  ∃ B lv, e = .returned (.func (.func 64) #[] #[.pointer (some ⟨B, 0, none⟩)]) ∧ w'.cell? ⟨B, 0, none⟩ = some lv ∧ Tbv w' 0 lv rs vs ∧ w.heap.size ≤ B ∧ B < w'.heap.size ∧
    (∀ k, lv.ownBlock = some k → w.heap.size ≤ k ∧ k < w'.heap.size) ∧ Below w.heap.size w w'

theorem Iter.end {w w1 : World} {j d : Nat} {L : List Int} {fin : Nat} {rs : List (List Int)} {M S : Nat → Prop} {ib ic : Nat} {rv : Value} {vs : List Value} (h : JL w j d L fin rs M S ib ic rv vs) (hb : Below w.heap.size w w1) {lv : Value}
    (ho : w1.ownsRow (w.heap.size + 1) 30 1 lv rs.length vs) (hq : w1.heap[w.heap.size]? = some (.cells #[.slice none 0 0] 50)) :
    Iter rs vs w (.returned (.func (.func 64) #[] #[.pointer (some ⟨w.heap.size, 0, none⟩)])) (w1.setCell ⟨w.heap.size, 0, none⟩ lv) := by
  have k : Keeps (fun k => k = w.heap.size) w1 (w1.setCell ⟨w.heap.size, 0, none⟩ lv) := Keeps.setCell (X := fun k => k = w.heap.size) (a := ⟨w.heap.size, 0, none⟩) (Keeps.refl _ w1) (.inl rfl) _
  have b2 : Below w.heap.size w (w1.setCell ⟨w.heap.size, 0, none⟩ lv) := hb.setCell (p := ⟨w.heap.size, 0, none⟩) (Nat.le_refl _) _
  have hz : (w1.setCell ⟨w.heap.size, 0, none⟩ lv).heap.size = w1.heap.size := by simp [World.setCell]
  have hlt := (Array.getElem?_eq_some_iff.1 hq).1
  have hh := heap_setCell_same w1 w.heap.size 0 _ _ lv hq
  refine ⟨w.heap.size, lv, rfl, by rw [cell_of_row _ _ 0 _ _ _ hh]; rfl, ⟨h.recs.len, ?_, fun i x u hx hu => ?_⟩, Nat.le_refl _, by omega, fun i e => ?_, b2⟩
  · exact own_mono (own_keep ho k (fun i e e2 => by have := (own_lt ho i e).1; omega)) (Nat.zero_le _)
  · exact own_keep (h.recs.inner i x u hx hu) (X := fun k => w.heap.size ≤ k) ⟨b2.os, b2.tape, b2.output, b2.size, fun k _ hx => b2.block k (by omega)⟩ (fun i e => by have := h.lt i (h.inner u (List.mem_of_getElem? hu) i e).1; omega)
  · have := own_lt ho i e
    omega

theorem All_any (w : World) (j d : Nat) (L : List Int) (fin : Nat) (rs : List (List Int)) (M S : Nat → Prop) (ib ic : Nat) (rv : Value) (vs : List Value) (h : JL w j d L fin rs M S ib ic rv vs) :
    Calls Try.prog 47 #[.pointer (some ⟨j, 0, none⟩)] w (Iter rs vs w) := by
  have HL := Lib.hid h
  have k0 : ∀ o, Keeps (fun _ => False) w (w.alloc o) := fun o => (Keeps.refl _ _).alloc o
  have c3 : ∀ o, (w.alloc o).cell? ⟨j, 3, none⟩ = some rv := fun o => (k0 o).cell (a := ⟨j, 3, none⟩) (fun f => f) h.cells.2.2.2
  have c3' : w.cell? ⟨j, 3, none⟩ = some rv := h.cells.2.2.2
  have hrs := h.rslen
  have B0 : Below w.heap.size w (w.alloc (.cells #[.slice none 0 0] 50)) := (Below.refl _ _).alloc (Nat.le_refl _) _
  have q0 : (w.alloc (.cells #[.slice none 0 0] 50)).heap[w.heap.size]? = some (.cells #[.slice none 0 0] 50) := heap_alloc_new w _
  have R0 : Hid (Rd (w.alloc (.cells #[.slice none 0 0] 50)) 1 rv rs.length vs) := (Rd.of_own h.recs.row).keep (X := fun _ => False) (k0 _) (fun _ _ _ f => f)
  have z0 : (w.alloc (.cells #[.slice none 0 0] 50)).heap.size = w.heap.size + 1 := by simp
  have HV : Hid (∀ u ∈ vs, u.oneCell' = true) := fun u hu => by
    obtain ⟨i, hi, rfl⟩ := List.getElem_of_mem hu
    have hi' : i < rs.length := by have := h.recs.len; omega
    obtain ⟨sp, sc, hv⟩ := own_slice (h.recs.inner i rs[i] vs[i] (List.getElem?_eq_getElem hi') (List.getElem?_eq_getElem hi))
    rw [hv]
    rfl
  clear h k0
  have k1 : Keeps (fun _ => False) w (w.alloc (.cells #[.slice none 0 0] 50)) := (Keeps.refl _ _).alloc _
  have K1 := Lib.hid k1
  clear k1
  go_enter Try.func47, Try.ntmps47
  go_wp2_with fail
  generalize w.alloc (.cells #[.slice none 0 0] 50) = w0 at *
  refine (clone_table w0 rv rs.length vs R0.out HV.out (by omega)).mono ?_
  rintro e w1 ⟨v1, rfl, hown, b1, -⟩
  obtain ⟨v1a, v1c, rfl⟩ := own_slice hown
  have q1 : w1.heap[w.heap.size]? = some (.cells #[.slice none 0 0] 50) := (b1.block w.heap.size (by omega)).trans q0
  have f1 : w1.frozen? ⟨w.heap.size, 0, none⟩ = false := frozen_of_row w1 w.heap.size 0 _ _ q1
  have g1 : w1.cell? ⟨w.heap.size, 0, none⟩ = some (.slice none 0 0) := by rw [cell_of_row w1 w.heap.size 0 _ _ _ q1]; rfl
  have HO := Lib.hid hown
  have HB1 := Lib.hid b1
  have HQ1 := Lib.hid q1
  clear hown b1 q1 q0 c3 c3'
  go_wp2_with fail
  go_ret
  exact Iter.end HL.out (B0.trans (HB1.out.mono (by omega))) (by rw [← z0]; exact HO.out) HQ1.out

theorem All_nil (w : World) : Calls Try.prog 47 #[.pointer none] w fun e w' => ∃ B, e = .returned (.func (.func 64) #[] #[.pointer (some ⟨B, 0, none⟩)]) ∧ w'.cell? ⟨B, 0, none⟩ = some (.slice none 0 0) ∧ w.heap.size ≤ B ∧ B < w'.heap.size ∧ Below w.heap.size w w' := by
  have q0 : (w.alloc (.cells #[.slice none 0 0] 50)).heap[w.heap.size]? = some (.cells #[.slice none 0 0] 50) := heap_alloc_new w _
  have HC : Hid ((w.alloc (.cells #[.slice none 0 0] 50)).cell? ⟨w.heap.size, 0, none⟩ = some (.slice none 0 0)) := by
    unfold Hid
    rw [cell_of_row _ _ 0 _ _ _ q0]
    rfl
  clear q0
  go_enter Try.func47, Try.ntmps47
  go_wp2_with fail
  go_ret
  exact ⟨_, rfl, HC.out, Nat.le_refl _, by simp, (Below.refl _ _).alloc (Nat.le_refl _) _⟩
end Go.Proofs.Ytbbjeoepoocofaa
