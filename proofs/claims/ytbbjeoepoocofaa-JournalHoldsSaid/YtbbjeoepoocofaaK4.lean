/- The document's answer for disks: the blocks behind open writes, with their fates. -/
import Derived.Test.YtbbjeoepoocofaaK3
namespace Go.Proofs.Ytbbjeoepoocofaa
open Go.RowKit

/-- A slice of writes (a block, its bytes) that reads as these. -/
def Wb (w : World) (v : Value) (A : List (Nat × List Int)) : Prop :=
  ∃ vs : List (Nat × Value), vs.length = A.length ∧ Rd w 2 v A.length (wcells vs) ∧ ∀ (i : Nat) (x : Nat × Value) (y : Nat × List Int), vs[i]? = some x → A[i]? = some y → x.1 = y.1 ∧ Rb w x.2 y.2
theorem Wb.below' {w w' : World} {v : Value} {A : List (Nat × List Int)} (h : Wb w v A) (hb : Below w.heap.size w w') : Wb w' v A := by
  obtain ⟨vs, h1, h2, h3⟩ := h
  exact ⟨vs, h1, h2.keep (X := fun _ => False) (Keeps.of_below hb) (fun _ _ _ f => f), fun i x y hx hy => ⟨(h3 i x y hx hy).1, (h3 i x y hx hy).2.below' hb⟩⟩
theorem Wb.form {w : World} {v : Value} {A : List (Nat × List Int)} (h : Wb w v A) : ∃ sp sc, v = .slice sp A.length sc ∧ A.length ≤ maxLen := by
  obtain ⟨vs, h1, h2, h3⟩ := h
  obtain ⟨sp, sc, hv, -⟩ := h2.form
  exact ⟨sp, sc, hv, h2.len⟩
theorem Wb.at {w : World} {v : Value} {A : List (Nat × List Int)} (h : Wb w v A) {i : Nat} (hi : i < A.length) :
    ∃ b off cap va vc, v = .slice (some ⟨b, off, none⟩) A.length cap ∧ w.cell? ⟨b, off + i * 2, none⟩ = some (.int .i64 A[i].1) ∧ w.cell? ⟨b, off + i * 2 + 1, none⟩ = some (.slice va A[i].2.length vc) ∧ Rb w (.slice va A[i].2.length vc) A[i].2 := by
  obtain ⟨vs, h1, h2, h3⟩ := h
  rcases h2.2 with ⟨_, h0⟩ | ⟨b, off, cap, hv, -, -, hc⟩
  · omega
  · have e1 := List.getElem?_eq_getElem (show i < vs.length by omega)
    obtain ⟨r1, r2⟩ := h3 i vs[i] A[i] e1 (List.getElem?_eq_getElem hi)
    obtain ⟨sp, sc, hu, -⟩ := r2.form
    obtain ⟨c1, c2⟩ := wcells_get vs i vs[i] e1
    rw [hu] at r2 c2
    refine ⟨b, off, cap, sp, sc, hv, ?_, ?_, r2⟩
    · have := hc _ _ c1
      rw [r1] at this
      rw [Nat.mul_comm i 2]
      exact this
    · have := hc _ _ c2
      rw [Nat.mul_comm i 2, Nat.add_assoc]
      exact this

theorem behR_small {ls : List (List Int)} {A : List (Nat × List Int)} {fs : List Int} (h : ∀ x ∈ ls, x.length ≤ 100000) (i : Nat) : ∀ x ∈ behR ls A fs i, x.length ≤ 100000 := by
  induction i with
  | zero => exact h
  | succ i ih =>
    intro x hx
    unfold behR putR at hx
    rw [List.mem_map] at hx
    obtain ⟨k, hk, rfl⟩ := hx
    rw [List.mem_range] at hk
    have hm : (behR ls A fs i).getD k [] ∈ behR ls A fs i := by
      have : (behR ls A fs i).getD k [] = (behR ls A fs i)[k] := by simp [List.getD, List.getElem?_eq_getElem hk]
      rw [this]
      exact List.getElem_mem hk
    split
    · rw [lay_length]; exact ih _ hm
    · exact ih _ hm

set_option maxRecDepth 100000 in
set_option maxHeartbeats 2000000 in
theorem Behind_any (w : World) (lv ov fv : Value) (ls : List (List Int)) (A : List (Nat × List Int)) (fs : List Int) (hl : Tb w lv ls) (ho : Wb w ov A) (hf : Rd w 1 fv fs.length (its fs)) (hls : ls.length ≤ 100000) (hx : ∀ x ∈ ls, x.length ≤ 100000) (hA : A.length ≤ 100000) :
    Calls Try.prog 40 #[.agg #[lv, ov], fv] w fun e w' => (∃ v', e = .returned v' ∧ Tb w' v' (behR ls A fs A.length)) ∧ Below w.heap.size w w' := by
  obtain ⟨lp, lc, rfl, -⟩ := hl.form
  obtain ⟨op, oc, rfl, -⟩ := ho.form
  obtain ⟨fp, fc, rfl, -⟩ := hf.form
  have hfl := hf.len
  unfold maxLen at hfl
  have B0 : Below w.heap.size w (w.alloc (.cells #[.slice lp ls.length lc, .slice op A.length oc] 64)) := (Below.refl _ _).alloc (Nat.le_refl _) _
  have L0 : Hid (Tb (w.alloc (.cells #[.slice lp ls.length lc, .slice op A.length oc] 64)) (.slice lp ls.length lc) ls) := hl.below' B0
  have W0 : Hid (Wb (w.alloc (.cells #[.slice lp ls.length lc, .slice op A.length oc] 64)) (.slice op A.length oc) A) := ho.below' B0
  have F0 : Hid (Rd (w.alloc (.cells #[.slice lp ls.length lc, .slice op A.length oc] 64)) 1 (.slice fp fs.length fc) fs.length (its fs)) := hf.keep (X := fun _ => False) (Keeps.of_below B0) (fun _ _ _ f => f)
  have x0 : (w.alloc (.cells #[.slice lp ls.length lc, .slice op A.length oc] 64)).cell? ⟨w.heap.size, 0, none⟩ = some (.slice lp ls.length lc) := by rw [cell_of_row _ _ 0 _ _ _ (heap_alloc_new w _)]; rfl
  have x1 : (w.alloc (.cells #[.slice lp ls.length lc, .slice op A.length oc] 64)).cell? ⟨w.heap.size, 1, none⟩ = some (.slice op A.length oc) := by rw [cell_of_row _ _ 1 _ _ _ (heap_alloc_new w _)]; rfl
  have z0 : (w.alloc (.cells #[.slice lp ls.length lc, .slice op A.length oc] 64)).heap.size = w.heap.size + 1 := by simp
  have HX := Lib.hid hx
  clear hl ho hf hx
  go_enter Try.func40, Try.ntmps40
  go_wp2_with fail
  generalize w.alloc (.cells #[.slice lp ls.length lc, .slice op A.length oc] 64) = w0 at *
  have hw0 : w.heap.size < w0.heap.size := by omega
  clear z0
  go_loopw [5, 6] (fun lv iv wr => ∃ i : Nat, iv = .int .i64 i ∧ i ≤ A.length ∧ Tb wr lv (behR ls A fs i) ∧ Below w0.heap.size w0 wr) (fun _ iv _ => A.length - (intOf iv).toNat)
  case atStart => exact ⟨0, rfl, Nat.zero_le _, L0.out, Below.refl _ _⟩
  case round =>
    obtain ⟨wa, hwa⟩ : ∃ wa, wa = wr := ⟨_, rfl⟩
    subst hwa
    obtain ⟨i, rfl, hi, hL, hB⟩ := hrel
    have HL := Lib.hid hL
    obtain ⟨va, vc, rfl, -⟩ := hL.form
    have zr := hB.size
    clear hL
    have c1 : wa.cell? ⟨w.heap.size, 1, none⟩ = some (.slice op A.length oc) := (hB.cell (p := ⟨w.heap.size, 1, none⟩) (by show w.heap.size < w0.heap.size; omega)).trans x1
    by_cases hlt : i < A.length
    · obtain ⟨ob, oo, ocap, ua, uc, e1, q1, q2, hr⟩ := (W0.out.below' hB).at hlt
      simp only [Value.slice.injEq, true_and] at e1
      obtain ⟨rfl, rfl⟩ := e1
      have HR := Lib.hid hr
      have hget : A.getD i (0, []) = A[i] := by simp [List.getD, List.getElem?_eq_getElem hlt]
      have hstep : Hid (behR ls A fs (i + 1) = putR (behR ls A fs i) A[i].1 A[i].2 (nOf fs i A[i].2.length)) := by
        unfold Hid
        rw [behR, hget]
      have hsm : Hid (∀ x ∈ behR ls A fs i, x.length ≤ 100000) := behR_small HX.out i
      have hbl : (behR ls A fs i).length ≤ 100000 := by rw [behR_length]; exact hls
      have hrm := hr.len
      unfold maxLen at hrm
      clear hr hget
      generalize A[i] = o at *
      obtain ⟨bi, xs⟩ := o
      simp only at *
      generalize behR ls A fs i = ll at *
      by_cases hif : i < fs.length
      · rcases F0.out.2 with ⟨_, h0⟩ | ⟨fb, fo, fcap, hfv, -, -, hcell⟩
        · omega
        simp only [Value.slice.injEq, true_and] at hfv
        obtain ⟨rfl, rfl⟩ := hfv
        have q3 : wa.cell? ⟨fb, fo + i, none⟩ = some (.int .i64 (fs.getD i 0)) := by
          have h := hcell i _ (its_get hif)
          exact (hB.cell (p := ⟨fb, fo + i, none⟩) (World.block_lt_of_cell? w0 _ h)).trans h
        have hnof : Hid (nOf fs i xs.length = if fs.getD i 0 < 0 then xs.length else (fs.getD i 0).toNat) := by unfold Hid nOf; rw [if_pos hif]
        clear hcell
        generalize fs.getD i 0 = f at *
        by_cases hneg : f < 0
        · rw [if_pos hneg] at hnof
          go_wp2_with fail
          refine (put_any _ _ ll HL.out bi _ xs HR.out xs.length hbl hsm.out).mono ?_
          rintro e w5 ⟨⟨v', vs', rfl, hv⟩, b5⟩
          have HV := Lib.hid hv.tb
          have hb5 := Lib.hid b5
          clear hv b5
          go_wp2_with fail
          go_roundw
          case rel => exact ⟨i + 1, rfl, by omega, by rw [hstep.out, hnof.out]; exact HV.out, hB.trans (hb5.out.mono zr)⟩
          case measure => simp [intOf]; omega
        · rw [if_neg hneg] at hnof
          obtain ⟨m, rfl⟩ : ∃ m : Nat, f = m := ⟨f.toNat, by omega⟩
          go_wp2_with fail
          refine (put_any _ _ ll HL.out bi _ xs HR.out m hbl hsm.out).mono ?_
          rintro e w5 ⟨⟨v', vs', rfl, hv⟩, b5⟩
          have HV := Lib.hid hv.tb
          have hb5 := Lib.hid b5
          clear hv b5
          go_wp2_with fail
          go_roundw
          case rel => exact ⟨i + 1, rfl, by omega, by rw [hstep.out, hnof.out]; exact HV.out, hB.trans (hb5.out.mono zr)⟩
          case measure => simp [intOf]; omega
      · have hnof : Hid (nOf fs i xs.length = 0) := by unfold Hid nOf; rw [if_neg hif]
        go_wp2_with fail
        refine (put_any _ _ ll HL.out bi _ xs HR.out 0 hbl hsm.out).mono ?_
        rintro e w5 ⟨⟨v', vs', rfl, hv⟩, b5⟩
        have HV := Lib.hid hv.tb
        have hb5 := Lib.hid b5
        clear hv b5
        go_wp2_with fail
        go_roundw
        case rel => exact ⟨i + 1, rfl, by omega, by rw [hstep.out, hnof.out]; exact HV.out, hB.trans (hb5.out.mono zr)⟩
        case measure => simp [intOf]; omega
    · obtain rfl : i = A.length := by omega
      have HB := Lib.hid hB
      clear hB
      go_wp2_with fail
      go_ret
      exact ⟨⟨_, rfl, HL.out⟩, B0.trans (HB.out.mono (by omega))⟩
end Go.Proofs.Ytbbjeoepoocofaa
