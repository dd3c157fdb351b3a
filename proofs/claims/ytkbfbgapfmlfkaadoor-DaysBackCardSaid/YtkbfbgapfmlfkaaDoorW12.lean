import Derived.Test.YtkbfbgapfmlfkaaDoorW10
import Derived.StillTailTactics
namespace Go.Proofs.YtkbfbgapfmlfkaaDoor
open Go.RowKit

open Classical in
/-- What Day answers: the day, and what is wrong. -/
noncomputable def dayN (y m d : Int) : Int := if okDate y m d then numDate y m d else 0
open Classical in
noncomputable def dayE (y m d : Int) : Int := if okDate y m d then 0 else 18

theorem Day_any (y m d : Int) (w : World) (hT : Tab w) :
    Calls Tryd.prog 18 #[.int .i64 y, .int .i64 m, .int .i64 d] w fun e w' => e = .returned (.tuple #[.int .i64 (dayN y m d), .int .i64 (dayE y m d)]) ∧ Below w.heap.size w w' := by
  unfold dayN dayE
  by_cases h : okDate y m d
  · rw [if_pos h, if_pos h]; exact Day_yes y m d w hT h
  · rw [if_neg h, if_neg h]; exact Day_no y m d w hT h

theorem Parse_size (s : ByteArray) (w : World) (hs : ¬ s.size = 10) :
    Calls Tryd.prog 22 #[.string s] w fun e w' => e = .returned (.tuple #[.int .i64 0, .int .i64 13]) ∧ w = w' := by
  have h1 : ((s.size : Int) != 10) = true := by simp; omega
  go_enter Tryd.func22, Tryd.ntmps22
  go_wp2_with fail
  go_step3
  go_wp2_with fail
  (try rw [Exit.noGoto_ret])
  go_ret2
  exact ⟨rfl, rfl⟩

/-- The bytes of a text, in a row of their own; three numbers in another one. -/
structure PMem (w w1 : World) (s : ByteArray) (n0 n1 n2 : Int) : Prop where
  tri : w1.heap[w.heap.size]? = some (.cells #[.int .i64 n0, .int .i64 n1, .int .i64 n2] 37)
  row : ∀ j, j < 10 → w1.cell? ⟨w.heap.size + 1, j, none⟩ = some (.int .u8 (Txt.byte s j))
  bel : Below w.heap.size w w1
theorem PMem.start (w : World) (s : ByteArray) (hs : s.size = 10) : PMem w (Lib.bytesWorld (w.alloc (.cells #[.int .i64 0, .int .i64 0, .int .i64 0] 37)) 5 s) s 0 0 0 where
  tri := by
    rw [Lib.bytesWorld_at_old _ _ _ _ (by simp)]
    exact heap_alloc_new w _
  row := fun j hj => by
    have := Lib.bytesWorld_cell (w.alloc (.cells #[.int .i64 0, .int .i64 0, .int .i64 0] 37)) 5 s j (by omega)
    simpa [Txt.byte] using this
  bel := by
    refine ⟨rfl, rfl, rfl, ?_, fun k hk => ?_⟩
    · rw [Lib.bytesWorld_size]; simp; omega
    · rw [Lib.bytesWorld_at_old _ _ _ _ (by simp; omega)]
      exact ((Below.refl w.heap.size w).alloc (Nat.le_refl _) _).block k hk
theorem PMem.cells {w w1 : World} {s : ByteArray} {n0 n1 n2 : Int} (h : PMem w w1 s n0 n1 n2) :
    w1.cell? ⟨w.heap.size, 0, none⟩ = some (.int .i64 n0) ∧ w1.cell? ⟨w.heap.size, 1, none⟩ = some (.int .i64 n1) ∧ w1.cell? ⟨w.heap.size, 2, none⟩ = some (.int .i64 n2) ∧
    w1.frozen? ⟨w.heap.size, 0, none⟩ = false ∧ w1.frozen? ⟨w.heap.size, 1, none⟩ = false ∧ w1.frozen? ⟨w.heap.size, 2, none⟩ = false :=
  ⟨by rw [cell_of_row _ _ 0 _ _ _ h.tri]; rfl, by rw [cell_of_row _ _ 1 _ _ _ h.tri]; rfl, by rw [cell_of_row _ _ 2 _ _ _ h.tri]; rfl, frozen_of_row _ _ 0 _ _ h.tri, frozen_of_row _ _ 1 _ _ h.tri, frozen_of_row _ _ 2 _ _ h.tri⟩
theorem PMem.set {w w1 : World} {s : ByteArray} {n0 n1 n2 : Int} (h : PMem w w1 s n0 n1 n2) (j : Nat) (u : Int) :
    PMem w (w1.setCell ⟨w.heap.size, j, none⟩ (.int .i64 u)) s (if j = 0 then u else n0) (if j = 1 then u else n1) (if j = 2 then u else n2) where
  tri := by
    have := heap_setCell_same w1 w.heap.size j _ _ (.int .i64 u) h.tri
    rw [this]
    rcases j with _ | _ | _ | j <;> simp
  row := fun i hi => by
    rw [World.cell?_setCell_other _ _ _ _ (by simp)]
    exact h.row i hi
  bel := h.bel.setCell (p := ⟨w.heap.size, j, none⟩) (Nat.le_refl _) _

set_option maxHeartbeats 1000000 in
theorem Parse_ten (s : ByteArray) (w : World) (hT : Tab w) (hs : s.size = 10) :
    Calls Tryd.prog 22 #[.string s] w fun e w' => ((Txt.isDate (Txt.byte s) ∧ e = .returned (.tuple #[.int .i64 (dayN (Txt.yOf (Txt.byte s)) (Txt.mOf (Txt.byte s)) (Txt.dOf (Txt.byte s))), .int .i64 (dayE (Txt.yOf (Txt.byte s)) (Txt.mOf (Txt.byte s)) (Txt.dOf (Txt.byte s)))])) ∨
      (¬ Txt.isDate (Txt.byte s) ∧ e = .returned (.tuple #[.int .i64 0, .int .i64 13]))) ∧ Below w.heap.size w w' := by
  have cv : ∀ W, (convert 9 56 (.string s)).run Tryd.prog W = .ok (.slice (some ⟨W.heap.size, 0, none⟩) 10 (grownCap W s.size 0 5)) (Lib.bytesWorld W 5 s) := fun W => by
    have := Lib.run_convert_string_bytes (P := Tryd.prog) W 9 56 5 s Tryd.underlying9 Tryd.underlying56 Tryd.underlying5
    rw [hs] at this ⊢
    exact this
  have hp := hT.pos
  have HT := Lib.hid hT
  clear hT
  have P0 := PMem.start w s hs
  go_enter Tryd.func22, Tryd.ntmps22
  go_wp2_with fail
  go_step3
  go_wp2_with fail
  go_step3
  go_wp2_with fail
  generalize Lib.bytesWorld (w.alloc (.cells #[.int .i64 0, .int .i64 0, .int .i64 0] 37)) 5 s = w1 at *
  generalize grownCap (w.alloc (.cells #[.int .i64 0, .int .i64 0, .int .i64 0] 37)) s.size 0 5 = cap at *
  have HP0 := Lib.hid P0
  clear cv P0
  go_loopw [5, 6, 15] (fun kv fv iv wr => ∃ (i : Nat) (q : Int), kv = .int .i64 q ∧ q = (Txt.which i : Nat) ∧ fv = .bool true ∧ iv = .int .i64 i ∧ i ≤ 10 ∧ Hid (∀ j, j < i → Txt.fitsAt (Txt.byte s) j) ∧ PMem w wr s (Txt.part (Txt.byte s) i 0) (Txt.part (Txt.byte s) i 1) (Txt.part (Txt.byte s) i 2)) (fun _ _ iv _ => 10 - (intOf iv).toNat)
  case atStart => exact ⟨0, 0, rfl, rfl, rfl, rfl, Nat.zero_le _, fun j hj => by omega, HP0.out⟩
  case round =>
    obtain ⟨i, q, rfl, hq, rfl, rfl, hi, hfit, hP⟩ := hrel
    have HP := Lib.hid hP
    have HF := Lib.hid hfit.out
    obtain ⟨⟨a0, a1⟩, ⟨a2, a3⟩, ⟨a4, a5⟩⟩ := Txt.part_bd hi HF.out
    obtain ⟨c0, c1, c2, f0, f1, f2⟩ := hP.cells
    clear hP hfit
    by_cases hlt : i < 10
    · have hx := HP.out.row i hlt
      obtain ⟨x0, x1⟩ := Txt.byte_bd s i
      have HFIT : Hid (Txt.fitsAt (Txt.byte s) i → ∀ j, j < i + 1 → Txt.fitsAt (Txt.byte s) j) := fun h => Txt.fits_succ HF.out h
      have HNOT : Hid (¬ Txt.fitsAt (Txt.byte s) i → ¬ Txt.isDate (Txt.byte s)) := fun h h' => h (h' i hlt)
      have HB : Hid (Below w.heap.size w wr) := HP.out.bel
      by_cases hd : i = 4 ∨ i = 7
      · obtain ⟨p0, p1, p2, p3, p4⟩ := Txt.part_d (f := Txt.byte s) hd
        have HFI : Hid (Txt.fitsAt (Txt.byte s) i ↔ Txt.byte s i = 45) := by unfold Hid Txt.fitsAt; rw [if_pos hd]
        have HP' : Hid (PMem w wr s (Txt.part (Txt.byte s) (i + 1) 0) (Txt.part (Txt.byte s) (i + 1) 1) (Txt.part (Txt.byte s) (i + 1) 2)) := by rw [p0, p1, p2]; exact HP.out
        have HW : Hid ((Txt.which (i + 1) : Nat) = q + 1) := by unfold Hid; rw [p3, hq]; simp
        have hq1 : 0 ≤ q ∧ q ≤ 1 := by rw [hq]; omega
        clear p0 p1 p2 p3 p4 hq
        generalize Txt.byte s i = x at *
        have hc : ((i : Int) == 4) = true ∨ ((i : Int) == 4) = false ∧ ((i : Int) == 7) = true := by
          rcases hd with rfl | rfl
          · exact .inl rfl
          · exact .inr ⟨rfl, rfl⟩
        clear hd
        by_cases hx45 : x = 45
        · have hxb : (x == 45) = true := by simp [hx45]
          have H45 := Lib.hid hx45
          clear hx45
          rcases hc with hc | ⟨hc, hc7⟩
          all_goals
            go_wp2_with fail
            go_roundw
            case rel => exact ⟨i + 1, q + 1, rfl, HW.out.symm, rfl, rfl, by omega, HFIT.out (HFI.out.2 H45.out), HP'.out⟩
            case measure => simp [intOf]; omega
        · have hxb : (x == 45) = false := by simp [hx45]
          have H45 := Lib.hid hx45
          clear hx45
          rcases hc with hc | ⟨hc, hc7⟩
          all_goals
            go_wp2_with fail
            (try rw [Exit.noGoto_ret])
            go_ret2
            exact ⟨.inr ⟨HNOT.out (fun h => H45.out (HFI.out.1 h)), rfl⟩, HB.out⟩
      · have h4 : ((i : Int) == 4) = false := by simp; omega
        have h7 : ((i : Int) == 7) = false := by simp; omega
        have HFI : Hid (Txt.fitsAt (Txt.byte s) i ↔ Txt.dig (Txt.byte s i)) := by unfold Hid Txt.fitsAt; rw [if_neg hd]
        by_cases k0 : i < 4
        · skip
          obtain ⟨p0, p1, p2, p3, p4⟩ := Txt.part_0 (f := Txt.byte s) k0
          obtain rfl : q = 0 := by rw [hq, p3]; rfl
          have HSET : Hid (PMem w (wr.setCell ⟨w.heap.size, 0, none⟩ (.int .i64 (10 * Txt.part (Txt.byte s) i 0 + Txt.byte s i - 48))) s (Txt.part (Txt.byte s) (i + 1) 0) (Txt.part (Txt.byte s) (i + 1) 1) (Txt.part (Txt.byte s) (i + 1) 2)) := by
            unfold Hid
            rw [p0, p1, p2, ← Int.add_sub_assoc]
            exact HP.out.set 0 _
          have HW : Hid ((Txt.which (i + 1) : Nat) = (0 : Int)) := by unfold Hid; rw [p4]; rfl
          clear p0 p1 p2 p3 p4 hq
          generalize Txt.byte s i = x at *
          generalize Txt.part (Txt.byte s) i 0 = n0 at *
          generalize Txt.part (Txt.byte s) i 1 = n1 at *
          generalize Txt.part (Txt.byte s) i 2 = n2 at *
          by_cases x48 : 48 ≤ x
          · by_cases x57 : x ≤ 57
            · go_wp2_with fail
              go_roundw
              case rel => exact ⟨i + 1, 0, rfl, HW.out.symm, rfl, rfl, by omega, HFIT.out (HFI.out.2 ⟨x48, x57⟩), HSET.out⟩
              case measure => simp [intOf]; omega
            · have hxx : decide (x ≤ 57) = false := by simp; omega
              go_wp2_with fail
              (try rw [Exit.noGoto_ret])
              go_ret2
              exact ⟨.inr ⟨HNOT.out (fun h => by have := (HFI.out.1 h).2; omega), rfl⟩, HSET.out.bel⟩
          · have hxx : decide (48 ≤ x) = false := by simp; omega
            go_wp2_with fail
            (try rw [Exit.noGoto_ret])
            go_ret2
            exact ⟨.inr ⟨HNOT.out (fun h => by have := (HFI.out.1 h).1; omega), rfl⟩, HSET.out.bel⟩
        · by_cases k1 : i < 7
          · have k5 : 5 ≤ i := by omega
            obtain ⟨p0, p1, p2, p3, p4⟩ := Txt.part_1 (f := Txt.byte s) k5 k1
            obtain rfl : q = 1 := by rw [hq, p3]; rfl
            have HSET : Hid (PMem w (wr.setCell ⟨w.heap.size, 1, none⟩ (.int .i64 (10 * Txt.part (Txt.byte s) i 1 + Txt.byte s i - 48))) s (Txt.part (Txt.byte s) (i + 1) 0) (Txt.part (Txt.byte s) (i + 1) 1) (Txt.part (Txt.byte s) (i + 1) 2)) := by
              unfold Hid
              rw [p0, p1, p2, ← Int.add_sub_assoc]
              exact HP.out.set 1 _
            have HW : Hid ((Txt.which (i + 1) : Nat) = (1 : Int)) := by unfold Hid; rw [p4]; rfl
            clear p0 p1 p2 p3 p4 hq
            generalize Txt.byte s i = x at *
            generalize Txt.part (Txt.byte s) i 0 = n0 at *
            generalize Txt.part (Txt.byte s) i 1 = n1 at *
            generalize Txt.part (Txt.byte s) i 2 = n2 at *
            by_cases x48 : 48 ≤ x
            · by_cases x57 : x ≤ 57
              · go_wp2_with fail
                go_roundw
                case rel => exact ⟨i + 1, 1, rfl, HW.out.symm, rfl, rfl, by omega, HFIT.out (HFI.out.2 ⟨x48, x57⟩), HSET.out⟩
                case measure => simp [intOf]; omega
              · have hxx : decide (x ≤ 57) = false := by simp; omega
                go_wp2_with fail
                (try rw [Exit.noGoto_ret])
                go_ret2
                exact ⟨.inr ⟨HNOT.out (fun h => by have := (HFI.out.1 h).2; omega), rfl⟩, HSET.out.bel⟩
            · have hxx : decide (48 ≤ x) = false := by simp; omega
              go_wp2_with fail
              (try rw [Exit.noGoto_ret])
              go_ret2
              exact ⟨.inr ⟨HNOT.out (fun h => by have := (HFI.out.1 h).1; omega), rfl⟩, HSET.out.bel⟩
          · have k8 : 8 ≤ i := by omega
            obtain ⟨p0, p1, p2, p3, p4⟩ := Txt.part_2 (f := Txt.byte s) k8 hlt
            obtain rfl : q = 2 := by rw [hq, p3]; rfl
            have HSET : Hid (PMem w (wr.setCell ⟨w.heap.size, 2, none⟩ (.int .i64 (10 * Txt.part (Txt.byte s) i 2 + Txt.byte s i - 48))) s (Txt.part (Txt.byte s) (i + 1) 0) (Txt.part (Txt.byte s) (i + 1) 1) (Txt.part (Txt.byte s) (i + 1) 2)) := by
              unfold Hid
              rw [p0, p1, p2, ← Int.add_sub_assoc]
              exact HP.out.set 2 _
            have HW : Hid ((Txt.which (i + 1) : Nat) = (2 : Int)) := by unfold Hid; rw [p4]; rfl
            clear p0 p1 p2 p3 p4 hq
            generalize Txt.byte s i = x at *
            generalize Txt.part (Txt.byte s) i 0 = n0 at *
            generalize Txt.part (Txt.byte s) i 1 = n1 at *
            generalize Txt.part (Txt.byte s) i 2 = n2 at *
            by_cases x48 : 48 ≤ x
            · by_cases x57 : x ≤ 57
              · go_wp2_with fail
                go_roundw
                case rel => exact ⟨i + 1, 2, rfl, HW.out.symm, rfl, rfl, by omega, HFIT.out (HFI.out.2 ⟨x48, x57⟩), HSET.out⟩
                case measure => simp [intOf]; omega
              · have hxx : decide (x ≤ 57) = false := by simp; omega
                go_wp2_with fail
                (try rw [Exit.noGoto_ret])
                go_ret2
                exact ⟨.inr ⟨HNOT.out (fun h => by have := (HFI.out.1 h).2; omega), rfl⟩, HSET.out.bel⟩
            · have hxx : decide (48 ≤ x) = false := by simp; omega
              go_wp2_with fail
              (try rw [Exit.noGoto_ret])
              go_ret2
              exact ⟨.inr ⟨HNOT.out (fun h => by have := (HFI.out.1 h).1; omega), rfl⟩, HSET.out.bel⟩
    · obtain rfl : i = 10 := by omega
      obtain ⟨e0, e1, e2⟩ := Txt.part_end (Txt.byte s)
      rw [e0] at c0
      rw [e1] at c1
      rw [e2] at c2
      have HD : Hid (Txt.isDate (Txt.byte s)) := HF.out
      have HB : Hid (Below w.heap.size w wr) := HP.out.bel
      have HTR : Hid (Tab wr) := HT.out.below HB.out hp
      generalize hyy : Txt.yOf (Txt.byte s) = y at *
      generalize hmm : Txt.mOf (Txt.byte s) = m at *
      generalize hdd : Txt.dOf (Txt.byte s) = d at *
      have HY := Lib.hid hyy
      have HM := Lib.hid hmm
      have HDD := Lib.hid hdd
      clear hyy hmm hdd
      go_wp2_with fail
      refine (Day_any y m d _ HTR.out).mono ?_; rintro e w2 ⟨rfl, b2⟩
      have hb2 := Lib.hid b2
      clear b2
      go_wp2_with fail
      (try rw [Exit.noGoto_ret])
      go_ret2
      exact ⟨.inl ⟨HD.out, by rw [HY.out, HM.out, HDD.out]; rfl⟩, HB.out.trans (hb2.out.mono HB.out.size)⟩
end Go.Proofs.YtkbfbgapfmlfkaaDoor
