import Derived.Test.YtkbfbgapfmlfkaaDoorW8
namespace Go.Proofs.YtkbfbgapfmlfkaaDoor
open Go.RowKit

theorem num_2000 : numDate 2000 3 1 = 60 := by decide +kernel
theorem ok_2000 : okDate 2000 3 1 := by unfold okDate; exact ⟨by omega, by omega, by omega, by omega, by omega, by decide +kernel⟩
theorem Mo_30 : Cal.Mo 30 = 0 := Cal.Mo_eq (by omega) (by omega) (by decide +kernel) (by decide +kernel)
theorem Mo_last : Cal.Mo 73048 = 2399 := Cal.Mo_eq (by omega) (by omega) (by decide +kernel) (by decide +kernel)
theorem on_30 : onV 30 1 = 59 := by
  unfold onV
  rw [Mo_30]
  decide +kernel
theorem S_last : Cal.S 2399 = 73018 := by decide +kernel
theorem text_last : strOfNums (Txt.date (2000 + Cal.Mo 73048 / 12) (Cal.Mo 73048 % 12 + 1) (73048 - Cal.S (Cal.Mo 73048) + 1)) = ⟨#[50, 49, 57, 57, 45, 49, 50, 45, 51, 49]⟩ := by
  rw [Mo_last, S_last]
  unfold Txt.date
  rw [Txt.digs_4, Txt.digs_2, Txt.digs_2]
  rfl

set_option maxHeartbeats 400000 in
theorem awake_any (w : World) (hT : Tab w) :
    Calls Tryd.prog 15 #[] w fun e w' => e = .returned (.bool true) ∧ Below w.heap.size w w' := by
  have hp := hT.pos
  have HT := Lib.hid hT
  clear hT
  have hM0 : - Cal.Mo 30 ≤ 1 := by rw [Mo_30]; omega
  have hM1 : 1 ≤ 2399 - Cal.Mo 30 := by rw [Mo_30]; omega
  go_enter Tryd.func15, Tryd.ntmps15
  go_wp2_with fail
  refine (Day_yes _ _ _ _ HT.out ok_2000).mono ?_; rintro e w1 ⟨rfl, b1⟩
  rw [num_2000]
  go_wp2_with fail
  refine (Months_yes _ _ _ (by omega) (by omega) (HT.out.below b1 hp) hM0 hM1).mono ?_; rintro e w2 ⟨rfl, b2⟩
  rw [on_30]
  go_wp2_with fail
  have t2 : Hid (Tab w2) := (HT.out.below b1 hp).below b2 (Nat.lt_of_lt_of_le hp b1.size)
  refine (Print_yes _ _ (by omega) (by omega) t2.out).mono ?_; rintro e w3 ⟨rfl, b3⟩
  rw [text_last]
  go_wp2_with fail
  refine (Weekday_yes _ _ (by omega) (by omega)).mono ?_; rintro e w4 ⟨rfl, rfl⟩
  go_wp2_with fail
  go_ret
  refine ⟨rfl, b1.trans ((b2.mono b1.size).trans (b3.mono (Nat.le_trans b1.size b2.size)))⟩
end Go.Proofs.YtkbfbgapfmlfkaaDoor
