import Derived.Test.YtkbfbgapfmlfkaaDoorRows
import Derived.Test.YtkbfbgapfmlfkaaDoorMath
import Derived.WalkKit
import Derived.ProofKit
import Derived.OpenShut
import Derived.Lib.Hide
import Derived.IntWalk
import Derived.BigQuiet
import Derived.Deep.QuietTactic
namespace Go.Proofs.YtkbfbgapfmlfkaaDoor
open Go.RowKit

theorem ret_int {k : IntKind} {a b : Int} (h : a = b) : Ending.returned (.int k a) = .returned (.int k b) := by rw [h]
theorem ret_bool {a b : Bool} (h : a = b) : Ending.returned (.bool a) = .returned (.bool b) := by rw [h]

/-- A contract that leaves the world alone, met in a quiet region. -/
theorem quiet_eq {P : Program} {f : FuncId} {args : Array Value} {w : World} {n : Nat} {v : Value}
    (h : Calls P f args (w.drewN n) fun e w' => e = .returned v ∧ w.drewN n = w') : Calls P f args (w.drewN n) fun e w'' => e = .returned v ∧ ∃ m, w'' = w.drewN m :=
  h.mono fun _ _ ⟨he, hm⟩ => ⟨he, n, hm.symm⟩

theorem leap_any (y : Int) (w : World) (h : 0 ≤ y) (h2 : y ≤ 100000) :
    Calls Tryd.prog 34 #[.int .i64 y] w fun e w' => e = .returned (.int .i64 (Cal.lp y)) ∧ w = w' := by
  go_enter Tryd.func34, Tryd.ntmps34
  go_wp2
  all_goals go_ret
  all_goals refine ⟨ret_int ?_, rfl⟩
  all_goals simp_all [Cal.lp]

theorem year_any (y : Int) (w : World) (h : 2000 ≤ y) (h2 : y ≤ 2200) :
    Calls Tryd.prog 33 #[.int .i64 y] w fun e w' => e = .returned (.int .i64 (Cal.yr y)) ∧ w = w' := by
  by_cases h3 : 2100 < y
  all_goals
    go_enter Tryd.func33, Tryd.ntmps33
    go_wp2
    go_ret
    refine ⟨ret_int ?_, rfl⟩
    unfold Cal.yr
    split <;> omega

theorem right_any (d : Int) (w : World) :
    Calls Tryd.prog 25 #[.int .i64 d] w fun e w' => e = .returned (.bool (decide (0 ≤ d ∧ d ≤ 73048))) ∧ w = w' := by
  by_cases h1 : 0 ≤ d <;> by_cases h2 : d ≤ 73048
  all_goals
    go_enter Tryd.func25, Tryd.ntmps25
    go_wp2
    go_ret
    exact ⟨ret_bool (by simp [h1, h2]), rfl⟩

/-- What the table's cells hold. -/
def Tab (w : World) : Prop := ∀ i : Nat, i < 13 → w.cell? ⟨0, i, none⟩ = some (.int .i64 (Cal.ahead i))

theorem ahead_bd (i : Nat) : 0 ≤ Cal.ahead i ∧ Cal.ahead i ≤ 365 := by
  unfold Cal.ahead
  rcases i with _ | _ | _ | _ | _ | _ | _ | _ | _ | _ | _ | _ | _ | i <;> simp

theorem yr_bd {y : Int} (h : 2000 ≤ y) (h2 : y ≤ 2200) : 0 ≤ Cal.yr y ∧ Cal.yr y ≤ 100000 := by
  unfold Cal.yr; split <;> omega

set_option maxHeartbeats 400000 in
theorem start_any (m : Int) (w : World) (h0 : 0 ≤ m) (h1 : m ≤ 2400) (hT : Tab w) :
    Calls Tryd.prog 27 #[.int .i64 m] w fun e w' => e = .returned (.int .i64 (Cal.S m)) ∧ ∃ n, w' = w.drewN n := by
  have hc := hT (m % 12).toNat (by omega)
  clear hT
  have hb := ahead_bd (m % 12).toNat
  have hy := yr_bd (y := 2000 + m / 12) (by omega) (by omega)
  have hl := Cal.lp_01 (2000 + m / 12)
  have hS : Hid (Cal.S m = Cal.yr (2000 + m / 12) + Cal.ahead (m % 12).toNat + (if 2 ≤ m % 12 then Cal.lp (2000 + m / 12) else 0)) := rfl
  have hm : 0 ≤ m % 12 ∧ m % 12 < 12 := by omega
  generalize Cal.ahead (m % 12).toNat = A at *
  by_cases h2 : 2 ≤ m % 12
  all_goals
    go_enter Tryd.func27, Tryd.ntmps27
    go_wp2
    go_quiet ((go_at_call 33; exact quiet_eq (year_any _ _ (by omega) (by omega))))
    go_wp2_with (go_at_call 34; refine (leap_any _ _ (by omega) (by omega)).mono ?_; rintro e w' ⟨rfl, rfl⟩)
    go_ret
    refine ⟨ret_int ?_, _, rfl⟩
    rw [hS.out]
    split <;> omega
theorem Tab.drewN {w : World} (h : Tab w) (n : Nat) : Tab (w.drewN n) := fun i hi => h i hi

theorem month_any (d : Int) (w : World) (h0 : 0 ≤ d) (h1 : d ≤ 73048) (hT : Tab w) :
    Calls Tryd.prog 26 #[.int .i64 d] w fun e w' => e = .returned (.int .i64 (Cal.Mo d)) ∧ ∃ n, w' = w.drewN n := by
  have HT := Lib.hid hT
  clear hT
  go_enter Tryd.func26, Tryd.ntmps26
  go_wp2
  go_loopw [3] (fun m wr => ∃ k : Int, 0 ≤ k ∧ k ≤ 2399 ∧ Cal.S k ≤ d ∧ m = .int .i64 k ∧ ∃ n, wr = w.drewN n) (fun m _ => (2399 - intOf m).toNat)
  case atStart => exact ⟨d / 31, by omega, by omega, by have := Cal.S_up (a := d / 31) (by omega) (by omega); omega, rfl, 0, rfl⟩
  case round =>
    obtain ⟨k, hk0, hk1, hk2, rfl, n, rfl⟩ := hrel
    by_cases hlt : k < 2399
    · by_cases hle : Cal.S (k + 1) ≤ d
      · go_wp2_with (go_at_call 27; refine (start_any _ _ (by omega) (by omega) (HT.out.drewN _)).mono ?_; rintro e w' ⟨rfl, n2, rfl⟩)
        go_roundw
        case rel => exact ⟨k + 1, by omega, by omega, hle, rfl, n + n2, rfl⟩
        case measure => simp [intOf]; omega
      · have hm := Cal.Mo_eq hk0 hk1 hk2 (by omega)
        have HM := Lib.hid hm
        clear hm
        go_wp2_with (go_at_call 27; refine (start_any _ _ (by omega) (by omega) (HT.out.drewN _)).mono ?_; rintro e w' ⟨rfl, n2, rfl⟩)
        go_ret
        exact ⟨ret_int HM.out.symm, n + n2, rfl⟩
    · have hk : k = 2399 := by omega
      have hm := Cal.Mo_eq hk0 hk1 hk2 (by rw [hk]; have := Cal.S_end; simp; omega)
      have HM := Lib.hid hm
      clear hm hk
      go_wp2_with (go_at_call 27; refine (start_any _ _ (by omega) (by omega) (HT.out.drewN _)).mono ?_; rintro e w' ⟨rfl, n2, rfl⟩)
      go_ret
      exact ⟨ret_int HM.out.symm, n, rfl⟩

end Go.Proofs.YtkbfbgapfmlfkaaDoor
