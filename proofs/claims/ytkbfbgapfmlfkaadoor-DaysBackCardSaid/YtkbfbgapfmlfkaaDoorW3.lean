import Derived.Test.YtkbfbgapfmlfkaaDoorW2
namespace Go.Proofs.YtkbfbgapfmlfkaaDoor
open Go.RowKit

theorem lright_any (d : Int) (w : World) :
    Calls Tryd.prog 14 #[.int .i64 d] w fun e w' => e = .returned (.bool (decide (0 ≤ d ∧ d ≤ 73048))) ∧ w = w' := by
  by_cases h1 : 0 ≤ d <;> by_cases h2 : d ≤ 73048
  all_goals
    go_enter Tryd.func14, Tryd.ntmps14
    go_wp2
    go_ret
    exact ⟨ret_bool (by simp [h1, h2]), rfl⟩

theorem long_any (y m : Int) (w : World) (h : 0 ≤ y) :
    Calls Tryd.prog 29 #[.int .i64 y, .int .i64 m] w fun e w' => e = .returned (.int .i64 (Cal.long y m)) ∧ w = w' := by
  by_cases hm : m = 2
  · subst hm
    go_enter Tryd.func29, Tryd.ntmps29
    go_wp2
    all_goals go_ret
    all_goals refine ⟨ret_int ?_, rfl⟩
    all_goals simp_all [Cal.long, Cal.lp]
  · have h2 : (m == 2) = false := by simpa using hm
    have hL : Hid (Cal.long y m = if m = 4 ∨ m = 6 ∨ m = 9 ∨ m = 11 then 30 else 31) := by unfold Hid Cal.long; rw [if_neg hm]
    clear hm
    by_cases h4 : m = 4
    · subst h4
      go_enter Tryd.func29, Tryd.ntmps29
      go_wp2
      go_ret
      exact ⟨ret_int (by rw [hL.out]; simp), rfl⟩
    by_cases h6 : m = 6
    · subst h6
      go_enter Tryd.func29, Tryd.ntmps29
      go_wp2
      go_ret
      exact ⟨ret_int (by rw [hL.out]; simp), rfl⟩
    by_cases h9 : m = 9
    · subst h9
      go_enter Tryd.func29, Tryd.ntmps29
      go_wp2
      go_ret
      exact ⟨ret_int (by rw [hL.out]; simp), rfl⟩
    by_cases h11 : m = 11
    · subst h11
      go_enter Tryd.func29, Tryd.ntmps29
      go_wp2
      go_ret
      exact ⟨ret_int (by rw [hL.out]; simp), rfl⟩
    have hL2 : Hid (Cal.long y m = 31) := by unfold Hid; rw [hL.out, if_neg (by omega)]
    clear hL
    have k4 : (m == 4) = false := by simpa using h4
    have k6 : (m == 6) = false := by simpa using h6
    have k9 : (m == 9) = false := by simpa using h9
    have k11 : (m == 11) = false := by simpa using h11
    clear h4 h6 h9 h11
    go_enter Tryd.func29, Tryd.ntmps29
    go_wp2
    go_ret
    exact ⟨ret_int (by rw [hL2.out]), rfl⟩

theorem refMonth_any (m : Int) (w : World) (h0 : 0 ≤ m) (h1 : m ≤ 2399) :
    Calls Tryd.prog 13 #[.int .i64 m] w fun e w' => e = .returned (.tuple #[.int .i64 (Cal.S m), .int .i64 (Cal.L m)]) ∧ w = w' := by
  go_enter Tryd.func13, Tryd.ntmps13
  go_wp2_with fail
  go_loop [4, 5] (fun a i => ∃ k : Int, 0 ≤ k ∧ k ≤ m ∧ i = .int .i64 k ∧ a = .int .i64 (Cal.S k)) (fun _ i => (m - intOf i).toNat)
  case atStart => exact ⟨0, by omega, by omega, rfl, by rw [Cal.S_zero]⟩
  case round =>
    obtain ⟨k, hk0, hk1, rfl, rfl⟩ := hrel
    have hS := Cal.S_bd (a := k) (by omega) (by omega)
    have hL := Cal.L_bd k
    have hL' : Hid (Cal.long (2000 + k / 12) (k % 12 + 1) = Cal.L k) := rfl
    by_cases hlt : k < m
    · have hs : Hid (Cal.S (k + 1) = Cal.S k + Cal.L k) := Cal.S_step (by omega) (by omega)
      have e : Cal.L k = Cal.long (2000 + k / 12) (k % 12 + 1) := rfl
      rw [e] at hL
      clear e
      go_wp2_with (go_at_call 29; refine (long_any _ _ _ (by omega)).mono ?_; rintro e w' ⟨rfl, rfl⟩)
      go_round
      case rel => exact ⟨k + 1, by omega, by omega, rfl, by rw [hs.out]; rfl⟩
      case measure => simp [intOf]; omega
    · obtain rfl : k = m := by omega
      clear hlt
      go_wp2_with (go_at_call 29; refine (long_any _ _ _ (by omega)).mono ?_; rintro e w' ⟨rfl, rfl⟩)
      go_ret2
      exact ⟨rfl, rfl⟩
end Go.Proofs.YtkbfbgapfmlfkaaDoor
