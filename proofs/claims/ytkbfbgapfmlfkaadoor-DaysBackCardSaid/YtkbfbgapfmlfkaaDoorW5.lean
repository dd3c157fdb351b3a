import Derived.Test.YtkbfbgapfmlfkaaDoorW4
namespace Go.Proofs.YtkbfbgapfmlfkaaDoor
open Go.RowKit

set_option maxHeartbeats 400000 in
theorem refDay_yes (y m d : Int) (w : World) (h : okDate y m d) :
    Calls Tryd.prog 19 #[.agg #[.int .i64 y, .int .i64 m, .int .i64 d]] w fun e w' => e = .returned (.int .i64 (numDate y m d)) ∧ Below w.heap.size w w' := by
  have hl := long_31 y m
  obtain ⟨h1, h2, h3, h4, h5, h6⟩ := h
  have g1 : decide (y < 2000) = false := by simp; omega
  have g2 : decide (2199 < y) = false := by simp; omega
  have g3 : decide (m < 1) = false := by simp; omega
  have g4 : decide (12 < m) = false := by simp; omega
  have g5 : decide (d < 1) = false := by simp; omega
  have g6 : decide (Cal.long y m < d) = false := by simp; omega
  obtain ⟨a, b, _, _⟩ := mm_parts h1 h2 h3 h4
  have hb := Cal.S_bd a (by omega)
  have hn : Hid (Cal.S ((y - 2000) * 12 + m - 1) + d - 1 = numDate y m d) := rfl
  have he : Hid (12 * (y - 2000) + m - 1 = (y - 2000) * 12 + m - 1) := by unfold Hid; omega
  go_enter Tryd.func19, Tryd.ntmps19
  go_wp2_with fail
  go_quiet ((go_at_call 29; exact quiet_eq (long_any _ _ _ (by omega))))
  go_wp2_with fail
  rw [he.out]
  refine (refMonth_any _ _ a b).mono ?_; rintro e w' ⟨rfl, rfl⟩
  go_wp2_with fail
  go_ret
  refine ⟨ret_int hn.out, ?_⟩
  repeat (first | exact Below.refl _ _ | refine Below.drewN ?_ _ | refine Below.alloc ?_ (by simp) _)

set_option maxHeartbeats 400000 in
theorem refDay_no1 (y m d : Int) (w : World)  (k1 : y < 2000) :
    Calls Tryd.prog 19 #[.agg #[.int .i64 y, .int .i64 m, .int .i64 d]] w fun e w' => e = .returned (.int .i64 (-1)) ∧ Below w.heap.size w w' := by
  have g1 : decide (y < 2000) = true := by simpa using k1
  go_enter Tryd.func19, Tryd.ntmps19
  go_wp2_with fail
  go_quiet (fail)
  go_wp2_with fail
  go_ret
  refine ⟨rfl, ?_⟩
  repeat (first | exact Below.refl _ _ | refine Below.drewN ?_ _ | refine Below.alloc ?_ (by simp) _)

set_option maxHeartbeats 400000 in
theorem refDay_no2 (y m d : Int) (w : World) (k1 : ¬ y < 2000) (k2 : 2199 < y) :
    Calls Tryd.prog 19 #[.agg #[.int .i64 y, .int .i64 m, .int .i64 d]] w fun e w' => e = .returned (.int .i64 (-1)) ∧ Below w.heap.size w w' := by
  have g1 : decide (y < 2000) = false := by simpa using k1
  have g2 : decide (2199 < y) = true := by simpa using k2
  go_enter Tryd.func19, Tryd.ntmps19
  go_wp2_with fail
  go_quiet (fail)
  go_wp2_with fail
  go_ret
  refine ⟨rfl, ?_⟩
  repeat (first | exact Below.refl _ _ | refine Below.drewN ?_ _ | refine Below.alloc ?_ (by simp) _)

set_option maxHeartbeats 400000 in
theorem refDay_no3 (y m d : Int) (w : World) (k1 : ¬ y < 2000) (k2 : ¬ 2199 < y) (k3 : m < 1) :
    Calls Tryd.prog 19 #[.agg #[.int .i64 y, .int .i64 m, .int .i64 d]] w fun e w' => e = .returned (.int .i64 (-1)) ∧ Below w.heap.size w w' := by
  have g1 : decide (y < 2000) = false := by simpa using k1
  have g2 : decide (2199 < y) = false := by simpa using k2
  have g3 : decide (m < 1) = true := by simpa using k3
  go_enter Tryd.func19, Tryd.ntmps19
  go_wp2_with fail
  go_quiet (fail)
  go_wp2_with fail
  go_ret
  refine ⟨rfl, ?_⟩
  repeat (first | exact Below.refl _ _ | refine Below.drewN ?_ _ | refine Below.alloc ?_ (by simp) _)

set_option maxHeartbeats 400000 in
theorem refDay_no4 (y m d : Int) (w : World) (k1 : ¬ y < 2000) (k2 : ¬ 2199 < y) (k3 : ¬ m < 1) (k4 : 12 < m) :
    Calls Tryd.prog 19 #[.agg #[.int .i64 y, .int .i64 m, .int .i64 d]] w fun e w' => e = .returned (.int .i64 (-1)) ∧ Below w.heap.size w w' := by
  have g1 : decide (y < 2000) = false := by simpa using k1
  have g2 : decide (2199 < y) = false := by simpa using k2
  have g3 : decide (m < 1) = false := by simpa using k3
  have g4 : decide (12 < m) = true := by simpa using k4
  go_enter Tryd.func19, Tryd.ntmps19
  go_wp2_with fail
  go_quiet (fail)
  go_wp2_with fail
  go_ret
  refine ⟨rfl, ?_⟩
  repeat (first | exact Below.refl _ _ | refine Below.drewN ?_ _ | refine Below.alloc ?_ (by simp) _)

set_option maxHeartbeats 400000 in
theorem refDay_no5 (y m d : Int) (w : World) (k1 : ¬ y < 2000) (k2 : ¬ 2199 < y) (k3 : ¬ m < 1) (k4 : ¬ 12 < m) (k5 : d < 1) :
    Calls Tryd.prog 19 #[.agg #[.int .i64 y, .int .i64 m, .int .i64 d]] w fun e w' => e = .returned (.int .i64 (-1)) ∧ Below w.heap.size w w' := by
  have g1 : decide (y < 2000) = false := by simpa using k1
  have g2 : decide (2199 < y) = false := by simpa using k2
  have g3 : decide (m < 1) = false := by simpa using k3
  have g4 : decide (12 < m) = false := by simpa using k4
  have g5 : decide (d < 1) = true := by simpa using k5
  go_enter Tryd.func19, Tryd.ntmps19
  go_wp2_with fail
  go_quiet (fail)
  go_wp2_with fail
  go_ret
  refine ⟨rfl, ?_⟩
  repeat (first | exact Below.refl _ _ | refine Below.drewN ?_ _ | refine Below.alloc ?_ (by simp) _)

set_option maxHeartbeats 400000 in
theorem refDay_no6 (y m d : Int) (w : World) (k1 : ¬ y < 2000) (k2 : ¬ 2199 < y) (k3 : ¬ m < 1) (k4 : ¬ 12 < m) (k5 : ¬ d < 1) (k6 : Cal.long y m < d) :
    Calls Tryd.prog 19 #[.agg #[.int .i64 y, .int .i64 m, .int .i64 d]] w fun e w' => e = .returned (.int .i64 (-1)) ∧ Below w.heap.size w w' := by
  have g1 : decide (y < 2000) = false := by simpa using k1
  have g2 : decide (2199 < y) = false := by simpa using k2
  have g3 : decide (m < 1) = false := by simpa using k3
  have g4 : decide (12 < m) = false := by simpa using k4
  have g5 : decide (d < 1) = false := by simpa using k5
  have g6 : decide (Cal.long y m < d) = true := by simpa using k6
  have hl := long_31 y m
  go_enter Tryd.func19, Tryd.ntmps19
  go_wp2_with fail
  go_quiet ((go_at_call 29; exact quiet_eq (long_any _ _ _ (by omega))))
  go_wp2_with fail
  go_ret
  refine ⟨rfl, ?_⟩
  repeat (first | exact Below.refl _ _ | refine Below.drewN ?_ _ | refine Below.alloc ?_ (by simp) _)

theorem refDay_no (y m d : Int) (w : World) (h : ¬ okDate y m d) :
    Calls Tryd.prog 19 #[.agg #[.int .i64 y, .int .i64 m, .int .i64 d]] w fun e w' => e = .returned (.int .i64 (-1)) ∧ Below w.heap.size w w' := by
  by_cases k1 : y < 2000
  · exact refDay_no1 y m d w k1
  by_cases k2 : 2199 < y
  · exact refDay_no2 y m d w k1 k2
  by_cases k3 : m < 1
  · exact refDay_no3 y m d w k1 k2 k3
  by_cases k4 : 12 < m
  · exact refDay_no4 y m d w k1 k2 k3 k4
  by_cases k5 : d < 1
  · exact refDay_no5 y m d w k1 k2 k3 k4 k5
  by_cases k6 : Cal.long y m < d
  · exact refDay_no6 y m d w k1 k2 k3 k4 k5 k6
  exact (h ⟨by omega, by omega, by omega, by omega, by omega, by omega⟩).elim

end Go.Proofs.YtkbfbgapfmlfkaaDoor
