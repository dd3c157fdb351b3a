import Derived.Test.YtkbfbgapfmlfkaaDoorW5
import Derived.Deep.DeepCutAuto
namespace Go.Proofs.YtkbfbgapfmlfkaaDoor
open Go.RowKit

set_option maxHeartbeats 400000 in
theorem next_1 (y m d : Int) (w : World) (_hl : 28 ≤ Cal.long y m ∧ Cal.long y m ≤ 31) (h1 : 2000 ≤ y) (h2 : y ≤ 2199) (h3 : 1 ≤ m) (h4 : m ≤ 12) (h5 : 1 ≤ d) (h6 : d ≤ 31) (c1 : Cal.long y m < d + 1) (c2 : m < 12) :
    Calls Tryd.prog 24 #[.agg #[.int .i64 y, .int .i64 m, .int .i64 d]] w fun e w' => e = .returned (.agg #[.int .i64 y, .int .i64 (m + 1), .int .i64 1]) ∧ Below w.heap.size w w' := by
  have g1 : decide (Cal.long y m < d + 1) = true := by simpa using c1
  go_enter Tryd.func24, Tryd.ntmps24
  go_wp2_with fail
  go_quiet ((go_at_call 29; exact quiet_eq (long_any _ _ _ (by omega))))
  go_wp2_with fail
  refine bodyPost_ret (v := .agg #[.int .i64 y, .int .i64 (m + 1), .int .i64 1]) (by simp [results, Tryd.results24, go_sem]) rfl ⟨rfl, ?_⟩
  repeat (first | with_reducible exact Below.refl _ _ | refine Below.setCell ?_ (by simp) _ | refine Below.drewN ?_ _ | refine Below.alloc ?_ (by simp) _)

set_option maxHeartbeats 400000 in
theorem next_2 (y m d : Int) (w : World) (_hl : 28 ≤ Cal.long y m ∧ Cal.long y m ≤ 31) (h1 : 2000 ≤ y) (h2 : y ≤ 2199) (h3 : 1 ≤ m) (h4 : m ≤ 12) (h5 : 1 ≤ d) (h6 : d ≤ 31) (c1 : Cal.long y m < d + 1) (c2 : ¬ m < 12) :
    Calls Tryd.prog 24 #[.agg #[.int .i64 y, .int .i64 m, .int .i64 d]] w fun e w' => e = .returned (.agg #[.int .i64 (y + 1), .int .i64 1, .int .i64 1]) ∧ Below w.heap.size w w' := by
  have g1 : decide (Cal.long y m < d + 1) = true := by simpa using c1
  go_enter Tryd.func24, Tryd.ntmps24
  go_wp2_with fail
  go_quiet ((go_at_call 29; exact quiet_eq (long_any _ _ _ (by omega))))
  go_upto_if 14 with fail
  go_cut [] (fun wx => wx.cell? ⟨w.heap.size, 0, none⟩ = some (.int .i64 y) ∧ wx.cell? ⟨w.heap.size, 1, none⟩ = some (.int .i64 (m + 1)) ∧ wx.cell? ⟨w.heap.size, 2, none⟩ = some (.int .i64 1) ∧
      (∀ i, i < 3 → wx.frozen? ⟨w.heap.size, i, none⟩ = false) ∧ (∀ i, i < 3 → ∃ v, wx.cell? ⟨w.heap.size + 1, i, none⟩ = some v) ∧ (∀ i, i < 3 → wx.frozen? ⟨w.heap.size + 1, i, none⟩ = false) ∧ Below w.heap.size w wx)
  case first =>
    go_wp2_with fail
    go_meet
    refine ⟨by simp [go_sem], by simp [go_sem], by simp [go_sem], ?_, ?_, ?_, ?_⟩
    · intro i hi; simp [go_sem]
    · intro i hi; rcases i with _ | _ | _ | i <;> first | omega | simp [go_sem]
    · intro i hi; simp [go_sem]
    · repeat (first | with_reducible exact Below.refl _ _ | refine Below.setCell ?_ (by simp) _ | refine Below.drewN ?_ _ | refine Below.alloc ?_ (by simp) _)
  case rest =>
    obtain ⟨k0, k1, k2, kf, kc, kg, hb⟩ := hcut
    have f0 := kf 0 (by omega)
    have f1 := kf 1 (by omega)
    have g0 := kg 0 (by omega)
    have g1 := kg 1 (by omega)
    have g2 := kg 2 (by omega)
    obtain ⟨v0, c0⟩ := kc 0 (by omega)
    obtain ⟨v1, c1⟩ := kc 1 (by omega)
    obtain ⟨v2, c2⟩ := kc 2 (by omega)
    clear kf kc kg
    go_wp2_with fail
    refine bodyPost_ret (v := .agg #[.int .i64 (y + 1), .int .i64 1, .int .i64 1]) (by simp [results, Tryd.results24, go_sem, c0, c1, c2]) rfl ⟨rfl, ?_⟩
    repeat (first | with_reducible exact hb | refine Below.setCell ?_ (by simp) _)
set_option maxHeartbeats 400000 in
theorem next_3 (y m d : Int) (w : World) (_hl : 28 ≤ Cal.long y m ∧ Cal.long y m ≤ 31) (h1 : 2000 ≤ y) (h2 : y ≤ 2199) (h3 : 1 ≤ m) (h4 : m ≤ 12) (h5 : 1 ≤ d) (h6 : d ≤ 31) (c1 : ¬ Cal.long y m < d + 1) :
    Calls Tryd.prog 24 #[.agg #[.int .i64 y, .int .i64 m, .int .i64 d]] w fun e w' => e = .returned (.agg #[.int .i64 y, .int .i64 m, .int .i64 (d + 1)]) ∧ Below w.heap.size w w' := by
  have g1 : decide (Cal.long y m < d + 1) = false := by simpa using c1
  go_enter Tryd.func24, Tryd.ntmps24
  go_wp2_with fail
  go_quiet ((go_at_call 29; exact quiet_eq (long_any _ _ _ (by omega))))
  go_wp2_with fail
  refine bodyPost_ret (v := .agg #[.int .i64 y, .int .i64 m, .int .i64 (d + 1)]) (by simp [results, Tryd.results24, go_sem]) rfl ⟨rfl, ?_⟩
  repeat (first | with_reducible exact Below.refl _ _ | refine Below.setCell ?_ (by simp) _ | refine Below.drewN ?_ _ | refine Below.alloc ?_ (by simp) _)

/-- The day behind a day: year, month and date. -/
def nextV (y m d : Int) : Int × Int × Int :=
  if d + 1 ≤ Cal.long y m then (y, m, d + 1) else if m < 12 then (y, m + 1, 1) else (y + 1, 1, 1)

theorem next_any (y m d : Int) (w : World) (h : okDate y m d) :
    Calls Tryd.prog 24 #[.agg #[.int .i64 y, .int .i64 m, .int .i64 d]] w fun e w' => e = .returned (.agg #[.int .i64 (nextV y m d).1, .int .i64 (nextV y m d).2.1, .int .i64 (nextV y m d).2.2]) ∧ Below w.heap.size w w' := by
  have hl := long_31 y m
  obtain ⟨h1, h2, h3, h4, h5, h6⟩ := h
  unfold nextV
  by_cases c1 : Cal.long y m < d + 1
  · rw [if_neg (by omega)]
    by_cases c2 : m < 12
    · rw [if_pos c2]; exact next_1 y m d w hl h1 h2 h3 h4 h5 (by omega) c1 c2
    · rw [if_neg c2]; exact next_2 y m d w hl h1 h2 h3 h4 h5 (by omega) c1 c2
  · rw [if_pos (by omega)]; exact next_3 y m d w hl h1 h2 h3 h4 h5 (by omega) c1
end Go.Proofs.YtkbfbgapfmlfkaaDoor
