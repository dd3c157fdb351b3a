import Derived.Test.YtkbfbgapfmlfkaaDoorW3
namespace Go.Proofs.YtkbfbgapfmlfkaaDoor
open Go.RowKit

theorem refOf_any (d : Int) (w : World) (h0 : 0 ≤ d) (h1 : d ≤ 73048) :
    Calls Tryd.prog 16 #[.int .i64 d] w fun e w' => e = .returned (.agg #[.int .i64 (2000 + Cal.Mo d / 12), .int .i64 (Cal.Mo d % 12 + 1), .int .i64 (d - Cal.S (Cal.Mo d) + 1)]) ∧ Below w.heap.size w w' := by
  go_enter Tryd.func16, Tryd.ntmps16
  go_wp2_with fail
  go_loop [3, 4] (fun a i => ∃ k : Int, 0 ≤ k ∧ k ≤ 2399 ∧ Cal.S k ≤ d ∧ i = .int .i64 k ∧ a = .int .i64 (Cal.S k)) (fun _ i => (2399 - intOf i).toNat)
  case atStart => exact ⟨0, by omega, by omega, by rw [Cal.S_zero]; omega, rfl, by rw [Cal.S_zero]⟩
  case round =>
    obtain ⟨k, hk0, hk1, hk2, rfl, rfl⟩ := hrel
    have hS := Cal.S_bd (a := k) (by omega) (by omega)
    have hL := Cal.L_bd k
    have e : Cal.L k = Cal.long (2000 + k / 12) (k % 12 + 1) := rfl
    have hs0 : Cal.S (k + 1) = Cal.S k + Cal.L k := Cal.S_step (by omega) (by omega)
    rw [e] at hL hs0
    clear e
    have hend := Cal.S_end
    have hlt : d < Cal.S k + Cal.long (2000 + k / 12) (k % 12 + 1) ∨ (Cal.S k + Cal.long (2000 + k / 12) (k % 12 + 1) ≤ d ∧ k < 2399) := by
      rcases Int.lt_or_le d (Cal.S k + Cal.long (2000 + k / 12) (k % 12 + 1)) with h | h
      · exact .inl h
      · refine .inr ⟨h, ?_⟩
        rcases Int.lt_or_le k 2399 with h' | h'
        · exact h'
        · obtain rfl : k = 2399 := by omega
          rw [show (2399 : Int) + 1 = 2400 from rfl, hend] at hs0; omega
    clear hend
    have hs := Lib.hid hs0
    clear hs0
    rcases hlt with hlt | ⟨hle, hlt⟩
    · have hm : Hid (Cal.Mo d = k) := Cal.Mo_eq hk0 hk1 hk2 (by rw [hs.out]; exact hlt)
      go_wp2_with (go_at_call 29; refine (long_any _ _ _ (by omega)).mono ?_; rintro e w' ⟨rfl, rfl⟩)
      refine bodyPost_ret (v := .agg #[.int .i64 (2000 + k / 12), .int .i64 (k % 12 + 1), .int .i64 (d - Cal.S k + 1)]) (by simp [results, Tryd.results16, go_sem]) rfl ⟨by rw [hm.out], ?_⟩
      repeat (first | exact Below.refl _ _ | refine Below.setCell ?_ (by simp) _ | refine Below.drewN ?_ _ | refine Below.alloc ?_ (by simp) _)
    · go_wp2_with (go_at_call 29; refine (long_any _ _ _ (by omega)).mono ?_; rintro e w' ⟨rfl, rfl⟩)
      go_round
      case rel => exact ⟨k + 1, by omega, by omega, by rw [hs.out]; exact hle, rfl, by rw [hs.out]⟩
      case measure => simp [intOf]; omega

theorem Day_ahead (y m d : Int) (w : World) (h : y < 2000 ∨ 2199 < y ∨ m < 1 ∨ 12 < m ∨ d < 1 ∨ 31 < d) :
    Calls Tryd.prog 18 #[.int .i64 y, .int .i64 m, .int .i64 d] w fun e w' => e = .returned (.tuple #[.int .i64 0, .int .i64 18]) ∧ w = w' := by
  have h' : Hid (y < 2000 ∨ 2199 < y ∨ m < 1 ∨ 12 < m ∨ d < 1 ∨ 31 < d) := h
  clear h
  by_cases h1 : y < 2000 <;> by_cases h2 : 2199 < y <;> by_cases h3 : m < 1 <;> by_cases h4 : 12 < m <;> by_cases h5 : d < 1 <;> by_cases h6 : 31 < d
  all_goals try (have := h'.out; omega)
  all_goals
    go_enter Tryd.func18, Tryd.ntmps18
    go_wp2_with fail
    go_ret2
    exact ⟨rfl, rfl⟩

/-- Is there such a day? -/
def okDate (y m d : Int) : Prop := 2000 ≤ y ∧ y ≤ 2199 ∧ 1 ≤ m ∧ m ≤ 12 ∧ 1 ≤ d ∧ d ≤ Cal.long y m
/-- A date's day. -/
def numDate (y m d : Int) : Int := Cal.S ((y - 2000) * 12 + m - 1) + d - 1

theorem mm_parts {y m : Int} (h1 : 2000 ≤ y) (h2 : y ≤ 2199) (h3 : 1 ≤ m) (h4 : m ≤ 12) :
    0 ≤ (y - 2000) * 12 + m - 1 ∧ (y - 2000) * 12 + m - 1 ≤ 2399 ∧ 2000 + ((y - 2000) * 12 + m - 1) / 12 = y ∧ ((y - 2000) * 12 + m - 1) % 12 + 1 = m := by omega

theorem L_mm {y m : Int} (h1 : 2000 ≤ y) (h2 : y ≤ 2199) (h3 : 1 ≤ m) (h4 : m ≤ 12) : Cal.L ((y - 2000) * 12 + m - 1) = Cal.long y m := by
  obtain ⟨_, _, e1, e2⟩ := mm_parts h1 h2 h3 h4
  unfold Cal.L
  rw [e1, e2]

theorem num_ok {y m d : Int} (h : okDate y m d) : 0 ≤ numDate y m d ∧ numDate y m d ≤ 73048 ∧ Cal.Mo (numDate y m d) = (y - 2000) * 12 + m - 1 ∧
    2000 + Cal.Mo (numDate y m d) / 12 = y ∧ Cal.Mo (numDate y m d) % 12 + 1 = m ∧ numDate y m d - Cal.S (Cal.Mo (numDate y m d)) + 1 = d := by
  obtain ⟨h1, h2, h3, h4, h5, h6⟩ := h
  obtain ⟨a, b, e1, e2⟩ := mm_parts h1 h2 h3 h4
  have hs := Cal.S_step a b
  rw [L_mm h1 h2 h3 h4] at hs
  have hb := Cal.S_bd a (by omega)
  have hb2 := Cal.S_bd (a := (y - 2000) * 12 + m - 1 + 1) (by omega) (by omega)
  have hM : Cal.Mo (numDate y m d) = (y - 2000) * 12 + m - 1 := Cal.Mo_eq a b (by unfold numDate; omega) (by unfold numDate; omega)
  rw [hM]
  unfold numDate
  refine ⟨by omega, by omega, rfl, e1, e2, by omega⟩

theorem long_31 (y m : Int) : 28 ≤ Cal.long y m ∧ Cal.long y m ≤ 31 := by
  unfold Cal.long
  have := Cal.lp_01 y
  split
  · omega
  · split <;> omega

set_option maxHeartbeats 400000 in
theorem Day_yes (y m d : Int) (w : World) (hT : Tab w) (h : okDate y m d) :
    Calls Tryd.prog 18 #[.int .i64 y, .int .i64 m, .int .i64 d] w fun e w' => e = .returned (.tuple #[.int .i64 (numDate y m d), .int .i64 0]) ∧ Below w.heap.size w w' := by
  have HT := Lib.hid hT
  clear hT
  obtain ⟨n0, n1, _, e1, e2, e3⟩ := num_ok h
  have E1 := Lib.hid e1
  have E2 := Lib.hid e2
  have E3 := Lib.hid e3
  clear e1 e2 e3
  have hl := long_31 y m
  obtain ⟨h1, h2, h3, h4, h5, h6⟩ := h
  obtain ⟨a, b, _, _⟩ := mm_parts h1 h2 h3 h4
  have hb := Cal.S_bd a (by omega)
  have hn : Hid (Cal.S ((y - 2000) * 12 + m - 1) + d - 1 = numDate y m d) := rfl
  have hd : decide (0 ≤ numDate y m d ∧ numDate y m d ≤ 73048) = true := by simp [n0, n1]
  go_enter Tryd.func18, Tryd.ntmps18
  go_wp2_with fail
  refine (start_any _ _ a (by omega) HT.out).mono ?_; rintro e w' ⟨rfl, k, rfl⟩
  go_wp2_with fail
  rw [hn.out]
  refine (right_any _ _).mono ?_; rintro e w' ⟨rfl, rfl⟩; rw [hd]
  go_wp2_with fail
  refine (of_any _ _ n0 n1 (HT.out.drewN _)).mono ?_; rintro e w' ⟨rfl, hbel⟩
  rw [E1.out, E2.out, E3.out]
  go_wp2_with fail
  go_ret2
  exact ⟨rfl, Below.trans (Below.drewN (Below.refl _ _) _) hbel⟩

theorem num_late {y m d : Int} (h1 : 2000 ≤ y) (h2 : y ≤ 2199) (h3 : 1 ≤ m) (h4 : m ≤ 12) (h5 : Cal.long y m < d) : Cal.S ((y - 2000) * 12 + m - 1 + 1) ≤ numDate y m d := by
  obtain ⟨a, b, e1, e2⟩ := mm_parts h1 h2 h3 h4
  have hs := Cal.S_step a b
  rw [L_mm h1 h2 h3 h4] at hs
  unfold numDate
  omega

theorem num_late_ne {y m d : Int} (h1 : 2000 ≤ y) (h2 : y ≤ 2199) (h3 : 1 ≤ m) (h4 : m ≤ 12) (h5 : Cal.long y m < d) (n0 : 0 ≤ numDate y m d) (n1 : numDate y m d ≤ 73048) :
    ¬ (2000 + Cal.Mo (numDate y m d) / 12 = y ∧ Cal.Mo (numDate y m d) % 12 + 1 = m ∧ numDate y m d - Cal.S (Cal.Mo (numDate y m d)) + 1 = d) := by
  rintro ⟨e1, e2, _⟩
  have hl := num_late h1 h2 h3 h4 h5
  obtain ⟨a, b, c, e⟩ := Cal.Mo_spec n0 n1
  have : Cal.Mo (numDate y m d) = (y - 2000) * 12 + m - 1 := by omega
  rw [this] at e
  omega

set_option maxHeartbeats 400000 in
theorem Day_late (y m d : Int) (w : World) (hT : Tab w) (h1 : 2000 ≤ y) (h2 : y ≤ 2199) (h3 : 1 ≤ m) (h4 : m ≤ 12) (h5 : Cal.long y m < d) (h6 : d ≤ 31) :
    Calls Tryd.prog 18 #[.int .i64 y, .int .i64 m, .int .i64 d] w fun e w' => e = .returned (.tuple #[.int .i64 0, .int .i64 18]) ∧ Below w.heap.size w w' := by
  have HT := Lib.hid hT
  clear hT
  have hl := long_31 y m
  obtain ⟨a, b, _, _⟩ := mm_parts h1 h2 h3 h4
  have hb := Cal.S_bd a (by omega)
  have hn : Hid (Cal.S ((y - 2000) * 12 + m - 1) + d - 1 = numDate y m d) := rfl
  have n0 : 0 ≤ numDate y m d := by rw [← hn.out]; omega
  by_cases n1 : numDate y m d ≤ 73048
  · have hd : decide (0 ≤ numDate y m d ∧ numDate y m d ≤ 73048) = true := by simp [n0, n1]
    have Hne := Lib.hid (num_late_ne h1 h2 h3 h4 h5 n0 n1)
    go_enter Tryd.func18, Tryd.ntmps18
    go_wp2_with fail
    refine (start_any _ _ a (by omega) HT.out).mono ?_; rintro e w' ⟨rfl, k, rfl⟩
    go_wp2_with fail
    rw [hn.out]
    refine (right_any _ _).mono ?_; rintro e w' ⟨rfl, rfl⟩; rw [hd]
    go_wp2_with fail
    refine (of_any _ _ n0 n1 (HT.out.drewN _)).mono ?_; rintro e w' ⟨rfl, hbel⟩
    go_wp2_with fail
    all_goals first
      | exact (Hne.out ⟨by assumption, by assumption, by assumption⟩).elim
      | (go_ret2; exact ⟨rfl, Below.trans (Below.drewN (Below.refl _ _) _) hbel⟩)
  · have hd : decide (0 ≤ numDate y m d ∧ numDate y m d ≤ 73048) = false := by simp; omega
    go_enter Tryd.func18, Tryd.ntmps18
    go_wp2_with fail
    refine (start_any _ _ a (by omega) HT.out).mono ?_; rintro e w' ⟨rfl, k, rfl⟩
    go_wp2_with fail
    rw [hn.out]
    refine (right_any _ _).mono ?_; rintro e w' ⟨rfl, rfl⟩; rw [hd]
    go_wp2_with fail
    go_ret2
    exact ⟨rfl, (Below.drewN (Below.refl _ _) _)⟩

theorem Day_no (y m d : Int) (w : World) (hT : Tab w) (h : ¬ okDate y m d) :
    Calls Tryd.prog 18 #[.int .i64 y, .int .i64 m, .int .i64 d] w fun e w' => e = .returned (.tuple #[.int .i64 0, .int .i64 18]) ∧ Below w.heap.size w w' := by
  by_cases hb : y < 2000 ∨ 2199 < y ∨ m < 1 ∨ 12 < m ∨ d < 1 ∨ 31 < d
  · exact (Day_ahead y m d w hb).mono fun _ _ ⟨a, b⟩ => ⟨a, by rw [← b]; exact Below.refl _ _⟩
  · refine Day_late y m d w hT (by omega) (by omega) (by omega) (by omega) ?_ (by omega)
    unfold okDate at h
    omega
end Go.Proofs.YtkbfbgapfmlfkaaDoor
