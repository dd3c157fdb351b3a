import Derived.Test.YtkbfbgapfmlfkaaDoorL2
namespace Go.Proofs.YtkbfbgapfmlfkaaDoor
open Go.RowKit

theorem year_all : ∀ M : Nat, M < 2388 → (365 ≤ Cal.S ((M : Int) + 12) - Cal.S M ∧ Cal.S ((M : Int) + 12) - Cal.S M ≤ 366) ∧
    (Cal.L ((M : Int) + 12) = Cal.L M ∨ ((M : Int) % 12 = 1 ∧ ((Cal.L M = 29 ∧ Cal.L ((M : Int) + 12) = 28 ∧ Cal.S ((M : Int) + 12) - Cal.S M = 366) ∨ (Cal.L M = 28 ∧ Cal.L ((M : Int) + 12) = 29)))) := by decide +kernel

/-- Twelve months on. -/
theorem year_facts {d : Int} (h0 : 0 ≤ d) (h1 : d ≤ 73048) (hl : Cal.Mo d ≤ 2387) :
    0 ≤ onV d 12 ∧ onV d 12 ≤ 73048 ∧ Cal.Mo (onV d 12) = Cal.Mo d + 12 ∧ 365 ≤ onV d 12 - d ∧ onV d 12 - d ≤ 366 ∧
    (onV d 12 - Cal.S (Cal.Mo d + 12) + 1 = d - Cal.S (Cal.Mo d) + 1 ∨ (¬ onV d 12 - Cal.S (Cal.Mo d + 12) + 1 = d - Cal.S (Cal.Mo d) + 1 ∧ Cal.Mo d % 12 + 1 = 2 ∧ d - Cal.S (Cal.Mo d) + 1 = 29 ∧ onV d 12 - Cal.S (Cal.Mo d + 12) + 1 = 28)) := by
  obtain ⟨q0, q1, q2, q3⟩ := Cal.Mo_spec h0 h1
  obtain ⟨f0, f1, f2, -⟩ := on_facts (n := 12) h0 h1 (by omega) (by omega)
  have hs := Cal.S_step q0 q1
  have e := on_eq (d := d) (n := 12) (by omega) (by omega)
  obtain ⟨M, hM⟩ := Int.eq_ofNat_of_zero_le q0
  have hy := year_all M (by omega)
  rw [← hM] at hy
  have hL := Cal.L_bd (Cal.Mo d)
  have hL' := Cal.L_bd (Cal.Mo d + 12)
  refine ⟨f0, f1, f2, by omega, by omega, by omega⟩

set_option maxRecDepth 100000 in
set_option maxHeartbeats 1000000 in
theorem Years_no (day : Int) (w : World) (hT : Tab w) (hd : day < 0 ∨ 73048 < day) :
    Calls Tryd.prog 6 #[.int .i64 day] w fun e w' => e = .returned (.bool true) ∧ Below w.heap.size w w' := by
  have HT := Lib.hid hT
  clear hT
  have hr : decide (0 ≤ day ∧ day ≤ 73048) = false := by simp; omega
  have HD := Lib.hid hd
  clear hd
  go_enter Tryd.func6, Tryd.ntmps6
  go_wp2_with fail
  refine (Date_no _ _ HD.out).mono ?_; rintro e w1 ⟨rfl, rfl⟩
  go_wp2_with fail
  refine (lright_any _ _).mono ?_; rintro e w1 ⟨rfl, rfl⟩; rw [hr]
  go_wp2_with fail
  refine (awake_any _ HT.out).mono ?_; rintro e w1 ⟨rfl, hb⟩
  go_wp2_with fail
  go_ret
  exact ⟨rfl, hb⟩

set_option maxRecDepth 100000 in
set_option maxHeartbeats 1000000 in
theorem Years_last0 (day : Int) (w : World) (hT : Tab w) (h0 : 0 ≤ day) (h1 : day ≤ 73048) (hl : 2388 ≤ Cal.Mo day) (hk : day ≤ 73041) :
    Calls Tryd.prog 6 #[.int .i64 day] w fun e w' => e = .returned (.bool true) ∧ Below w.heap.size w w' := by
  have hp := hT.pos
  have HT := Lib.hid hT
  clear hT
  obtain ⟨q0, q1, q2, q3⟩ := Cal.Mo_spec h0 h1
  have hst := Cal.S_step_bd q0 q1
  have hw7 : (day + 7 + 5) % 7 = (day + 5) % 7 := by omega
  have hw1 : (day + 1 + 5) % 7 = ((day + 5) % 7 + 1) % 7 := by omega
  have hy : (2000 + Cal.Mo day / 12 == 2199) = true := by simp; omega
  go_enter Tryd.func6, Tryd.ntmps6
  go_wp2_with fail
  refine (Date_yes _ _ h0 h1 HT.out).mono ?_; rintro e w1 ⟨rfl, b1⟩
  go_wp2_with fail
  refine (Weekday_yes _ _ h0 h1).mono ?_; rintro e w1' ⟨rfl, rfl⟩
  go_wp2_with fail
  refine (Weekday_yes _ _ (by omega) (by omega)).mono ?_; rintro e w1 ⟨rfl, rfl⟩
  rw [hw7]
  go_wp2_with fail
  refine (Weekday_yes _ _ (by omega) (by omega)).mono ?_; rintro e w1 ⟨rfl, rfl⟩
  rw [hw1]
  go_wp2_with fail
  have t1 : Hid (Tab w1) := HT.out.below b1 hp
  refine (Months_far _ _ _ h0 h1 t1.out (by omega)).mono ?_; rintro e w2 ⟨rfl, b2⟩
  go_wp2_with fail
  have t2 : Hid (Tab w2) := t1.out.below b2 (Nat.lt_of_lt_of_le hp b1.size)
  refine (awake_any _ t2.out).mono ?_; rintro e w4 ⟨rfl, b4⟩
  go_wp2_with fail
  go_ret
  exact ⟨rfl, Below.trans b1 (Below.trans (b2.mono b1.size) (b4.mono (Nat.le_trans b1.size b2.size)))⟩

set_option maxRecDepth 100000 in
set_option maxHeartbeats 1000000 in
theorem Years_last1 (day : Int) (w : World) (hT : Tab w) (h0 : 0 ≤ day) (h1 : day ≤ 73048) (hl : 2388 ≤ Cal.Mo day) (hk : ¬ day ≤ 73041) :
    Calls Tryd.prog 6 #[.int .i64 day] w fun e w' => e = .returned (.bool true) ∧ Below w.heap.size w w' := by
  have hp := hT.pos
  have HT := Lib.hid hT
  clear hT
  obtain ⟨q0, q1, q2, q3⟩ := Cal.Mo_spec h0 h1
  have hst := Cal.S_step_bd q0 q1
  have hw7 : (day + 7 + 5) % 7 = (day + 5) % 7 := by omega
  have hw1 : (day + 1 + 5) % 7 = ((day + 5) % 7 + 1) % 7 := by omega
  have hy : (2000 + Cal.Mo day / 12 == 2199) = true := by simp; omega
  go_enter Tryd.func6, Tryd.ntmps6
  go_wp2_with fail
  refine (Date_yes _ _ h0 h1 HT.out).mono ?_; rintro e w1 ⟨rfl, b1⟩
  go_wp2_with fail
  refine (Weekday_yes _ _ h0 h1).mono ?_; rintro e w1' ⟨rfl, rfl⟩
  go_wp2_with fail
  have t1 : Hid (Tab w1) := HT.out.below b1 hp
  refine (Months_far _ _ _ h0 h1 t1.out (by omega)).mono ?_; rintro e w2 ⟨rfl, b2⟩
  go_wp2_with fail
  have t2 : Hid (Tab w2) := t1.out.below b2 (Nat.lt_of_lt_of_le hp b1.size)
  refine (awake_any _ t2.out).mono ?_; rintro e w4 ⟨rfl, b4⟩
  go_wp2_with fail
  go_ret
  exact ⟨rfl, Below.trans b1 (Below.trans (b2.mono b1.size) (b4.mono (Nat.le_trans b1.size b2.size)))⟩

set_option maxRecDepth 100000 in
set_option maxHeartbeats 2000000 in
theorem Years_yes0 (day : Int) (w : World) (hT : Tab w) (h0 : 0 ≤ day) (h1 : day ≤ 73048) (hl : Cal.Mo day ≤ 2387) (hc : onV day 12 - Cal.S (Cal.Mo day + 12) + 1 = day - Cal.S (Cal.Mo day) + 1) :
    Calls Tryd.prog 6 #[.int .i64 day] w fun e w' => e = .returned (.bool true) ∧ Below w.heap.size w w' := by
  have hp := hT.pos
  have HT := Lib.hid hT
  clear hT
  obtain ⟨q0, q1, q2, q3⟩ := Cal.Mo_spec h0 h1
  have hst := Cal.S_step_bd q0 q1
  have hw7 : (day + 7 + 5) % 7 = (day + 5) % 7 := by omega
  have hw1 : (day + 1 + 5) % 7 = ((day + 5) % 7 + 1) % 7 := by omega
  have hk : day ≤ 73041 := by
    have a := Cal.S_mono (a := Cal.Mo day + 1) (b := 2399) (by omega) (by omega) (by omega)
    have b := S_last
    omega
  obtain ⟨f0, f1, f2, f3, f4, -⟩ := year_facts h0 h1 hl
  have hsb := Cal.S_bd (a := Cal.Mo day) (by omega) (by omega)
  have hsb2 := Cal.S_bd (a := Cal.Mo day + 12) (by omega) (by omega)
  have hy : (2000 + Cal.Mo day / 12 == 2199) = false := by simp; omega
  have hD := fun w ht => Date_yes (onV day 12) w f0 f1 ht
  rw [f2] at hD
  rw [show 2000 + (Cal.Mo day + 12) / 12 = 2000 + Cal.Mo day / 12 + 1 from by omega, show (Cal.Mo day + 12) % 12 + 1 = Cal.Mo day % 12 + 1 from by omega] at hD
  have HD := Lib.hid hD
  have F2 := Lib.hid f2
  clear hD f2
  have hmon : Hid (∀ w, Tab w → Calls Tryd.prog 12 #[.int .i64 day, .int .i64 12] w fun e w' => e = .returned (.tuple #[.int .i64 (onV day 12), .int .i64 0]) ∧ Below w.heap.size w w') := fun w hw => Months_yes _ _ w h0 h1 hw (by omega) (by omega)
  have hce : (onV day 12 - Cal.S (Cal.Mo day + 12) + 1 == day - Cal.S (Cal.Mo day) + 1) = true := by simp [hc]
  clear hc
  go_enter Tryd.func6, Tryd.ntmps6
  go_wp2_with fail
  refine (Date_yes _ _ h0 h1 HT.out).mono ?_; rintro e w1 ⟨rfl, b1⟩
  go_wp2_with fail
  refine (Weekday_yes _ _ h0 h1).mono ?_; rintro e w1' ⟨rfl, rfl⟩
  go_wp2_with fail
  refine (Weekday_yes _ _ (by omega) (by omega)).mono ?_; rintro e w1 ⟨rfl, rfl⟩
  rw [hw7]
  go_wp2_with fail
  refine (Weekday_yes _ _ (by omega) (by omega)).mono ?_; rintro e w1 ⟨rfl, rfl⟩
  rw [hw1]
  go_wp2_with fail
  have t1 : Hid (Tab w1) := HT.out.below b1 hp
  refine (hmon.out _ t1.out).mono ?_; rintro e w2 ⟨rfl, b2⟩
  go_wp2_with fail
  have t2 : Hid (Tab w2) := t1.out.below b2 (Nat.lt_of_lt_of_le hp b1.size)
  refine (HD.out _ t2.out).mono ?_; rintro e w3 ⟨rfl, b3⟩
  go_wp2_with fail
  have z2 : w.heap.size ≤ w2.heap.size := Nat.le_trans b1.size b2.size
  have t3 : Hid (Tab w3) := t2.out.below b3 (Nat.lt_of_lt_of_le hp z2)
  refine (awake_any _ t3.out).mono ?_; rintro e w4 ⟨rfl, b4⟩
  go_wp2_with fail
  go_ret
  exact ⟨rfl, Below.trans b1 (Below.trans (b2.mono b1.size) (Below.trans (b3.mono z2) (b4.mono (Nat.le_trans z2 b3.size))))⟩

set_option maxRecDepth 100000 in
set_option maxHeartbeats 2000000 in
theorem Years_yes1 (day : Int) (w : World) (hT : Tab w) (h0 : 0 ≤ day) (h1 : day ≤ 73048) (hl : Cal.Mo day ≤ 2387) (hc : ¬ onV day 12 - Cal.S (Cal.Mo day + 12) + 1 = day - Cal.S (Cal.Mo day) + 1) (c1 : Cal.Mo day % 12 + 1 = 2) (c2 : day - Cal.S (Cal.Mo day) + 1 = 29) (c3 : onV day 12 - Cal.S (Cal.Mo day + 12) + 1 = 28) :
    Calls Tryd.prog 6 #[.int .i64 day] w fun e w' => e = .returned (.bool true) ∧ Below w.heap.size w w' := by
  have hp := hT.pos
  have HT := Lib.hid hT
  clear hT
  obtain ⟨q0, q1, q2, q3⟩ := Cal.Mo_spec h0 h1
  have hst := Cal.S_step_bd q0 q1
  have hw7 : (day + 7 + 5) % 7 = (day + 5) % 7 := by omega
  have hw1 : (day + 1 + 5) % 7 = ((day + 5) % 7 + 1) % 7 := by omega
  have hk : day ≤ 73041 := by
    have a := Cal.S_mono (a := Cal.Mo day + 1) (b := 2399) (by omega) (by omega) (by omega)
    have b := S_last
    omega
  obtain ⟨f0, f1, f2, f3, f4, -⟩ := year_facts h0 h1 hl
  have hsb := Cal.S_bd (a := Cal.Mo day) (by omega) (by omega)
  have hsb2 := Cal.S_bd (a := Cal.Mo day + 12) (by omega) (by omega)
  have hy : (2000 + Cal.Mo day / 12 == 2199) = false := by simp; omega
  have hD := fun w ht => Date_yes (onV day 12) w f0 f1 ht
  rw [f2] at hD
  rw [show 2000 + (Cal.Mo day + 12) / 12 = 2000 + Cal.Mo day / 12 + 1 from by omega, show (Cal.Mo day + 12) % 12 + 1 = Cal.Mo day % 12 + 1 from by omega] at hD
  have HD := Lib.hid hD
  have F2 := Lib.hid f2
  clear hD f2
  have hmon : Hid (∀ w, Tab w → Calls Tryd.prog 12 #[.int .i64 day, .int .i64 12] w fun e w' => e = .returned (.tuple #[.int .i64 (onV day 12), .int .i64 0]) ∧ Below w.heap.size w w') := fun w hw => Months_yes _ _ w h0 h1 hw (by omega) (by omega)
  have hce : (onV day 12 - Cal.S (Cal.Mo day + 12) + 1 == day - Cal.S (Cal.Mo day) + 1) = false := by simp [hc]
  have hc1 : (Cal.Mo day % 12 + 1 == 2) = true := by simp [c1]
  have hc2 : (day - Cal.S (Cal.Mo day) + 1 == 29) = true := by simp [c2]
  have hc3 : (onV day 12 - Cal.S (Cal.Mo day + 12) + 1 == 28) = true := by simp [c3]
  clear c1 c2 c3
  clear hc
  go_enter Tryd.func6, Tryd.ntmps6
  go_wp2_with fail
  refine (Date_yes _ _ h0 h1 HT.out).mono ?_; rintro e w1 ⟨rfl, b1⟩
  go_wp2_with fail
  refine (Weekday_yes _ _ h0 h1).mono ?_; rintro e w1' ⟨rfl, rfl⟩
  go_wp2_with fail
  refine (Weekday_yes _ _ (by omega) (by omega)).mono ?_; rintro e w1 ⟨rfl, rfl⟩
  rw [hw7]
  go_wp2_with fail
  refine (Weekday_yes _ _ (by omega) (by omega)).mono ?_; rintro e w1 ⟨rfl, rfl⟩
  rw [hw1]
  go_wp2_with fail
  have t1 : Hid (Tab w1) := HT.out.below b1 hp
  refine (hmon.out _ t1.out).mono ?_; rintro e w2 ⟨rfl, b2⟩
  go_wp2_with fail
  have t2 : Hid (Tab w2) := t1.out.below b2 (Nat.lt_of_lt_of_le hp b1.size)
  refine (HD.out _ t2.out).mono ?_; rintro e w3 ⟨rfl, b3⟩
  go_wp2_with fail
  have z2 : w.heap.size ≤ w2.heap.size := Nat.le_trans b1.size b2.size
  have t3 : Hid (Tab w3) := t2.out.below b3 (Nat.lt_of_lt_of_le hp z2)
  refine (awake_any _ t3.out).mono ?_; rintro e w4 ⟨rfl, b4⟩
  go_wp2_with fail
  go_ret
  exact ⟨rfl, Below.trans b1 (Below.trans (b2.mono b1.size) (Below.trans (b3.mono z2) (b4.mono (Nat.le_trans z2 b3.size))))⟩

theorem Years_law (day : Int) (w : World) (hT : Tab w) :
    Calls Tryd.prog 6 #[.int .i64 day] w fun e w' => e = .returned (.bool true) ∧ Below w.heap.size w w' := by
  by_cases hd : day < 0 ∨ 73048 < day
  · exact Years_no day w hT hd
  have h0 : 0 ≤ day := by omega
  have h1 : day ≤ 73048 := by omega
  by_cases hl : 2388 ≤ Cal.Mo day
  · by_cases hk : day ≤ 73041
    · exact Years_last0 day w hT h0 h1 hl hk
    · exact Years_last1 day w hT h0 h1 hl hk
  · obtain ⟨f0, f1, f2, f3, f4, f5⟩ := year_facts h0 h1 (by omega)
    rcases f5 with f5 | ⟨g0, g1, g2, g3⟩
    · exact Years_yes0 day w hT h0 h1 (by omega) f5
    · exact Years_yes1 day w hT h0 h1 (by omega) g0 g1 g2 g3
end Go.Proofs.YtkbfbgapfmlfkaaDoor
