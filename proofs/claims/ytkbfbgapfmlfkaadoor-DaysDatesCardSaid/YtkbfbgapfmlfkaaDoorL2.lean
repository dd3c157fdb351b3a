import Derived.Test.YtkbfbgapfmlfkaaDoorL1
namespace Go.Proofs.YtkbfbgapfmlfkaaDoor
open Go.RowKit

/-- A day so many months on is a day of that month, and the way back leads no further. -/
theorem on_facts {d n : Int} (h0 : 0 ≤ d) (h1 : d ≤ 73048) (h : - Cal.Mo d ≤ n) (h' : n ≤ 2399 - Cal.Mo d) :
    0 ≤ onV d n ∧ onV d n ≤ 73048 ∧ Cal.Mo (onV d n) = Cal.Mo d + n ∧ onV (onV d n) (-n) ≤ d ∧ d - 3 ≤ onV (onV d n) (-n) ∧ (onV (onV d n) (-n) = d ∨ 28 ≤ d - Cal.S (Cal.Mo d)) := by
  obtain ⟨q0, q1, q2, q3⟩ := Cal.Mo_spec h0 h1
  have hs := Cal.S_step q0 q1
  have hs' := Cal.S_step (m := Cal.Mo d + n) (by omega) (by omega)
  have hL := Cal.L_bd (Cal.Mo d)
  have hL' := Cal.L_bd (Cal.Mo d + n)
  have hb := Cal.S_bd (a := Cal.Mo d + n) (by omega) (by omega)
  have hb' := Cal.S_bd (a := Cal.Mo d + n + 1) (by omega) (by omega)
  have e := on_eq h h'
  have hM : Cal.Mo (onV d n) = Cal.Mo d + n := Cal.Mo_eq (by omega) (by omega) (by omega) (by omega)
  have e2 := on_eq (d := onV d n) (n := -n) (by omega) (by omega)
  rw [hM, show Cal.Mo d + n + -n = Cal.Mo d from by omega] at e2
  refine ⟨by omega, by omega, hM, by omega, by omega, by omega⟩

set_option maxRecDepth 100000 in
set_option maxHeartbeats 1000000 in
theorem Within_no (day n : Int) (w : World) (hT : Tab w) (hd : day < 0 ∨ 73048 < day) :
    Calls Tryd.prog 4 #[.int .i64 day, .int .i64 n] w fun e w' => e = .returned (.bool true) ∧ Below w.heap.size w w' := by
  have HT := Lib.hid hT
  clear hT
  have hr : decide (0 ≤ day ∧ day ≤ 73048) = false := by simp; omega
  have HD := Lib.hid hd
  clear hd
  go_enter Tryd.func4, Tryd.ntmps4
  go_wp2_with fail
  refine (Month_no _ _ HD.out).mono ?_; rintro e w1 ⟨rfl, rfl⟩
  go_wp2_with fail
  refine (lright_any _ _).mono ?_; rintro e w1 ⟨rfl, rfl⟩; rw [hr]
  go_wp2_with fail
  refine (awake_any _ HT.out).mono ?_; rintro e w1 ⟨rfl, hb⟩
  go_wp2_with fail
  go_ret
  exact ⟨rfl, hb⟩

set_option maxRecDepth 100000 in
set_option maxHeartbeats 2000000 in
theorem Within_far00 (day n : Int) (w : World) (hT : Tab w) (h0 : 0 ≤ day) (h1 : day ≤ 73048) (hl : Cal.Mo day < 2399) (hn : n < - Cal.Mo day) :
    Calls Tryd.prog 4 #[.int .i64 day, .int .i64 n] w fun e w' => e = .returned (.bool true) ∧ Below w.heap.size w w' := by
  have hp := hT.pos
  have HT := Lib.hid hT
  clear hT
  obtain ⟨q0, q1, q2, q3⟩ := Cal.Mo_spec h0 h1
  have hst := Cal.S_step_bd q0 q1
  have hsb0 := Cal.S_bd (a := Cal.Mo day) (by omega) (by omega)
  obtain ⟨e1, e2, e3⟩ := bnd_yes (m := Cal.Mo day + 1) (by omega) (by omega)
  have hsn := Cal.S_bd (a := Cal.Mo day + 1) (by omega) (by omega)
  have hln := Cal.L_bd (Cal.Mo day + 1)
  have hl1 : (Cal.Mo day == 2399) = false := by simp; omega
  have hl2 : (Cal.Mo day != 2399) = true := by simp; omega
  go_enter Tryd.func4, Tryd.ntmps4
  go_wp2_with fail
  refine (Month_yes _ _ h0 h1 HT.out).mono ?_; rintro e w1 ⟨rfl, k1, rfl⟩
  go_wp2_with fail
  refine (Bounds_yes _ _ q0 q1 (HT.out.drewN _)).mono ?_; rintro e w1 ⟨rfl, k2, rfl⟩
  go_wp2_with fail
  refine (Bounds_any _ _ (HT.out.drewN _)).mono ?_; rintro e w1 ⟨rfl, k3, rfl⟩
  rw [e1, e2, e3]
  go_wp2_with fail
  refine (Months_far _ _ _ h0 h1 (HT.out.drewN _) (by omega)).mono ?_; rintro e w2 ⟨rfl, b2⟩
  go_wp2_with fail
  have t2 : Hid (Tab w2) := (HT.out.drewN _).below b2 hp
  refine (awake_any _ t2.out).mono ?_; rintro e w4 ⟨rfl, b4⟩
  go_wp2_with fail
  go_ret
  exact ⟨rfl, Below.trans (Below.drewN (Below.refl _ _) _) (Below.trans b2 (b4.mono b2.size))⟩

set_option maxRecDepth 100000 in
set_option maxHeartbeats 2000000 in
theorem Within_far01 (day n : Int) (w : World) (hT : Tab w) (h0 : 0 ≤ day) (h1 : day ≤ 73048) (hl : Cal.Mo day < 2399) (hn : 2399 - Cal.Mo day < n) :
    Calls Tryd.prog 4 #[.int .i64 day, .int .i64 n] w fun e w' => e = .returned (.bool true) ∧ Below w.heap.size w w' := by
  have hp := hT.pos
  have HT := Lib.hid hT
  clear hT
  obtain ⟨q0, q1, q2, q3⟩ := Cal.Mo_spec h0 h1
  have hst := Cal.S_step_bd q0 q1
  have hsb0 := Cal.S_bd (a := Cal.Mo day) (by omega) (by omega)
  obtain ⟨e1, e2, e3⟩ := bnd_yes (m := Cal.Mo day + 1) (by omega) (by omega)
  have hsn := Cal.S_bd (a := Cal.Mo day + 1) (by omega) (by omega)
  have hln := Cal.L_bd (Cal.Mo day + 1)
  have hl1 : (Cal.Mo day == 2399) = false := by simp; omega
  have hl2 : (Cal.Mo day != 2399) = true := by simp; omega
  go_enter Tryd.func4, Tryd.ntmps4
  go_wp2_with fail
  refine (Month_yes _ _ h0 h1 HT.out).mono ?_; rintro e w1 ⟨rfl, k1, rfl⟩
  go_wp2_with fail
  refine (Bounds_yes _ _ q0 q1 (HT.out.drewN _)).mono ?_; rintro e w1 ⟨rfl, k2, rfl⟩
  go_wp2_with fail
  refine (Bounds_any _ _ (HT.out.drewN _)).mono ?_; rintro e w1 ⟨rfl, k3, rfl⟩
  rw [e1, e2, e3]
  go_wp2_with fail
  refine (Months_far _ _ _ h0 h1 (HT.out.drewN _) (by omega)).mono ?_; rintro e w2 ⟨rfl, b2⟩
  go_wp2_with fail
  have t2 : Hid (Tab w2) := (HT.out.drewN _).below b2 hp
  refine (awake_any _ t2.out).mono ?_; rintro e w4 ⟨rfl, b4⟩
  go_wp2_with fail
  go_ret
  exact ⟨rfl, Below.trans (Below.drewN (Below.refl _ _) _) (Below.trans b2 (b4.mono b2.size))⟩

set_option maxRecDepth 100000 in
set_option maxHeartbeats 2000000 in
theorem Within_yes00 (day n : Int) (w : World) (hT : Tab w) (h0 : 0 ≤ day) (h1 : day ≤ 73048) (hl : Cal.Mo day < 2399) (hn : - Cal.Mo day ≤ n) (hn' : n ≤ 2399 - Cal.Mo day) (hb : onV (onV day n) (-n) = day) :
    Calls Tryd.prog 4 #[.int .i64 day, .int .i64 n] w fun e w' => e = .returned (.bool true) ∧ Below w.heap.size w w' := by
  have hp := hT.pos
  have HT := Lib.hid hT
  clear hT
  obtain ⟨q0, q1, q2, q3⟩ := Cal.Mo_spec h0 h1
  have hst := Cal.S_step_bd q0 q1
  have hsb0 := Cal.S_bd (a := Cal.Mo day) (by omega) (by omega)
  obtain ⟨e1, e2, e3⟩ := bnd_yes (m := Cal.Mo day + 1) (by omega) (by omega)
  have hsn := Cal.S_bd (a := Cal.Mo day + 1) (by omega) (by omega)
  have hln := Cal.L_bd (Cal.Mo day + 1)
  obtain ⟨hb0, hb1, hb2, hb3, hb4, hb5⟩ := on_facts h0 h1 hn hn'
  have hbe : (onV (onV day n) (-n) == day) = true := by simp [hb]
  clear hb5
  clear hb
  have hMY := Month_yes (onV day n)
  rw [hb2] at hMY
  have HMY := Lib.hid hMY
  have HB2 := Lib.hid hb2
  clear hMY hb2
  have hl1 : (Cal.Mo day == 2399) = false := by simp; omega
  have hl2 : (Cal.Mo day != 2399) = true := by simp; omega
  have hj0 : Hid (- Cal.Mo (onV day n) ≤ -n) := by unfold Hid; rw [HB2.out]; omega
  have hj1 : Hid (-n ≤ 2399 - Cal.Mo (onV day n)) := by unfold Hid; rw [HB2.out]; omega
  have hmon : Hid (∀ w, Tab w → Calls Tryd.prog 12 #[.int .i64 (onV day n), .int .i64 (-n)] w fun e w' => e = .returned (.tuple #[.int .i64 (onV (onV day n) (-n)), .int .i64 0]) ∧ Below w.heap.size w w') := fun w hw => Months_yes _ _ w hb0 hb1 hw hj0.out hj1.out
  generalize onV (onV day n) (-n) = bk at *
  have hmon1 : Hid (∀ w, Tab w → Calls Tryd.prog 12 #[.int .i64 day, .int .i64 n] w fun e w' => e = .returned (.tuple #[.int .i64 (onV day n), .int .i64 0]) ∧ Below w.heap.size w w') := fun w hw => Months_yes _ _ w h0 h1 hw hn hn'
  clear hj0 hj1 HB2
  generalize onV day n = o at *
  go_enter Tryd.func4, Tryd.ntmps4
  go_wp2_with fail
  refine (Month_yes _ _ h0 h1 HT.out).mono ?_; rintro e w1 ⟨rfl, k1, rfl⟩
  go_wp2_with fail
  refine (Bounds_yes _ _ q0 q1 (HT.out.drewN _)).mono ?_; rintro e w1 ⟨rfl, k2, rfl⟩
  go_wp2_with fail
  refine (Bounds_any _ _ (HT.out.drewN _)).mono ?_; rintro e w1 ⟨rfl, k3, rfl⟩
  rw [e1, e2, e3]
  go_wp2_with fail
  refine (hmon1.out _ (HT.out.drewN _)).mono ?_; rintro e w2 ⟨rfl, b2⟩
  go_wp2_with fail
  have t2 : Hid (Tab w2) := (HT.out.drewN _).below b2 hp
  refine (HMY.out _ hb0 hb1 t2.out).mono ?_; rintro e w3 ⟨rfl, k4, rfl⟩
  go_wp2_with fail
  refine (hmon.out _ (t2.out.drewN _)).mono ?_; rintro e w3 ⟨rfl, b3⟩
  go_wp2_with fail
  have t3 : Hid (Tab w3) := (t2.out.drewN _).below b3 (Nat.lt_of_lt_of_le hp b2.size)
  refine (awake_any _ t3.out).mono ?_; rintro e w4 ⟨rfl, b4⟩
  go_wp2_with fail
  go_ret
  have hz2 : w.heap.size ≤ w2.heap.size := b2.size
  have hz3 : w2.heap.size ≤ w3.heap.size := b3.size
  exact ⟨rfl, Below.trans (Below.drewN (Below.refl _ _) _) (Below.trans b2 (Below.trans (Below.drewN (Below.refl _ _) _) (Below.trans (b3.mono hz2) (b4.mono (Nat.le_trans hz2 hz3)))))⟩

set_option maxRecDepth 100000 in
set_option maxHeartbeats 2000000 in
theorem Within_yes01 (day n : Int) (w : World) (hT : Tab w) (h0 : 0 ≤ day) (h1 : day ≤ 73048) (hl : Cal.Mo day < 2399) (hn : - Cal.Mo day ≤ n) (hn' : n ≤ 2399 - Cal.Mo day) (hb : ¬ onV (onV day n) (-n) = day) :
    Calls Tryd.prog 4 #[.int .i64 day, .int .i64 n] w fun e w' => e = .returned (.bool true) ∧ Below w.heap.size w w' := by
  have hp := hT.pos
  have HT := Lib.hid hT
  clear hT
  obtain ⟨q0, q1, q2, q3⟩ := Cal.Mo_spec h0 h1
  have hst := Cal.S_step_bd q0 q1
  have hsb0 := Cal.S_bd (a := Cal.Mo day) (by omega) (by omega)
  obtain ⟨e1, e2, e3⟩ := bnd_yes (m := Cal.Mo day + 1) (by omega) (by omega)
  have hsn := Cal.S_bd (a := Cal.Mo day + 1) (by omega) (by omega)
  have hln := Cal.L_bd (Cal.Mo day + 1)
  obtain ⟨hb0, hb1, hb2, hb3, hb4, hb5⟩ := on_facts h0 h1 hn hn'
  rcases hb5 with hb5 | hb5
  · exact (hb hb5).elim
  have hbe : (onV (onV day n) (-n) == day) = false := by simp [hb]
  clear hb
  have hMY := Month_yes (onV day n)
  rw [hb2] at hMY
  have HMY := Lib.hid hMY
  have HB2 := Lib.hid hb2
  clear hMY hb2
  have hl1 : (Cal.Mo day == 2399) = false := by simp; omega
  have hl2 : (Cal.Mo day != 2399) = true := by simp; omega
  have hj0 : Hid (- Cal.Mo (onV day n) ≤ -n) := by unfold Hid; rw [HB2.out]; omega
  have hj1 : Hid (-n ≤ 2399 - Cal.Mo (onV day n)) := by unfold Hid; rw [HB2.out]; omega
  have hmon : Hid (∀ w, Tab w → Calls Tryd.prog 12 #[.int .i64 (onV day n), .int .i64 (-n)] w fun e w' => e = .returned (.tuple #[.int .i64 (onV (onV day n) (-n)), .int .i64 0]) ∧ Below w.heap.size w w') := fun w hw => Months_yes _ _ w hb0 hb1 hw hj0.out hj1.out
  generalize onV (onV day n) (-n) = bk at *
  have hmon1 : Hid (∀ w, Tab w → Calls Tryd.prog 12 #[.int .i64 day, .int .i64 n] w fun e w' => e = .returned (.tuple #[.int .i64 (onV day n), .int .i64 0]) ∧ Below w.heap.size w w') := fun w hw => Months_yes _ _ w h0 h1 hw hn hn'
  clear hj0 hj1 HB2
  generalize onV day n = o at *
  go_enter Tryd.func4, Tryd.ntmps4
  go_wp2_with fail
  refine (Month_yes _ _ h0 h1 HT.out).mono ?_; rintro e w1 ⟨rfl, k1, rfl⟩
  go_wp2_with fail
  refine (Bounds_yes _ _ q0 q1 (HT.out.drewN _)).mono ?_; rintro e w1 ⟨rfl, k2, rfl⟩
  go_wp2_with fail
  refine (Bounds_any _ _ (HT.out.drewN _)).mono ?_; rintro e w1 ⟨rfl, k3, rfl⟩
  rw [e1, e2, e3]
  go_wp2_with fail
  refine (hmon1.out _ (HT.out.drewN _)).mono ?_; rintro e w2 ⟨rfl, b2⟩
  go_wp2_with fail
  have t2 : Hid (Tab w2) := (HT.out.drewN _).below b2 hp
  refine (HMY.out _ hb0 hb1 t2.out).mono ?_; rintro e w3 ⟨rfl, k4, rfl⟩
  go_wp2_with fail
  refine (hmon.out _ (t2.out.drewN _)).mono ?_; rintro e w3 ⟨rfl, b3⟩
  go_wp2_with fail
  have t3 : Hid (Tab w3) := (t2.out.drewN _).below b3 (Nat.lt_of_lt_of_le hp b2.size)
  refine (awake_any _ t3.out).mono ?_; rintro e w4 ⟨rfl, b4⟩
  go_wp2_with fail
  go_ret
  have hz2 : w.heap.size ≤ w2.heap.size := b2.size
  have hz3 : w2.heap.size ≤ w3.heap.size := b3.size
  exact ⟨rfl, Below.trans (Below.drewN (Below.refl _ _) _) (Below.trans b2 (Below.trans (Below.drewN (Below.refl _ _) _) (Below.trans (b3.mono hz2) (b4.mono (Nat.le_trans hz2 hz3)))))⟩

set_option maxRecDepth 100000 in
set_option maxHeartbeats 2000000 in
theorem Within_far10 (day n : Int) (w : World) (hT : Tab w) (h0 : 0 ≤ day) (h1 : day ≤ 73048) (hl : Cal.Mo day = 2399) (hn : n < - Cal.Mo day) :
    Calls Tryd.prog 4 #[.int .i64 day, .int .i64 n] w fun e w' => e = .returned (.bool true) ∧ Below w.heap.size w w' := by
  have hp := hT.pos
  have HT := Lib.hid hT
  clear hT
  obtain ⟨q0, q1, q2, q3⟩ := Cal.Mo_spec h0 h1
  have hst := Cal.S_step_bd q0 q1
  have hsb0 := Cal.S_bd (a := Cal.Mo day) (by omega) (by omega)
  obtain ⟨e1, e2, e3⟩ := bnd_no (m := Cal.Mo day + 1) (by omega)
  have hsn := Cal.S_bd (a := Cal.Mo day + 1) (by omega) (by omega)
  have hl2 : (Cal.Mo day != 2399) = false := by simp [hl]
  have HL := Lib.hid hl
  clear hl
  go_enter Tryd.func4, Tryd.ntmps4
  go_wp2_with fail
  refine (Month_yes _ _ h0 h1 HT.out).mono ?_; rintro e w1 ⟨rfl, k1, rfl⟩
  go_wp2_with fail
  refine (Bounds_yes _ _ q0 q1 (HT.out.drewN _)).mono ?_; rintro e w1 ⟨rfl, k2, rfl⟩
  go_wp2_with fail
  refine (Bounds_any _ _ (HT.out.drewN _)).mono ?_; rintro e w1 ⟨rfl, k3, rfl⟩
  rw [e1, e2, e3]
  go_wp2_with fail
  refine (Months_far _ _ _ h0 h1 (HT.out.drewN _) (by omega)).mono ?_; rintro e w2 ⟨rfl, b2⟩
  go_wp2_with fail
  have t2 : Hid (Tab w2) := (HT.out.drewN _).below b2 hp
  refine (awake_any _ t2.out).mono ?_; rintro e w4 ⟨rfl, b4⟩
  go_wp2_with fail
  go_ret
  exact ⟨rfl, Below.trans (Below.drewN (Below.refl _ _) _) (Below.trans b2 (b4.mono b2.size))⟩

set_option maxRecDepth 100000 in
set_option maxHeartbeats 2000000 in
theorem Within_far11 (day n : Int) (w : World) (hT : Tab w) (h0 : 0 ≤ day) (h1 : day ≤ 73048) (hl : Cal.Mo day = 2399) (hn : 2399 - Cal.Mo day < n) :
    Calls Tryd.prog 4 #[.int .i64 day, .int .i64 n] w fun e w' => e = .returned (.bool true) ∧ Below w.heap.size w w' := by
  have hp := hT.pos
  have HT := Lib.hid hT
  clear hT
  obtain ⟨q0, q1, q2, q3⟩ := Cal.Mo_spec h0 h1
  have hst := Cal.S_step_bd q0 q1
  have hsb0 := Cal.S_bd (a := Cal.Mo day) (by omega) (by omega)
  obtain ⟨e1, e2, e3⟩ := bnd_no (m := Cal.Mo day + 1) (by omega)
  have hsn := Cal.S_bd (a := Cal.Mo day + 1) (by omega) (by omega)
  have hl2 : (Cal.Mo day != 2399) = false := by simp [hl]
  have HL := Lib.hid hl
  clear hl
  go_enter Tryd.func4, Tryd.ntmps4
  go_wp2_with fail
  refine (Month_yes _ _ h0 h1 HT.out).mono ?_; rintro e w1 ⟨rfl, k1, rfl⟩
  go_wp2_with fail
  refine (Bounds_yes _ _ q0 q1 (HT.out.drewN _)).mono ?_; rintro e w1 ⟨rfl, k2, rfl⟩
  go_wp2_with fail
  refine (Bounds_any _ _ (HT.out.drewN _)).mono ?_; rintro e w1 ⟨rfl, k3, rfl⟩
  rw [e1, e2, e3]
  go_wp2_with fail
  refine (Months_far _ _ _ h0 h1 (HT.out.drewN _) (by omega)).mono ?_; rintro e w2 ⟨rfl, b2⟩
  go_wp2_with fail
  have t2 : Hid (Tab w2) := (HT.out.drewN _).below b2 hp
  refine (awake_any _ t2.out).mono ?_; rintro e w4 ⟨rfl, b4⟩
  go_wp2_with fail
  go_ret
  exact ⟨rfl, Below.trans (Below.drewN (Below.refl _ _) _) (Below.trans b2 (b4.mono b2.size))⟩

set_option maxRecDepth 100000 in
set_option maxHeartbeats 2000000 in
theorem Within_yes10 (day n : Int) (w : World) (hT : Tab w) (h0 : 0 ≤ day) (h1 : day ≤ 73048) (hl : Cal.Mo day = 2399) (hn : - Cal.Mo day ≤ n) (hn' : n ≤ 2399 - Cal.Mo day) (hb : onV (onV day n) (-n) = day) :
    Calls Tryd.prog 4 #[.int .i64 day, .int .i64 n] w fun e w' => e = .returned (.bool true) ∧ Below w.heap.size w w' := by
  have hp := hT.pos
  have HT := Lib.hid hT
  clear hT
  obtain ⟨q0, q1, q2, q3⟩ := Cal.Mo_spec h0 h1
  have hst := Cal.S_step_bd q0 q1
  have hsb0 := Cal.S_bd (a := Cal.Mo day) (by omega) (by omega)
  obtain ⟨e1, e2, e3⟩ := bnd_no (m := Cal.Mo day + 1) (by omega)
  have hsn := Cal.S_bd (a := Cal.Mo day + 1) (by omega) (by omega)
  obtain ⟨hb0, hb1, hb2, hb3, hb4, hb5⟩ := on_facts h0 h1 hn hn'
  have hbe : (onV (onV day n) (-n) == day) = true := by simp [hb]
  clear hb5
  clear hb
  have hMY := Month_yes (onV day n)
  rw [hb2] at hMY
  have HMY := Lib.hid hMY
  have HB2 := Lib.hid hb2
  clear hMY hb2
  have hl2 : (Cal.Mo day != 2399) = false := by simp [hl]
  have HL := Lib.hid hl
  clear hl
  have hj0 : Hid (- Cal.Mo (onV day n) ≤ -n) := by unfold Hid; rw [HB2.out]; omega
  have hj1 : Hid (-n ≤ 2399 - Cal.Mo (onV day n)) := by unfold Hid; rw [HB2.out]; omega
  have hmon : Hid (∀ w, Tab w → Calls Tryd.prog 12 #[.int .i64 (onV day n), .int .i64 (-n)] w fun e w' => e = .returned (.tuple #[.int .i64 (onV (onV day n) (-n)), .int .i64 0]) ∧ Below w.heap.size w w') := fun w hw => Months_yes _ _ w hb0 hb1 hw hj0.out hj1.out
  generalize onV (onV day n) (-n) = bk at *
  have hmon1 : Hid (∀ w, Tab w → Calls Tryd.prog 12 #[.int .i64 day, .int .i64 n] w fun e w' => e = .returned (.tuple #[.int .i64 (onV day n), .int .i64 0]) ∧ Below w.heap.size w w') := fun w hw => Months_yes _ _ w h0 h1 hw hn hn'
  clear hj0 hj1 HB2
  generalize onV day n = o at *
  go_enter Tryd.func4, Tryd.ntmps4
  go_wp2_with fail
  refine (Month_yes _ _ h0 h1 HT.out).mono ?_; rintro e w1 ⟨rfl, k1, rfl⟩
  go_wp2_with fail
  refine (Bounds_yes _ _ q0 q1 (HT.out.drewN _)).mono ?_; rintro e w1 ⟨rfl, k2, rfl⟩
  go_wp2_with fail
  refine (Bounds_any _ _ (HT.out.drewN _)).mono ?_; rintro e w1 ⟨rfl, k3, rfl⟩
  rw [e1, e2, e3]
  go_wp2_with fail
  refine (hmon1.out _ (HT.out.drewN _)).mono ?_; rintro e w2 ⟨rfl, b2⟩
  go_wp2_with fail
  have t2 : Hid (Tab w2) := (HT.out.drewN _).below b2 hp
  refine (HMY.out _ hb0 hb1 t2.out).mono ?_; rintro e w3 ⟨rfl, k4, rfl⟩
  go_wp2_with fail
  refine (hmon.out _ (t2.out.drewN _)).mono ?_; rintro e w3 ⟨rfl, b3⟩
  go_wp2_with fail
  have t3 : Hid (Tab w3) := (t2.out.drewN _).below b3 (Nat.lt_of_lt_of_le hp b2.size)
  refine (awake_any _ t3.out).mono ?_; rintro e w4 ⟨rfl, b4⟩
  go_wp2_with fail
  go_ret
  have hz2 : w.heap.size ≤ w2.heap.size := b2.size
  have hz3 : w2.heap.size ≤ w3.heap.size := b3.size
  exact ⟨rfl, Below.trans (Below.drewN (Below.refl _ _) _) (Below.trans b2 (Below.trans (Below.drewN (Below.refl _ _) _) (Below.trans (b3.mono hz2) (b4.mono (Nat.le_trans hz2 hz3)))))⟩

set_option maxRecDepth 100000 in
set_option maxHeartbeats 2000000 in
theorem Within_yes11 (day n : Int) (w : World) (hT : Tab w) (h0 : 0 ≤ day) (h1 : day ≤ 73048) (hl : Cal.Mo day = 2399) (hn : - Cal.Mo day ≤ n) (hn' : n ≤ 2399 - Cal.Mo day) (hb : ¬ onV (onV day n) (-n) = day) :
    Calls Tryd.prog 4 #[.int .i64 day, .int .i64 n] w fun e w' => e = .returned (.bool true) ∧ Below w.heap.size w w' := by
  have hp := hT.pos
  have HT := Lib.hid hT
  clear hT
  obtain ⟨q0, q1, q2, q3⟩ := Cal.Mo_spec h0 h1
  have hst := Cal.S_step_bd q0 q1
  have hsb0 := Cal.S_bd (a := Cal.Mo day) (by omega) (by omega)
  obtain ⟨e1, e2, e3⟩ := bnd_no (m := Cal.Mo day + 1) (by omega)
  have hsn := Cal.S_bd (a := Cal.Mo day + 1) (by omega) (by omega)
  obtain ⟨hb0, hb1, hb2, hb3, hb4, hb5⟩ := on_facts h0 h1 hn hn'
  rcases hb5 with hb5 | hb5
  · exact (hb hb5).elim
  have hbe : (onV (onV day n) (-n) == day) = false := by simp [hb]
  clear hb
  have hMY := Month_yes (onV day n)
  rw [hb2] at hMY
  have HMY := Lib.hid hMY
  have HB2 := Lib.hid hb2
  clear hMY hb2
  have hl2 : (Cal.Mo day != 2399) = false := by simp [hl]
  have HL := Lib.hid hl
  clear hl
  have hj0 : Hid (- Cal.Mo (onV day n) ≤ -n) := by unfold Hid; rw [HB2.out]; omega
  have hj1 : Hid (-n ≤ 2399 - Cal.Mo (onV day n)) := by unfold Hid; rw [HB2.out]; omega
  have hmon : Hid (∀ w, Tab w → Calls Tryd.prog 12 #[.int .i64 (onV day n), .int .i64 (-n)] w fun e w' => e = .returned (.tuple #[.int .i64 (onV (onV day n) (-n)), .int .i64 0]) ∧ Below w.heap.size w w') := fun w hw => Months_yes _ _ w hb0 hb1 hw hj0.out hj1.out
  generalize onV (onV day n) (-n) = bk at *
  have hmon1 : Hid (∀ w, Tab w → Calls Tryd.prog 12 #[.int .i64 day, .int .i64 n] w fun e w' => e = .returned (.tuple #[.int .i64 (onV day n), .int .i64 0]) ∧ Below w.heap.size w w') := fun w hw => Months_yes _ _ w h0 h1 hw hn hn'
  clear hj0 hj1 HB2
  generalize onV day n = o at *
  go_enter Tryd.func4, Tryd.ntmps4
  go_wp2_with fail
  refine (Month_yes _ _ h0 h1 HT.out).mono ?_; rintro e w1 ⟨rfl, k1, rfl⟩
  go_wp2_with fail
  refine (Bounds_yes _ _ q0 q1 (HT.out.drewN _)).mono ?_; rintro e w1 ⟨rfl, k2, rfl⟩
  go_wp2_with fail
  refine (Bounds_any _ _ (HT.out.drewN _)).mono ?_; rintro e w1 ⟨rfl, k3, rfl⟩
  rw [e1, e2, e3]
  go_wp2_with fail
  refine (hmon1.out _ (HT.out.drewN _)).mono ?_; rintro e w2 ⟨rfl, b2⟩
  go_wp2_with fail
  have t2 : Hid (Tab w2) := (HT.out.drewN _).below b2 hp
  refine (HMY.out _ hb0 hb1 t2.out).mono ?_; rintro e w3 ⟨rfl, k4, rfl⟩
  go_wp2_with fail
  refine (hmon.out _ (t2.out.drewN _)).mono ?_; rintro e w3 ⟨rfl, b3⟩
  go_wp2_with fail
  have t3 : Hid (Tab w3) := (t2.out.drewN _).below b3 (Nat.lt_of_lt_of_le hp b2.size)
  refine (awake_any _ t3.out).mono ?_; rintro e w4 ⟨rfl, b4⟩
  go_wp2_with fail
  go_ret
  have hz2 : w.heap.size ≤ w2.heap.size := b2.size
  have hz3 : w2.heap.size ≤ w3.heap.size := b3.size
  exact ⟨rfl, Below.trans (Below.drewN (Below.refl _ _) _) (Below.trans b2 (Below.trans (Below.drewN (Below.refl _ _) _) (Below.trans (b3.mono hz2) (b4.mono (Nat.le_trans hz2 hz3)))))⟩

theorem Within_law (day n : Int) (w : World) (hT : Tab w) :
    Calls Tryd.prog 4 #[.int .i64 day, .int .i64 n] w fun e w' => e = .returned (.bool true) ∧ Below w.heap.size w w' := by
  by_cases hd : day < 0 ∨ 73048 < day
  · exact Within_no day n w hT hd
  have h0 : 0 ≤ day := by omega
  have h1 : day ≤ 73048 := by omega
  have q := Cal.Mo_spec h0 h1
  by_cases hl : Cal.Mo day = 2399
  · by_cases c : n < - Cal.Mo day
    · exact Within_far10 day n w hT h0 h1 hl c
    by_cases e : 2399 - Cal.Mo day < n
    · exact Within_far11 day n w hT h0 h1 hl e
    by_cases b : onV (onV day n) (-n) = day
    · exact Within_yes10 day n w hT h0 h1 hl (by omega) (by omega) b
    · exact Within_yes11 day n w hT h0 h1 hl (by omega) (by omega) b
  · by_cases c : n < - Cal.Mo day
    · exact Within_far00 day n w hT h0 h1 (by omega) c
    by_cases e : 2399 - Cal.Mo day < n
    · exact Within_far01 day n w hT h0 h1 (by omega) e
    by_cases b : onV (onV day n) (-n) = day
    · exact Within_yes00 day n w hT h0 h1 (by omega) (by omega) (by omega) b
    · exact Within_yes01 day n w hT h0 h1 (by omega) (by omega) (by omega) b
end Go.Proofs.YtkbfbgapfmlfkaaDoor
