import Derived.Test.YtkbfbgapfmlfkaaDoorW9
import Derived.Deep.DeepCutAuto
namespace Go.Proofs.YtkbfbgapfmlfkaaDoor
open Go.RowKit

/-- What Bounds answers. -/
noncomputable def bndV (m : Int) : Int × Int × Int := if 0 ≤ m ∧ m ≤ 2399 then (Cal.S m, Cal.S (m + 1) - 1, 0) else (0, 0, 10)
theorem Bounds_any (m : Int) (w : World) (hT : Tab w) :
    Calls Tryd.prog 11 #[.int .i64 m] w fun e w' => e = .returned (.tuple #[.int .i64 (bndV m).1, .int .i64 (bndV m).2.1, .int .i64 (bndV m).2.2]) ∧ ∃ n, w' = w.drewN n := by
  unfold bndV
  by_cases h : 0 ≤ m ∧ m ≤ 2399
  · rw [if_pos h]; exact Bounds_yes m w h.1 h.2 hT
  · rw [if_neg h]; exact (Bounds_no m w (by omega)).mono fun _ _ ⟨a, b⟩ => ⟨a, 0, b.symm⟩
theorem bnd_yes {m : Int} (h0 : 0 ≤ m) (h1 : m ≤ 2399) : (bndV m).1 = Cal.S m ∧ (bndV m).2.1 = Cal.S m + Cal.L m - 1 ∧ (bndV m).2.2 = 0 := by
  have := Cal.S_step h0 h1
  unfold bndV
  rw [if_pos ⟨h0, h1⟩]
  exact ⟨rfl, by simp; omega, rfl⟩
theorem bnd_no {m : Int} (h : m < 0 ∨ 2399 < m) : (bndV m).1 = 0 ∧ (bndV m).2.1 = 0 ∧ (bndV m).2.2 = 10 := by
  unfold bndV
  rw [if_neg (by omega)]
  exact ⟨rfl, rfl, rfl⟩

theorem on_eq {d n : Int} (h : - Cal.Mo d ≤ n) (h' : n ≤ 2399 - Cal.Mo d) :
    onV d n = Cal.S (Cal.Mo d + n) + min (d - Cal.S (Cal.Mo d) + 1) (Cal.L (Cal.Mo d + n)) - 1 := by
  have := Cal.S_step (m := Cal.Mo d + n) (by omega) (by omega)
  unfold onV
  omega


/-- Draws, a call that makes memory, another one, a new block, a third one. -/
theorem Below.chain {w w2 w3 w4 : World} {k : Nat} {o : Obj} (b2 : Below (w.drewN k).heap.size (w.drewN k) w2) (b3 : Below w2.heap.size w2 w3) (b4 : Below (w3.alloc o).heap.size (w3.alloc o) w4) : Below w.heap.size w w4 := by
  have h2 : w.heap.size ≤ w2.heap.size := b2.size
  have h3 := b3.size
  exact Below.trans (Below.drewN (Below.refl _ _) _) (Below.trans b2 (Below.trans (b3.mono h2) (Below.trans ((Below.refl _ w3).alloc (Nat.le_trans h2 h3) o) (b4.mono (by simp; omega)))))

set_option maxRecDepth 100000 in
set_option maxHeartbeats 1000000 in
theorem Months_law_no0 (day month n : Int) (w : World) (hT : Tab w) (hd : day < 0 ∨ 73048 < day) (hm : month < 0) :
    Calls Tryd.prog 3 #[.int .i64 day, .int .i64 month, .int .i64 n] w fun e w' => e = .returned (.bool true) ∧ Below w.heap.size w w' := by
  have HT := Lib.hid hT
  clear hT
  have hr : decide (0 ≤ day ∧ day ≤ 73048) = false := by simp; omega
  have HD := Lib.hid hd
  clear hd
  obtain ⟨e1, e2, e3⟩ := bnd_no (m := month) (by omega)
  go_enter Tryd.func3, Tryd.ntmps3
  go_wp2_with fail
  refine (Month_no _ _ HD.out).mono ?_; rintro e w1 ⟨rfl, rfl⟩
  go_wp2_with fail
  refine (Weekday_no _ _ HD.out).mono ?_; rintro e w1 ⟨rfl, rfl⟩
  go_wp2_with fail
  refine (Bounds_any _ _ HT.out).mono ?_; rintro e w1 ⟨rfl, k, rfl⟩
  rw [e1, e2, e3]
  go_wp2_with fail
  refine (Months_day _ _ _ HD.out).mono ?_; rintro e w1 ⟨rfl, rfl⟩
  go_wp2_with fail
  refine (lright_any _ _).mono ?_; rintro e w1 ⟨rfl, rfl⟩; rw [hr]
  go_wp2_with fail
  refine (awake_any _ (HT.out.drewN _)).mono ?_; rintro e w1 ⟨rfl, hb⟩
  go_wp2_with fail
  go_ret
  exact ⟨rfl, Below.trans (Below.drewN (Below.refl _ _) _) hb⟩

set_option maxRecDepth 100000 in
set_option maxHeartbeats 2000000 in
theorem Months_law_yes00 (day month n : Int) (w : World) (hT : Tab w) (h0 : 0 ≤ day) (h1 : day ≤ 73048) (hm : month < 0) (hn : n < - Cal.Mo day) :
    Calls Tryd.prog 3 #[.int .i64 day, .int .i64 month, .int .i64 n] w fun e w' => e = .returned (.bool true) ∧ Below w.heap.size w w' := by
  have hp := hT.pos
  have HT := Lib.hid hT
  clear hT
  have hr : decide (0 ≤ day ∧ day ≤ 73048) = true := by simp [h0, h1]
  obtain ⟨q0, q1, q2, q3⟩ := Cal.Mo_spec h0 h1
  have hsb0 := Cal.S_bd (a := Cal.Mo day) (by omega) (by omega)
  have hnow : Hid (12 * (2000 + Cal.Mo day / 12 - 2000) + (Cal.Mo day % 12 + 1) - 1 = Cal.Mo day) := by unfold Hid; omega
  obtain ⟨e1, e2, e3⟩ := bnd_no (m := month) (by omega)
  go_enter Tryd.func3, Tryd.ntmps3
  go_wp2_with fail
  refine (Month_yes _ _ h0 h1 HT.out).mono ?_; rintro e w1 ⟨rfl, k1, rfl⟩
  go_wp2_with fail
  refine (Weekday_yes _ _ h0 h1).mono ?_; rintro e w1 ⟨rfl, rfl⟩
  go_wp2_with fail
  refine (Bounds_any _ _ (HT.out.drewN _)).mono ?_; rintro e w1 ⟨rfl, k2, rfl⟩
  rw [e1, e2, e3]
  go_wp2_with fail
  refine (Months_far _ _ _ h0 h1 (HT.out.drewN _) (by omega)).mono ?_; rintro e w2 ⟨rfl, b2⟩
  go_wp2_with fail
  refine (lright_any _ _).mono ?_; rintro e w1 ⟨rfl, rfl⟩; rw [hr]
  go_wp2_with fail
  refine (refOf_any _ _ h0 h1).mono ?_; rintro e w3 ⟨rfl, b3⟩
  go_upto_region 15 with fail
  rw [hnow.out]
  go_wp2_with fail
  have t3 : Hid (Tab w3) := ((HT.out.drewN _).below b2 hp).below b3 (Nat.lt_of_lt_of_le hp b2.size)
  refine (awake_any _ (t3.out.alloc _)).mono ?_; rintro e w4 ⟨rfl, b4⟩
  go_wp2_with fail
  go_ret
  exact ⟨rfl, Below.chain b2 b3 b4⟩

set_option maxRecDepth 100000 in
set_option maxHeartbeats 2000000 in
theorem Months_law_yes01 (day month n : Int) (w : World) (hT : Tab w) (h0 : 0 ≤ day) (h1 : day ≤ 73048) (hm : month < 0) (hn0 : ¬ n < - Cal.Mo day) (hn : 2399 - Cal.Mo day < n) :
    Calls Tryd.prog 3 #[.int .i64 day, .int .i64 month, .int .i64 n] w fun e w' => e = .returned (.bool true) ∧ Below w.heap.size w w' := by
  have hp := hT.pos
  have HT := Lib.hid hT
  clear hT
  have hr : decide (0 ≤ day ∧ day ≤ 73048) = true := by simp [h0, h1]
  obtain ⟨q0, q1, q2, q3⟩ := Cal.Mo_spec h0 h1
  have hsb0 := Cal.S_bd (a := Cal.Mo day) (by omega) (by omega)
  have hnow : Hid (12 * (2000 + Cal.Mo day / 12 - 2000) + (Cal.Mo day % 12 + 1) - 1 = Cal.Mo day) := by unfold Hid; omega
  obtain ⟨e1, e2, e3⟩ := bnd_no (m := month) (by omega)
  go_enter Tryd.func3, Tryd.ntmps3
  go_wp2_with fail
  refine (Month_yes _ _ h0 h1 HT.out).mono ?_; rintro e w1 ⟨rfl, k1, rfl⟩
  go_wp2_with fail
  refine (Weekday_yes _ _ h0 h1).mono ?_; rintro e w1 ⟨rfl, rfl⟩
  go_wp2_with fail
  refine (Bounds_any _ _ (HT.out.drewN _)).mono ?_; rintro e w1 ⟨rfl, k2, rfl⟩
  rw [e1, e2, e3]
  go_wp2_with fail
  refine (Months_far _ _ _ h0 h1 (HT.out.drewN _) (by omega)).mono ?_; rintro e w2 ⟨rfl, b2⟩
  go_wp2_with fail
  refine (lright_any _ _).mono ?_; rintro e w1 ⟨rfl, rfl⟩; rw [hr]
  go_wp2_with fail
  refine (refOf_any _ _ h0 h1).mono ?_; rintro e w3 ⟨rfl, b3⟩
  go_upto_region 15 with fail
  rw [hnow.out]
  go_wp2_with fail
  have t3 : Hid (Tab w3) := ((HT.out.drewN _).below b2 hp).below b3 (Nat.lt_of_lt_of_le hp b2.size)
  refine (awake_any _ (t3.out.alloc _)).mono ?_; rintro e w4 ⟨rfl, b4⟩
  go_wp2_with fail
  go_ret
  exact ⟨rfl, Below.chain b2 b3 b4⟩

set_option maxRecDepth 100000 in
set_option maxHeartbeats 2000000 in
theorem Months_law_yes02 (day month n : Int) (w : World) (hT : Tab w) (h0 : 0 ≤ day) (h1 : day ≤ 73048) (hm : month < 0) (hn : - Cal.Mo day ≤ n) (hn' : n ≤ 2399 - Cal.Mo day) :
    Calls Tryd.prog 3 #[.int .i64 day, .int .i64 month, .int .i64 n] w fun e w' => e = .returned (.bool true) ∧ Below w.heap.size w w' := by
  have hp := hT.pos
  have HT := Lib.hid hT
  clear hT
  have hr : decide (0 ≤ day ∧ day ≤ 73048) = true := by simp [h0, h1]
  obtain ⟨q0, q1, q2, q3⟩ := Cal.Mo_spec h0 h1
  have hsb0 := Cal.S_bd (a := Cal.Mo day) (by omega) (by omega)
  have hnow : Hid (12 * (2000 + Cal.Mo day / 12 - 2000) + (Cal.Mo day % 12 + 1) - 1 = Cal.Mo day) := by unfold Hid; omega
  obtain ⟨e1, e2, e3⟩ := bnd_no (m := month) (by omega)
  have hon := on_eq hn hn'
  have hsb := Cal.S_bd (a := Cal.Mo day + n) (by omega) (by omega)
  have hlb := Cal.L_bd (Cal.Mo day + n)
  go_enter Tryd.func3, Tryd.ntmps3
  go_wp2_with fail
  refine (Month_yes _ _ h0 h1 HT.out).mono ?_; rintro e w1 ⟨rfl, k1, rfl⟩
  go_wp2_with fail
  refine (Weekday_yes _ _ h0 h1).mono ?_; rintro e w1 ⟨rfl, rfl⟩
  go_wp2_with fail
  refine (Bounds_any _ _ (HT.out.drewN _)).mono ?_; rintro e w1 ⟨rfl, k2, rfl⟩
  rw [e1, e2, e3]
  go_wp2_with fail
  refine (Months_yes _ _ _ h0 h1 (HT.out.drewN _) hn hn').mono ?_; rintro e w2 ⟨rfl, b2⟩
  rw [hon]
  go_wp2_with fail
  refine (lright_any _ _).mono ?_; rintro e w1 ⟨rfl, rfl⟩; rw [hr]
  go_wp2_with fail
  refine (refOf_any _ _ h0 h1).mono ?_; rintro e w3 ⟨rfl, b3⟩
  go_upto_region 15 with fail
  rw [hnow.out]
  go_wp2_with fail
  refine (refMonth_any _ _ (by omega) (by omega)).mono ?_; rintro e w1 ⟨rfl, rfl⟩
  go_wp2_with fail
  have t3 : Hid (Tab w3) := ((HT.out.drewN _).below b2 hp).below b3 (Nat.lt_of_lt_of_le hp b2.size)
  refine (awake_any _ (t3.out.alloc _)).mono ?_; rintro e w4 ⟨rfl, b4⟩
  go_wp2_with fail
  go_ret
  exact ⟨rfl, Below.chain b2 b3 b4⟩

set_option maxRecDepth 100000 in
set_option maxHeartbeats 1000000 in
theorem Months_law_no1 (day month n : Int) (w : World) (hT : Tab w) (hd : day < 0 ∨ 73048 < day) (hm0 : ¬ month < 0) (hm : 2399 < month) :
    Calls Tryd.prog 3 #[.int .i64 day, .int .i64 month, .int .i64 n] w fun e w' => e = .returned (.bool true) ∧ Below w.heap.size w w' := by
  have HT := Lib.hid hT
  clear hT
  have hr : decide (0 ≤ day ∧ day ≤ 73048) = false := by simp; omega
  have HD := Lib.hid hd
  clear hd
  obtain ⟨e1, e2, e3⟩ := bnd_no (m := month) (by omega)
  go_enter Tryd.func3, Tryd.ntmps3
  go_wp2_with fail
  refine (Month_no _ _ HD.out).mono ?_; rintro e w1 ⟨rfl, rfl⟩
  go_wp2_with fail
  refine (Weekday_no _ _ HD.out).mono ?_; rintro e w1 ⟨rfl, rfl⟩
  go_wp2_with fail
  refine (Bounds_any _ _ HT.out).mono ?_; rintro e w1 ⟨rfl, k, rfl⟩
  rw [e1, e2, e3]
  go_wp2_with fail
  refine (Months_day _ _ _ HD.out).mono ?_; rintro e w1 ⟨rfl, rfl⟩
  go_wp2_with fail
  refine (lright_any _ _).mono ?_; rintro e w1 ⟨rfl, rfl⟩; rw [hr]
  go_wp2_with fail
  refine (awake_any _ (HT.out.drewN _)).mono ?_; rintro e w1 ⟨rfl, hb⟩
  go_wp2_with fail
  go_ret
  exact ⟨rfl, Below.trans (Below.drewN (Below.refl _ _) _) hb⟩

set_option maxRecDepth 100000 in
set_option maxHeartbeats 2000000 in
theorem Months_law_yes10 (day month n : Int) (w : World) (hT : Tab w) (h0 : 0 ≤ day) (h1 : day ≤ 73048) (hm0 : ¬ month < 0) (hm : 2399 < month) (hn : n < - Cal.Mo day) :
    Calls Tryd.prog 3 #[.int .i64 day, .int .i64 month, .int .i64 n] w fun e w' => e = .returned (.bool true) ∧ Below w.heap.size w w' := by
  have hp := hT.pos
  have HT := Lib.hid hT
  clear hT
  have hr : decide (0 ≤ day ∧ day ≤ 73048) = true := by simp [h0, h1]
  obtain ⟨q0, q1, q2, q3⟩ := Cal.Mo_spec h0 h1
  have hsb0 := Cal.S_bd (a := Cal.Mo day) (by omega) (by omega)
  have hnow : Hid (12 * (2000 + Cal.Mo day / 12 - 2000) + (Cal.Mo day % 12 + 1) - 1 = Cal.Mo day) := by unfold Hid; omega
  obtain ⟨e1, e2, e3⟩ := bnd_no (m := month) (by omega)
  go_enter Tryd.func3, Tryd.ntmps3
  go_wp2_with fail
  refine (Month_yes _ _ h0 h1 HT.out).mono ?_; rintro e w1 ⟨rfl, k1, rfl⟩
  go_wp2_with fail
  refine (Weekday_yes _ _ h0 h1).mono ?_; rintro e w1 ⟨rfl, rfl⟩
  go_wp2_with fail
  refine (Bounds_any _ _ (HT.out.drewN _)).mono ?_; rintro e w1 ⟨rfl, k2, rfl⟩
  rw [e1, e2, e3]
  go_wp2_with fail
  refine (Months_far _ _ _ h0 h1 (HT.out.drewN _) (by omega)).mono ?_; rintro e w2 ⟨rfl, b2⟩
  go_wp2_with fail
  refine (lright_any _ _).mono ?_; rintro e w1 ⟨rfl, rfl⟩; rw [hr]
  go_wp2_with fail
  refine (refOf_any _ _ h0 h1).mono ?_; rintro e w3 ⟨rfl, b3⟩
  go_upto_region 15 with fail
  rw [hnow.out]
  go_wp2_with fail
  have t3 : Hid (Tab w3) := ((HT.out.drewN _).below b2 hp).below b3 (Nat.lt_of_lt_of_le hp b2.size)
  refine (awake_any _ (t3.out.alloc _)).mono ?_; rintro e w4 ⟨rfl, b4⟩
  go_wp2_with fail
  go_ret
  exact ⟨rfl, Below.chain b2 b3 b4⟩

set_option maxRecDepth 100000 in
set_option maxHeartbeats 2000000 in
theorem Months_law_yes11 (day month n : Int) (w : World) (hT : Tab w) (h0 : 0 ≤ day) (h1 : day ≤ 73048) (hm0 : ¬ month < 0) (hm : 2399 < month) (hn0 : ¬ n < - Cal.Mo day) (hn : 2399 - Cal.Mo day < n) :
    Calls Tryd.prog 3 #[.int .i64 day, .int .i64 month, .int .i64 n] w fun e w' => e = .returned (.bool true) ∧ Below w.heap.size w w' := by
  have hp := hT.pos
  have HT := Lib.hid hT
  clear hT
  have hr : decide (0 ≤ day ∧ day ≤ 73048) = true := by simp [h0, h1]
  obtain ⟨q0, q1, q2, q3⟩ := Cal.Mo_spec h0 h1
  have hsb0 := Cal.S_bd (a := Cal.Mo day) (by omega) (by omega)
  have hnow : Hid (12 * (2000 + Cal.Mo day / 12 - 2000) + (Cal.Mo day % 12 + 1) - 1 = Cal.Mo day) := by unfold Hid; omega
  obtain ⟨e1, e2, e3⟩ := bnd_no (m := month) (by omega)
  go_enter Tryd.func3, Tryd.ntmps3
  go_wp2_with fail
  refine (Month_yes _ _ h0 h1 HT.out).mono ?_; rintro e w1 ⟨rfl, k1, rfl⟩
  go_wp2_with fail
  refine (Weekday_yes _ _ h0 h1).mono ?_; rintro e w1 ⟨rfl, rfl⟩
  go_wp2_with fail
  refine (Bounds_any _ _ (HT.out.drewN _)).mono ?_; rintro e w1 ⟨rfl, k2, rfl⟩
  rw [e1, e2, e3]
  go_wp2_with fail
  refine (Months_far _ _ _ h0 h1 (HT.out.drewN _) (by omega)).mono ?_; rintro e w2 ⟨rfl, b2⟩
  go_wp2_with fail
  refine (lright_any _ _).mono ?_; rintro e w1 ⟨rfl, rfl⟩; rw [hr]
  go_wp2_with fail
  refine (refOf_any _ _ h0 h1).mono ?_; rintro e w3 ⟨rfl, b3⟩
  go_upto_region 15 with fail
  rw [hnow.out]
  go_wp2_with fail
  have t3 : Hid (Tab w3) := ((HT.out.drewN _).below b2 hp).below b3 (Nat.lt_of_lt_of_le hp b2.size)
  refine (awake_any _ (t3.out.alloc _)).mono ?_; rintro e w4 ⟨rfl, b4⟩
  go_wp2_with fail
  go_ret
  exact ⟨rfl, Below.chain b2 b3 b4⟩

set_option maxRecDepth 100000 in
set_option maxHeartbeats 2000000 in
theorem Months_law_yes12 (day month n : Int) (w : World) (hT : Tab w) (h0 : 0 ≤ day) (h1 : day ≤ 73048) (hm0 : ¬ month < 0) (hm : 2399 < month) (hn : - Cal.Mo day ≤ n) (hn' : n ≤ 2399 - Cal.Mo day) :
    Calls Tryd.prog 3 #[.int .i64 day, .int .i64 month, .int .i64 n] w fun e w' => e = .returned (.bool true) ∧ Below w.heap.size w w' := by
  have hp := hT.pos
  have HT := Lib.hid hT
  clear hT
  have hr : decide (0 ≤ day ∧ day ≤ 73048) = true := by simp [h0, h1]
  obtain ⟨q0, q1, q2, q3⟩ := Cal.Mo_spec h0 h1
  have hsb0 := Cal.S_bd (a := Cal.Mo day) (by omega) (by omega)
  have hnow : Hid (12 * (2000 + Cal.Mo day / 12 - 2000) + (Cal.Mo day % 12 + 1) - 1 = Cal.Mo day) := by unfold Hid; omega
  obtain ⟨e1, e2, e3⟩ := bnd_no (m := month) (by omega)
  have hon := on_eq hn hn'
  have hsb := Cal.S_bd (a := Cal.Mo day + n) (by omega) (by omega)
  have hlb := Cal.L_bd (Cal.Mo day + n)
  go_enter Tryd.func3, Tryd.ntmps3
  go_wp2_with fail
  refine (Month_yes _ _ h0 h1 HT.out).mono ?_; rintro e w1 ⟨rfl, k1, rfl⟩
  go_wp2_with fail
  refine (Weekday_yes _ _ h0 h1).mono ?_; rintro e w1 ⟨rfl, rfl⟩
  go_wp2_with fail
  refine (Bounds_any _ _ (HT.out.drewN _)).mono ?_; rintro e w1 ⟨rfl, k2, rfl⟩
  rw [e1, e2, e3]
  go_wp2_with fail
  refine (Months_yes _ _ _ h0 h1 (HT.out.drewN _) hn hn').mono ?_; rintro e w2 ⟨rfl, b2⟩
  rw [hon]
  go_wp2_with fail
  refine (lright_any _ _).mono ?_; rintro e w1 ⟨rfl, rfl⟩; rw [hr]
  go_wp2_with fail
  refine (refOf_any _ _ h0 h1).mono ?_; rintro e w3 ⟨rfl, b3⟩
  go_upto_region 15 with fail
  rw [hnow.out]
  go_wp2_with fail
  refine (refMonth_any _ _ (by omega) (by omega)).mono ?_; rintro e w1 ⟨rfl, rfl⟩
  go_wp2_with fail
  have t3 : Hid (Tab w3) := ((HT.out.drewN _).below b2 hp).below b3 (Nat.lt_of_lt_of_le hp b2.size)
  refine (awake_any _ (t3.out.alloc _)).mono ?_; rintro e w4 ⟨rfl, b4⟩
  go_wp2_with fail
  go_ret
  exact ⟨rfl, Below.chain b2 b3 b4⟩

set_option maxRecDepth 100000 in
set_option maxHeartbeats 1000000 in
theorem Months_law_no2 (day month n : Int) (w : World) (hT : Tab w) (hd : day < 0 ∨ 73048 < day) (m0 : 0 ≤ month) (m1 : month ≤ 2399) :
    Calls Tryd.prog 3 #[.int .i64 day, .int .i64 month, .int .i64 n] w fun e w' => e = .returned (.bool true) ∧ Below w.heap.size w w' := by
  have HT := Lib.hid hT
  clear hT
  have hr : decide (0 ≤ day ∧ day ≤ 73048) = false := by simp; omega
  have HD := Lib.hid hd
  clear hd
  obtain ⟨e1, e2, e3⟩ := bnd_yes m0 m1
  have hsm := Cal.S_bd (a := month) (by omega) (by omega)
  have hlm := Cal.L_bd month
  go_enter Tryd.func3, Tryd.ntmps3
  go_wp2_with fail
  refine (Month_no _ _ HD.out).mono ?_; rintro e w1 ⟨rfl, rfl⟩
  go_wp2_with fail
  refine (Weekday_no _ _ HD.out).mono ?_; rintro e w1 ⟨rfl, rfl⟩
  go_wp2_with fail
  refine (Bounds_any _ _ HT.out).mono ?_; rintro e w1 ⟨rfl, k, rfl⟩
  rw [e1, e2, e3]
  go_wp2_with fail
  refine (Months_day _ _ _ HD.out).mono ?_; rintro e w1 ⟨rfl, rfl⟩
  go_wp2_with fail
  refine (refMonth_any _ _ m0 m1).mono ?_; rintro e w1 ⟨rfl, rfl⟩
  go_wp2_with fail
  refine (lright_any _ _).mono ?_; rintro e w1 ⟨rfl, rfl⟩; rw [hr]
  go_wp2_with fail
  refine (awake_any _ (HT.out.drewN _)).mono ?_; rintro e w1 ⟨rfl, hb⟩
  go_wp2_with fail
  go_ret
  exact ⟨rfl, Below.trans (Below.drewN (Below.refl _ _) _) hb⟩

set_option maxRecDepth 100000 in
set_option maxHeartbeats 2000000 in
theorem Months_law_yes20 (day month n : Int) (w : World) (hT : Tab w) (h0 : 0 ≤ day) (h1 : day ≤ 73048) (m0 : 0 ≤ month) (m1 : month ≤ 2399) (hn : n < - Cal.Mo day) :
    Calls Tryd.prog 3 #[.int .i64 day, .int .i64 month, .int .i64 n] w fun e w' => e = .returned (.bool true) ∧ Below w.heap.size w w' := by
  have hp := hT.pos
  have HT := Lib.hid hT
  clear hT
  have hr : decide (0 ≤ day ∧ day ≤ 73048) = true := by simp [h0, h1]
  obtain ⟨q0, q1, q2, q3⟩ := Cal.Mo_spec h0 h1
  have hsb0 := Cal.S_bd (a := Cal.Mo day) (by omega) (by omega)
  have hnow : Hid (12 * (2000 + Cal.Mo day / 12 - 2000) + (Cal.Mo day % 12 + 1) - 1 = Cal.Mo day) := by unfold Hid; omega
  obtain ⟨e1, e2, e3⟩ := bnd_yes m0 m1
  have hsm := Cal.S_bd (a := month) (by omega) (by omega)
  have hlm := Cal.L_bd month
  go_enter Tryd.func3, Tryd.ntmps3
  go_wp2_with fail
  refine (Month_yes _ _ h0 h1 HT.out).mono ?_; rintro e w1 ⟨rfl, k1, rfl⟩
  go_wp2_with fail
  refine (Weekday_yes _ _ h0 h1).mono ?_; rintro e w1 ⟨rfl, rfl⟩
  go_wp2_with fail
  refine (Bounds_any _ _ (HT.out.drewN _)).mono ?_; rintro e w1 ⟨rfl, k2, rfl⟩
  rw [e1, e2, e3]
  go_wp2_with fail
  refine (Months_far _ _ _ h0 h1 (HT.out.drewN _) (by omega)).mono ?_; rintro e w2 ⟨rfl, b2⟩
  go_wp2_with fail
  refine (refMonth_any _ _ m0 m1).mono ?_; rintro e w1 ⟨rfl, rfl⟩
  go_wp2_with fail
  refine (lright_any _ _).mono ?_; rintro e w1 ⟨rfl, rfl⟩; rw [hr]
  go_wp2_with fail
  refine (refOf_any _ _ h0 h1).mono ?_; rintro e w3 ⟨rfl, b3⟩
  go_upto_region 15 with fail
  rw [hnow.out]
  go_wp2_with fail
  have t3 : Hid (Tab w3) := ((HT.out.drewN _).below b2 hp).below b3 (Nat.lt_of_lt_of_le hp b2.size)
  refine (awake_any _ (t3.out.alloc _)).mono ?_; rintro e w4 ⟨rfl, b4⟩
  go_wp2_with fail
  go_ret
  exact ⟨rfl, Below.chain b2 b3 b4⟩

set_option maxRecDepth 100000 in
set_option maxHeartbeats 2000000 in
theorem Months_law_yes21 (day month n : Int) (w : World) (hT : Tab w) (h0 : 0 ≤ day) (h1 : day ≤ 73048) (m0 : 0 ≤ month) (m1 : month ≤ 2399) (hn0 : ¬ n < - Cal.Mo day) (hn : 2399 - Cal.Mo day < n) :
    Calls Tryd.prog 3 #[.int .i64 day, .int .i64 month, .int .i64 n] w fun e w' => e = .returned (.bool true) ∧ Below w.heap.size w w' := by
  have hp := hT.pos
  have HT := Lib.hid hT
  clear hT
  have hr : decide (0 ≤ day ∧ day ≤ 73048) = true := by simp [h0, h1]
  obtain ⟨q0, q1, q2, q3⟩ := Cal.Mo_spec h0 h1
  have hsb0 := Cal.S_bd (a := Cal.Mo day) (by omega) (by omega)
  have hnow : Hid (12 * (2000 + Cal.Mo day / 12 - 2000) + (Cal.Mo day % 12 + 1) - 1 = Cal.Mo day) := by unfold Hid; omega
  obtain ⟨e1, e2, e3⟩ := bnd_yes m0 m1
  have hsm := Cal.S_bd (a := month) (by omega) (by omega)
  have hlm := Cal.L_bd month
  go_enter Tryd.func3, Tryd.ntmps3
  go_wp2_with fail
  refine (Month_yes _ _ h0 h1 HT.out).mono ?_; rintro e w1 ⟨rfl, k1, rfl⟩
  go_wp2_with fail
  refine (Weekday_yes _ _ h0 h1).mono ?_; rintro e w1 ⟨rfl, rfl⟩
  go_wp2_with fail
  refine (Bounds_any _ _ (HT.out.drewN _)).mono ?_; rintro e w1 ⟨rfl, k2, rfl⟩
  rw [e1, e2, e3]
  go_wp2_with fail
  refine (Months_far _ _ _ h0 h1 (HT.out.drewN _) (by omega)).mono ?_; rintro e w2 ⟨rfl, b2⟩
  go_wp2_with fail
  refine (refMonth_any _ _ m0 m1).mono ?_; rintro e w1 ⟨rfl, rfl⟩
  go_wp2_with fail
  refine (lright_any _ _).mono ?_; rintro e w1 ⟨rfl, rfl⟩; rw [hr]
  go_wp2_with fail
  refine (refOf_any _ _ h0 h1).mono ?_; rintro e w3 ⟨rfl, b3⟩
  go_upto_region 15 with fail
  rw [hnow.out]
  go_wp2_with fail
  have t3 : Hid (Tab w3) := ((HT.out.drewN _).below b2 hp).below b3 (Nat.lt_of_lt_of_le hp b2.size)
  refine (awake_any _ (t3.out.alloc _)).mono ?_; rintro e w4 ⟨rfl, b4⟩
  go_wp2_with fail
  go_ret
  exact ⟨rfl, Below.chain b2 b3 b4⟩

set_option maxRecDepth 100000 in
set_option maxHeartbeats 2000000 in
theorem Months_law_yes22 (day month n : Int) (w : World) (hT : Tab w) (h0 : 0 ≤ day) (h1 : day ≤ 73048) (m0 : 0 ≤ month) (m1 : month ≤ 2399) (hn : - Cal.Mo day ≤ n) (hn' : n ≤ 2399 - Cal.Mo day) :
    Calls Tryd.prog 3 #[.int .i64 day, .int .i64 month, .int .i64 n] w fun e w' => e = .returned (.bool true) ∧ Below w.heap.size w w' := by
  have hp := hT.pos
  have HT := Lib.hid hT
  clear hT
  have hr : decide (0 ≤ day ∧ day ≤ 73048) = true := by simp [h0, h1]
  obtain ⟨q0, q1, q2, q3⟩ := Cal.Mo_spec h0 h1
  have hsb0 := Cal.S_bd (a := Cal.Mo day) (by omega) (by omega)
  have hnow : Hid (12 * (2000 + Cal.Mo day / 12 - 2000) + (Cal.Mo day % 12 + 1) - 1 = Cal.Mo day) := by unfold Hid; omega
  obtain ⟨e1, e2, e3⟩ := bnd_yes m0 m1
  have hsm := Cal.S_bd (a := month) (by omega) (by omega)
  have hlm := Cal.L_bd month
  have hon := on_eq hn hn'
  have hsb := Cal.S_bd (a := Cal.Mo day + n) (by omega) (by omega)
  have hlb := Cal.L_bd (Cal.Mo day + n)
  go_enter Tryd.func3, Tryd.ntmps3
  go_wp2_with fail
  refine (Month_yes _ _ h0 h1 HT.out).mono ?_; rintro e w1 ⟨rfl, k1, rfl⟩
  go_wp2_with fail
  refine (Weekday_yes _ _ h0 h1).mono ?_; rintro e w1 ⟨rfl, rfl⟩
  go_wp2_with fail
  refine (Bounds_any _ _ (HT.out.drewN _)).mono ?_; rintro e w1 ⟨rfl, k2, rfl⟩
  rw [e1, e2, e3]
  go_wp2_with fail
  refine (Months_yes _ _ _ h0 h1 (HT.out.drewN _) hn hn').mono ?_; rintro e w2 ⟨rfl, b2⟩
  rw [hon]
  go_wp2_with fail
  refine (refMonth_any _ _ m0 m1).mono ?_; rintro e w1 ⟨rfl, rfl⟩
  go_wp2_with fail
  refine (lright_any _ _).mono ?_; rintro e w1 ⟨rfl, rfl⟩; rw [hr]
  go_wp2_with fail
  refine (refOf_any _ _ h0 h1).mono ?_; rintro e w3 ⟨rfl, b3⟩
  go_upto_region 15 with fail
  rw [hnow.out]
  go_wp2_with fail
  refine (refMonth_any _ _ (by omega) (by omega)).mono ?_; rintro e w1 ⟨rfl, rfl⟩
  go_wp2_with fail
  have t3 : Hid (Tab w3) := ((HT.out.drewN _).below b2 hp).below b3 (Nat.lt_of_lt_of_le hp b2.size)
  refine (awake_any _ (t3.out.alloc _)).mono ?_; rintro e w4 ⟨rfl, b4⟩
  go_wp2_with fail
  go_ret
  exact ⟨rfl, Below.chain b2 b3 b4⟩

theorem Months_law (day month n : Int) (w : World) (hT : Tab w) :
    Calls Tryd.prog 3 #[.int .i64 day, .int .i64 month, .int .i64 n] w fun e w' => e = .returned (.bool true) ∧ Below w.heap.size w w' := by
  by_cases hd : day < 0 ∨ 73048 < day
  · by_cases a : month < 0
    · exact Months_law_no0 day month n w hT hd a
    by_cases b : 2399 < month
    · exact Months_law_no1 day month n w hT hd a b
    exact Months_law_no2 day month n w hT hd (by omega) (by omega)
  · have h0 : 0 ≤ day := by omega
    have h1 : day ≤ 73048 := by omega
    by_cases c : n < - Cal.Mo day
    · by_cases a : month < 0
      · exact Months_law_yes00 day month n w hT h0 h1 a c
      by_cases b : 2399 < month
      · exact Months_law_yes10 day month n w hT h0 h1 a b c
      exact Months_law_yes20 day month n w hT h0 h1 (by omega) (by omega) c
    by_cases e : 2399 - Cal.Mo day < n
    · by_cases a : month < 0
      · exact Months_law_yes01 day month n w hT h0 h1 a c e
      by_cases b : 2399 < month
      · exact Months_law_yes11 day month n w hT h0 h1 a b c e
      exact Months_law_yes21 day month n w hT h0 h1 (by omega) (by omega) c e
    · by_cases a : month < 0
      · exact Months_law_yes02 day month n w hT h0 h1 a (by omega) (by omega)
      by_cases b : 2399 < month
      · exact Months_law_yes12 day month n w hT h0 h1 a b (by omega) (by omega)
      exact Months_law_yes22 day month n w hT h0 h1 (by omega) (by omega) (by omega) (by omega)
end Go.Proofs.YtkbfbgapfmlfkaaDoor
