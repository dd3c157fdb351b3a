import Derived.Test.YtkbfbgapfmlfkaaDoorW1
import Derived.Lib.MinMax
namespace Go.Proofs.YtkbfbgapfmlfkaaDoor
open Go.RowKit

theorem below_drewN {w : World} {B : Nat} (n : Nat) : Below B w (w.drewN n) := ⟨rfl, rfl, rfl, Nat.le_refl _, fun _ _ => rfl⟩
theorem Tab.below {w w' : World} {B : Nat} (h : Tab w) (hb : Below B w w') (hB : 0 < B) : Tab w' := fun i hi => by
  rw [hb.cell (p := ⟨0, i, none⟩) hB]; exact h i hi
theorem Tab.pos {w : World} (h : Tab w) : 0 < w.heap.size := by
  have := h 0 (by omega)
  unfold World.cell? at this
  rcases Nat.eq_zero_or_pos w.heap.size with h0 | h0
  · have e : w.heap[0]? = none := by simp [h0]
    rw [e] at this
    simp at this
  · exact h0
theorem Tab.alloc {w : World} (h : Tab w) (o : Obj) : Tab (w.alloc o) :=
  h.below (B := w.heap.size) ((Below.refl _ _).alloc (Nat.le_refl _) o) h.pos

theorem Below.drewN {B : Nat} {a w : World} (h : Below B a w) (n : Nat) : Below B a (w.drewN n) := ⟨h.os, h.tape, h.output, h.size, h.block⟩

theorem of_any (d : Int) (w : World) (h0 : 0 ≤ d) (h1 : d ≤ 73048) (hT : Tab w) :
    Calls Tryd.prog 28 #[.int .i64 d] w fun e w' => e = .returned (.agg #[.int .i64 (2000 + Cal.Mo d / 12), .int .i64 (Cal.Mo d % 12 + 1), .int .i64 (d - Cal.S (Cal.Mo d) + 1)]) ∧ Below w.heap.size w w' := by
  obtain ⟨m0, m1, m2, m3⟩ := Cal.Mo_spec h0 h1
  have hb := Cal.S_bd m0 (by omega)
  have HT := Lib.hid hT
  clear hT
  go_enter Tryd.func28, Tryd.ntmps28
  go_wp2_with (first
    | (go_at_call 26; refine (month_any _ _ h0 h1 (HT.out.alloc _)).mono ?_; rintro e w' ⟨rfl, n, rfl⟩)
    | (go_at_call 27; refine (start_any _ _ m0 (by omega) ((HT.out.alloc _).drewN _)).mono ?_; rintro e w' ⟨rfl, n2, rfl⟩))
  refine bodyPost_ret (v := .agg #[.int .i64 (2000 + Cal.Mo d / 12), .int .i64 (Cal.Mo d % 12 + 1), .int .i64 (d - Cal.S (Cal.Mo d) + 1)]) (by simp [results, Tryd.results28, go_sem]) rfl ⟨rfl, ?_⟩
  repeat (first | exact Below.refl _ _ | refine Below.setCell ?_ (by simp) _ | refine Below.drewN ?_ _ | refine Below.alloc ?_ (by simp) _)

theorem results_tmp4 {fn : Func} {t u v x : Tmp} (h : fn.results = #[.tmp t, .tmp u, .tmp v, .tmp x]) (tmps : Array Value) (P : Program) (w : World) :
    (results fn tmps).run P w = .ok (.tuple #[tmps.getD t undef, tmps.getD u undef, tmps.getD v undef, tmps.getD x undef]) w := by
  simp [results, h]

theorem Date_yes (d : Int) (w : World) (h0 : 0 ≤ d) (h1 : d ≤ 73048) (hT : Tab w) :
    Calls Tryd.prog 17 #[.int .i64 d] w fun e w' => e = .returned (.tuple #[.int .i64 (2000 + Cal.Mo d / 12), .int .i64 (Cal.Mo d % 12 + 1), .int .i64 (d - Cal.S (Cal.Mo d) + 1), .int .i64 0]) ∧ Below w.heap.size w w' := by
  have HT := Lib.hid hT
  clear hT
  have hd : decide (0 ≤ d ∧ d ≤ 73048) = true := by simp [h0, h1]
  go_enter Tryd.func17, Tryd.ntmps17
  go_wp2_with (first
    | (go_at_call 25; refine (right_any _ _).mono ?_; rintro e w' ⟨rfl, rfl⟩; rw [hd])
    | (go_at_call 28; refine (of_any _ _ h0 h1 HT.out).mono ?_; rintro e w' ⟨rfl, hb⟩))
  go_quiet (fail)
  go_wp2
  refine bodyPost_ret (results_tmp4 rfl _ _ _) rfl ⟨rfl, ?_⟩
  have := hb.size
  repeat (first | exact hb | refine Below.setCell ?_ (by simp) _ | refine Below.drewN ?_ _ | refine Below.alloc ?_ (by first | omega | (simp; omega)) _)
theorem Date_no (d : Int) (w : World) (h : d < 0 ∨ 73048 < d) :
    Calls Tryd.prog 17 #[.int .i64 d] w fun e w' => e = .returned (.tuple #[.int .i64 0, .int .i64 0, .int .i64 0, .int .i64 18]) ∧ w = w' := by
  have hd : decide (0 ≤ d ∧ d ≤ 73048) = false := by simp; omega
  go_enter Tryd.func17, Tryd.ntmps17
  go_wp2_with (first
    | (go_at_call 25; refine (right_any _ _).mono ?_; rintro e w' ⟨rfl, rfl⟩; rw [hd]))
  exact bodyPost_ret (results_tmp4 rfl _ _ _) rfl ⟨rfl, rfl⟩

theorem Month_yes (d : Int) (w : World) (h0 : 0 ≤ d) (h1 : d ≤ 73048) (hT : Tab w) :
    Calls Tryd.prog 9 #[.int .i64 d] w fun e w' => e = .returned (.tuple #[.int .i64 (Cal.Mo d), .int .i64 0]) ∧ ∃ n, w' = w.drewN n := by
  have HT := Lib.hid hT
  clear hT
  have hd : decide (0 ≤ d ∧ d ≤ 73048) = true := by simp [h0, h1]
  go_enter Tryd.func9, Tryd.ntmps9
  go_wp2_with (first
    | (go_at_call 25; refine (right_any _ _).mono ?_; rintro e w' ⟨rfl, rfl⟩; rw [hd])
    | (go_at_call 26; refine (month_any _ _ h0 h1 HT.out).mono ?_; rintro e w' ⟨rfl, n, rfl⟩))
  go_ret2
  exact ⟨rfl, n, rfl⟩
theorem Month_no (d : Int) (w : World) (h : d < 0 ∨ 73048 < d) :
    Calls Tryd.prog 9 #[.int .i64 d] w fun e w' => e = .returned (.tuple #[.int .i64 0, .int .i64 18]) ∧ w = w' := by
  have hd : decide (0 ≤ d ∧ d ≤ 73048) = false := by simp; omega
  go_enter Tryd.func9, Tryd.ntmps9
  go_wp2_with (first
    | (go_at_call 25; refine (right_any _ _).mono ?_; rintro e w' ⟨rfl, rfl⟩; rw [hd]))
  go_ret2
  exact ⟨rfl, rfl⟩
theorem Weekday_yes (d : Int) (w : World) (h0 : 0 ≤ d) (h1 : d ≤ 73048) :
    Calls Tryd.prog 10 #[.int .i64 d] w fun e w' => e = .returned (.tuple #[.int .i64 ((d + 5) % 7), .int .i64 0]) ∧ w = w' := by
  have hd : decide (0 ≤ d ∧ d ≤ 73048) = true := by simp [h0, h1]
  go_enter Tryd.func10, Tryd.ntmps10
  go_wp2_with (first
    | (go_at_call 25; refine (right_any _ _).mono ?_; rintro e w' ⟨rfl, rfl⟩; rw [hd]))
  go_ret2
  exact ⟨rfl, rfl⟩
theorem Weekday_no (d : Int) (w : World) (h : d < 0 ∨ 73048 < d) :
    Calls Tryd.prog 10 #[.int .i64 d] w fun e w' => e = .returned (.tuple #[.int .i64 0, .int .i64 18]) ∧ w = w' := by
  have hd : decide (0 ≤ d ∧ d ≤ 73048) = false := by simp; omega
  go_enter Tryd.func10, Tryd.ntmps10
  go_wp2_with (first
    | (go_at_call 25; refine (right_any _ _).mono ?_; rintro e w' ⟨rfl, rfl⟩; rw [hd]))
  go_ret2
  exact ⟨rfl, rfl⟩
theorem Bounds_yes (m : Int) (w : World) (h0 : 0 ≤ m) (h1 : m ≤ 2399) (hT : Tab w) :
    Calls Tryd.prog 11 #[.int .i64 m] w fun e w' => e = .returned (.tuple #[.int .i64 (Cal.S m), .int .i64 (Cal.S (m + 1) - 1), .int .i64 0]) ∧ ∃ n, w' = w.drewN n := by
  have HT := Lib.hid hT
  clear hT
  have hb := Cal.S_bd (a := m + 1) (by omega) (by omega)
  go_enter Tryd.func11, Tryd.ntmps11
  go_wp2_with fail
  refine (start_any _ _ h0 (by omega) HT.out).mono ?_; rintro e w' ⟨rfl, n, rfl⟩
  go_wp2_with fail
  refine (start_any _ _ (by omega) (by omega) (HT.out.drewN _)).mono ?_; rintro e w' ⟨rfl, n2, rfl⟩
  go_wp2_with fail
  go_ret3
  exact ⟨rfl, _, rfl⟩
theorem Bounds_no (m : Int) (w : World) (h : m < 0 ∨ 2399 < m) :
    Calls Tryd.prog 11 #[.int .i64 m] w fun e w' => e = .returned (.tuple #[.int .i64 0, .int .i64 0, .int .i64 10]) ∧ w = w' := by
  rcases h with h | h
  · go_enter Tryd.func11, Tryd.ntmps11
    go_wp2_with fail
    go_ret3
    exact ⟨rfl, rfl⟩
  · have h' : ¬ m < 0 := by omega
    go_enter Tryd.func11, Tryd.ntmps11
    go_wp2_with fail
    go_ret3
    exact ⟨rfl, rfl⟩

/-- A day so many months on. -/
noncomputable def onV (d n : Int) : Int := min (Cal.S (Cal.Mo d + n) + (d - Cal.S (Cal.Mo d) + 1) - 1) (Cal.S (Cal.Mo d + n + 1) - 1)

theorem Months_day (d n : Int) (w : World) (h : d < 0 ∨ 73048 < d) :
    Calls Tryd.prog 12 #[.int .i64 d, .int .i64 n] w fun e w' => e = .returned (.tuple #[.int .i64 0, .int .i64 18]) ∧ w = w' := by
  go_enter Tryd.func12, Tryd.ntmps12
  go_wp2_with (first
    | (go_at_call 9; refine (Month_no _ _ h).mono ?_; rintro e w' ⟨rfl, rfl⟩))
  go_ret2
  exact ⟨rfl, rfl⟩
theorem Months_far (d n : Int) (w : World) (h0 : 0 ≤ d) (h1 : d ≤ 73048) (hT : Tab w) (h : n < - Cal.Mo d ∨ 2399 - Cal.Mo d < n) :
    Calls Tryd.prog 12 #[.int .i64 d, .int .i64 n] w fun e w' => e = .returned (.tuple #[.int .i64 0, .int .i64 18]) ∧ Below w.heap.size w w' := by
  have HT := Lib.hid hT
  clear hT
  obtain ⟨m0, m1, m2, m3⟩ := Cal.Mo_spec h0 h1
  clear m2 m3
  rcases h with h | h
  · go_enter Tryd.func12, Tryd.ntmps12
    go_wp2_with (first
      | (go_at_call 9; refine (Month_yes _ _ h0 h1 HT.out).mono ?_; rintro e w' ⟨rfl, k, rfl⟩))
    go_ret2
    exact ⟨rfl, Below.drewN (Below.refl _ _) _⟩
  · have h' : ¬ n < - Cal.Mo d := by omega
    go_enter Tryd.func12, Tryd.ntmps12
    go_wp2_with (first
      | (go_at_call 9; refine (Month_yes _ _ h0 h1 HT.out).mono ?_; rintro e w' ⟨rfl, k, rfl⟩))
    go_ret2
    exact ⟨rfl, Below.drewN (Below.refl _ _) _⟩
theorem Months_yes (d n : Int) (w : World) (h0 : 0 ≤ d) (h1 : d ≤ 73048) (hT : Tab w) (h : - Cal.Mo d ≤ n) (h' : n ≤ 2399 - Cal.Mo d) :
    Calls Tryd.prog 12 #[.int .i64 d, .int .i64 n] w fun e w' => e = .returned (.tuple #[.int .i64 (onV d n), .int .i64 0]) ∧ Below w.heap.size w w' := by
  have HT := Lib.hid hT
  clear hT
  obtain ⟨m0, m1, m2, m3⟩ := Cal.Mo_spec h0 h1
  have hb := Cal.S_bd (a := Cal.Mo d + n) (by omega) (by omega)
  have hb2 := Cal.S_bd (a := Cal.Mo d + n + 1) (by omega) (by omega)
  have hb3 := Cal.S_bd (a := Cal.Mo d) (by omega) (by omega)
  have hf : ∀ (a b c : Int) w, (Instr.field 53 (.agg #[.int .i64 a, .int .i64 b, .int .i64 c]) 2).run Tryd.prog w = .ok (.int .i64 c) w := fun _ _ _ _ => rfl
  go_enter Tryd.func12, Tryd.ntmps12
  go_wp2_with (first
    | (go_at_call 9; refine (Month_yes _ _ h0 h1 HT.out).mono ?_; rintro e w' ⟨rfl, k, rfl⟩)
    | (go_at_call 11; refine (Bounds_yes _ _ (by omega) (by omega) (HT.out.drewN _)).mono ?_; rintro e w' ⟨rfl, k2, rfl⟩)
    | (go_at_call 28; refine (of_any _ _ h0 h1 (HT.out.drewN _)).mono ?_; rintro e w' ⟨rfl, hbel⟩))
  go_ret2
  exact ⟨rfl, Below.trans (Below.drewN (Below.refl _ _) _) hbel⟩
end Go.Proofs.YtkbfbgapfmlfkaaDoor
