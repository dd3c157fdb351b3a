import Derived.Test.YtkbfbgapfmlfkaaDoorW7
import Derived.Lib.QuietBelow
namespace Go.Proofs.YtkbfbgapfmlfkaaDoor
open Go.RowKit

theorem ret_strv {a b : ByteArray} (h : a = b) : Ending.returned (.string a) = .returned (.string b) := by rw [h]
theorem ret_str {a b : List Int} (h : a = b) : Ending.returned (.string (strOfNums a)) = .returned (.string (strOfNums b)) := by rw [h]

theorem ret_strv2 {a b : ByteArray} {k : IntKind} {n : Int} (h : a = b) : Ending.returned (.tuple #[.string a, .int k n]) = .returned (.tuple #[.string b, .int k n]) := by rw [h]
theorem mk_4 (W : World) : (Instr.makeSlice 56 (.int .i64 4) (.int .i64 4)).run Tryd.prog W = .ok (.slice (some ⟨W.heap.size, 0, none⟩) 4 4) (W.alloc (.cells #[.int .u8 0, .int .u8 0, .int .u8 0, .int .u8 0] 5)) := by kernel_rfl
theorem mk_2 (W : World) : (Instr.makeSlice 56 (.int .i64 2) (.int .i64 2)).run Tryd.prog W = .ok (.slice (some ⟨W.heap.size, 0, none⟩) 2 2) (W.alloc (.cells #[.int .u8 0, .int .u8 0] 5)) := by kernel_rfl

theorem conv_4 (W : World) (a b c d : Int) :
    (convert 56 9 (.slice (some ⟨W.heap.size, 0, none⟩) 4 4)).run Tryd.prog (W.alloc (.cells #[.int .u8 a, .int .u8 b, .int .u8 c, .int .u8 d] 5)) = .ok (.string (strOfNums [a, b, c, d])) (W.alloc (.cells #[.int .u8 a, .int .u8 b, .int .u8 c, .int .u8 d] 5)) :=
  run_convert_bytes_arg _ 56 5 Tryd.underlying56 Tryd.underlying5 _ 0 4 4 [a, b, c, d] rfl (fun i hi => by
    rcases i with _ | _ | _ | _ | i
    iterate 4 simp [go_sem]
    omega) 9 Tryd.underlying9
theorem conv_2 (W : World) (a b : Int) :
    (convert 56 9 (.slice (some ⟨W.heap.size, 0, none⟩) 2 2)).run Tryd.prog (W.alloc (.cells #[.int .u8 a, .int .u8 b] 5)) = .ok (.string (strOfNums [a, b])) (W.alloc (.cells #[.int .u8 a, .int .u8 b] 5)) :=
  run_convert_bytes_arg _ 56 5 Tryd.underlying56 Tryd.underlying5 _ 0 2 2 [a, b] rfl (fun i hi => by
    rcases i with _ | _ | i
    iterate 2 simp [go_sem]
    omega) 9 Tryd.underlying9

set_option maxHeartbeats 400000 in
theorem pdig_2 (n : Int) (w : World) (h0 : 0 ≤ n) (h1 : n ≤ 9999999) :
    Calls Tryd.prog 30 #[.int .i64 n, .int .i64 2] w fun e w' => e = .returned (.string (strOfNums (Txt.digs n 2))) ∧ Below w.heap.size w w' := by
  have mk := mk_2
  have cv := conv_2
  go_enter Tryd.func30, Tryd.ntmps30
  go_wp2_with fail
  refine wp_loop_rounds 3 ?_
  rw [rounds_succ]
  go_wp2_with fail
  rw [rounds_succ]
  go_wp2_with fail
  rw [rounds_succ]
  go_wp2_with fail
  go_ret
  exact ⟨ret_str (Txt.digs_2 n).symm, (Below.refl _ _).alloc (Nat.le_refl _) _⟩
set_option maxHeartbeats 400000 in
theorem pdig_4 (n : Int) (w : World) (h0 : 0 ≤ n) (h1 : n ≤ 9999999) :
    Calls Tryd.prog 30 #[.int .i64 n, .int .i64 4] w fun e w' => e = .returned (.string (strOfNums (Txt.digs n 4))) ∧ Below w.heap.size w w' := by
  have mk := mk_4
  have cv := conv_4
  go_enter Tryd.func30, Tryd.ntmps30
  go_wp2_with fail
  refine wp_loop_rounds 5 ?_
  rw [rounds_succ]
  go_wp2_with fail
  rw [rounds_succ]
  go_wp2_with fail
  rw [rounds_succ]
  go_wp2_with fail
  rw [rounds_succ]
  go_wp2_with fail
  rw [rounds_succ]
  go_wp2_with fail
  go_ret
  exact ⟨ret_str (Txt.digs_4 n).symm, (Below.refl _ _).alloc (Nat.le_refl _) _⟩

/-- A date as a text. -/
def Txt.date (y m d : Int) : List Int := Txt.digs y 4 ++ [45] ++ Txt.digs m 2 ++ [45] ++ Txt.digs d 2
theorem Txt.date_length (y m d : Int) : (Txt.date y m d).length = 10 := by simp [Txt.date, Txt.digs_length]

theorem str_45 : (⟨#[45]⟩ : ByteArray) = strOfNums [45] := rfl
theorem date_eq (y m d : Int) : strOfNums (Txt.digs y 4) ++ (⟨#[45]⟩ : ByteArray) ++ strOfNums (Txt.digs m 2) ++ (⟨#[45]⟩ : ByteArray) ++ strOfNums (Txt.digs d 2) = strOfNums (Txt.date y m d) := by
  rw [str_45, Txt.strOfNums_append, Txt.strOfNums_append, Txt.strOfNums_append, Txt.strOfNums_append]; rfl

theorem digits_gen (n many : Int) (w : World) (h0 : 0 ≤ n) (h1 : n ≤ 9999) (h2 : 0 ≤ many) (h3 : many ≤ 100) :
    Calls Tryd.prog 31 #[.int .i64 n, .int .i64 many] w fun e w' => e = .returned (.string (strOfNums (Txt.digs n many.toNat))) ∧ Below w.heap.size w w' := by
  obtain ⟨k, rfl⟩ := Int.eq_ofNat_of_zero_le h2
  exact digits_any n k w h0 (by omega) (by omega)

set_option maxHeartbeats 400000 in
theorem refPrint_any (y m d : Int) (w : World) (hy0 : 0 ≤ y) (hy1 : y ≤ 9999) (hm0 : 0 ≤ m) (hm1 : m ≤ 99) (hd0 : 0 ≤ d) (hd1 : d ≤ 99) :
    Calls Tryd.prog 21 #[.agg #[.int .i64 y, .int .i64 m, .int .i64 d]] w fun e w' => e = .returned (.string (strOfNums (Txt.date y m d))) ∧ Below w.heap.size w w' := by
  have q0 : ∀ k os, (Go.Sort.grow (redrawn (w.alloc (.cells #[.int .i64 y, .int .i64 m, .int .i64 d] 33)) k) os).cell? ⟨w.heap.size, 0, none⟩ = some (.int .i64 y) := fun k os => cell_regrown (by simp [go_sem]) k os
  have q1 : ∀ k os, (Go.Sort.grow (redrawn (w.alloc (.cells #[.int .i64 y, .int .i64 m, .int .i64 d] 33)) k) os).cell? ⟨w.heap.size, 1, none⟩ = some (.int .i64 m) := fun k os => cell_regrown (by simp [go_sem]) k os
  have q2 : ∀ k os, (Go.Sort.grow (redrawn (w.alloc (.cells #[.int .i64 y, .int .i64 m, .int .i64 d] 33)) k) os).cell? ⟨w.heap.size, 2, none⟩ = some (.int .i64 d) := fun k os => cell_regrown (by simp [go_sem]) k os
  have s4 : (strOfNums (Txt.digs y 4)).size = 4 := by rw [strOfNums_size, Txt.digs_length]
  have s2 : (strOfNums (Txt.digs m 2)).size = 2 := by rw [strOfNums_size, Txt.digs_length]
  have s2' : (strOfNums (Txt.digs d 2)).size = 2 := by rw [strOfNums_size, Txt.digs_length]
  go_enter Tryd.func21, Tryd.ntmps21
  go_wp2_with fail
  refine wp_region_quiet_below (by kernel_rfl) (by kernel_rfl) ?_
  repeat (quiet_step (exact Calls.regrown_of (digits_gen _ _ _ (by omega) (by omega) (by omega) (by omega))))
  refine wpQuiet_nil ?_
  intro _ hw'
  obtain ⟨⟨dq, osq⟩, hw''⟩ := hw'
  subst hw''
  go_wp2_with fail
  go_ret
  exact ⟨ret_strv (date_eq y m d), Below.trans ((Below.refl _ _).alloc (Nat.le_refl _) _) (Below.mono (below_regrown _ dq osq) (by simp))⟩

theorem pdig_gen (n many : Int) (w : World) (h0 : 0 ≤ n) (h1 : n ≤ 9999) (h2 : many = 4 ∨ many = 2) :
    Calls Tryd.prog 30 #[.int .i64 n, .int .i64 many] w fun e w' => e = .returned (.string (strOfNums (Txt.digs n many.toNat))) ∧ Below w.heap.size w w' := by
  rcases h2 with rfl | rfl
  · exact pdig_4 n w h0 (by omega)
  · exact pdig_2 n w h0 (by omega)

set_option maxHeartbeats 400000 in
/-- The text that Print writes, out of any world: the struct lies in a block of its own. -/
theorem Print_yes (t : Int) (w : World) (h0 : 0 ≤ t) (h1 : t ≤ 73048) (hT : Tab w) :
    Calls Tryd.prog 20 #[.int .i64 t] w fun e w' => e = .returned (.tuple #[.string (strOfNums (Txt.date (2000 + Cal.Mo t / 12) (Cal.Mo t % 12 + 1) (t - Cal.S (Cal.Mo t) + 1))), .int .i64 0]) ∧ Below w.heap.size w w' := by
  obtain ⟨m0, m1, m2, m3⟩ := Cal.Mo_spec h0 h1
  have ms := Cal.S_step_bd m0 m1
  have HT := Lib.hid hT
  clear hT
  have hd : decide (0 ≤ t ∧ t ≤ 73048) = true := by simp [h0, h1]
  have hof := of_any t w h0 h1 HT.out
  have hy0 : 0 ≤ 2000 + Cal.Mo t / 12 ∧ 2000 + Cal.Mo t / 12 ≤ 9999 := by omega
  have hm0 : 0 ≤ Cal.Mo t % 12 + 1 ∧ Cal.Mo t % 12 + 1 ≤ 9999 := by omega
  have hd0 : 0 ≤ t - Cal.S (Cal.Mo t) + 1 ∧ t - Cal.S (Cal.Mo t) + 1 ≤ 9999 := by omega
  clear m2 m3 ms m0 m1
  generalize 2000 + Cal.Mo t / 12 = y at *
  generalize Cal.Mo t % 12 + 1 = m at *
  generalize t - Cal.S (Cal.Mo t) + 1 = d at *
  have s4 : (strOfNums (Txt.digs y 4)).size = 4 := by rw [strOfNums_size, Txt.digs_length]
  have s2 : (strOfNums (Txt.digs m 2)).size = 2 := by rw [strOfNums_size, Txt.digs_length]
  have s2' : (strOfNums (Txt.digs d 2)).size = 2 := by rw [strOfNums_size, Txt.digs_length]
  have HOF := Lib.hid hof
  clear hof
  go_enter Tryd.func20, Tryd.ntmps20
  go_wp2_with fail
  refine (right_any _ _).mono ?_; rintro e w' ⟨rfl, rfl⟩; rw [hd]
  go_wp2_with fail
  refine HOF.out.mono ?_; rintro e w' ⟨rfl, hb⟩
  go_wp2_with fail
  have q0 : ∀ k os, (Go.Sort.grow (redrawn (w'.alloc (.cells #[.int .i64 y, .int .i64 m, .int .i64 d] 53)) k) os).cell? ⟨w'.heap.size, 0, none⟩ = some (.int .i64 y) := fun k os => cell_regrown (by simp [go_sem]) k os
  have q1 : ∀ k os, (Go.Sort.grow (redrawn (w'.alloc (.cells #[.int .i64 y, .int .i64 m, .int .i64 d] 53)) k) os).cell? ⟨w'.heap.size, 1, none⟩ = some (.int .i64 m) := fun k os => cell_regrown (by simp [go_sem]) k os
  have q2 : ∀ k os, (Go.Sort.grow (redrawn (w'.alloc (.cells #[.int .i64 y, .int .i64 m, .int .i64 d] 53)) k) os).cell? ⟨w'.heap.size, 2, none⟩ = some (.int .i64 d) := fun k os => cell_regrown (by simp [go_sem]) k os
  refine wp_region_quiet_below (by kernel_rfl) (by kernel_rfl) ?_
  repeat (quiet_step (exact Calls.regrown_of (pdig_gen _ _ _ (by omega) (by omega) (by omega))))
  refine wpQuiet_nil ?_
  intro _ hw'
  obtain ⟨⟨dq, osq⟩, hw''⟩ := hw'
  subst hw''
  go_wp2_with fail
  go_ret2
  refine ⟨ret_strv2 (date_eq y m d), Below.trans hb (Below.trans (((Below.refl _ _).alloc (Nat.le_refl _) _).mono hb.size) (Below.mono (below_regrown _ dq osq) ?_))⟩
  have := hb.size
  simp; omega
theorem Print_no (t : Int) (w : World) (h : t < 0 ∨ 73048 < t) :
    Calls Tryd.prog 20 #[.int .i64 t] w fun e w' => e = .returned (.tuple #[.string ⟨#[]⟩, .int .i64 18]) ∧ w = w' := by
  have hd : decide (0 ≤ t ∧ t ≤ 73048) = false := by simp; omega
  go_enter Tryd.func20, Tryd.ntmps20
  go_wp2_with (first
    | (go_at_call 25; refine (right_any _ _).mono ?_; rintro e w' ⟨rfl, rfl⟩; rw [hd]))
  go_ret2
  exact ⟨rfl, rfl⟩
end Go.Proofs.YtkbfbgapfmlfkaaDoor
