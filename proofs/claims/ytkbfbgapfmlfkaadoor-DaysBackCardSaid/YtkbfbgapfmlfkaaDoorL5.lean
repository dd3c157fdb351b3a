import Derived.Test.YtkbfbgapfmlfkaaDoorW13
namespace Go.Proofs.YtkbfbgapfmlfkaaDoor
open Go.RowKit

set_option maxRecDepth 100000 in
set_option maxHeartbeats 1000000 in
theorem Texts_nn (day : Int) (s : ByteArray) (w : World) (hT : Tab w) (h40 : s.size ≤ 40) (hd : day < 0 ∨ 73048 < day) (hf : ¬ Fits s) :
    Calls Tryd.prog 7 #[.int .i64 day, .string s] w fun e w' => e = .returned (.bool true) ∧ Below w.heap.size w w' := by
  have HT0 := Lib.hid hT
  have HF := Lib.hid hf
  clear hT hf
  go_enter Tryd.func7, Tryd.ntmps7
  go_wp2_with fail
  have hr : decide (0 ≤ day ∧ day ≤ 73048) = false := by simp; omega
  have HDY := Lib.hid hd
  clear hd
  refine (Print_no _ _ HDY.out).mono ?_; rintro e w1 ⟨rfl, rfl⟩
  go_wp2_with fail
  refine (lright_any _ _).mono ?_; rintro e w1 ⟨rfl, rfl⟩; rw [hr]
  have T2 := HT0
  have B2 : Below w.heap.size w w := Below.refl _ _
  clear hr
  go_wp2_with fail
  refine (Parse_no s _ T2.out HF.out).mono ?_; rintro e w4 ⟨rfl, b4⟩
  have T4 : Hid (Tab w4) := T2.out.below b4 T2.out.pos
  have B4 : Below w.heap.size w w4 := B2.trans (b4.mono B2.size)
  clear b4
  go_wp2_with fail
  refine (Read_no s _ HF.out).mono ?_; rintro e w5 ⟨⟨y, m, d, rfl⟩, b5⟩
  have B5 : Below w.heap.size w w5 := B4.trans (b5.mono B4.size)
  have T5 : Hid (Tab w5) := T4.out.below b5 T4.out.pos
  have A5 : Below w.heap.size w (w5.alloc (.cells #[.int .i64 y, .int .i64 m, .int .i64 d] 33)) := B5.alloc B5.size _
  have T6 : Hid (Tab (w5.alloc (.cells #[.int .i64 y, .int .i64 m, .int .i64 d] 33))) := T5.out.alloc _
  clear b5
  go_wp2_with fail
  refine (awake_any _ T6.out).mono ?_; rintro e w8 ⟨rfl, b8⟩
  go_wp2_with fail
  go_ret
  exact ⟨rfl, A5.trans (b8.mono A5.size)⟩

set_option maxRecDepth 100000 in
set_option maxHeartbeats 1000000 in
theorem Texts_ny (day : Int) (s : ByteArray) (w : World) (hT : Tab w) (h40 : s.size ≤ 40) (hd : day < 0 ∨ 73048 < day) (hf : Fits s) (hok : okDate (Txt.yOf (Txt.byte s)) (Txt.mOf (Txt.byte s)) (Txt.dOf (Txt.byte s))) :
    Calls Tryd.prog 7 #[.int .i64 day, .string s] w fun e w' => e = .returned (.bool true) ∧ Below w.heap.size w w' := by
  have HT0 := Lib.hid hT
  have HF := Lib.hid hf
  have HOK := Lib.hid hok
  clear hok
  clear hT hf
  go_enter Tryd.func7, Tryd.ntmps7
  go_wp2_with fail
  have hr : decide (0 ≤ day ∧ day ≤ 73048) = false := by simp; omega
  have HDY := Lib.hid hd
  clear hd
  refine (Print_no _ _ HDY.out).mono ?_; rintro e w1 ⟨rfl, rfl⟩
  go_wp2_with fail
  refine (lright_any _ _).mono ?_; rintro e w1 ⟨rfl, rfl⟩; rw [hr]
  have T2 := HT0
  have B2 : Below w.heap.size w w := Below.refl _ _
  clear hr
  go_wp2_with fail
  refine (Parse_yes s _ T2.out HF.out).mono ?_; rintro e w4 ⟨rfl, b4⟩
  have T4 : Hid (Tab w4) := T2.out.below b4 T2.out.pos
  have B4 : Below w.heap.size w w4 := B2.trans (b4.mono B2.size)
  clear b4
  have HDN : Hid (dayN (Txt.yOf (Txt.byte s)) (Txt.mOf (Txt.byte s)) (Txt.dOf (Txt.byte s)) = numDate (Txt.yOf (Txt.byte s)) (Txt.mOf (Txt.byte s)) (Txt.dOf (Txt.byte s)) ∧ dayE (Txt.yOf (Txt.byte s)) (Txt.mOf (Txt.byte s)) (Txt.dOf (Txt.byte s)) = 0) := ⟨by unfold dayN; rw [if_pos HOK.out], by unfold dayE; rw [if_pos HOK.out]⟩
  rw [HDN.out.1, HDN.out.2]
  go_wp2_with fail
  refine (Read_yes s _ HF.out).mono ?_; rintro e w5 ⟨rfl, b5⟩
  have B5 : Below w.heap.size w w5 := B4.trans (b5.mono B4.size)
  have T5 : Hid (Tab w5) := T4.out.below b5 T4.out.pos
  generalize Txt.yOf (Txt.byte s) = y at *
  generalize Txt.mOf (Txt.byte s) = m at *
  generalize Txt.dOf (Txt.byte s) = d at *
  have A5 : Below w.heap.size w (w5.alloc (.cells #[.int .i64 y, .int .i64 m, .int .i64 d] 33)) := B5.alloc B5.size _
  have T6 : Hid (Tab (w5.alloc (.cells #[.int .i64 y, .int .i64 m, .int .i64 d] 33))) := T5.out.alloc _
  clear b5
  go_wp2_with fail
  refine (refDay_yes y m d _ HOK.out).mono ?_; rintro e w7 ⟨rfl, b7⟩
  have T7 : Hid (Tab w7) := T6.out.below b7 T6.out.pos
  have B7 : Below w.heap.size w w7 := A5.trans (b7.mono A5.size)
  clear b7
  obtain ⟨n0, n1, -, -⟩ := num_ok HOK.out
  generalize numDate y m d = N at *
  go_wp2_with fail
  refine (awake_any _ T7.out).mono ?_; rintro e w8 ⟨rfl, b8⟩
  go_wp2_with fail
  go_ret
  exact ⟨rfl, B7.trans (b8.mono B7.size)⟩

set_option maxRecDepth 100000 in
set_option maxHeartbeats 1000000 in
theorem Texts_nb (day : Int) (s : ByteArray) (w : World) (hT : Tab w) (h40 : s.size ≤ 40) (hd : day < 0 ∨ 73048 < day) (hf : Fits s) (hok : ¬ okDate (Txt.yOf (Txt.byte s)) (Txt.mOf (Txt.byte s)) (Txt.dOf (Txt.byte s))) :
    Calls Tryd.prog 7 #[.int .i64 day, .string s] w fun e w' => e = .returned (.bool true) ∧ Below w.heap.size w w' := by
  have HT0 := Lib.hid hT
  have HF := Lib.hid hf
  have HOK := Lib.hid hok
  clear hok
  clear hT hf
  go_enter Tryd.func7, Tryd.ntmps7
  go_wp2_with fail
  have hr : decide (0 ≤ day ∧ day ≤ 73048) = false := by simp; omega
  have HDY := Lib.hid hd
  clear hd
  refine (Print_no _ _ HDY.out).mono ?_; rintro e w1 ⟨rfl, rfl⟩
  go_wp2_with fail
  refine (lright_any _ _).mono ?_; rintro e w1 ⟨rfl, rfl⟩; rw [hr]
  have T2 := HT0
  have B2 : Below w.heap.size w w := Below.refl _ _
  clear hr
  go_wp2_with fail
  refine (Parse_yes s _ T2.out HF.out).mono ?_; rintro e w4 ⟨rfl, b4⟩
  have T4 : Hid (Tab w4) := T2.out.below b4 T2.out.pos
  have B4 : Below w.heap.size w w4 := B2.trans (b4.mono B2.size)
  clear b4
  have HDN : Hid (dayN (Txt.yOf (Txt.byte s)) (Txt.mOf (Txt.byte s)) (Txt.dOf (Txt.byte s)) = 0 ∧ dayE (Txt.yOf (Txt.byte s)) (Txt.mOf (Txt.byte s)) (Txt.dOf (Txt.byte s)) = 18) := ⟨by unfold dayN; rw [if_neg HOK.out], by unfold dayE; rw [if_neg HOK.out]⟩
  rw [HDN.out.1, HDN.out.2]
  go_wp2_with fail
  refine (Read_yes s _ HF.out).mono ?_; rintro e w5 ⟨rfl, b5⟩
  have B5 : Below w.heap.size w w5 := B4.trans (b5.mono B4.size)
  have T5 : Hid (Tab w5) := T4.out.below b5 T4.out.pos
  generalize Txt.yOf (Txt.byte s) = y at *
  generalize Txt.mOf (Txt.byte s) = m at *
  generalize Txt.dOf (Txt.byte s) = d at *
  have A5 : Below w.heap.size w (w5.alloc (.cells #[.int .i64 y, .int .i64 m, .int .i64 d] 33)) := B5.alloc B5.size _
  have T6 : Hid (Tab (w5.alloc (.cells #[.int .i64 y, .int .i64 m, .int .i64 d] 33))) := T5.out.alloc _
  clear b5
  go_wp2_with fail
  refine (refDay_no y m d _ HOK.out).mono ?_; rintro e w7 ⟨rfl, b7⟩
  have T7 : Hid (Tab w7) := T6.out.below b7 T6.out.pos
  have B7 : Below w.heap.size w w7 := A5.trans (b7.mono A5.size)
  clear b7
  go_wp2_with fail
  refine (awake_any _ T7.out).mono ?_; rintro e w8 ⟨rfl, b8⟩
  go_wp2_with fail
  go_ret
  exact ⟨rfl, B7.trans (b8.mono B7.size)⟩

set_option maxRecDepth 100000 in
set_option maxHeartbeats 1000000 in
theorem Texts_yn (day : Int) (s : ByteArray) (w : World) (hT : Tab w) (h40 : s.size ≤ 40) (hd : 0 ≤ day ∧ day ≤ 73048) (hf : ¬ Fits s) :
    Calls Tryd.prog 7 #[.int .i64 day, .string s] w fun e w' => e = .returned (.bool true) ∧ Below w.heap.size w w' := by
  have HT0 := Lib.hid hT
  have HF := Lib.hid hf
  clear hT hf
  go_enter Tryd.func7, Tryd.ntmps7
  go_wp2_with fail
  have hr : decide (0 ≤ day ∧ day ≤ 73048) = true := by simp; omega
  obtain ⟨h0, h1⟩ := hd
  have HM := Lib.hid (Cal.Mo_spec h0 h1)
  have hms := Lib.hid (Cal.S_step_bd HM.out.1 HM.out.2.1)
  refine (Print_yes _ _ h0 h1 HT0.out).mono ?_; rintro e w1 ⟨rfl, b1⟩
  go_wp2_with fail
  refine (lright_any _ _).mono ?_; rintro e w1' ⟨rfl, rfl⟩; rw [hr]
  go_wp2_with fail
  refine (refOf_any _ _ h0 h1).mono ?_; rintro e w2 ⟨rfl, b2⟩
  go_wp2_with fail
  refine (refPrint_any _ _ _ _ (by have := HM.out; omega) (by have := HM.out; omega) (by have := HM.out; omega) (by have := HM.out; omega) (by have := HM.out; have := hms.out; omega) (by have := HM.out; have := hms.out; omega)).mono ?_; rintro e w3 ⟨rfl, b3⟩
  have B3 : Below w.heap.size w w3 := b1.trans ((b2.mono b1.size).trans (b3.mono (by have := b1.size; have := b2.size; omega)))
  have T3 : Hid (Tab w3) := HT0.out.below B3 HT0.out.pos
  generalize strOfNums (Txt.date (2000 + Cal.Mo day / 12) (Cal.Mo day % 12 + 1) (day - Cal.S (Cal.Mo day) + 1)) = tx at *
  clear hr b1 b2 b3
  go_wp2_with fail
  refine (Parse_no s _ T3.out HF.out).mono ?_; rintro e w4 ⟨rfl, b4⟩
  have T4 : Hid (Tab w4) := T3.out.below b4 T3.out.pos
  have B4 : Below w.heap.size w w4 := B3.trans (b4.mono B3.size)
  clear b4
  go_wp2_with fail
  refine (Read_no s _ HF.out).mono ?_; rintro e w5 ⟨⟨y, m, d, rfl⟩, b5⟩
  have B5 : Below w.heap.size w w5 := B4.trans (b5.mono B4.size)
  have T5 : Hid (Tab w5) := T4.out.below b5 T4.out.pos
  have A5 : Below w.heap.size w (w5.alloc (.cells #[.int .i64 y, .int .i64 m, .int .i64 d] 33)) := B5.alloc B5.size _
  have T6 : Hid (Tab (w5.alloc (.cells #[.int .i64 y, .int .i64 m, .int .i64 d] 33))) := T5.out.alloc _
  clear b5
  go_wp2_with fail
  refine (awake_any _ T6.out).mono ?_; rintro e w8 ⟨rfl, b8⟩
  go_wp2_with fail
  go_ret
  exact ⟨rfl, A5.trans (b8.mono A5.size)⟩

set_option maxRecDepth 100000 in
set_option maxHeartbeats 1000000 in
theorem Texts_yy (day : Int) (s : ByteArray) (w : World) (hT : Tab w) (h40 : s.size ≤ 40) (hd : 0 ≤ day ∧ day ≤ 73048) (hf : Fits s) (hok : okDate (Txt.yOf (Txt.byte s)) (Txt.mOf (Txt.byte s)) (Txt.dOf (Txt.byte s))) :
    Calls Tryd.prog 7 #[.int .i64 day, .string s] w fun e w' => e = .returned (.bool true) ∧ Below w.heap.size w w' := by
  have HT0 := Lib.hid hT
  have HF := Lib.hid hf
  have HOK := Lib.hid hok
  clear hok
  clear hT hf
  go_enter Tryd.func7, Tryd.ntmps7
  go_wp2_with fail
  have hr : decide (0 ≤ day ∧ day ≤ 73048) = true := by simp; omega
  obtain ⟨h0, h1⟩ := hd
  have HM := Lib.hid (Cal.Mo_spec h0 h1)
  have hms := Lib.hid (Cal.S_step_bd HM.out.1 HM.out.2.1)
  refine (Print_yes _ _ h0 h1 HT0.out).mono ?_; rintro e w1 ⟨rfl, b1⟩
  go_wp2_with fail
  refine (lright_any _ _).mono ?_; rintro e w1' ⟨rfl, rfl⟩; rw [hr]
  go_wp2_with fail
  refine (refOf_any _ _ h0 h1).mono ?_; rintro e w2 ⟨rfl, b2⟩
  go_wp2_with fail
  refine (refPrint_any _ _ _ _ (by have := HM.out; omega) (by have := HM.out; omega) (by have := HM.out; omega) (by have := HM.out; omega) (by have := HM.out; have := hms.out; omega) (by have := HM.out; have := hms.out; omega)).mono ?_; rintro e w3 ⟨rfl, b3⟩
  have B3 : Below w.heap.size w w3 := b1.trans ((b2.mono b1.size).trans (b3.mono (by have := b1.size; have := b2.size; omega)))
  have T3 : Hid (Tab w3) := HT0.out.below B3 HT0.out.pos
  generalize strOfNums (Txt.date (2000 + Cal.Mo day / 12) (Cal.Mo day % 12 + 1) (day - Cal.S (Cal.Mo day) + 1)) = tx at *
  clear hr b1 b2 b3
  go_wp2_with fail
  refine (Parse_yes s _ T3.out HF.out).mono ?_; rintro e w4 ⟨rfl, b4⟩
  have T4 : Hid (Tab w4) := T3.out.below b4 T3.out.pos
  have B4 : Below w.heap.size w w4 := B3.trans (b4.mono B3.size)
  clear b4
  have HDN : Hid (dayN (Txt.yOf (Txt.byte s)) (Txt.mOf (Txt.byte s)) (Txt.dOf (Txt.byte s)) = numDate (Txt.yOf (Txt.byte s)) (Txt.mOf (Txt.byte s)) (Txt.dOf (Txt.byte s)) ∧ dayE (Txt.yOf (Txt.byte s)) (Txt.mOf (Txt.byte s)) (Txt.dOf (Txt.byte s)) = 0) := ⟨by unfold dayN; rw [if_pos HOK.out], by unfold dayE; rw [if_pos HOK.out]⟩
  rw [HDN.out.1, HDN.out.2]
  go_wp2_with fail
  refine (Read_yes s _ HF.out).mono ?_; rintro e w5 ⟨rfl, b5⟩
  have B5 : Below w.heap.size w w5 := B4.trans (b5.mono B4.size)
  have T5 : Hid (Tab w5) := T4.out.below b5 T4.out.pos
  generalize Txt.yOf (Txt.byte s) = y at *
  generalize Txt.mOf (Txt.byte s) = m at *
  generalize Txt.dOf (Txt.byte s) = d at *
  have A5 : Below w.heap.size w (w5.alloc (.cells #[.int .i64 y, .int .i64 m, .int .i64 d] 33)) := B5.alloc B5.size _
  have T6 : Hid (Tab (w5.alloc (.cells #[.int .i64 y, .int .i64 m, .int .i64 d] 33))) := T5.out.alloc _
  clear b5
  go_wp2_with fail
  refine (refDay_yes y m d _ HOK.out).mono ?_; rintro e w7 ⟨rfl, b7⟩
  have T7 : Hid (Tab w7) := T6.out.below b7 T6.out.pos
  have B7 : Below w.heap.size w w7 := A5.trans (b7.mono A5.size)
  clear b7
  obtain ⟨n0, n1, -, -⟩ := num_ok HOK.out
  generalize numDate y m d = N at *
  go_wp2_with fail
  refine (awake_any _ T7.out).mono ?_; rintro e w8 ⟨rfl, b8⟩
  go_wp2_with fail
  go_ret
  exact ⟨rfl, B7.trans (b8.mono B7.size)⟩

set_option maxRecDepth 100000 in
set_option maxHeartbeats 1000000 in
theorem Texts_yb (day : Int) (s : ByteArray) (w : World) (hT : Tab w) (h40 : s.size ≤ 40) (hd : 0 ≤ day ∧ day ≤ 73048) (hf : Fits s) (hok : ¬ okDate (Txt.yOf (Txt.byte s)) (Txt.mOf (Txt.byte s)) (Txt.dOf (Txt.byte s))) :
    Calls Tryd.prog 7 #[.int .i64 day, .string s] w fun e w' => e = .returned (.bool true) ∧ Below w.heap.size w w' := by
  have HT0 := Lib.hid hT
  have HF := Lib.hid hf
  have HOK := Lib.hid hok
  clear hok
  clear hT hf
  go_enter Tryd.func7, Tryd.ntmps7
  go_wp2_with fail
  have hr : decide (0 ≤ day ∧ day ≤ 73048) = true := by simp; omega
  obtain ⟨h0, h1⟩ := hd
  have HM := Lib.hid (Cal.Mo_spec h0 h1)
  have hms := Lib.hid (Cal.S_step_bd HM.out.1 HM.out.2.1)
  refine (Print_yes _ _ h0 h1 HT0.out).mono ?_; rintro e w1 ⟨rfl, b1⟩
  go_wp2_with fail
  refine (lright_any _ _).mono ?_; rintro e w1' ⟨rfl, rfl⟩; rw [hr]
  go_wp2_with fail
  refine (refOf_any _ _ h0 h1).mono ?_; rintro e w2 ⟨rfl, b2⟩
  go_wp2_with fail
  refine (refPrint_any _ _ _ _ (by have := HM.out; omega) (by have := HM.out; omega) (by have := HM.out; omega) (by have := HM.out; omega) (by have := HM.out; have := hms.out; omega) (by have := HM.out; have := hms.out; omega)).mono ?_; rintro e w3 ⟨rfl, b3⟩
  have B3 : Below w.heap.size w w3 := b1.trans ((b2.mono b1.size).trans (b3.mono (by have := b1.size; have := b2.size; omega)))
  have T3 : Hid (Tab w3) := HT0.out.below B3 HT0.out.pos
  generalize strOfNums (Txt.date (2000 + Cal.Mo day / 12) (Cal.Mo day % 12 + 1) (day - Cal.S (Cal.Mo day) + 1)) = tx at *
  clear hr b1 b2 b3
  go_wp2_with fail
  refine (Parse_yes s _ T3.out HF.out).mono ?_; rintro e w4 ⟨rfl, b4⟩
  have T4 : Hid (Tab w4) := T3.out.below b4 T3.out.pos
  have B4 : Below w.heap.size w w4 := B3.trans (b4.mono B3.size)
  clear b4
  have HDN : Hid (dayN (Txt.yOf (Txt.byte s)) (Txt.mOf (Txt.byte s)) (Txt.dOf (Txt.byte s)) = 0 ∧ dayE (Txt.yOf (Txt.byte s)) (Txt.mOf (Txt.byte s)) (Txt.dOf (Txt.byte s)) = 18) := ⟨by unfold dayN; rw [if_neg HOK.out], by unfold dayE; rw [if_neg HOK.out]⟩
  rw [HDN.out.1, HDN.out.2]
  go_wp2_with fail
  refine (Read_yes s _ HF.out).mono ?_; rintro e w5 ⟨rfl, b5⟩
  have B5 : Below w.heap.size w w5 := B4.trans (b5.mono B4.size)
  have T5 : Hid (Tab w5) := T4.out.below b5 T4.out.pos
  generalize Txt.yOf (Txt.byte s) = y at *
  generalize Txt.mOf (Txt.byte s) = m at *
  generalize Txt.dOf (Txt.byte s) = d at *
  have A5 : Below w.heap.size w (w5.alloc (.cells #[.int .i64 y, .int .i64 m, .int .i64 d] 33)) := B5.alloc B5.size _
  have T6 : Hid (Tab (w5.alloc (.cells #[.int .i64 y, .int .i64 m, .int .i64 d] 33))) := T5.out.alloc _
  clear b5
  go_wp2_with fail
  refine (refDay_no y m d _ HOK.out).mono ?_; rintro e w7 ⟨rfl, b7⟩
  have T7 : Hid (Tab w7) := T6.out.below b7 T6.out.pos
  have B7 : Below w.heap.size w w7 := A5.trans (b7.mono A5.size)
  clear b7
  go_wp2_with fail
  refine (awake_any _ T7.out).mono ?_; rintro e w8 ⟨rfl, b8⟩
  go_wp2_with fail
  go_ret
  exact ⟨rfl, B7.trans (b8.mono B7.size)⟩

theorem Texts_long (day : Int) (s : ByteArray) (w : World) (hT : Tab w) (h40 : ¬ s.size ≤ 40) :
    Calls Tryd.prog 7 #[.int .i64 day, .string s] w fun e w' => e = .returned (.bool true) ∧ Below w.heap.size w w' := by
  have HT0 := Lib.hid hT
  clear hT
  go_enter Tryd.func7, Tryd.ntmps7
  go_wp2_with fail
  refine (awake_any _ HT0.out).mono ?_; rintro e w8 ⟨rfl, b8⟩
  go_wp2_with fail
  go_ret
  exact ⟨rfl, b8⟩

theorem Texts_law (day : Int) (s : ByteArray) (w : World) (_ : s.size ≤ maxLen) (hT : Tab w) :
    Calls Tryd.prog 7 #[.int .i64 day, .string s] w fun e w' => e = .returned (.bool true) ∧ Below w.heap.size w w' := by
  by_cases h40 : s.size ≤ 40
  · by_cases hd : day < 0 ∨ 73048 < day
    · by_cases hf : Fits s
      · by_cases hok : okDate (Txt.yOf (Txt.byte s)) (Txt.mOf (Txt.byte s)) (Txt.dOf (Txt.byte s))
        · exact Texts_ny day s w hT h40 hd hf hok
        · exact Texts_nb day s w hT h40 hd hf hok
      · exact Texts_nn day s w hT h40 hd hf
    · by_cases hf : Fits s
      · by_cases hok : okDate (Txt.yOf (Txt.byte s)) (Txt.mOf (Txt.byte s)) (Txt.dOf (Txt.byte s))
        · exact Texts_yy day s w hT h40 ⟨by omega, by omega⟩ hf hok
        · exact Texts_yb day s w hT h40 ⟨by omega, by omega⟩ hf hok
      · exact Texts_yn day s w hT h40 ⟨by omega, by omega⟩ hf
  · exact Texts_long day s w hT h40
end Go.Proofs.YtkbfbgapfmlfkaaDoor
