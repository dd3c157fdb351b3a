import Derived.Test.YtkbfbgapfmlfkaaDoorL5
namespace Go.Proofs.YtkbfbgapfmlfkaaDoor
open Go.RowKit

set_option maxRecDepth 100000 in
set_option maxHeartbeats 1000000 in
theorem Back_nn (day : Int) (s : ByteArray) (w : World) (hT : Tab w) (h40 : s.size ≤ 40) (hd : day < 0 ∨ 73048 < day) (hf : ¬ Fits s) :
    Calls Tryd.prog 8 #[.int .i64 day, .string s] w fun e w' => e = .returned (.bool true) ∧ Below w.heap.size w w' := by
  have HT0 := Lib.hid hT
  have HF := Lib.hid hf
  have HDY := Lib.hid hd
  have hr : Hid (decide (0 ≤ day ∧ day ≤ 73048) = false) := by unfold Hid; simp; omega
  clear hT hf hd
  go_enter Tryd.func8, Tryd.ntmps8
  go_wp2_with fail
  refine (Parse_no s _ HT0.out HF.out).mono ?_; rintro e w2 ⟨rfl, b2⟩
  have B2 := b2
  have T2 : Hid (Tab w2) := HT0.out.below b2 HT0.out.pos
  clear b2
  go_wp2_with fail
  refine (Date_no _ _ HDY.out).mono ?_; rintro e w3 ⟨rfl, rfl⟩
  go_wp2_with fail
  refine (lright_any _ _).mono ?_; rintro e w3 ⟨rfl, rfl⟩; rw [hr.out]
  go_wp2_with fail
  refine (awake_any _ T2.out).mono ?_; rintro e w4 ⟨rfl, b4⟩
  go_wp2_with fail
  go_ret
  exact ⟨rfl, B2.trans (b4.mono B2.size)⟩

set_option maxRecDepth 100000 in
set_option maxHeartbeats 1000000 in
theorem Back_nl (day : Int) (s : ByteArray) (w : World) (hT : Tab w) (h40 : s.size ≤ 40) (hd : 0 ≤ day ∧ day ≤ 73048) (hl : day = 73048) (hf : ¬ Fits s) :
    Calls Tryd.prog 8 #[.int .i64 day, .string s] w fun e w' => e = .returned (.bool true) ∧ Below w.heap.size w w' := by
  have HT0 := Lib.hid hT
  have HF := Lib.hid hf
  have HDY := Lib.hid hd
  have HL := Lib.hid hl
  have HOKD := Lib.hid (date_day HDY.out.1 HDY.out.2).1
  have HND := Lib.hid (date_day HDY.out.1 HDY.out.2).2
  obtain ⟨tx, htx⟩ : ∃ tx, strOfNums (Txt.date (2000 + Cal.Mo day / 12) (Cal.Mo day % 12 + 1) (day - Cal.S (Cal.Mo day) + 1)) = tx := ⟨_, rfl⟩
  have HTX2 := Lib.hid htx
  have hft := fits_date (Y := 2000 + Cal.Mo day / 12) (M := Cal.Mo day % 12 + 1) (D := day - Cal.S (Cal.Mo day) + 1) (by have := HOKD.out; unfold okDate at this; omega) (by have := HOKD.out; unfold okDate at this; omega) (by have h := HOKD.out; have h2 := long_31 (2000 + Cal.Mo day / 12) (Cal.Mo day % 12 + 1); unfold okDate at h; omega)
  rw [htx] at hft
  have HFT := Lib.hid hft.1
  have HDN2 : Hid (dayN (Txt.yOf (Txt.byte tx)) (Txt.mOf (Txt.byte tx)) (Txt.dOf (Txt.byte tx)) = day ∧ dayE (Txt.yOf (Txt.byte tx)) (Txt.mOf (Txt.byte tx)) (Txt.dOf (Txt.byte tx)) = 0) := by
    rw [hft.2.1, hft.2.2.1, hft.2.2.2]
    exact ⟨by unfold dayN; rw [if_pos HOKD.out]; exact HND.out, by unfold dayE; rw [if_pos HOKD.out]⟩
  clear htx hft
  clear hT hf hd hl
  go_enter Tryd.func8, Tryd.ntmps8
  go_wp2_with fail
  refine (Parse_no s _ HT0.out HF.out).mono ?_; rintro e w2 ⟨rfl, b2⟩
  have B2 := b2
  have T2 : Hid (Tab w2) := HT0.out.below b2 HT0.out.pos
  clear b2
  go_wp2_with fail
  refine (Date_yes _ _ HDY.out.1 HDY.out.2 T2.out).mono ?_; rintro e w3 ⟨rfl, b3⟩
  have T3 : Hid (Tab w3) := T2.out.below b3 T2.out.pos
  have B3 := B2.trans (b3.mono B2.size)
  clear b3
  go_wp2_with fail
  refine (Day_yes _ _ _ _ T3.out HOKD.out).mono ?_; rintro e w4 ⟨rfl, b4⟩
  rw [HND.out]
  have T4 : Hid (Tab w4) := T3.out.below b4 T3.out.pos
  have B4 := B3.trans (b4.mono B3.size)
  clear b4
  go_wp2_with fail
  refine (Print_yes _ _ HDY.out.1 HDY.out.2 T4.out).mono ?_; rintro e w5 ⟨rfl, b5⟩
  rw [HTX2.out]
  have T5 : Hid (Tab w5) := T4.out.below b5 T4.out.pos
  have B5 := B4.trans (b5.mono B4.size)
  clear b5
  go_wp2_with fail
  refine (Parse_yes tx _ T5.out HFT.out).mono ?_; rintro e w6 ⟨rfl, b6⟩
  rw [HDN2.out.1, HDN2.out.2]
  have T6 : Hid (Tab w6) := T5.out.below b6 T5.out.pos
  have B6 := B5.trans (b6.mono B5.size)
  clear b6
  obtain ⟨dd0, dd1⟩ := HDY.out
  go_wp2_with fail
  refine (Date_no _ _ (.inr (by have := HL.out; omega))).mono ?_; rintro e w7 ⟨rfl, rfl⟩
  go_wp2_with fail
  refine (next_any _ _ _ _ HOKD.out).mono ?_; rintro e w8 ⟨rfl, b8⟩
  have hlast : (day == 73048) = true := by have := HL.out; simp; omega
  have T8 : Hid (Tab w8) := T6.out.below b8 T6.out.pos
  have B8 := B6.trans (b8.mono B6.size)
  generalize (nextV _ _ _).1 = Y2 at *
  generalize (nextV _ _ _).2.1 = M2 at *
  generalize (nextV _ _ _).2.2 = D2 at *
  have T9 : Hid (Tab (w8.alloc (.cells #[.int .i64 Y2, .int .i64 M2, .int .i64 D2] 33))) := T8.out.alloc _
  have B9 : Below w.heap.size w (w8.alloc (.cells #[.int .i64 Y2, .int .i64 M2, .int .i64 D2] 33)) := B8.alloc B8.size _
  clear b8
  go_wp2_with fail
  refine (awake_any _ T9.out).mono ?_; rintro e w10 ⟨rfl, b10⟩
  go_wp2_with fail
  go_ret
  exact ⟨rfl, B9.trans (b10.mono B9.size)⟩

set_option maxRecDepth 100000 in
set_option maxHeartbeats 1000000 in
theorem Back_ni (day : Int) (s : ByteArray) (w : World) (hT : Tab w) (h40 : s.size ≤ 40) (hd : 0 ≤ day ∧ day ≤ 73048) (hl : day ≠ 73048) (hf : ¬ Fits s) :
    Calls Tryd.prog 8 #[.int .i64 day, .string s] w fun e w' => e = .returned (.bool true) ∧ Below w.heap.size w w' := by
  have HT0 := Lib.hid hT
  have HF := Lib.hid hf
  have HDY := Lib.hid hd
  have HL := Lib.hid hl
  have HOKD := Lib.hid (date_day HDY.out.1 HDY.out.2).1
  have HND := Lib.hid (date_day HDY.out.1 HDY.out.2).2
  obtain ⟨tx, htx⟩ : ∃ tx, strOfNums (Txt.date (2000 + Cal.Mo day / 12) (Cal.Mo day % 12 + 1) (day - Cal.S (Cal.Mo day) + 1)) = tx := ⟨_, rfl⟩
  have HTX2 := Lib.hid htx
  have hft := fits_date (Y := 2000 + Cal.Mo day / 12) (M := Cal.Mo day % 12 + 1) (D := day - Cal.S (Cal.Mo day) + 1) (by have := HOKD.out; unfold okDate at this; omega) (by have := HOKD.out; unfold okDate at this; omega) (by have h := HOKD.out; have h2 := long_31 (2000 + Cal.Mo day / 12) (Cal.Mo day % 12 + 1); unfold okDate at h; omega)
  rw [htx] at hft
  have HFT := Lib.hid hft.1
  have HDN2 : Hid (dayN (Txt.yOf (Txt.byte tx)) (Txt.mOf (Txt.byte tx)) (Txt.dOf (Txt.byte tx)) = day ∧ dayE (Txt.yOf (Txt.byte tx)) (Txt.mOf (Txt.byte tx)) (Txt.dOf (Txt.byte tx)) = 0) := by
    rw [hft.2.1, hft.2.2.1, hft.2.2.2]
    exact ⟨by unfold dayN; rw [if_pos HOKD.out]; exact HND.out, by unfold dayE; rw [if_pos HOKD.out]⟩
  clear htx hft
  have HNX := Lib.hid (next_day HDY.out.1 (show day ≤ 73047 by have := HDY.out.2; have := HL.out; omega))
  clear hT hf hd hl
  go_enter Tryd.func8, Tryd.ntmps8
  go_wp2_with fail
  refine (Parse_no s _ HT0.out HF.out).mono ?_; rintro e w2 ⟨rfl, b2⟩
  have B2 := b2
  have T2 : Hid (Tab w2) := HT0.out.below b2 HT0.out.pos
  clear b2
  go_wp2_with fail
  refine (Date_yes _ _ HDY.out.1 HDY.out.2 T2.out).mono ?_; rintro e w3 ⟨rfl, b3⟩
  have T3 : Hid (Tab w3) := T2.out.below b3 T2.out.pos
  have B3 := B2.trans (b3.mono B2.size)
  clear b3
  go_wp2_with fail
  refine (Day_yes _ _ _ _ T3.out HOKD.out).mono ?_; rintro e w4 ⟨rfl, b4⟩
  rw [HND.out]
  have T4 : Hid (Tab w4) := T3.out.below b4 T3.out.pos
  have B4 := B3.trans (b4.mono B3.size)
  clear b4
  go_wp2_with fail
  refine (Print_yes _ _ HDY.out.1 HDY.out.2 T4.out).mono ?_; rintro e w5 ⟨rfl, b5⟩
  rw [HTX2.out]
  have T5 : Hid (Tab w5) := T4.out.below b5 T4.out.pos
  have B5 := B4.trans (b5.mono B4.size)
  clear b5
  go_wp2_with fail
  refine (Parse_yes tx _ T5.out HFT.out).mono ?_; rintro e w6 ⟨rfl, b6⟩
  rw [HDN2.out.1, HDN2.out.2]
  have T6 : Hid (Tab w6) := T5.out.below b6 T5.out.pos
  have B6 := B5.trans (b6.mono B5.size)
  clear b6
  obtain ⟨dd0, dd1⟩ := HDY.out
  go_wp2_with fail
  refine (Date_yes _ _ (by omega) (by have := HL.out; omega) T6.out).mono ?_; rintro e w7 ⟨rfl, b7⟩
  have T7 : Hid (Tab w7) := T6.out.below b7 T6.out.pos
  have B7 := B6.trans (b7.mono B6.size)
  clear b7
  go_wp2_with fail
  refine (next_any _ _ _ _ HOKD.out).mono ?_; rintro e w8 ⟨rfl, b8⟩
  rw [HNX.out.1, HNX.out.2.1, HNX.out.2.2]
  have hlast : (day == 73048) = false := by have := HL.out; simp; omega
  have T8 : Hid (Tab w8) := T7.out.below b8 T7.out.pos
  have B8 := B7.trans (b8.mono B7.size)
  generalize 2000 + Cal.Mo (day + 1) / 12 = Y2 at *
  generalize Cal.Mo (day + 1) % 12 + 1 = M2 at *
  generalize day + 1 - Cal.S (Cal.Mo (day + 1)) + 1 = D2 at *
  have T9 : Hid (Tab (w8.alloc (.cells #[.int .i64 Y2, .int .i64 M2, .int .i64 D2] 33))) := T8.out.alloc _
  have B9 : Below w.heap.size w (w8.alloc (.cells #[.int .i64 Y2, .int .i64 M2, .int .i64 D2] 33)) := B8.alloc B8.size _
  clear b8
  go_wp2_with fail
  refine (awake_any _ T9.out).mono ?_; rintro e w10 ⟨rfl, b10⟩
  go_wp2_with fail
  go_ret
  exact ⟨rfl, B9.trans (b10.mono B9.size)⟩

set_option maxRecDepth 100000 in
set_option maxHeartbeats 1000000 in
theorem Back_bn (day : Int) (s : ByteArray) (w : World) (hT : Tab w) (h40 : s.size ≤ 40) (hd : day < 0 ∨ 73048 < day) (hf : Fits s) (hok : ¬ okDate (Txt.yOf (Txt.byte s)) (Txt.mOf (Txt.byte s)) (Txt.dOf (Txt.byte s))) :
    Calls Tryd.prog 8 #[.int .i64 day, .string s] w fun e w' => e = .returned (.bool true) ∧ Below w.heap.size w w' := by
  have HT0 := Lib.hid hT
  have HF := Lib.hid hf
  have HDY := Lib.hid hd
  have HOK := Lib.hid hok
  clear hok
  have hr : Hid (decide (0 ≤ day ∧ day ≤ 73048) = false) := by unfold Hid; simp; omega
  clear hT hf hd
  go_enter Tryd.func8, Tryd.ntmps8
  go_wp2_with fail
  refine (Parse_yes s _ HT0.out HF.out).mono ?_; rintro e w2 ⟨rfl, b2⟩
  have HDN : Hid (dayN (Txt.yOf (Txt.byte s)) (Txt.mOf (Txt.byte s)) (Txt.dOf (Txt.byte s)) = 0 ∧ dayE (Txt.yOf (Txt.byte s)) (Txt.mOf (Txt.byte s)) (Txt.dOf (Txt.byte s)) = 18) := ⟨by unfold dayN; rw [if_neg HOK.out], by unfold dayE; rw [if_neg HOK.out]⟩
  rw [HDN.out.1, HDN.out.2]
  have B2 := b2
  have T2 : Hid (Tab w2) := HT0.out.below b2 HT0.out.pos
  clear b2 HDN
  go_wp2_with fail
  refine (Date_no _ _ HDY.out).mono ?_; rintro e w3 ⟨rfl, rfl⟩
  go_wp2_with fail
  refine (lright_any _ _).mono ?_; rintro e w3 ⟨rfl, rfl⟩; rw [hr.out]
  go_wp2_with fail
  refine (awake_any _ T2.out).mono ?_; rintro e w4 ⟨rfl, b4⟩
  go_wp2_with fail
  go_ret
  exact ⟨rfl, B2.trans (b4.mono B2.size)⟩

set_option maxRecDepth 100000 in
set_option maxHeartbeats 1000000 in
theorem Back_bl (day : Int) (s : ByteArray) (w : World) (hT : Tab w) (h40 : s.size ≤ 40) (hd : 0 ≤ day ∧ day ≤ 73048) (hl : day = 73048) (hf : Fits s) (hok : ¬ okDate (Txt.yOf (Txt.byte s)) (Txt.mOf (Txt.byte s)) (Txt.dOf (Txt.byte s))) :
    Calls Tryd.prog 8 #[.int .i64 day, .string s] w fun e w' => e = .returned (.bool true) ∧ Below w.heap.size w w' := by
  have HT0 := Lib.hid hT
  have HF := Lib.hid hf
  have HDY := Lib.hid hd
  have HOK := Lib.hid hok
  clear hok
  have HL := Lib.hid hl
  have HOKD := Lib.hid (date_day HDY.out.1 HDY.out.2).1
  have HND := Lib.hid (date_day HDY.out.1 HDY.out.2).2
  obtain ⟨tx, htx⟩ : ∃ tx, strOfNums (Txt.date (2000 + Cal.Mo day / 12) (Cal.Mo day % 12 + 1) (day - Cal.S (Cal.Mo day) + 1)) = tx := ⟨_, rfl⟩
  have HTX2 := Lib.hid htx
  have hft := fits_date (Y := 2000 + Cal.Mo day / 12) (M := Cal.Mo day % 12 + 1) (D := day - Cal.S (Cal.Mo day) + 1) (by have := HOKD.out; unfold okDate at this; omega) (by have := HOKD.out; unfold okDate at this; omega) (by have h := HOKD.out; have h2 := long_31 (2000 + Cal.Mo day / 12) (Cal.Mo day % 12 + 1); unfold okDate at h; omega)
  rw [htx] at hft
  have HFT := Lib.hid hft.1
  have HDN2 : Hid (dayN (Txt.yOf (Txt.byte tx)) (Txt.mOf (Txt.byte tx)) (Txt.dOf (Txt.byte tx)) = day ∧ dayE (Txt.yOf (Txt.byte tx)) (Txt.mOf (Txt.byte tx)) (Txt.dOf (Txt.byte tx)) = 0) := by
    rw [hft.2.1, hft.2.2.1, hft.2.2.2]
    exact ⟨by unfold dayN; rw [if_pos HOKD.out]; exact HND.out, by unfold dayE; rw [if_pos HOKD.out]⟩
  clear htx hft
  clear hT hf hd hl
  go_enter Tryd.func8, Tryd.ntmps8
  go_wp2_with fail
  refine (Parse_yes s _ HT0.out HF.out).mono ?_; rintro e w2 ⟨rfl, b2⟩
  have HDN : Hid (dayN (Txt.yOf (Txt.byte s)) (Txt.mOf (Txt.byte s)) (Txt.dOf (Txt.byte s)) = 0 ∧ dayE (Txt.yOf (Txt.byte s)) (Txt.mOf (Txt.byte s)) (Txt.dOf (Txt.byte s)) = 18) := ⟨by unfold dayN; rw [if_neg HOK.out], by unfold dayE; rw [if_neg HOK.out]⟩
  rw [HDN.out.1, HDN.out.2]
  have B2 := b2
  have T2 : Hid (Tab w2) := HT0.out.below b2 HT0.out.pos
  clear b2 HDN
  go_wp2_with fail
  refine (Date_yes _ _ HDY.out.1 HDY.out.2 T2.out).mono ?_; rintro e w3 ⟨rfl, b3⟩
  have T3 : Hid (Tab w3) := T2.out.below b3 T2.out.pos
  have B3 := B2.trans (b3.mono B2.size)
  clear b3
  go_wp2_with fail
  refine (Day_yes _ _ _ _ T3.out HOKD.out).mono ?_; rintro e w4 ⟨rfl, b4⟩
  rw [HND.out]
  have T4 : Hid (Tab w4) := T3.out.below b4 T3.out.pos
  have B4 := B3.trans (b4.mono B3.size)
  clear b4
  go_wp2_with fail
  refine (Print_yes _ _ HDY.out.1 HDY.out.2 T4.out).mono ?_; rintro e w5 ⟨rfl, b5⟩
  rw [HTX2.out]
  have T5 : Hid (Tab w5) := T4.out.below b5 T4.out.pos
  have B5 := B4.trans (b5.mono B4.size)
  clear b5
  go_wp2_with fail
  refine (Parse_yes tx _ T5.out HFT.out).mono ?_; rintro e w6 ⟨rfl, b6⟩
  rw [HDN2.out.1, HDN2.out.2]
  have T6 : Hid (Tab w6) := T5.out.below b6 T5.out.pos
  have B6 := B5.trans (b6.mono B5.size)
  clear b6
  obtain ⟨dd0, dd1⟩ := HDY.out
  go_wp2_with fail
  refine (Date_no _ _ (.inr (by have := HL.out; omega))).mono ?_; rintro e w7 ⟨rfl, rfl⟩
  go_wp2_with fail
  refine (next_any _ _ _ _ HOKD.out).mono ?_; rintro e w8 ⟨rfl, b8⟩
  have hlast : (day == 73048) = true := by have := HL.out; simp; omega
  have T8 : Hid (Tab w8) := T6.out.below b8 T6.out.pos
  have B8 := B6.trans (b8.mono B6.size)
  generalize (nextV _ _ _).1 = Y2 at *
  generalize (nextV _ _ _).2.1 = M2 at *
  generalize (nextV _ _ _).2.2 = D2 at *
  have T9 : Hid (Tab (w8.alloc (.cells #[.int .i64 Y2, .int .i64 M2, .int .i64 D2] 33))) := T8.out.alloc _
  have B9 : Below w.heap.size w (w8.alloc (.cells #[.int .i64 Y2, .int .i64 M2, .int .i64 D2] 33)) := B8.alloc B8.size _
  clear b8
  go_wp2_with fail
  refine (awake_any _ T9.out).mono ?_; rintro e w10 ⟨rfl, b10⟩
  go_wp2_with fail
  go_ret
  exact ⟨rfl, B9.trans (b10.mono B9.size)⟩

set_option maxRecDepth 100000 in
set_option maxHeartbeats 1000000 in
theorem Back_bi (day : Int) (s : ByteArray) (w : World) (hT : Tab w) (h40 : s.size ≤ 40) (hd : 0 ≤ day ∧ day ≤ 73048) (hl : day ≠ 73048) (hf : Fits s) (hok : ¬ okDate (Txt.yOf (Txt.byte s)) (Txt.mOf (Txt.byte s)) (Txt.dOf (Txt.byte s))) :
    Calls Tryd.prog 8 #[.int .i64 day, .string s] w fun e w' => e = .returned (.bool true) ∧ Below w.heap.size w w' := by
  have HT0 := Lib.hid hT
  have HF := Lib.hid hf
  have HDY := Lib.hid hd
  have HOK := Lib.hid hok
  clear hok
  have HL := Lib.hid hl
  have HOKD := Lib.hid (date_day HDY.out.1 HDY.out.2).1
  have HND := Lib.hid (date_day HDY.out.1 HDY.out.2).2
  obtain ⟨tx, htx⟩ : ∃ tx, strOfNums (Txt.date (2000 + Cal.Mo day / 12) (Cal.Mo day % 12 + 1) (day - Cal.S (Cal.Mo day) + 1)) = tx := ⟨_, rfl⟩
  have HTX2 := Lib.hid htx
  have hft := fits_date (Y := 2000 + Cal.Mo day / 12) (M := Cal.Mo day % 12 + 1) (D := day - Cal.S (Cal.Mo day) + 1) (by have := HOKD.out; unfold okDate at this; omega) (by have := HOKD.out; unfold okDate at this; omega) (by have h := HOKD.out; have h2 := long_31 (2000 + Cal.Mo day / 12) (Cal.Mo day % 12 + 1); unfold okDate at h; omega)
  rw [htx] at hft
  have HFT := Lib.hid hft.1
  have HDN2 : Hid (dayN (Txt.yOf (Txt.byte tx)) (Txt.mOf (Txt.byte tx)) (Txt.dOf (Txt.byte tx)) = day ∧ dayE (Txt.yOf (Txt.byte tx)) (Txt.mOf (Txt.byte tx)) (Txt.dOf (Txt.byte tx)) = 0) := by
    rw [hft.2.1, hft.2.2.1, hft.2.2.2]
    exact ⟨by unfold dayN; rw [if_pos HOKD.out]; exact HND.out, by unfold dayE; rw [if_pos HOKD.out]⟩
  clear htx hft
  have HNX := Lib.hid (next_day HDY.out.1 (show day ≤ 73047 by have := HDY.out.2; have := HL.out; omega))
  clear hT hf hd hl
  go_enter Tryd.func8, Tryd.ntmps8
  go_wp2_with fail
  refine (Parse_yes s _ HT0.out HF.out).mono ?_; rintro e w2 ⟨rfl, b2⟩
  have HDN : Hid (dayN (Txt.yOf (Txt.byte s)) (Txt.mOf (Txt.byte s)) (Txt.dOf (Txt.byte s)) = 0 ∧ dayE (Txt.yOf (Txt.byte s)) (Txt.mOf (Txt.byte s)) (Txt.dOf (Txt.byte s)) = 18) := ⟨by unfold dayN; rw [if_neg HOK.out], by unfold dayE; rw [if_neg HOK.out]⟩
  rw [HDN.out.1, HDN.out.2]
  have B2 := b2
  have T2 : Hid (Tab w2) := HT0.out.below b2 HT0.out.pos
  clear b2 HDN
  go_wp2_with fail
  refine (Date_yes _ _ HDY.out.1 HDY.out.2 T2.out).mono ?_; rintro e w3 ⟨rfl, b3⟩
  have T3 : Hid (Tab w3) := T2.out.below b3 T2.out.pos
  have B3 := B2.trans (b3.mono B2.size)
  clear b3
  go_wp2_with fail
  refine (Day_yes _ _ _ _ T3.out HOKD.out).mono ?_; rintro e w4 ⟨rfl, b4⟩
  rw [HND.out]
  have T4 : Hid (Tab w4) := T3.out.below b4 T3.out.pos
  have B4 := B3.trans (b4.mono B3.size)
  clear b4
  go_wp2_with fail
  refine (Print_yes _ _ HDY.out.1 HDY.out.2 T4.out).mono ?_; rintro e w5 ⟨rfl, b5⟩
  rw [HTX2.out]
  have T5 : Hid (Tab w5) := T4.out.below b5 T4.out.pos
  have B5 := B4.trans (b5.mono B4.size)
  clear b5
  go_wp2_with fail
  refine (Parse_yes tx _ T5.out HFT.out).mono ?_; rintro e w6 ⟨rfl, b6⟩
  rw [HDN2.out.1, HDN2.out.2]
  have T6 : Hid (Tab w6) := T5.out.below b6 T5.out.pos
  have B6 := B5.trans (b6.mono B5.size)
  clear b6
  obtain ⟨dd0, dd1⟩ := HDY.out
  go_wp2_with fail
  refine (Date_yes _ _ (by omega) (by have := HL.out; omega) T6.out).mono ?_; rintro e w7 ⟨rfl, b7⟩
  have T7 : Hid (Tab w7) := T6.out.below b7 T6.out.pos
  have B7 := B6.trans (b7.mono B6.size)
  clear b7
  go_wp2_with fail
  refine (next_any _ _ _ _ HOKD.out).mono ?_; rintro e w8 ⟨rfl, b8⟩
  rw [HNX.out.1, HNX.out.2.1, HNX.out.2.2]
  have hlast : (day == 73048) = false := by have := HL.out; simp; omega
  have T8 : Hid (Tab w8) := T7.out.below b8 T7.out.pos
  have B8 := B7.trans (b8.mono B7.size)
  generalize 2000 + Cal.Mo (day + 1) / 12 = Y2 at *
  generalize Cal.Mo (day + 1) % 12 + 1 = M2 at *
  generalize day + 1 - Cal.S (Cal.Mo (day + 1)) + 1 = D2 at *
  have T9 : Hid (Tab (w8.alloc (.cells #[.int .i64 Y2, .int .i64 M2, .int .i64 D2] 33))) := T8.out.alloc _
  have B9 : Below w.heap.size w (w8.alloc (.cells #[.int .i64 Y2, .int .i64 M2, .int .i64 D2] 33)) := B8.alloc B8.size _
  clear b8
  go_wp2_with fail
  refine (awake_any _ T9.out).mono ?_; rintro e w10 ⟨rfl, b10⟩
  go_wp2_with fail
  go_ret
  exact ⟨rfl, B9.trans (b10.mono B9.size)⟩

set_option maxRecDepth 100000 in
set_option maxHeartbeats 1000000 in
theorem Back_yn (day : Int) (s : ByteArray) (w : World) (hT : Tab w) (h40 : s.size ≤ 40) (hd : day < 0 ∨ 73048 < day) (hf : Fits s) (hok : okDate (Txt.yOf (Txt.byte s)) (Txt.mOf (Txt.byte s)) (Txt.dOf (Txt.byte s))) :
    Calls Tryd.prog 8 #[.int .i64 day, .string s] w fun e w' => e = .returned (.bool true) ∧ Below w.heap.size w w' := by
  have HT0 := Lib.hid hT
  have HF := Lib.hid hf
  have HDY := Lib.hid hd
  have HOK := Lib.hid hok
  clear hok
  have hr : Hid (decide (0 ≤ day ∧ day ≤ 73048) = false) := by unfold Hid; simp; omega
  clear hT hf hd
  go_enter Tryd.func8, Tryd.ntmps8
  go_wp2_with fail
  refine (Parse_yes s _ HT0.out HF.out).mono ?_; rintro e w1 ⟨rfl, b1⟩
  have HDN : Hid (dayN (Txt.yOf (Txt.byte s)) (Txt.mOf (Txt.byte s)) (Txt.dOf (Txt.byte s)) = numDate (Txt.yOf (Txt.byte s)) (Txt.mOf (Txt.byte s)) (Txt.dOf (Txt.byte s)) ∧ dayE (Txt.yOf (Txt.byte s)) (Txt.mOf (Txt.byte s)) (Txt.dOf (Txt.byte s)) = 0) := ⟨by unfold dayN; rw [if_pos HOK.out], by unfold dayE; rw [if_pos HOK.out]⟩
  rw [HDN.out.1, HDN.out.2]
  clear HDN
  obtain ⟨n0, n1, -, n3, n4, n5⟩ := num_ok HOK.out
  have HTX1 : Hid (strOfNums (Txt.date (2000 + Cal.Mo (numDate (Txt.yOf (Txt.byte s)) (Txt.mOf (Txt.byte s)) (Txt.dOf (Txt.byte s))) / 12) (Cal.Mo (numDate (Txt.yOf (Txt.byte s)) (Txt.mOf (Txt.byte s)) (Txt.dOf (Txt.byte s))) % 12 + 1) (numDate (Txt.yOf (Txt.byte s)) (Txt.mOf (Txt.byte s)) (Txt.dOf (Txt.byte s)) - Cal.S (Cal.Mo (numDate (Txt.yOf (Txt.byte s)) (Txt.mOf (Txt.byte s)) (Txt.dOf (Txt.byte s)))) + 1)) = s) := by
    unfold Hid
    rw [n3, n4, n5]
    exact txt_of_fits HF.out
  clear n3 n4 n5
  have T1 : Hid (Tab w1) := HT0.out.below b1 HT0.out.pos
  generalize numDate (Txt.yOf (Txt.byte s)) (Txt.mOf (Txt.byte s)) (Txt.dOf (Txt.byte s)) = N at *
  go_wp2_with fail
  refine (Print_yes _ _ n0 n1 T1.out).mono ?_; rintro e w2 ⟨rfl, b2⟩
  rw [HTX1.out]
  have B2 := b1.trans (b2.mono b1.size)
  have T2 : Hid (Tab w2) := T1.out.below b2 T1.out.pos
  clear b1 b2 T1 HTX1
  go_wp2_with fail
  refine (Date_no _ _ HDY.out).mono ?_; rintro e w3 ⟨rfl, rfl⟩
  go_wp2_with fail
  refine (lright_any _ _).mono ?_; rintro e w3 ⟨rfl, rfl⟩; rw [hr.out]
  go_wp2_with fail
  refine (awake_any _ T2.out).mono ?_; rintro e w4 ⟨rfl, b4⟩
  go_wp2_with fail
  go_ret
  exact ⟨rfl, B2.trans (b4.mono B2.size)⟩

set_option maxRecDepth 100000 in
set_option maxHeartbeats 1000000 in
theorem Back_yl (day : Int) (s : ByteArray) (w : World) (hT : Tab w) (h40 : s.size ≤ 40) (hd : 0 ≤ day ∧ day ≤ 73048) (hl : day = 73048) (hf : Fits s) (hok : okDate (Txt.yOf (Txt.byte s)) (Txt.mOf (Txt.byte s)) (Txt.dOf (Txt.byte s))) :
    Calls Tryd.prog 8 #[.int .i64 day, .string s] w fun e w' => e = .returned (.bool true) ∧ Below w.heap.size w w' := by
  have HT0 := Lib.hid hT
  have HF := Lib.hid hf
  have HDY := Lib.hid hd
  have HOK := Lib.hid hok
  clear hok
  have HL := Lib.hid hl
  have HOKD := Lib.hid (date_day HDY.out.1 HDY.out.2).1
  have HND := Lib.hid (date_day HDY.out.1 HDY.out.2).2
  obtain ⟨tx, htx⟩ : ∃ tx, strOfNums (Txt.date (2000 + Cal.Mo day / 12) (Cal.Mo day % 12 + 1) (day - Cal.S (Cal.Mo day) + 1)) = tx := ⟨_, rfl⟩
  have HTX2 := Lib.hid htx
  have hft := fits_date (Y := 2000 + Cal.Mo day / 12) (M := Cal.Mo day % 12 + 1) (D := day - Cal.S (Cal.Mo day) + 1) (by have := HOKD.out; unfold okDate at this; omega) (by have := HOKD.out; unfold okDate at this; omega) (by have h := HOKD.out; have h2 := long_31 (2000 + Cal.Mo day / 12) (Cal.Mo day % 12 + 1); unfold okDate at h; omega)
  rw [htx] at hft
  have HFT := Lib.hid hft.1
  have HDN2 : Hid (dayN (Txt.yOf (Txt.byte tx)) (Txt.mOf (Txt.byte tx)) (Txt.dOf (Txt.byte tx)) = day ∧ dayE (Txt.yOf (Txt.byte tx)) (Txt.mOf (Txt.byte tx)) (Txt.dOf (Txt.byte tx)) = 0) := by
    rw [hft.2.1, hft.2.2.1, hft.2.2.2]
    exact ⟨by unfold dayN; rw [if_pos HOKD.out]; exact HND.out, by unfold dayE; rw [if_pos HOKD.out]⟩
  clear htx hft
  clear hT hf hd hl
  go_enter Tryd.func8, Tryd.ntmps8
  go_wp2_with fail
  refine (Parse_yes s _ HT0.out HF.out).mono ?_; rintro e w1 ⟨rfl, b1⟩
  have HDN : Hid (dayN (Txt.yOf (Txt.byte s)) (Txt.mOf (Txt.byte s)) (Txt.dOf (Txt.byte s)) = numDate (Txt.yOf (Txt.byte s)) (Txt.mOf (Txt.byte s)) (Txt.dOf (Txt.byte s)) ∧ dayE (Txt.yOf (Txt.byte s)) (Txt.mOf (Txt.byte s)) (Txt.dOf (Txt.byte s)) = 0) := ⟨by unfold dayN; rw [if_pos HOK.out], by unfold dayE; rw [if_pos HOK.out]⟩
  rw [HDN.out.1, HDN.out.2]
  clear HDN
  obtain ⟨n0, n1, -, n3, n4, n5⟩ := num_ok HOK.out
  have HTX1 : Hid (strOfNums (Txt.date (2000 + Cal.Mo (numDate (Txt.yOf (Txt.byte s)) (Txt.mOf (Txt.byte s)) (Txt.dOf (Txt.byte s))) / 12) (Cal.Mo (numDate (Txt.yOf (Txt.byte s)) (Txt.mOf (Txt.byte s)) (Txt.dOf (Txt.byte s))) % 12 + 1) (numDate (Txt.yOf (Txt.byte s)) (Txt.mOf (Txt.byte s)) (Txt.dOf (Txt.byte s)) - Cal.S (Cal.Mo (numDate (Txt.yOf (Txt.byte s)) (Txt.mOf (Txt.byte s)) (Txt.dOf (Txt.byte s)))) + 1)) = s) := by
    unfold Hid
    rw [n3, n4, n5]
    exact txt_of_fits HF.out
  clear n3 n4 n5
  have T1 : Hid (Tab w1) := HT0.out.below b1 HT0.out.pos
  generalize numDate (Txt.yOf (Txt.byte s)) (Txt.mOf (Txt.byte s)) (Txt.dOf (Txt.byte s)) = N at *
  go_wp2_with fail
  refine (Print_yes _ _ n0 n1 T1.out).mono ?_; rintro e w2 ⟨rfl, b2⟩
  rw [HTX1.out]
  have B2 := b1.trans (b2.mono b1.size)
  have T2 : Hid (Tab w2) := T1.out.below b2 T1.out.pos
  clear b1 b2 T1 HTX1
  go_wp2_with fail
  refine (Date_yes _ _ HDY.out.1 HDY.out.2 T2.out).mono ?_; rintro e w3 ⟨rfl, b3⟩
  have T3 : Hid (Tab w3) := T2.out.below b3 T2.out.pos
  have B3 := B2.trans (b3.mono B2.size)
  clear b3
  go_wp2_with fail
  refine (Day_yes _ _ _ _ T3.out HOKD.out).mono ?_; rintro e w4 ⟨rfl, b4⟩
  rw [HND.out]
  have T4 : Hid (Tab w4) := T3.out.below b4 T3.out.pos
  have B4 := B3.trans (b4.mono B3.size)
  clear b4
  go_wp2_with fail
  refine (Print_yes _ _ HDY.out.1 HDY.out.2 T4.out).mono ?_; rintro e w5 ⟨rfl, b5⟩
  rw [HTX2.out]
  have T5 : Hid (Tab w5) := T4.out.below b5 T4.out.pos
  have B5 := B4.trans (b5.mono B4.size)
  clear b5
  go_wp2_with fail
  refine (Parse_yes tx _ T5.out HFT.out).mono ?_; rintro e w6 ⟨rfl, b6⟩
  rw [HDN2.out.1, HDN2.out.2]
  have T6 : Hid (Tab w6) := T5.out.below b6 T5.out.pos
  have B6 := B5.trans (b6.mono B5.size)
  clear b6
  obtain ⟨dd0, dd1⟩ := HDY.out
  go_wp2_with fail
  refine (Date_no _ _ (.inr (by have := HL.out; omega))).mono ?_; rintro e w7 ⟨rfl, rfl⟩
  go_wp2_with fail
  refine (next_any _ _ _ _ HOKD.out).mono ?_; rintro e w8 ⟨rfl, b8⟩
  have hlast : (day == 73048) = true := by have := HL.out; simp; omega
  have T8 : Hid (Tab w8) := T6.out.below b8 T6.out.pos
  have B8 := B6.trans (b8.mono B6.size)
  generalize (nextV _ _ _).1 = Y2 at *
  generalize (nextV _ _ _).2.1 = M2 at *
  generalize (nextV _ _ _).2.2 = D2 at *
  have T9 : Hid (Tab (w8.alloc (.cells #[.int .i64 Y2, .int .i64 M2, .int .i64 D2] 33))) := T8.out.alloc _
  have B9 : Below w.heap.size w (w8.alloc (.cells #[.int .i64 Y2, .int .i64 M2, .int .i64 D2] 33)) := B8.alloc B8.size _
  clear b8
  go_wp2_with fail
  refine (awake_any _ T9.out).mono ?_; rintro e w10 ⟨rfl, b10⟩
  go_wp2_with fail
  go_ret
  exact ⟨rfl, B9.trans (b10.mono B9.size)⟩

set_option maxRecDepth 100000 in
set_option maxHeartbeats 1000000 in
theorem Back_yi (day : Int) (s : ByteArray) (w : World) (hT : Tab w) (h40 : s.size ≤ 40) (hd : 0 ≤ day ∧ day ≤ 73048) (hl : day ≠ 73048) (hf : Fits s) (hok : okDate (Txt.yOf (Txt.byte s)) (Txt.mOf (Txt.byte s)) (Txt.dOf (Txt.byte s))) :
    Calls Tryd.prog 8 #[.int .i64 day, .string s] w fun e w' => e = .returned (.bool true) ∧ Below w.heap.size w w' := by
  have HT0 := Lib.hid hT
  have HF := Lib.hid hf
  have HDY := Lib.hid hd
  have HOK := Lib.hid hok
  clear hok
  have HL := Lib.hid hl
  have HOKD := Lib.hid (date_day HDY.out.1 HDY.out.2).1
  have HND := Lib.hid (date_day HDY.out.1 HDY.out.2).2
  obtain ⟨tx, htx⟩ : ∃ tx, strOfNums (Txt.date (2000 + Cal.Mo day / 12) (Cal.Mo day % 12 + 1) (day - Cal.S (Cal.Mo day) + 1)) = tx := ⟨_, rfl⟩
  have HTX2 := Lib.hid htx
  have hft := fits_date (Y := 2000 + Cal.Mo day / 12) (M := Cal.Mo day % 12 + 1) (D := day - Cal.S (Cal.Mo day) + 1) (by have := HOKD.out; unfold okDate at this; omega) (by have := HOKD.out; unfold okDate at this; omega) (by have h := HOKD.out; have h2 := long_31 (2000 + Cal.Mo day / 12) (Cal.Mo day % 12 + 1); unfold okDate at h; omega)
  rw [htx] at hft
  have HFT := Lib.hid hft.1
  have HDN2 : Hid (dayN (Txt.yOf (Txt.byte tx)) (Txt.mOf (Txt.byte tx)) (Txt.dOf (Txt.byte tx)) = day ∧ dayE (Txt.yOf (Txt.byte tx)) (Txt.mOf (Txt.byte tx)) (Txt.dOf (Txt.byte tx)) = 0) := by
    rw [hft.2.1, hft.2.2.1, hft.2.2.2]
    exact ⟨by unfold dayN; rw [if_pos HOKD.out]; exact HND.out, by unfold dayE; rw [if_pos HOKD.out]⟩
  clear htx hft
  have HNX := Lib.hid (next_day HDY.out.1 (show day ≤ 73047 by have := HDY.out.2; have := HL.out; omega))
  clear hT hf hd hl
  go_enter Tryd.func8, Tryd.ntmps8
  go_wp2_with fail
  refine (Parse_yes s _ HT0.out HF.out).mono ?_; rintro e w1 ⟨rfl, b1⟩
  have HDN : Hid (dayN (Txt.yOf (Txt.byte s)) (Txt.mOf (Txt.byte s)) (Txt.dOf (Txt.byte s)) = numDate (Txt.yOf (Txt.byte s)) (Txt.mOf (Txt.byte s)) (Txt.dOf (Txt.byte s)) ∧ dayE (Txt.yOf (Txt.byte s)) (Txt.mOf (Txt.byte s)) (Txt.dOf (Txt.byte s)) = 0) := ⟨by unfold dayN; rw [if_pos HOK.out], by unfold dayE; rw [if_pos HOK.out]⟩
  rw [HDN.out.1, HDN.out.2]
  clear HDN
  obtain ⟨n0, n1, -, n3, n4, n5⟩ := num_ok HOK.out
  have HTX1 : Hid (strOfNums (Txt.date (2000 + Cal.Mo (numDate (Txt.yOf (Txt.byte s)) (Txt.mOf (Txt.byte s)) (Txt.dOf (Txt.byte s))) / 12) (Cal.Mo (numDate (Txt.yOf (Txt.byte s)) (Txt.mOf (Txt.byte s)) (Txt.dOf (Txt.byte s))) % 12 + 1) (numDate (Txt.yOf (Txt.byte s)) (Txt.mOf (Txt.byte s)) (Txt.dOf (Txt.byte s)) - Cal.S (Cal.Mo (numDate (Txt.yOf (Txt.byte s)) (Txt.mOf (Txt.byte s)) (Txt.dOf (Txt.byte s)))) + 1)) = s) := by
    unfold Hid
    rw [n3, n4, n5]
    exact txt_of_fits HF.out
  clear n3 n4 n5
  have T1 : Hid (Tab w1) := HT0.out.below b1 HT0.out.pos
  generalize numDate (Txt.yOf (Txt.byte s)) (Txt.mOf (Txt.byte s)) (Txt.dOf (Txt.byte s)) = N at *
  go_wp2_with fail
  refine (Print_yes _ _ n0 n1 T1.out).mono ?_; rintro e w2 ⟨rfl, b2⟩
  rw [HTX1.out]
  have B2 := b1.trans (b2.mono b1.size)
  have T2 : Hid (Tab w2) := T1.out.below b2 T1.out.pos
  clear b1 b2 T1 HTX1
  go_wp2_with fail
  refine (Date_yes _ _ HDY.out.1 HDY.out.2 T2.out).mono ?_; rintro e w3 ⟨rfl, b3⟩
  have T3 : Hid (Tab w3) := T2.out.below b3 T2.out.pos
  have B3 := B2.trans (b3.mono B2.size)
  clear b3
  go_wp2_with fail
  refine (Day_yes _ _ _ _ T3.out HOKD.out).mono ?_; rintro e w4 ⟨rfl, b4⟩
  rw [HND.out]
  have T4 : Hid (Tab w4) := T3.out.below b4 T3.out.pos
  have B4 := B3.trans (b4.mono B3.size)
  clear b4
  go_wp2_with fail
  refine (Print_yes _ _ HDY.out.1 HDY.out.2 T4.out).mono ?_; rintro e w5 ⟨rfl, b5⟩
  rw [HTX2.out]
  have T5 : Hid (Tab w5) := T4.out.below b5 T4.out.pos
  have B5 := B4.trans (b5.mono B4.size)
  clear b5
  go_wp2_with fail
  refine (Parse_yes tx _ T5.out HFT.out).mono ?_; rintro e w6 ⟨rfl, b6⟩
  rw [HDN2.out.1, HDN2.out.2]
  have T6 : Hid (Tab w6) := T5.out.below b6 T5.out.pos
  have B6 := B5.trans (b6.mono B5.size)
  clear b6
  obtain ⟨dd0, dd1⟩ := HDY.out
  go_wp2_with fail
  refine (Date_yes _ _ (by omega) (by have := HL.out; omega) T6.out).mono ?_; rintro e w7 ⟨rfl, b7⟩
  have T7 : Hid (Tab w7) := T6.out.below b7 T6.out.pos
  have B7 := B6.trans (b7.mono B6.size)
  clear b7
  go_wp2_with fail
  refine (next_any _ _ _ _ HOKD.out).mono ?_; rintro e w8 ⟨rfl, b8⟩
  rw [HNX.out.1, HNX.out.2.1, HNX.out.2.2]
  have hlast : (day == 73048) = false := by have := HL.out; simp; omega
  have T8 : Hid (Tab w8) := T7.out.below b8 T7.out.pos
  have B8 := B7.trans (b8.mono B7.size)
  generalize 2000 + Cal.Mo (day + 1) / 12 = Y2 at *
  generalize Cal.Mo (day + 1) % 12 + 1 = M2 at *
  generalize day + 1 - Cal.S (Cal.Mo (day + 1)) + 1 = D2 at *
  have T9 : Hid (Tab (w8.alloc (.cells #[.int .i64 Y2, .int .i64 M2, .int .i64 D2] 33))) := T8.out.alloc _
  have B9 : Below w.heap.size w (w8.alloc (.cells #[.int .i64 Y2, .int .i64 M2, .int .i64 D2] 33)) := B8.alloc B8.size _
  clear b8
  go_wp2_with fail
  refine (awake_any _ T9.out).mono ?_; rintro e w10 ⟨rfl, b10⟩
  go_wp2_with fail
  go_ret
  exact ⟨rfl, B9.trans (b10.mono B9.size)⟩

theorem Back_long (day : Int) (s : ByteArray) (w : World) (hT : Tab w) (h40 : ¬ s.size ≤ 40) :
    Calls Tryd.prog 8 #[.int .i64 day, .string s] w fun e w' => e = .returned (.bool true) ∧ Below w.heap.size w w' := by
  have HT0 := Lib.hid hT
  clear hT
  go_enter Tryd.func8, Tryd.ntmps8
  go_wp2_with fail
  refine (awake_any _ HT0.out).mono ?_; rintro e w8 ⟨rfl, b8⟩
  go_wp2_with fail
  go_ret
  exact ⟨rfl, b8⟩

theorem Back_law (day : Int) (s : ByteArray) (w : World) (_ : s.size ≤ maxLen) (hT : Tab w) :
    Calls Tryd.prog 8 #[.int .i64 day, .string s] w fun e w' => e = .returned (.bool true) ∧ Below w.heap.size w w' := by
  by_cases h40 : s.size ≤ 40
  · by_cases hf : Fits s
    · by_cases hok : okDate (Txt.yOf (Txt.byte s)) (Txt.mOf (Txt.byte s)) (Txt.dOf (Txt.byte s))
      · by_cases hd : day < 0 ∨ 73048 < day
        · exact Back_yn day s w hT h40 hd hf hok
        · by_cases hl : day = 73048
          · exact Back_yl day s w hT h40 ⟨by omega, by omega⟩ hl hf hok
          · exact Back_yi day s w hT h40 ⟨by omega, by omega⟩ hl hf hok
      · by_cases hd : day < 0 ∨ 73048 < day
        · exact Back_bn day s w hT h40 hd hf hok
        · by_cases hl : day = 73048
          · exact Back_bl day s w hT h40 ⟨by omega, by omega⟩ hl hf hok
          · exact Back_bi day s w hT h40 ⟨by omega, by omega⟩ hl hf hok
    · by_cases hd : day < 0 ∨ 73048 < day
      · exact Back_nn day s w hT h40 hd hf
      · by_cases hl : day = 73048
        · exact Back_nl day s w hT h40 ⟨by omega, by omega⟩ hl hf
        · exact Back_ni day s w hT h40 ⟨by omega, by omega⟩ hl hf
  · exact Back_long day s w hT h40
end Go.Proofs.YtkbfbgapfmlfkaaDoor
