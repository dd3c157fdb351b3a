import Derived.Test.YtkbfbgapfmlfkaaDoorL3
namespace Go.Proofs.YtkbfbgapfmlfkaaDoor
open Go.RowKit

set_option maxRecDepth 100000 in
set_option maxHeartbeats 1000000 in
theorem Dates_nn (day y m d : Int) (w : World) (hT : Tab w) (hd : day < 0 ∨ 73048 < day) (hok : ¬ okDate y m d) :
    Calls Tryd.prog 5 #[.int .i64 day, .agg #[.int .i64 y, .int .i64 m, .int .i64 d]] w fun e w' => e = .returned (.bool true) ∧ Below w.heap.size w w' := by
  have HT0 := Lib.hid hT
  have HOK := Lib.hid hok
  clear hT hok
  have A0 : Below w.heap.size w (w.alloc (.cells #[.int .i64 y, .int .i64 m, .int .i64 d] 37)) := (Below.refl _ _).alloc (Nat.le_refl _) _
  have x0 : (w.alloc (.cells #[.int .i64 y, .int .i64 m, .int .i64 d] 37)).cell? ⟨w.heap.size, 0, none⟩ = some (.int .i64 y) := by rw [cell_of_row _ _ 0 _ _ _ (heap_alloc_new w _)]; rfl
  have x1 : (w.alloc (.cells #[.int .i64 y, .int .i64 m, .int .i64 d] 37)).cell? ⟨w.heap.size, 1, none⟩ = some (.int .i64 m) := by rw [cell_of_row _ _ 1 _ _ _ (heap_alloc_new w _)]; rfl
  have x2 : (w.alloc (.cells #[.int .i64 y, .int .i64 m, .int .i64 d] 37)).cell? ⟨w.heap.size, 2, none⟩ = some (.int .i64 d) := by rw [cell_of_row _ _ 2 _ _ _ (heap_alloc_new w _)]; rfl
  have sz0 : (w.alloc (.cells #[.int .i64 y, .int .i64 m, .int .i64 d] 37)).heap.size = w.heap.size + 1 := by simp
  have T0 : Hid (Tab (w.alloc (.cells #[.int .i64 y, .int .i64 m, .int .i64 d] 37))) := HT0.out.alloc _
  go_enter Tryd.func5, Tryd.ntmps5
  go_wp2_with fail
  generalize w.alloc (.cells #[.int .i64 y, .int .i64 m, .int .i64 d] 37) = w0 at *
  have hr : decide (0 ≤ day ∧ day ≤ 73048) = false := by simp; omega
  have HD := Lib.hid hd
  clear hd
  refine (Date_no _ _ HD.out).mono ?_; rintro e w1 ⟨rfl, rfl⟩
  go_wp2_with fail
  refine (lright_any _ _).mono ?_; rintro e w1 ⟨rfl, rfl⟩; rw [hr]
  obtain ⟨q0, q1, q2⟩ : w0.cell? ⟨w.heap.size, 0, none⟩ = some (.int .i64 y) ∧ w0.cell? ⟨w.heap.size, 1, none⟩ = some (.int .i64 m) ∧ w0.cell? ⟨w.heap.size, 2, none⟩ = some (.int .i64 d) := ⟨x0, x1, x2⟩
  have hsz : w.heap.size + 1 ≤ w0.heap.size := by omega
  have TWW := T0
  have BWW := A0
  clear x0 x1 x2 hr
  go_wp2_with fail
  refine (Day_no y m d _ TWW.out HOK.out).mono ?_; rintro e w6 ⟨rfl, b6⟩
  have x6 : Below (w.heap.size + 1) w0 w6 := b6.mono hsz
  have p0 : w6.cell? ⟨w.heap.size, 0, none⟩ = some (.int .i64 y) := (x6.cell (p := ⟨w.heap.size, 0, none⟩) (by simp)).trans q0
  have p1 : w6.cell? ⟨w.heap.size, 1, none⟩ = some (.int .i64 m) := (x6.cell (p := ⟨w.heap.size, 1, none⟩) (by simp)).trans q1
  have p2 : w6.cell? ⟨w.heap.size, 2, none⟩ = some (.int .i64 d) := (x6.cell (p := ⟨w.heap.size, 2, none⟩) (by simp)).trans q2
  have T6 : Hid (Tab w6) := TWW.out.below b6 TWW.out.pos
  have B6 := BWW.trans (b6.mono (by omega))
  clear q0 q1 q2 x6 b6 TWW
  go_wp2_with fail
  refine (refDay_no y m d _ HOK.out).mono ?_; rintro e w7 ⟨rfl, b7⟩
  have T7 : Hid (Tab w7) := T6.out.below b7 T6.out.pos
  have B7 := B6.trans (b7.mono B6.size)
  clear b7 T6 p0 p1 p2
  go_wp2_with fail
  refine (awake_any _ T7.out).mono ?_; rintro e w8 ⟨rfl, b8⟩
  go_wp2_with fail
  go_ret
  exact ⟨rfl, B7.trans (b8.mono B7.size)⟩

set_option maxRecDepth 100000 in
set_option maxHeartbeats 1000000 in
theorem Dates_ny (day y m d : Int) (w : World) (hT : Tab w) (hd : day < 0 ∨ 73048 < day) (hok : okDate y m d) :
    Calls Tryd.prog 5 #[.int .i64 day, .agg #[.int .i64 y, .int .i64 m, .int .i64 d]] w fun e w' => e = .returned (.bool true) ∧ Below w.heap.size w w' := by
  have HT0 := Lib.hid hT
  have HOK := Lib.hid hok
  clear hT hok
  have A0 : Below w.heap.size w (w.alloc (.cells #[.int .i64 y, .int .i64 m, .int .i64 d] 37)) := (Below.refl _ _).alloc (Nat.le_refl _) _
  have x0 : (w.alloc (.cells #[.int .i64 y, .int .i64 m, .int .i64 d] 37)).cell? ⟨w.heap.size, 0, none⟩ = some (.int .i64 y) := by rw [cell_of_row _ _ 0 _ _ _ (heap_alloc_new w _)]; rfl
  have x1 : (w.alloc (.cells #[.int .i64 y, .int .i64 m, .int .i64 d] 37)).cell? ⟨w.heap.size, 1, none⟩ = some (.int .i64 m) := by rw [cell_of_row _ _ 1 _ _ _ (heap_alloc_new w _)]; rfl
  have x2 : (w.alloc (.cells #[.int .i64 y, .int .i64 m, .int .i64 d] 37)).cell? ⟨w.heap.size, 2, none⟩ = some (.int .i64 d) := by rw [cell_of_row _ _ 2 _ _ _ (heap_alloc_new w _)]; rfl
  have sz0 : (w.alloc (.cells #[.int .i64 y, .int .i64 m, .int .i64 d] 37)).heap.size = w.heap.size + 1 := by simp
  have T0 : Hid (Tab (w.alloc (.cells #[.int .i64 y, .int .i64 m, .int .i64 d] 37))) := HT0.out.alloc _
  go_enter Tryd.func5, Tryd.ntmps5
  go_wp2_with fail
  generalize w.alloc (.cells #[.int .i64 y, .int .i64 m, .int .i64 d] 37) = w0 at *
  have hr : decide (0 ≤ day ∧ day ≤ 73048) = false := by simp; omega
  have HD := Lib.hid hd
  clear hd
  refine (Date_no _ _ HD.out).mono ?_; rintro e w1 ⟨rfl, rfl⟩
  go_wp2_with fail
  refine (lright_any _ _).mono ?_; rintro e w1 ⟨rfl, rfl⟩; rw [hr]
  obtain ⟨q0, q1, q2⟩ : w0.cell? ⟨w.heap.size, 0, none⟩ = some (.int .i64 y) ∧ w0.cell? ⟨w.heap.size, 1, none⟩ = some (.int .i64 m) ∧ w0.cell? ⟨w.heap.size, 2, none⟩ = some (.int .i64 d) := ⟨x0, x1, x2⟩
  have hsz : w.heap.size + 1 ≤ w0.heap.size := by omega
  have TWW := T0
  have BWW := A0
  clear x0 x1 x2 hr
  go_wp2_with fail
  refine (Day_yes y m d _ TWW.out HOK.out).mono ?_; rintro e w6 ⟨rfl, b6⟩
  have x6 : Below (w.heap.size + 1) w0 w6 := b6.mono hsz
  have p0 : w6.cell? ⟨w.heap.size, 0, none⟩ = some (.int .i64 y) := (x6.cell (p := ⟨w.heap.size, 0, none⟩) (by simp)).trans q0
  have p1 : w6.cell? ⟨w.heap.size, 1, none⟩ = some (.int .i64 m) := (x6.cell (p := ⟨w.heap.size, 1, none⟩) (by simp)).trans q1
  have p2 : w6.cell? ⟨w.heap.size, 2, none⟩ = some (.int .i64 d) := (x6.cell (p := ⟨w.heap.size, 2, none⟩) (by simp)).trans q2
  have T6 : Hid (Tab w6) := TWW.out.below b6 TWW.out.pos
  have B6 := BWW.trans (b6.mono (by omega))
  clear q0 q1 q2 x6 b6 TWW
  go_wp2_with fail
  refine (refDay_yes y m d _ HOK.out).mono ?_; rintro e w7 ⟨rfl, b7⟩
  have T7 : Hid (Tab w7) := T6.out.below b7 T6.out.pos
  have B7 := B6.trans (b7.mono B6.size)
  clear b7 T6 p0 p1 p2
  obtain ⟨n0, n1, -, -⟩ := num_ok HOK.out
  generalize numDate y m d = N at *
  go_wp2_with fail
  refine (awake_any _ T7.out).mono ?_; rintro e w8 ⟨rfl, b8⟩
  go_wp2_with fail
  go_ret
  exact ⟨rfl, B7.trans (b8.mono B7.size)⟩

set_option maxRecDepth 100000 in
set_option maxHeartbeats 1000000 in
theorem Dates_yn (day y m d : Int) (w : World) (hT : Tab w) (hd : 0 ≤ day ∧ day ≤ 73048) (hok : ¬ okDate y m d) :
    Calls Tryd.prog 5 #[.int .i64 day, .agg #[.int .i64 y, .int .i64 m, .int .i64 d]] w fun e w' => e = .returned (.bool true) ∧ Below w.heap.size w w' := by
  have HT0 := Lib.hid hT
  have HOK := Lib.hid hok
  clear hT hok
  have A0 : Below w.heap.size w (w.alloc (.cells #[.int .i64 y, .int .i64 m, .int .i64 d] 37)) := (Below.refl _ _).alloc (Nat.le_refl _) _
  have x0 : (w.alloc (.cells #[.int .i64 y, .int .i64 m, .int .i64 d] 37)).cell? ⟨w.heap.size, 0, none⟩ = some (.int .i64 y) := by rw [cell_of_row _ _ 0 _ _ _ (heap_alloc_new w _)]; rfl
  have x1 : (w.alloc (.cells #[.int .i64 y, .int .i64 m, .int .i64 d] 37)).cell? ⟨w.heap.size, 1, none⟩ = some (.int .i64 m) := by rw [cell_of_row _ _ 1 _ _ _ (heap_alloc_new w _)]; rfl
  have x2 : (w.alloc (.cells #[.int .i64 y, .int .i64 m, .int .i64 d] 37)).cell? ⟨w.heap.size, 2, none⟩ = some (.int .i64 d) := by rw [cell_of_row _ _ 2 _ _ _ (heap_alloc_new w _)]; rfl
  have sz0 : (w.alloc (.cells #[.int .i64 y, .int .i64 m, .int .i64 d] 37)).heap.size = w.heap.size + 1 := by simp
  have T0 : Hid (Tab (w.alloc (.cells #[.int .i64 y, .int .i64 m, .int .i64 d] 37))) := HT0.out.alloc _
  go_enter Tryd.func5, Tryd.ntmps5
  go_wp2_with fail
  generalize w.alloc (.cells #[.int .i64 y, .int .i64 m, .int .i64 d] 37) = w0 at *
  have hr : decide (0 ≤ day ∧ day ≤ 73048) = true := by simp; omega
  obtain ⟨h0, h1⟩ := hd
  refine (Date_yes _ _ h0 h1 T0.out).mono ?_; rintro e w1 ⟨rfl, b1⟩
  go_wp2_with fail
  refine (lright_any _ _).mono ?_; rintro e w1' ⟨rfl, rfl⟩; rw [hr]
  go_wp2_with fail
  refine (refOf_any _ _ h0 h1).mono ?_; rintro e w2 ⟨rfl, b2⟩
  have bb : Below w0.heap.size w0 w2 := b1.trans (b2.mono b1.size)
  have bb' : Below (w.heap.size + 1) w0 w2 := bb.mono (by omega)
  have q0 : w2.cell? ⟨w.heap.size, 0, none⟩ = some (.int .i64 y) := (bb'.cell (p := ⟨w.heap.size, 0, none⟩) (by simp)).trans x0
  have q1 : w2.cell? ⟨w.heap.size, 1, none⟩ = some (.int .i64 m) := (bb'.cell (p := ⟨w.heap.size, 1, none⟩) (by simp)).trans x1
  have q2 : w2.cell? ⟨w.heap.size, 2, none⟩ = some (.int .i64 d) := (bb'.cell (p := ⟨w.heap.size, 2, none⟩) (by simp)).trans x2
  have hsz : w.heap.size + 1 ≤ w2.heap.size := by have := bb.size; omega
  have TWW : Hid (Tab w2) := T0.out.below bb T0.out.pos
  have BWW : Below w.heap.size w w2 := A0.trans (bb.mono (by omega))
  generalize 2000 + Cal.Mo day / 12 = Y at *
  generalize Cal.Mo day % 12 + 1 = M at *
  generalize day - Cal.S (Cal.Mo day) + 1 = DD at *
  clear x0 x1 x2 hr bb bb' b1 b2
  go_wp2_with fail
  refine (Day_no y m d _ TWW.out HOK.out).mono ?_; rintro e w6 ⟨rfl, b6⟩
  have x6 : Below (w.heap.size + 1) w2 w6 := b6.mono hsz
  have p0 : w6.cell? ⟨w.heap.size, 0, none⟩ = some (.int .i64 y) := (x6.cell (p := ⟨w.heap.size, 0, none⟩) (by simp)).trans q0
  have p1 : w6.cell? ⟨w.heap.size, 1, none⟩ = some (.int .i64 m) := (x6.cell (p := ⟨w.heap.size, 1, none⟩) (by simp)).trans q1
  have p2 : w6.cell? ⟨w.heap.size, 2, none⟩ = some (.int .i64 d) := (x6.cell (p := ⟨w.heap.size, 2, none⟩) (by simp)).trans q2
  have T6 : Hid (Tab w6) := TWW.out.below b6 TWW.out.pos
  have B6 := BWW.trans (b6.mono (by omega))
  clear q0 q1 q2 x6 b6 TWW
  go_wp2_with fail
  refine (refDay_no y m d _ HOK.out).mono ?_; rintro e w7 ⟨rfl, b7⟩
  have T7 : Hid (Tab w7) := T6.out.below b7 T6.out.pos
  have B7 := B6.trans (b7.mono B6.size)
  clear b7 T6 p0 p1 p2
  go_wp2_with fail
  refine (awake_any _ T7.out).mono ?_; rintro e w8 ⟨rfl, b8⟩
  go_wp2_with fail
  go_ret
  exact ⟨rfl, B7.trans (b8.mono B7.size)⟩

set_option maxRecDepth 100000 in
set_option maxHeartbeats 1000000 in
theorem Dates_yy (day y m d : Int) (w : World) (hT : Tab w) (hd : 0 ≤ day ∧ day ≤ 73048) (hok : okDate y m d) :
    Calls Tryd.prog 5 #[.int .i64 day, .agg #[.int .i64 y, .int .i64 m, .int .i64 d]] w fun e w' => e = .returned (.bool true) ∧ Below w.heap.size w w' := by
  have HT0 := Lib.hid hT
  have HOK := Lib.hid hok
  clear hT hok
  have A0 : Below w.heap.size w (w.alloc (.cells #[.int .i64 y, .int .i64 m, .int .i64 d] 37)) := (Below.refl _ _).alloc (Nat.le_refl _) _
  have x0 : (w.alloc (.cells #[.int .i64 y, .int .i64 m, .int .i64 d] 37)).cell? ⟨w.heap.size, 0, none⟩ = some (.int .i64 y) := by rw [cell_of_row _ _ 0 _ _ _ (heap_alloc_new w _)]; rfl
  have x1 : (w.alloc (.cells #[.int .i64 y, .int .i64 m, .int .i64 d] 37)).cell? ⟨w.heap.size, 1, none⟩ = some (.int .i64 m) := by rw [cell_of_row _ _ 1 _ _ _ (heap_alloc_new w _)]; rfl
  have x2 : (w.alloc (.cells #[.int .i64 y, .int .i64 m, .int .i64 d] 37)).cell? ⟨w.heap.size, 2, none⟩ = some (.int .i64 d) := by rw [cell_of_row _ _ 2 _ _ _ (heap_alloc_new w _)]; rfl
  have sz0 : (w.alloc (.cells #[.int .i64 y, .int .i64 m, .int .i64 d] 37)).heap.size = w.heap.size + 1 := by simp
  have T0 : Hid (Tab (w.alloc (.cells #[.int .i64 y, .int .i64 m, .int .i64 d] 37))) := HT0.out.alloc _
  go_enter Tryd.func5, Tryd.ntmps5
  go_wp2_with fail
  generalize w.alloc (.cells #[.int .i64 y, .int .i64 m, .int .i64 d] 37) = w0 at *
  have hr : decide (0 ≤ day ∧ day ≤ 73048) = true := by simp; omega
  obtain ⟨h0, h1⟩ := hd
  refine (Date_yes _ _ h0 h1 T0.out).mono ?_; rintro e w1 ⟨rfl, b1⟩
  go_wp2_with fail
  refine (lright_any _ _).mono ?_; rintro e w1' ⟨rfl, rfl⟩; rw [hr]
  go_wp2_with fail
  refine (refOf_any _ _ h0 h1).mono ?_; rintro e w2 ⟨rfl, b2⟩
  have bb : Below w0.heap.size w0 w2 := b1.trans (b2.mono b1.size)
  have bb' : Below (w.heap.size + 1) w0 w2 := bb.mono (by omega)
  have q0 : w2.cell? ⟨w.heap.size, 0, none⟩ = some (.int .i64 y) := (bb'.cell (p := ⟨w.heap.size, 0, none⟩) (by simp)).trans x0
  have q1 : w2.cell? ⟨w.heap.size, 1, none⟩ = some (.int .i64 m) := (bb'.cell (p := ⟨w.heap.size, 1, none⟩) (by simp)).trans x1
  have q2 : w2.cell? ⟨w.heap.size, 2, none⟩ = some (.int .i64 d) := (bb'.cell (p := ⟨w.heap.size, 2, none⟩) (by simp)).trans x2
  have hsz : w.heap.size + 1 ≤ w2.heap.size := by have := bb.size; omega
  have TWW : Hid (Tab w2) := T0.out.below bb T0.out.pos
  have BWW : Below w.heap.size w w2 := A0.trans (bb.mono (by omega))
  generalize 2000 + Cal.Mo day / 12 = Y at *
  generalize Cal.Mo day % 12 + 1 = M at *
  generalize day - Cal.S (Cal.Mo day) + 1 = DD at *
  clear x0 x1 x2 hr bb bb' b1 b2
  go_wp2_with fail
  refine (Day_yes y m d _ TWW.out HOK.out).mono ?_; rintro e w6 ⟨rfl, b6⟩
  have x6 : Below (w.heap.size + 1) w2 w6 := b6.mono hsz
  have p0 : w6.cell? ⟨w.heap.size, 0, none⟩ = some (.int .i64 y) := (x6.cell (p := ⟨w.heap.size, 0, none⟩) (by simp)).trans q0
  have p1 : w6.cell? ⟨w.heap.size, 1, none⟩ = some (.int .i64 m) := (x6.cell (p := ⟨w.heap.size, 1, none⟩) (by simp)).trans q1
  have p2 : w6.cell? ⟨w.heap.size, 2, none⟩ = some (.int .i64 d) := (x6.cell (p := ⟨w.heap.size, 2, none⟩) (by simp)).trans q2
  have T6 : Hid (Tab w6) := TWW.out.below b6 TWW.out.pos
  have B6 := BWW.trans (b6.mono (by omega))
  clear q0 q1 q2 x6 b6 TWW
  go_wp2_with fail
  refine (refDay_yes y m d _ HOK.out).mono ?_; rintro e w7 ⟨rfl, b7⟩
  have T7 : Hid (Tab w7) := T6.out.below b7 T6.out.pos
  have B7 := B6.trans (b7.mono B6.size)
  clear b7 T6 p0 p1 p2
  obtain ⟨n0, n1, -, -⟩ := num_ok HOK.out
  generalize numDate y m d = N at *
  go_wp2_with fail
  refine (awake_any _ T7.out).mono ?_; rintro e w8 ⟨rfl, b8⟩
  go_wp2_with fail
  go_ret
  exact ⟨rfl, B7.trans (b8.mono B7.size)⟩

theorem Dates_law (day y m d : Int) (w : World) (hT : Tab w) :
    Calls Tryd.prog 5 #[.int .i64 day, .agg #[.int .i64 y, .int .i64 m, .int .i64 d]] w fun e w' => e = .returned (.bool true) ∧ Below w.heap.size w w' := by
  by_cases hd : day < 0 ∨ 73048 < day
  · by_cases hok : okDate y m d
    · exact Dates_ny day y m d w hT hd hok
    · exact Dates_nn day y m d w hT hd hok
  · by_cases hok : okDate y m d
    · exact Dates_yy day y m d w hT ⟨by omega, by omega⟩ hok
    · exact Dates_yn day y m d w hT ⟨by omega, by omega⟩ hok
end Go.Proofs.YtkbfbgapfmlfkaaDoor
