import Derived.Test.YtkbfbgapfmlfkaaDoorW10
import Derived.Deep.RegionLaw
import Derived.BigRegion
import Derived.Laws.ResultCell
namespace Go.Proofs.YtkbfbgapfmlfkaaDoor
open Go.RowKit

theorem number_of (s : ByteArray) (a b : Nat) (w : World) (hs : s.size = 10) (hb : b ≤ 10) :
    Calls Tryd.prog 32 #[.string (s.extract a b)] w fun e w' => e = .returned (.int .i64 (Txt.numV (fun i => Txt.byte s (a + i)) (b - a))) ∧ w = w' := by
  have h1 : (s.extract a b).size = b - a := by rw [ByteArray.size_extract]; omega
  refine (number_any _ w (by omega)).mono ?_
  rintro e w' ⟨rfl, rfl⟩
  rw [h1, Txt.numV_congr _ (fun i => Txt.byte s (a + i)) (b - a) (fun i hi => Txt.byte_extract s a b i (by omega) (by omega))]
  exact ⟨rfl, rfl⟩

set_option maxHeartbeats 1000000 in
theorem Read_size (s : ByteArray) (w : World) (hs : ¬ s.size = 10) :
    Calls Tryd.prog 23 #[.string s] w fun e w' => e = .returned (.tuple #[.agg #[.int .i64 0, .int .i64 0, .int .i64 0], .bool false]) ∧ Below w.heap.size w w' := by
  have h1 : ((s.size : Int) != 10) = true := by simp; omega
  go_enter Tryd.func23, Tryd.ntmps23
  go_wp2_with fail
  (try simp only [Exit.inBlock, Exit.then])
  refine bodyPost_ret (v := .tuple #[.agg #[.int .i64 0, .int .i64 0, .int .i64 0], .bool false]) (by rw [results_cell_tmp rfl]; go_simp) rfl ?_
  exact ⟨rfl, (Below.refl _ _).alloc (Nat.le_refl _) _⟩

set_option maxHeartbeats 4000000 in
theorem Read_num (s : ByteArray) (w : World) (hs : s.size = 10) (h4 : Txt.byte s 4 = 45) (h7 : Txt.byte s 7 = 45) (y m d : Int) (hy : Txt.numV (fun i => Txt.byte s i) 4 = y) (hm : Txt.numV (fun i => Txt.byte s (5 + i)) 2 = m) (hd : Txt.numV (fun i => Txt.byte s (8 + i)) 2 = d) (sy : 0 ≤ y ∨ y = -1) (sm : 0 ≤ m ∨ m = -1) (sd : 0 ≤ d ∨ d = -1) :
    Calls Tryd.prog 23 #[.string s] w fun e w' => e = .returned (.tuple #[.agg #[.int .i64 y, .int .i64 m, .int .i64 d], .bool (decide (0 ≤ y ∧ 0 ≤ m ∧ 0 ≤ d))]) ∧ Below w.heap.size w w' := by
  have e4 := Txt.byte_get s 4 (by omega)
  have e7 := Txt.byte_get s 7 (by omega)
  rw [h4] at e4
  rw [h7] at e7
  have HY := Lib.hid hy
  have HM := Lib.hid hm
  have HD := Lib.hid hd
  clear hy hm hd
  go_enter Tryd.func23, Tryd.ntmps23
  go_wp2_with fail
  generalize hw0 : w.alloc (.cells #[.int .i64 0, .int .i64 0, .int .i64 0] 33) = w0 at *
  go_region_law (first
    | (go_simp; go_at_call 32; refine (number_of s _ _ _ hs (by omega)).mono ?_; rintro e w' ⟨rfl, rfl⟩)
    | fail)
  all_goals
    rw [HY.out, HM.out, HD.out]
    have hz0 : (w0.alloc (.cells #[.int .i64 y, .int .i64 m, .int .i64 d] 33)).drew.heap.size = w0.heap.size + 1 := by simp
    have u0 : (w0.alloc (.cells #[.int .i64 y, .int .i64 m, .int .i64 d] 33)).drew.cell? ⟨w0.heap.size, 0, none⟩ = some (.int .i64 y) := by go_simp
    have u1 : (w0.alloc (.cells #[.int .i64 y, .int .i64 m, .int .i64 d] 33)).drew.cell? ⟨w0.heap.size, 1, none⟩ = some (.int .i64 m) := by go_simp
    have u2 : (w0.alloc (.cells #[.int .i64 y, .int .i64 m, .int .i64 d] 33)).drew.cell? ⟨w0.heap.size, 2, none⟩ = some (.int .i64 d) := by go_simp
    have ub : (w0.alloc (.cells #[.int .i64 y, .int .i64 m, .int .i64 d] 33)).drew.heap[w.heap.size]? = some (.cells #[.int .i64 0, .int .i64 0, .int .i64 0] 33) := by
      have h := (((Below.refl w0.heap.size w0).alloc (Nat.le_refl _) (.cells #[.int .i64 y, .int .i64 m, .int .i64 d] 33)).drew).block w.heap.size (by rw [← hw0]; simp)
      rw [h, ← hw0]
      exact heap_alloc_new w _
    have B1 : Below w.heap.size w (w0.alloc (.cells #[.int .i64 y, .int .i64 m, .int .i64 d] 33)).drew := by
      rw [← hw0]
      exact ((((Below.refl _ _).alloc (Nat.le_refl _) _)).alloc (by simp) _).drew
    have hz : w0.heap.size = w.heap.size + 1 := by rw [← hw0]; simp
    generalize (w0.alloc (.cells #[.int .i64 y, .int .i64 m, .int .i64 d] 33)).drew = w1 at *
    rw [hz] at u0 u1 u2 ⊢
    have v0 : w1.cell? ⟨w.heap.size, 0, none⟩ = some (.int .i64 0) := by rw [cell_of_row _ _ 0 _ _ _ ub]; rfl
    have v1 : w1.cell? ⟨w.heap.size, 1, none⟩ = some (.int .i64 0) := by rw [cell_of_row _ _ 1 _ _ _ ub]; rfl
    have v2 : w1.cell? ⟨w.heap.size, 2, none⟩ = some (.int .i64 0) := by rw [cell_of_row _ _ 2 _ _ _ ub]; rfl
    have f0 : w1.frozen? ⟨w.heap.size, 0, none⟩ = false := frozen_of_row _ _ 0 _ _ ub
    have f1 : w1.frozen? ⟨w.heap.size, 1, none⟩ = false := frozen_of_row _ _ 1 _ _ ub
    have f2 : w1.frozen? ⟨w.heap.size, 2, none⟩ = false := frozen_of_row _ _ 2 _ _ ub
    clear hw0
    rcases sy with c0 | rfl
    · rcases sm with c1 | rfl
      · rcases sd with c2 | rfl
        · have hdd : decide (0 ≤ y ∧ 0 ≤ m ∧ 0 ≤ d) = true := by simp [c0, c1, c2]
          go_wp2_with fail
          go_region
          all_goals
            go_wp2_with fail
            (try simp only [Exit.inBlock, Exit.then])
            refine bodyPost_ret (v := .tuple #[.agg #[.int .i64 y, .int .i64 m, .int .i64 d], .bool true]) (by rw [results_cell_tmp rfl]; go_simp) rfl ?_
            exact ⟨by first | rfl | rw [hdd], ((((B1.setCell (p := ⟨w.heap.size, 0, none⟩) (Nat.le_refl _) _).setCell (p := ⟨w.heap.size, 1, none⟩) (Nat.le_refl _) _).setCell (p := ⟨w.heap.size, 2, none⟩) (Nat.le_refl _) _).drew)⟩
        · have hdd : decide (0 ≤ y ∧ 0 ≤ m ∧ (0 : Int) ≤ -1) = false := by simp
          go_wp2_with fail
          go_region
          all_goals
            go_wp2_with fail
            (try simp only [Exit.inBlock, Exit.then])
            refine bodyPost_ret (v := .tuple #[.agg #[.int .i64 y, .int .i64 m, .int .i64 (-1)], .bool false]) (by rw [results_cell_tmp rfl]; go_simp) rfl ?_
            exact ⟨by first | rfl | rw [hdd], ((((B1.setCell (p := ⟨w.heap.size, 0, none⟩) (Nat.le_refl _) _).setCell (p := ⟨w.heap.size, 1, none⟩) (Nat.le_refl _) _).setCell (p := ⟨w.heap.size, 2, none⟩) (Nat.le_refl _) _).drew)⟩
      · have hdd : decide (0 ≤ y ∧ (0 : Int) ≤ -1 ∧ 0 ≤ d) = false := by simp
        go_wp2_with fail
        go_region
        all_goals
          go_wp2_with fail
          (try simp only [Exit.inBlock, Exit.then])
          refine bodyPost_ret (v := .tuple #[.agg #[.int .i64 y, .int .i64 (-1), .int .i64 d], .bool false]) (by rw [results_cell_tmp rfl]; go_simp) rfl ?_
          exact ⟨by first | rfl | rw [hdd], ((((B1.setCell (p := ⟨w.heap.size, 0, none⟩) (Nat.le_refl _) _).setCell (p := ⟨w.heap.size, 1, none⟩) (Nat.le_refl _) _).setCell (p := ⟨w.heap.size, 2, none⟩) (Nat.le_refl _) _).drew)⟩
    · have hdd : decide ((0 : Int) ≤ -1 ∧ 0 ≤ m ∧ 0 ≤ d) = false := by simp
      go_wp2_with fail
      go_region
      all_goals
        go_wp2_with fail
        (try simp only [Exit.inBlock, Exit.then])
        refine bodyPost_ret (v := .tuple #[.agg #[.int .i64 (-1), .int .i64 m, .int .i64 d], .bool false]) (by rw [results_cell_tmp rfl]; go_simp) rfl ?_
        exact ⟨by first | rfl | rw [hdd], ((((B1.setCell (p := ⟨w.heap.size, 0, none⟩) (Nat.le_refl _) _).setCell (p := ⟨w.heap.size, 1, none⟩) (Nat.le_refl _) _).setCell (p := ⟨w.heap.size, 2, none⟩) (Nat.le_refl _) _).drew)⟩

theorem Read_dash (s : ByteArray) (w : World) (hs : s.size = 10) (h : Txt.byte s 4 ≠ 45 ∨ Txt.byte s 7 ≠ 45) :
    Calls Tryd.prog 23 #[.string s] w fun e w' => e = .returned (.tuple #[.agg #[.int .i64 0, .int .i64 0, .int .i64 0], .bool false]) ∧ Below w.heap.size w w' := by
  have e4 := Txt.byte_get s 4 (by omega)
  have e7 := Txt.byte_get s 7 (by omega)
  generalize Txt.byte s 4 = x at *
  generalize Txt.byte s 7 = z at *
  by_cases h4 : x = 45
  · have h7 : z ≠ 45 := h.resolve_left (fun h => h h4)
    rw [h4] at e4
    have hz : (z != 45) = true := by simp [h7]
    clear h h4 h7
    go_enter Tryd.func23, Tryd.ntmps23
    go_wp2_with fail
    (try simp only [Exit.inBlock, Exit.then])
    refine bodyPost_ret (v := .tuple #[.agg #[.int .i64 0, .int .i64 0, .int .i64 0], .bool false]) (by rw [results_cell_tmp rfl]; go_simp) rfl ?_
    exact ⟨rfl, (Below.refl _ _).alloc (Nat.le_refl _) _⟩
  · have hx : (x != 45) = true := by simp [h4]
    clear h h4
    go_enter Tryd.func23, Tryd.ntmps23
    go_wp2_with fail
    (try simp only [Exit.inBlock, Exit.then])
    refine bodyPost_ret (v := .tuple #[.agg #[.int .i64 0, .int .i64 0, .int .i64 0], .bool false]) (by rw [results_cell_tmp rfl]; go_simp) rfl ?_
    exact ⟨rfl, (Below.refl _ _).alloc (Nat.le_refl _) _⟩
end Go.Proofs.YtkbfbgapfmlfkaaDoor
