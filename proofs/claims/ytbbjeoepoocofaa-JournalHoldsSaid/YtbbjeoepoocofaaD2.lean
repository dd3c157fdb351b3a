import Derived.Test.YtbbjeoepoocofaaD1
import Derived.Test.YtbbjeoepoocofaaDisk
import Derived.Lib.QuietBelow
import Derived.Deep.RegionHeld3
import Derived.Deep.DeepCutAuto
import Derived.Deep.CutBlock
namespace Go.Proofs.Ytbbjeoepoocofaa
open Go.RowKit

theorem ret_int {k : IntKind} {a b : Int} (h : a = b) : Ending.returned (.int k a) = .returned (.int k b) := by rw [h]
theorem ret_bool {a b : Bool} (h : a = b) : Ending.returned (.bool a) = .returned (.bool b) := by rw [h]
theorem Below.drewN {B : Nat} {a w : World} (h : Below B a w) (n : Nat) : Below B a (w.drewN n) := ⟨h.os, h.tape, h.output, h.size, h.block⟩

theorem has_any (n size block : Int) (w : World) :
    Calls Try.prog 52 #[.agg #[.int .i64 n, .int .i64 size], .int .i64 block] w fun e w' => e = .returned (.bool (decide (0 ≤ block ∧ block < n))) ∧ Below w.heap.size w w' := by
  by_cases h1 : 0 ≤ block <;> by_cases h2 : block < n
  all_goals
    go_enter Try.func52, Try.ntmps52
    go_wp2_with fail
    go_ret
    exact ⟨ret_bool (by simp [h1, h2]), (Below.refl _ _).alloc (Nat.le_refl _) _⟩

theorem span_any (n size block : Int) (w : World) (h0 : 0 ≤ block * size) (h1 : block * size ≤ 100000000) (h2 : 0 ≤ (block + 1) * size) (h3 : (block + 1) * size ≤ 100000000) (h4 : 0 ≤ block) (h5 : block ≤ 100000000) :
    Calls Try.prog 51 #[.agg #[.int .i64 n, .int .i64 size], .int .i64 block] w fun e w' => e = .returned (.tuple #[.int .i64 (block * size), .int .i64 ((block + 1) * size)]) ∧ Below w.heap.size w w' := by
  go_enter Try.func51, Try.ntmps51
  go_wp2_with fail
  go_quiet (fail)
  go_wp2_with fail
  go_ret2
  exact ⟨rfl, Below.drewN ((Below.refl _ _).alloc (Nat.le_refl _) _) _⟩

/-- The cells of a disk's head, and that they may be written. -/
theorem Lies.cells {w : World} {d : Nat} {D : Dk} {M S : Nat → Prop} {fb fc nb nc : Nat} {ov : Value} {vs : List (Nat × Value)} (h : Lies w d D M S fb fc nb nc ov vs) :
    w.cell? ⟨d, 0, none⟩ = some (.int .i64 D.blocks) ∧ w.cell? ⟨d, 1, none⟩ = some (.int .i64 D.size) ∧ w.cell? ⟨d, 2, none⟩ = some (.slice (some ⟨fb, 0, none⟩) (D.blocks * D.size) fc) ∧
    w.cell? ⟨d, 3, none⟩ = some (.slice (some ⟨nb, 0, none⟩) (D.blocks * D.size) nc) ∧ w.cell? ⟨d, 4, none⟩ = some ov :=
  ⟨by rw [cell_of_row w d 0 _ _ _ h.head]; rfl, by rw [cell_of_row w d 1 _ _ _ h.head]; rfl, by rw [cell_of_row w d 2 _ _ _ h.head]; rfl, by rw [cell_of_row w d 3 _ _ _ h.head]; rfl, by rw [cell_of_row w d 4 _ _ _ h.head]; rfl⟩
theorem Lies.free {w : World} {d : Nat} {D : Dk} {M S : Nat → Prop} {fb fc nb nc : Nat} {ov : Value} {vs : List (Nat × Value)} (h : Lies w d D M S fb fc nb nc ov vs) (j : Nat) : w.frozen? ⟨d, j, none⟩ = false := frozen_of_row w d j _ _ h.head

theorem Size_any (w : World) (d : Nat) (D : Dk) (M S : Nat → Prop) (h : DiskAt w d D M S) :
    Calls Try.prog 38 #[.pointer (some ⟨d, 0, none⟩)] w fun e w' => e = .returned (.int .i64 D.size) ∧ w = w' := by
  obtain ⟨fb, fc, nb, nc, ov, vs, l⟩ := h
  obtain ⟨c0, c1, -, -, -⟩ := l.cells
  clear l
  go_enter Try.func38, Try.ntmps38
  go_wp2_with fail
  go_ret
  exact ⟨rfl, rfl⟩
theorem Size_nil (w : World) : Calls Try.prog 38 #[.pointer none] w fun e w' => e = .returned (.int .i64 0) ∧ w = w' := by
  go_enter Try.func38, Try.ntmps38
  go_wp2_with fail
  go_ret
  exact ⟨rfl, rfl⟩
theorem Blocks_any (w : World) (d : Nat) (D : Dk) (M S : Nat → Prop) (h : DiskAt w d D M S) :
    Calls Try.prog 41 #[.pointer (some ⟨d, 0, none⟩)] w fun e w' => e = .returned (.int .i64 D.blocks) ∧ w = w' := by
  obtain ⟨fb, fc, nb, nc, ov, vs, l⟩ := h
  obtain ⟨c0, c1, -, -, -⟩ := l.cells
  clear l
  go_enter Try.func41, Try.ntmps41
  go_wp2_with fail
  go_ret
  exact ⟨rfl, rfl⟩
theorem Blocks_nil (w : World) : Calls Try.prog 41 #[.pointer none] w fun e w' => e = .returned (.int .i64 0) ∧ w = w' := by
  go_enter Try.func41, Try.ntmps41
  go_wp2_with fail
  go_ret
  exact ⟨rfl, rfl⟩

theorem own_slice {w : World} {base : Nat} {e : TypeId} {size : Nat} {v : Value} {n : Nat} {xs : List Value} (h : w.ownsRow base e size v n xs) : ∃ a cap, v = .slice a n cap := by
  rcases h.2 with ⟨rfl, rfl⟩ | ⟨g, cap, cur, rfl, _⟩
  · exact ⟨none, 0, rfl⟩
  · exact ⟨_, cap, rfl⟩

theorem Open_any (w : World) (d : Nat) (D : Dk) (M S : Nat → Prop) (h : DiskAt w d D M S) :
    Calls Try.prog 18 #[.pointer (some ⟨d, 0, none⟩)] w fun e w' => e = .returned (.int .i64 D.open_.length) ∧ w = w' := by
  obtain ⟨fb, fc, nb, nc, ov, vs, l⟩ := h
  obtain ⟨-, -, -, -, c4⟩ := l.cells
  obtain ⟨a, cap, rfl⟩ := own_slice l.openRow
  have hl := l.openLen
  clear l
  go_enter Try.func18, Try.ntmps18
  go_wp2_with fail
  go_ret
  exact ⟨rfl, rfl⟩
theorem Open_nil (w : World) : Calls Try.prog 18 #[.pointer none] w fun e w' => e = .returned (.int .i64 0) ∧ w = w' := by
  go_enter Try.func18, Try.ntmps18
  go_wp2_with fail
  go_ret
  exact ⟨rfl, rfl⟩
end Go.Proofs.Ytbbjeoepoocofaa
