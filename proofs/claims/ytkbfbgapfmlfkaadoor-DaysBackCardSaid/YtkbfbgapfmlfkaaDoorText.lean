/- Plain laws of digits: the decimal digits of a number, as bytes; no program in sight. -/
import Derived.Laws.BytesArg
namespace Go.Proofs.YtkbfbgapfmlfkaaDoor.Txt

/-- A number without its last k digits. -/
def dv (n : Int) (k : Nat) : Int := n / 10 ^ k
theorem dv_zero (n : Int) : dv n 0 = n := by simp [dv]
theorem dv_succ (n : Int) (k : Nat) : dv n k / 10 = dv n (k + 1) := by
  unfold dv
  rw [Int.pow_succ, Int.ediv_ediv_of_nonneg]
  exact Int.pow_nonneg (by omega)
theorem dv_bd {n : Int} (h : 0 ≤ n) (k : Nat) : 0 ≤ dv n k ∧ dv n k ≤ n := by
  unfold dv
  exact ⟨Int.ediv_nonneg h (Int.pow_nonneg (by omega)), Int.ediv_le_self _ h⟩

/-- The digit at a place, as a byte. -/
def dg (n : Int) (k : Nat) : Int := 48 + dv n k % 10
theorem dg_bd (n : Int) (k : Nat) : 48 ≤ dg n k ∧ dg n k ≤ 57 := by unfold dg; omega

/-- The last k digits. -/
def digs (n : Int) : Nat → List Int
  | 0 => []
  | k + 1 => dg n k :: digs n k
theorem digs_length (n : Int) (k : Nat) : (digs n k).length = k := by
  induction k with
  | zero => rfl
  | succ k ih => simp [digs, ih]

theorem strOfNums_append (a b : List Int) : strOfNums a ++ strOfNums b = strOfNums (a ++ b) := by
  apply ByteArray.ext
  simp [strOfNums]

theorem strOfNums_nil : strOfNums [] = ⟨#[]⟩ := rfl

theorem dv_one (n : Int) : dv n 1 = n / 10 := by rw [← dv_succ, dv_zero]
theorem dv_two (n : Int) : dv n 2 = n / 10 / 10 := by rw [← dv_succ, dv_one]
theorem dv_three (n : Int) : dv n 3 = n / 10 / 10 / 10 := by rw [← dv_succ, dv_two]
theorem digs_2 (n : Int) : digs n 2 = [48 + n / 10 % 10, 48 + n % 10] := by simp [digs, dg, dv_zero, dv_one]
theorem digs_4 (n : Int) : digs n 4 = [48 + n / 10 / 10 / 10 % 10, 48 + n / 10 / 10 % 10, 48 + n / 10 % 10, 48 + n % 10] := by simp [digs, dg, dv_zero, dv_one, dv_two, dv_three]

end Go.Proofs.YtkbfbgapfmlfkaaDoor.Txt
