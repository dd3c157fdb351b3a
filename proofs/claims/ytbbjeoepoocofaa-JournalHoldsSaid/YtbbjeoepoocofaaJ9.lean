/- Is there a byte that is not nought? -/
import Derived.Test.YtbbjeoepoocofaaJ8
namespace Go.Proofs.Ytbbjeoepoocofaa
open Go.RowKit

theorem index_any (w : World) (v : Value) (xs : List Int) (h : Rb w v xs) :
    Calls Try.prog 66 #[v, .func (.func 56) #[] #[]] w fun e w' => w = w' ∧ ((e = .returned (.int .i64 (-1)) ∧ ∀ i, i < xs.length → xs.getD i 0 = 0) ∨ (∃ k : Nat, k < xs.length ∧ e = .returned (.int .i64 k) ∧ ¬ xs.getD k 0 = 0)) := by
  obtain ⟨sp, sc, rfl, -⟩ := h.form
  have lx := h.len
  unfold maxLen at lx
  have HX := Lib.hid h
  clear h
  go_enter Try.func66, Try.ntmps66
  go_wp2_with fail
  go_loopw [8] (fun iv wr => ∃ k : Nat, iv = .int .i64 k ∧ k ≤ xs.length ∧ Hid (∀ i, i < k → xs.getD i 0 = 0) ∧ wr = w) (fun iv _ => xs.length - (intOf iv).toNat)
  case atStart => exact ⟨0, rfl, Nat.zero_le _, fun j hj => by omega, rfl⟩
  case round =>
    obtain ⟨k, rfl, hk, hpre, rfl⟩ := hrel
    have HP := Lib.hid hpre.out
    clear hpre
    by_cases hlt : k < xs.length
    · obtain ⟨b1, o1, c1, e1, -, -, q1⟩ := HX.out.cell hlt
      simp only [Value.slice.injEq, true_and] at e1
      obtain ⟨rfl, rfl⟩ := e1
      have t1 := q1 k hlt
      have H1 : Hid (xs.getD k 0 = 0 → ∀ j, j < k + 1 → xs.getD j 0 = 0) := fun h j hj => by
        by_cases e : j = k
        · rw [e, h]
        · exact HP.out j (by omega)
      have H2 : Hid (¬ xs.getD k 0 = 0 → ¬ xs.getD k 0 = 0) := fun h => h
      obtain ⟨x, hx⟩ : ∃ x, xs.getD k 0 = x := ⟨_, rfl⟩
      rw [hx] at t1
      have HXK := Lib.hid hx
      clear q1 hx
      go_wp2_with fail
      refine (nz_any wr x).mono ?_
      rintro e w1 ⟨rfl, rfl⟩
      by_cases h0 : x = 0
      · have hd : decide (¬ x = 0) = false := by simp [h0]
        rw [hd]
        go_wp2_with fail
        go_roundw
        case rel => exact ⟨k + 1, rfl, by omega, H1.out (by rw [HXK.out]; exact h0), by trivial⟩
        case measure => simp [intOf]; omega
      · have hd : decide (¬ x = 0) = true := by simp [h0]
        rw [hd]
        go_wp2_with fail
        go_ret
        exact ⟨rfl, .inr ⟨k, hlt, rfl, by rw [HXK.out]; exact h0⟩⟩
    · obtain rfl : k = xs.length := by omega
      go_wp2_with fail
      go_ret
      exact ⟨rfl, .inl ⟨rfl, HP.out⟩⟩

theorem contains_any (w : World) (v : Value) (xs : List Int) (h : Rb w v xs) :
    Calls Try.prog 55 #[v, .func (.func 56) #[] #[]] w fun e w' => w = w' ∧ ((e = .returned (.bool false) ∧ ∀ i, i < xs.length → xs.getD i 0 = 0) ∨ (e = .returned (.bool true) ∧ ∃ k, k < xs.length ∧ ¬ xs.getD k 0 = 0)) := by
  have HX := Lib.hid h
  clear h
  go_enter Try.func55, Try.ntmps55
  go_wp2_with fail
  refine (index_any w v xs HX.out).mono ?_
  rintro e w1 ⟨rfl, (⟨rfl, h⟩ | ⟨k, hk, rfl, h⟩)⟩
  · have HH := Lib.hid h
    clear h
    go_wp2_with fail
    go_ret
    exact ⟨rfl, .inl ⟨rfl, HH.out⟩⟩
  · have HH := Lib.hid h
    clear h
    go_wp2_with fail
    go_ret
    exact ⟨rfl, .inr ⟨rfl, k, hk, HH.out⟩⟩
end Go.Proofs.Ytbbjeoepoocofaa
