import Derived.Test.YtkbfbgapfmlfkaaDoorW9
import Derived.Test.YtkbfbgapfmlfkaaDoorV1
import Derived.Lib.ConvBytes
namespace Go.Proofs.YtkbfbgapfmlfkaaDoor
open Go.RowKit

/-- The number that the digits of a short text are. -/
theorem number_any (t : ByteArray) (w : World) (ht : t.size ≤ 10) :
    Calls Tryd.prog 32 #[.string t] w fun e w' => e = .returned (.int .i64 (Txt.numV (Txt.byte t) t.size)) ∧ w = w' := by
  have hv : ∀ k, k ≤ t.size → (∀ i, i < k → Txt.dig (Txt.byte t i)) → 0 ≤ Txt.val (Txt.byte t) k ∧ Txt.val (Txt.byte t) k ≤ 9999999999 := by
    intro k hk h
    obtain ⟨h1, h2⟩ := Txt.val_bd _ k h
    have h3 : 10 ^ k ≤ 10 ^ 10 := Nat.pow_le_pow_right (by omega) (by omega)
    have h4 : ((10 ^ k : Nat) : Int) = 10 ^ k := by simp
    omega
  have HV := Lib.hid hv
  clear hv
  go_enter Tryd.func32, Tryd.ntmps32
  go_wp2_with fail
  go_loopw [3, 4] (fun n i wr => ∃ k : Nat, n = .int .i64 (Txt.val (Txt.byte t) k) ∧ i = .int .i64 k ∧ k ≤ t.size ∧ Hid (∀ j, j < k → Txt.dig (Txt.byte t j)) ∧ w = wr) (fun _ i _ => t.size - (intOf i).toNat)
  case atStart => exact ⟨0, rfl, rfl, Nat.zero_le _, fun j hj => by omega, rfl⟩
  case round =>
    obtain ⟨k, rfl, rfl, hk, hd, rfl⟩ := hrel
    have HD := Lib.hid hd.out
    obtain ⟨v0, v1⟩ := HV.out k hk HD.out
    clear hd
    by_cases hlt : k < t.size
    · have hg := Txt.byte_get t k hlt
      obtain ⟨b0, b1⟩ := Txt.byte_bd t k
      have H1 : Hid (Txt.dig (Txt.byte t k) → ∀ j, j < k + 1 → Txt.dig (Txt.byte t j)) := fun h j hj => by
        by_cases e : j = k
        · rw [e]; exact h
        · exact HD.out j (by omega)
      have H2 : Hid (¬ Txt.dig (Txt.byte t k) → Txt.numV (Txt.byte t) t.size = -1) := fun h => Txt.numV_no hlt h
      have H3 : Hid (Txt.val (Txt.byte t) (k + 1) = 10 * Txt.val (Txt.byte t) k + (Txt.byte t k - 48)) := rfl
      generalize Txt.byte t k = x at *
      generalize Txt.val (Txt.byte t) k = v at *
      by_cases c1 : x < 48
      · go_wp2_with fail
        go_ret
        exact ⟨ret_int (H2.out (fun h => by have := h.1; omega)).symm, rfl⟩
      · by_cases c2 : 57 < x
        · go_wp2_with fail
          go_ret
          exact ⟨ret_int (H2.out (fun h => by have := h.2; omega)).symm, rfl⟩
        · go_wp2_with fail
          go_roundw
          case rel => exact ⟨k + 1, by rw [H3.out], rfl, by omega, H1.out ⟨by omega, by omega⟩, by trivial⟩
          case measure => simp [intOf]; omega
    · obtain rfl : k = t.size := by omega
      go_wp2_with fail
      go_ret
      exact ⟨ret_int (Txt.numV_yes HD.out).symm, rfl⟩
end Go.Proofs.YtkbfbgapfmlfkaaDoor
