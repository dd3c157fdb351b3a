import Derived.Test.YtkbfbgapfmlfkaaDoorW6
import Derived.Test.YtkbfbgapfmlfkaaDoorText
namespace Go.Proofs.YtkbfbgapfmlfkaaDoor
open Go.RowKit

theorem conv_one (W : World) (x : Int) :
    (convert 56 9 (.slice (some ⟨W.heap.size, 0, none⟩) 1 1)).run Tryd.prog (W.alloc (.cells #[.int .u8 x] 5)) = .ok (.string (strOfNums [x])) (W.alloc (.cells #[.int .u8 x] 5)) :=
  run_convert_bytes_arg _ 56 5 Tryd.underlying56 Tryd.underlying5 _ 0 1 1 [x] rfl (fun i hi => by
    obtain rfl : i = 0 := by omega
    simp [go_sem]) 9 Tryd.underlying9

set_option maxHeartbeats 400000 in
theorem digits_any (n : Int) (many : Nat) (w : World) (h0 : 0 ≤ n) (h1 : n ≤ 9999999) (hm : many ≤ 1000) :
    Calls Tryd.prog 31 #[.int .i64 n, .int .i64 many] w fun e w' => e = .returned (.string (strOfNums (Txt.digs n many))) ∧ Below w.heap.size w w' := by
  have cv := conv_one
  go_enter Tryd.func31, Tryd.ntmps31
  go_wp2_with fail
  go_loopw [0, 5, 6] (fun a s i wr => ∃ k : Nat, k ≤ many ∧ i = .int .i64 k ∧ a = .int .i64 (Txt.dv n k) ∧ s = .string (strOfNums (Txt.digs n k)) ∧ Below w.heap.size w wr) (fun _ _ i _ => (many - intOf i).toNat)
  case atStart => exact ⟨0, by omega, rfl, by rw [Txt.dv_zero], rfl, Below.refl _ _⟩
  case round =>
    obtain ⟨k, hk, rfl, rfl, rfl, hb⟩ := hrel
    have hd := Txt.dv_bd h0 k
    have hs : ¬ 9223372036854775807 < (strOfNums [48 + Txt.dv n k % 10]).size + (strOfNums (Txt.digs n k)).size := by
      rw [strOfNums_size, strOfNums_size, Txt.digs_length]; simp; omega
    by_cases hlt : k < many
    · go_wp2_with fail
      go_roundw
      case rel => exact ⟨k + 1, by omega, by go_num, by rw [Txt.dv_succ], by rw [Txt.strOfNums_append]; rfl, hb.alloc hb.size _⟩
      case measure => simp [intOf]; omega
    · obtain rfl : k = many := by omega
      go_wp2_with fail
      go_ret
      exact ⟨rfl, hb⟩
end Go.Proofs.YtkbfbgapfmlfkaaDoor
