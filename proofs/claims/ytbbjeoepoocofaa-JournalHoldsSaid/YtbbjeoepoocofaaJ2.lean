/- The bytes of an image: byteAt, next, room, frame. -/
import Derived.Test.YtbbjeoepoocofaaJ1
import Derived.Test.YtbbjeoepoocofaaK1
import Derived.Laws.BitsAllLaws
namespace Go.Proofs.Ytbbjeoepoocofaa
open Go.RowKit

theorem xor_all : ∀ a : Fin 256, ∀ b : Fin 256, (a.val ^^^ b.val = 255 ↔ a.val + b.val = 255) := by decide +kernel
theorem xor_255 {a b : Int} (h1 : 0 ≤ a) (h2 : a ≤ 255) (h3 : 0 ≤ b) (h4 : b ≤ 255) : (bits .xor .u8 a b != 255) = !decide (a + b = 255) := by
  rw [u8_xor a b h1 (by omega) h3 (by omega)]
  have h := xor_all ⟨a.toNat, by omega⟩ ⟨b.toNat, by omega⟩
  simp only at h
  by_cases k : a + b = 255
  · have e : a.toNat ^^^ b.toNat = 255 := h.2 (by omega)
    rw [e]
    simp [k]
  · have e : ¬ a.toNat ^^^ b.toNat = 255 := fun e => k (by have := h.1 e; omega)
    simp only [k, decide_false, Bool.not_false, bne_iff_ne, ne_eq]
    omega

set_option maxRecDepth 100000 in
set_option maxHeartbeats 1000000 in
theorem byteAt_any (w : World) (bv : Value) (L : List Int) (hb : Rb w bv L) (hL : isB L) (e i : Nat) (he : e ≤ 100000000) (hi : i ≤ 100000) :
    Calls Try.prog 65 #[.agg #[bv, .int .i64 e], .int .i64 i] w fun r w' => Below w.heap.size w w' ∧ ((∃ x, bAt L e i = some x ∧ r = .returned (.tuple #[.int .u8 x, .bool true])) ∨ (bAt L e i = none ∧ r = .returned (.tuple #[.int .u8 0, .bool false]))) := by
  obtain ⟨bp, bc, rfl, -⟩ := hb.form
  have hlm := hb.len
  unfold maxLen at hlm
  have B0 : Below w.heap.size w (w.alloc (.cells #[.slice bp L.length bc, .int .i64 e] 95)) := (Below.refl _ _).alloc (Nat.le_refl _) _
  have R0 := hb.below' B0
  have x0 : (w.alloc (.cells #[.slice bp L.length bc, .int .i64 e] 95)).cell? ⟨w.heap.size, 0, none⟩ = some (.slice bp L.length bc) := by rw [cell_of_row _ _ 0 _ _ _ (heap_alloc_new w _)]; rfl
  have x1 : (w.alloc (.cells #[.slice bp L.length bc, .int .i64 e] 95)).cell? ⟨w.heap.size, 1, none⟩ = some (.int .i64 e) := by rw [cell_of_row _ _ 1 _ _ _ (heap_alloc_new w _)]; rfl
  have HR := Lib.hid R0
  clear hb R0
  have ET : Hid ((e : Int) + 2 * (i : Int) = ((e + 2 * i : Nat) : Int)) := by unfold Hid; simp
  by_cases hlt : e + 2 * i + 1 < L.length
  · obtain ⟨b, o, c, e1, -, -, q⟩ := HR.out.cell hlt
    simp only [Value.slice.injEq, true_and] at e1
    obtain ⟨rfl, rfl⟩ := e1
    have q1 := q (e + 2 * i) (by omega)
    have q2 := q (e + 2 * i + 1) hlt
    obtain ⟨a0, a1⟩ := isB_getD hL (e + 2 * i)
    obtain ⟨b0, b1⟩ := isB_getD hL (e + 2 * i + 1)
    have hx := xor_255 a0 a1 b0 b1
    have hyes : Hid (L.getD (e + 2 * i) 0 + L.getD (e + 2 * i + 1) 0 = 255 → bAt L e i = some (L.getD (e + 2 * i) 0)) := fun h => by unfold bAt; rw [if_pos ⟨hlt, h⟩]
    have hno : Hid (¬ L.getD (e + 2 * i) 0 + L.getD (e + 2 * i + 1) 0 = 255 → bAt L e i = none) := fun h => by unfold bAt; rw [if_neg (fun h' => h h'.2)]
    have HL := Lib.hid hL
    clear q hL
    generalize L.getD (e + 2 * i) 0 = x at *
    generalize L.getD (e + 2 * i + 1) 0 = y at *
    by_cases hs : x + y = 255
    · rw [show (!decide (x + y = 255)) = false by simp [hs]] at hx
      go_enter Try.func65, Try.ntmps65
      go_wp2_with fail
      rw [ET.out]
      generalize w.alloc (.cells #[.slice (some ⟨b, o, none⟩) L.length bc, .int .i64 e] 95) = w0 at *
      obtain ⟨t, ht⟩ : ∃ t, e + 2 * i = t := ⟨_, rfl⟩
      rw [ht] at q1 q2 hlt ⊢
      have hd : decide ((L.length : Int) ≤ (t : Int) + 1) = false := by simp; omega
      have hf := hyes.out hs
      have HF := Lib.hid hf
      clear ET hs hf hyes hno ht
      go_quiet (fail)
      go_wp2_with fail
      go_ret2
      exact ⟨Below.drewN B0 _, .inl ⟨x, HF.out, rfl⟩⟩
    · rw [show (!decide (x + y = 255)) = true by simp [hs]] at hx
      go_enter Try.func65, Try.ntmps65
      go_wp2_with fail
      rw [ET.out]
      generalize w.alloc (.cells #[.slice (some ⟨b, o, none⟩) L.length bc, .int .i64 e] 95) = w0 at *
      obtain ⟨t, ht⟩ : ∃ t, e + 2 * i = t := ⟨_, rfl⟩
      rw [ht] at q1 q2 hlt ⊢
      have hd : decide ((L.length : Int) ≤ (t : Int) + 1) = false := by simp; omega
      have hf := hno.out hs
      have HF := Lib.hid hf
      clear ET hs hf hyes hno ht
      go_quiet (fail)
      go_wp2_with fail
      go_ret2
      exact ⟨Below.drewN B0 _, .inr ⟨HF.out, rfl⟩⟩
  · have hn : bAt L e i = none := by unfold bAt; rw [if_neg (fun h => hlt h.1)]
    have HN := Lib.hid hn
    clear hn
    go_enter Try.func65, Try.ntmps65
    go_wp2_with fail
    rw [ET.out]
    generalize w.alloc (.cells #[.slice bp L.length bc, .int .i64 e] 95) = w0 at *
    obtain ⟨t, ht⟩ : ∃ t, e + 2 * i = t := ⟨_, rfl⟩
    rw [ht] at hlt ⊢
    have hd : (L.length : Int) ≤ (t : Int) + 1 := by omega
    have ht2 : t ≤ 200000000 := by omega
    clear ET ht
    go_quiet (fail)
    go_wp2_with fail
    go_ret2
    exact ⟨Below.drewN B0 _, .inr ⟨HN.out, rfl⟩⟩
theorem frame_any (w : World) (n : Nat) (hn : n ≤ 1000000) : Calls Try.prog 54 #[.int .i64 n] w fun r w' => r = .returned (.int .i64 ((4 + 2 * n : Nat) : Int)) ∧ w = w' := by
  go_enter Try.func54, Try.ntmps54
  go_wp2_with fail
  go_ret
  exact ⟨ret_int (by omega), rfl⟩

/-- How long a record may be that there is room for. -/
def roomV (n e : Nat) : Int := if (n : Int) - e - 4 < 0 then -1 else min (((n : Int) - e - 4) / 2) 1024

theorem room_any (w : World) (bp : Option Addr) (n bc e : Nat) (hn : n ≤ 100000000) (he : e ≤ 100000000) :
    Calls Try.prog 61 #[.agg #[.slice bp n bc, .int .i64 e]] w fun r w' => r = .returned (.int .i64 (roomV n e)) ∧ Below w.heap.size w w' := by
  have B0 : Below w.heap.size w (w.alloc (.cells #[.slice bp n bc, .int .i64 e] 95)) := (Below.refl _ _).alloc (Nat.le_refl _) _
  unfold roomV
  by_cases h : (n : Int) - e - 4 < 0
  · rw [if_pos h]
    go_enter Try.func61, Try.ntmps61
    go_wp2_with fail
    go_ret
    exact ⟨rfl, B0⟩
  · rw [if_neg h]
    go_enter Try.func61, Try.ntmps61
    go_wp2_with fail
    all_goals
      go_ret
      exact ⟨ret_int (by omega), B0⟩
end Go.Proofs.Ytbbjeoepoocofaa
