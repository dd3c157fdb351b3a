/- The document's answers for journals: pair, Room, Frame. -/
import Derived.Test.YtbbjeoepoocofaaR5
namespace Go.Proofs.Ytbbjeoepoocofaa
open Go.RowKit

theorem small18_num {a b : Int} (h : small18 a b = true) : ∃ m n : Nat, a = m ∧ b = n ∧ 1 ≤ m ∧ m ≤ 20 ∧ 1 ≤ n ∧ n ≤ 40 := by
  obtain ⟨h1, h2, h3, h4⟩ := of_decide_eq_true h
  exact ⟨a.toNat, b.toNat, by omega, by omega, by omega, by omega, by omega, by omega⟩
theorem Tbl.reads {w : World} {base : Nat} {v : Value} {ls : List (List Int)} (h : Tbl w base v ls) : Bb w v ls := by
  obtain ⟨vs, h, -⟩ := h
  exact h.tb.bb
theorem wrap_u8 {x : Int} : IntKind.u8.wrap x = x % 256 := by simp [IntKind.wrap, IntKind.bits, IntKind.signed]

/-- What pair answers. -/
def pv (o : Option Int) : Int := match o with
  | some x => x
  | none => -1

set_option maxRecDepth 100000 in
set_option maxHeartbeats 4000000 in
theorem pair_any (w : World) (v : Value) (xs : List Int) (h : Rb w v xs) (hB : isB xs) (i : Nat) (hi : i ≤ 100000) :
    Calls Try.prog 60 #[v, .int .i64 i] w fun e w' => e = .returned (.int .i64 (pv (bAt xs 0 i))) ∧ ∃ n, w' = w.drewN n := by
  obtain ⟨bp, bc, rfl, -⟩ := h.form
  have HR := Lib.hid h
  clear h
  by_cases hlt : 2 * i + 1 < xs.length
  · obtain ⟨b, o, c, e1, -, -, q⟩ := HR.out.cell hlt
    simp only [Value.slice.injEq, true_and] at e1
    obtain ⟨rfl, rfl⟩ := e1
    have q1 := q (2 * i) (by omega)
    have q2 := q (2 * i + 1) hlt
    obtain ⟨a0, a1⟩ := isB_getD hB (2 * i)
    obtain ⟨b0, b1⟩ := isB_getD hB (2 * i + 1)
    have hyes : Hid (xs.getD (2 * i) 0 + xs.getD (2 * i + 1) 0 = 255 → bAt xs 0 i = some (xs.getD (2 * i) 0)) := fun h => by unfold bAt; rw [Nat.zero_add, if_pos ⟨hlt, h⟩]
    have hno : Hid (¬ xs.getD (2 * i) 0 + xs.getD (2 * i + 1) 0 = 255 → bAt xs 0 i = none) := fun h => by unfold bAt; rw [Nat.zero_add, if_neg (fun h' => h h'.2)]
    have HB := Lib.hid hB
    clear q hB
    generalize xs.getD (2 * i) 0 = x at *
    generalize xs.getD (2 * i + 1) 0 = y at *
    obtain ⟨t, ht⟩ : ∃ t, 2 * i = t := ⟨_, rfl⟩
    have hti : (2 : Int) * (i : Int) = (t : Int) := by omega
    rw [ht] at q1 q2 hlt
    have hd : decide ((xs.length : Int) ≤ (t : Int) + 1) = false := by simp; omega
    have HT := Lib.hid ht
    clear ht
    by_cases hs : x + y = 255
    · have h1 : (IntKind.u8.wrap (x + y) != 255) = false := by rw [wrap_u8, hs]; rfl
      have h2 : (x + y != 255) = false := by rw [hs]; rfl
      have HF := Lib.hid (hyes.out hs)
      clear hs hyes hno
      go_enter Try.func60, Try.ntmps60
      go_wp2_with fail
      have hw1 : IntKind.i64.wrap (2 * (i : Int)) = (t : Int) := by rw [IntKind.wrap_i64]; omega
      have hw2 : IntKind.i64.wrap ((t : Int) + 1) = (t : Int) + 1 := by rw [IntKind.wrap_i64]; omega
      have hw3 : IntKind.i64.wrap (x + y) = x + y := by rw [IntKind.wrap_i64]; omega
      have hw4 : IntKind.i64.wrap x = x := by rw [IntKind.wrap_i64]; omega
      have hw5 : IntKind.i64.wrap y = y := by rw [IntKind.wrap_i64]; omega
      have hb1 : (t : Int) < (xs.length : Int) := by omega
      have hb2 : (t : Int) + 1 < (xs.length : Int) := by omega
      have hb3 : (0 : Int) ≤ (t : Int) + 1 := by omega
      have hb4 : t < xs.length := by omega
      have ht3 : ((t : Int) + 1).toNat = t + 1 := by omega
      clear hti
      go_quiet (fail)
      go_wp2_with fail
      go_ret
      exact ⟨by rw [HF.out]; rfl, nq, rfl⟩
    · obtain ⟨z, hz⟩ : ∃ z, IntKind.u8.wrap (x + y) = z := ⟨_, rfl⟩
      have h1 : (z != 255) = true := by
        rw [wrap_u8] at hz
        simp
        omega
      have HF := Lib.hid (hno.out hs)
      clear hs hyes hno
      go_enter Try.func60, Try.ntmps60
      go_wp2_with fail
      have hw1 : IntKind.i64.wrap (2 * (i : Int)) = (t : Int) := by rw [IntKind.wrap_i64]; omega
      have hw2 : IntKind.i64.wrap ((t : Int) + 1) = (t : Int) + 1 := by rw [IntKind.wrap_i64]; omega
      have hw3 : IntKind.i64.wrap (x + y) = x + y := by rw [IntKind.wrap_i64]; omega
      have hw4 : IntKind.i64.wrap x = x := by rw [IntKind.wrap_i64]; omega
      have hw5 : IntKind.i64.wrap y = y := by rw [IntKind.wrap_i64]; omega
      have hb1 : (t : Int) < (xs.length : Int) := by omega
      have hb2 : (t : Int) + 1 < (xs.length : Int) := by omega
      have hb3 : (0 : Int) ≤ (t : Int) + 1 := by omega
      have hb4 : t < xs.length := by omega
      have ht3 : ((t : Int) + 1).toNat = t + 1 := by omega
      clear hti
      go_quiet (fail)
      go_wp2_with fail
      go_ret
      exact ⟨by rw [HF.out]; rfl, nq, rfl⟩
  · have hn : bAt xs 0 i = none := by unfold bAt; rw [Nat.zero_add, if_neg (fun h => hlt h.1)]
    have HN := Lib.hid hn
    clear hn
    obtain ⟨t, ht⟩ : ∃ t, 2 * i = t := ⟨_, rfl⟩
    have hti : (2 : Int) * (i : Int) = (t : Int) := by omega
    have hd : (xs.length : Int) ≤ (t : Int) + 1 := by omega
    go_enter Try.func60, Try.ntmps60
    go_wp2_with fail
    have hw1 : IntKind.i64.wrap (2 * (i : Int)) = (t : Int) := by rw [IntKind.wrap_i64]; omega
    have hw2 : IntKind.i64.wrap ((t : Int) + 1) = (t : Int) + 1 := by rw [IntKind.wrap_i64]; omega
    clear hti ht
    go_quiet (fail)
    go_wp2_with fail
    go_ret
    exact ⟨by rw [HN.out]; rfl, nq, rfl⟩

theorem bAt_part {L : List Int} {e : Nat} (he : e ≤ L.length) (i : Nat) : bAt (part L e L.length) 0 i = bAt L e i := by
  have hl := part_len (L := L) (lo := e) (hi := L.length) (Nat.le_refl _)
  unfold bAt
  rw [hl, Nat.zero_add]
  by_cases h : e + 2 * i + 1 < L.length
  · have e1 : (part L e L.length).getD (2 * i) 0 = L.getD (e + 2 * i) 0 := part_at (by omega)
    have e2 : (part L e L.length).getD (2 * i + 1) 0 = L.getD (e + 2 * i + 1) 0 := part_at (by omega)
    rw [e1, e2]
    by_cases h2 : L.getD (e + 2 * i) 0 + L.getD (e + 2 * i + 1) 0 = 255
    · rw [if_pos ⟨by omega, h2⟩, if_pos ⟨h, h2⟩]
    · rw [if_neg (fun c => h2 c.2), if_neg (fun c => h2 c.2)]
  · rw [if_neg (fun c => h (by omega)), if_neg (fun c => h c.1)]
theorem isB_part {L : List Int} (h : isB L) (a b : Nat) : isB (part L a b) := fun x hx => h x (List.mem_of_mem_drop (List.mem_of_mem_take hx))
theorem pair_part (w : World) (v : Value) (L : List Int) (e : Nat) (he : e ≤ L.length) (h : Rb w v (part L e L.length)) (hB : isB L) (i : Int) (h0 : 0 ≤ i) (hi : i ≤ 100000) :
    Calls Try.prog 60 #[v, .int .i64 i] w fun r w' => r = .returned (.int .i64 (pv (bAt L e i.toNat))) ∧ ∃ n, w' = w.drewN n := by
  obtain ⟨n, rfl⟩ : ∃ n : Nat, i = n := ⟨i.toNat, by omega⟩
  have := pair_any w v (part L e L.length) h (isB_part hB e L.length) n (by omega)
  rw [bAt_part he] at this
  exact this

theorem Room18_any (w : World) (n e : Nat) (hn : n ≤ 100000) (he : e ≤ 100000) : Calls Try.prog 45 #[.int .i64 n, .int .i64 e] w fun r w' => r = .returned (.int .i64 (roomV n e)) ∧ w = w' := by
  unfold roomV
  by_cases h : (n : Int) - e - 4 < 0
  · rw [if_pos h]
    have h2 : (n : Int) - (e : Int) < 4 := by omega
    go_enter Try.func45, Try.ntmps45
    go_wp2_with fail
    all_goals
      go_ret
      exact ⟨rfl, rfl⟩
  · rw [if_neg h]
    have h2 : ¬ (n : Int) - (e : Int) < 4 := by omega
    go_enter Try.func45, Try.ntmps45
    go_wp2_with fail
    all_goals
      go_ret
      exact ⟨ret_int (by omega), rfl⟩
end Go.Proofs.Ytbbjeoepoocofaa
