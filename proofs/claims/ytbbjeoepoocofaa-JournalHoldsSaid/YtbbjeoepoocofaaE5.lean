import Derived.Test.YtbbjeoepoocofaaE4
namespace Go.Proofs.Ytbbjeoepoocofaa
open Go.RowKit

def smallB (a b : Int) : Bool := decide (1 ≤ a ∧ a ≤ 8 ∧ 1 ≤ b ∧ b ≤ 40)
def fewB (l : List Opv) : Bool := decide (l.length ≤ 30 ∧ ∀ o ∈ l, o.b.length ≤ 40)

theorem small_any (w : World) (a b : Int) : Calls Try.prog 14 #[.agg #[.int .i64 a, .int .i64 b]] w fun e w' => e = .returned (.bool (smallB a b)) ∧ Below w.heap.size w w' := by
  by_cases h1 : 1 ≤ a <;> by_cases h2 : a ≤ 8 <;> by_cases h3 : 1 ≤ b <;> by_cases h4 : b ≤ 40
  all_goals
    go_enter Try.func14, Try.ntmps14
    go_wp2_with fail
    go_ret
    exact ⟨ret_bool (by simp [smallB]; omega), (Below.refl _ _).alloc (Nat.le_refl _) _⟩

theorem few_any (w : World) (B : Nat) (v : Value) (l : List Opv) (h : OpsAt w B v l) : Calls Try.prog 15 #[v] w fun e w' => e = .returned (.bool (fewB l)) ∧ w = w' := by
  obtain ⟨sp, sc, rfl, hm⟩ := h.form
  unfold maxLen at hm
  have HO := Lib.hid h
  clear h
  go_enter Try.func15, Try.ntmps15
  go_wp2_with fail
  go_loopw [3] (fun i wr => ∃ k : Nat, i = .int .i64 k ∧ k ≤ l.length ∧ Hid (∀ o ∈ l.take k, o.b.length ≤ 40) ∧ w = wr) (fun i _ => l.length - (intOf i).toNat)
  case atStart => exact ⟨0, rfl, Nat.zero_le _, fun o ho => by simp at ho, rfl⟩
  case round =>
    obtain ⟨k, rfl, hk, hpre, rfl⟩ := hrel
    by_cases hlt : k < l.length
    · obtain ⟨b, off, cap, va, vc, e1, hc1, hc2, q0, q1, q2, hb, -⟩ := HO.out.at hlt
      simp only [Value.slice.injEq, true_and] at e1
      obtain ⟨rfl, rfl⟩ := e1
      have H1 : Hid (l[k].b.length ≤ 40 → ∀ o ∈ l.take (k + 1), o.b.length ≤ 40) := fun h o ho => by
        rw [List.take_add_one, List.getElem?_eq_getElem hlt, List.mem_append] at ho
        rcases ho with ho | ho
        · exact hpre o ho
        · simp at ho; rw [ho]; exact h
      have H2 : Hid (¬ l[k].b.length ≤ 40 → fewB l = false) := fun h => by
        apply decide_eq_false
        rintro ⟨-, h2⟩
        exact h (h2 _ (List.getElem_mem hlt))
      clear hb hpre hc1 hc2 q0 q1
      generalize l[k].b.length = m at *
      by_cases hm4 : m ≤ 40
      · go_wp2_with fail
        go_roundw
        case rel => exact ⟨k + 1, rfl, by omega, H1.out hm4, by trivial⟩
        case measure => simp [intOf]; omega
      · go_wp2_with fail
        go_ret
        exact ⟨ret_bool (H2.out hm4).symm, rfl⟩
    · obtain rfl : k = l.length := by omega
      have hp : Hid (∀ o ∈ l, o.b.length ≤ 40) := by
        have := hpre
        rw [List.take_length] at this
        exact this
      clear hpre
      by_cases h30 : l.length ≤ 30
      · have hd : Hid (fewB l = true) := decide_eq_true ⟨h30, hp.out⟩
        go_wp2_with fail
        go_ret
        exact ⟨ret_bool (by rw [hd.out]; simp; omega), rfl⟩
      · have hd : Hid (fewB l = false) := decide_eq_false fun h => h30 h.1
        go_wp2_with fail
        go_ret
        exact ⟨ret_bool (by rw [hd.out]; simp; omega), rfl⟩
end Go.Proofs.Ytbbjeoepoocofaa
