/- Plain laws of the calendar: the first days of the 2400 months, the month of a day, a date's day. No program in sight. -/
namespace Go.Proofs.YtkbfbgapfmlfkaaDoor.Cal

/-- 1 in a leap year. -/
def lp (y : Int) : Int := if y % 4 = 0 ∧ y % 100 ≠ 0 ∨ y % 400 = 0 then 1 else 0
theorem lp_01 (y : Int) : 0 ≤ lp y ∧ lp y ≤ 1 := by unfold lp; split <;> omega

/-- How many days are ahead of a year. -/
def yr (y : Int) : Int := 365 * (y - 2000) + ((y - 2000 + 3) / 4 - (if 2100 < y then 1 else 0))

/-- How many days of a year are ahead of a month. -/
def ahead (m : Nat) : Int := ([0, 31, 59, 90, 120, 151, 181, 212, 243, 273, 304, 334, 365] : List Int).getD m 0

/-- How many days a month has, by year and month. -/
def long (y m : Int) : Int := if m = 2 then 28 + lp y else if m = 4 ∨ m = 6 ∨ m = 9 ∨ m = 11 then 30 else 31

/-- The first day of a month. -/
def S (m : Int) : Int := yr (2000 + m / 12) + ahead (m % 12).toNat + (if 2 ≤ m % 12 then lp (2000 + m / 12) else 0)

/-- How many days a month has. -/
def L (m : Int) : Int := long (2000 + m / 12) (m % 12 + 1)

theorem L_bd (m : Int) : 28 ≤ L m ∧ L m ≤ 31 := by
  unfold L long
  have := lp_01 (2000 + m / 12)
  split
  · omega
  · split <;> omega

theorem S_zero : S 0 = 0 := by decide +kernel
theorem S_end : S 2400 = 73049 := by decide +kernel

theorem step_all : ∀ m : Nat, m < 2400 → S ((m : Int) + 1) = S m + L m := by decide +kernel

theorem S_step {m : Int} (h0 : 0 ≤ m) (h1 : m ≤ 2399) : S (m + 1) = S m + L m := by
  obtain ⟨n, rfl⟩ := Int.eq_ofNat_of_zero_le h0
  exact step_all n (by omega)

theorem S_step_bd {m : Int} (h0 : 0 ≤ m) (h1 : m ≤ 2399) : S m + 28 ≤ S (m + 1) ∧ S (m + 1) ≤ S m + 31 := by
  have := S_step h0 h1
  have := L_bd m
  omega

theorem S_mono_nat (a : Nat) : ∀ k : Nat, a + k ≤ 2400 → S a + 28 * k ≤ S ((a : Int) + k) := by
  intro k
  induction k with
  | zero => intro _; simp
  | succ k ih =>
    intro h
    have h1 := ih (by omega)
    have h2 := S_step_bd (m := (a : Int) + k) (by omega) (by omega)
    have e : ((a : Int) + k) + 1 = (a : Int) + ((k + 1 : Nat) : Int) := by omega
    rw [e] at h2
    omega

theorem S_mono {a b : Int} (h0 : 0 ≤ a) (h : a ≤ b) (h1 : b ≤ 2400) : S a + 28 * (b - a) ≤ S b := by
  obtain ⟨n, rfl⟩ := Int.eq_ofNat_of_zero_le h0
  obtain ⟨k, hk⟩ := Int.eq_ofNat_of_zero_le (a := b - n) (by omega)
  have := S_mono_nat n k (by omega)
  have e : b = (n : Int) + k := by omega
  rw [e]; omega

theorem S_lt {a b : Int} (h0 : 0 ≤ a) (h : a < b) (h1 : b ≤ 2400) : S a < S b := by
  have := S_mono h0 (by omega : a ≤ b) h1; omega

theorem S_up_nat : ∀ k : Nat, k ≤ 2400 → S k ≤ 31 * k := by
  intro k
  induction k with
  | zero => intro _; have := S_zero; simp at this ⊢; omega
  | succ k ih =>
    intro h
    have h1 := ih (by omega)
    have h2 := S_step_bd (m := (k : Int)) (by omega) (by omega)
    have e : ((k : Int) + 1) = ((k + 1 : Nat) : Int) := by omega
    rw [e] at h2
    omega

theorem S_up {a : Int} (h0 : 0 ≤ a) (h1 : a ≤ 2400) : S a ≤ 31 * a := by
  obtain ⟨n, rfl⟩ := Int.eq_ofNat_of_zero_le h0
  exact S_up_nat n (by omega)

theorem S_bd {a : Int} (h0 : 0 ≤ a) (h1 : a ≤ 2400) : 0 ≤ S a ∧ S a ≤ 73049 := by
  have h2 := S_mono (a := 0) (b := a) (by omega) h0 h1
  have h3 := S_mono (a := a) (b := 2400) h0 h1 (by omega)
  have := S_zero
  have := S_end
  omega

/-- Two months that both hold a day are one. -/
theorem S_uniq {a b d : Int} (ha : 0 ≤ a) (ha' : a ≤ 2399) (hb : 0 ≤ b) (hb' : b ≤ 2399) (h1 : S a ≤ d) (h2 : d < S (a + 1)) (h3 : S b ≤ d) (h4 : d < S (b + 1)) : a = b := by
  rcases Int.lt_trichotomy a b with h | h | h
  · have := S_mono (a := a + 1) (b := b) (by omega) (by omega) (by omega); omega
  · exact h
  · have := S_mono (a := b + 1) (b := a) (by omega) (by omega) (by omega); omega

theorem mo_exists_nat (d : Int) (h0 : 0 ≤ d) : ∀ k : Nat, k ≤ 2400 → d < S k → ∃ m : Int, 0 ≤ m ∧ m ≤ 2399 ∧ S m ≤ d ∧ d < S (m + 1) := by
  intro k
  induction k with
  | zero => intro _ h; have := S_zero; simp at h; omega
  | succ k ih =>
    intro hk h
    by_cases hl : d < S k
    · exact ih (by omega) hl
    · exact ⟨k, by omega, by omega, by omega, by have e : ((k + 1 : Nat) : Int) = (k : Int) + 1 := by omega
                                                 rw [e] at h; exact h⟩

theorem mo_exists {d : Int} (h0 : 0 ≤ d) (h1 : d ≤ 73048) : ∃ m : Int, 0 ≤ m ∧ m ≤ 2399 ∧ S m ≤ d ∧ d < S (m + 1) :=
  mo_exists_nat d h0 2400 (by omega) (by have := S_end; simp; omega)

open Classical in
/-- A day's month. -/
noncomputable def Mo (d : Int) : Int := if h : ∃ m : Int, 0 ≤ m ∧ m ≤ 2399 ∧ S m ≤ d ∧ d < S (m + 1) then h.choose else 0

theorem Mo_spec {d : Int} (h0 : 0 ≤ d) (h1 : d ≤ 73048) : 0 ≤ Mo d ∧ Mo d ≤ 2399 ∧ S (Mo d) ≤ d ∧ d < S (Mo d + 1) := by
  have h := mo_exists h0 h1
  unfold Mo
  rw [dif_pos h]
  exact h.choose_spec

theorem Mo_eq {d m : Int} (h0 : 0 ≤ m) (h1 : m ≤ 2399) (h2 : S m ≤ d) (h3 : d < S (m + 1)) : Mo d = m := by
  have hb := S_bd h0 (by omega)
  have hb' := S_bd (a := m + 1) (by omega) (by omega)
  obtain ⟨a, b, c, e⟩ := Mo_spec (d := d) (by omega) (by omega)
  exact S_uniq a b h0 h1 c e h2 h3

theorem Mo_L {d : Int} (h0 : 0 ≤ d) (h1 : d ≤ 73048) : S (Mo d) ≤ d ∧ d < S (Mo d) + L (Mo d) ∧ 0 ≤ Mo d ∧ Mo d ≤ 2399 := by
  obtain ⟨a, b, c, e⟩ := Mo_spec h0 h1
  have := S_step a b
  omega

end Go.Proofs.YtkbfbgapfmlfkaaDoor.Cal
