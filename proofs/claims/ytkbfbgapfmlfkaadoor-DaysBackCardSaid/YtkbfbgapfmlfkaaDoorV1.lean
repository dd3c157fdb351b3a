/- What a text says of a date, byte by byte; no program in sight. -/
import Derived.Test.YtkbfbgapfmlfkaaDoorText
namespace Go.Proofs.YtkbfbgapfmlfkaaDoor.Txt

/-- The byte at a place; 0 behind the end. -/
def byte (s : ByteArray) (i : Nat) : Int := (s.data.toList.getD i 0).toNat
theorem byte_bd (s : ByteArray) (i : Nat) : 0 ≤ byte s i ∧ byte s i ≤ 255 := by
  unfold byte
  have := (s.data.toList.getD i 0).toNat_lt
  omega
theorem byte_get (s : ByteArray) (i : Nat) (h : i < s.size) : ((s[i]'h).toNat : Int) = byte s i := by
  unfold byte
  have : s.data.toList.getD i 0 = s[i] := by
    simp only [List.getD]
    rw [List.getElem?_eq_getElem (by simpa using h)]
    rfl
  rw [this]
theorem byte_extract (s : ByteArray) (a b i : Nat) (hb : b ≤ s.size) (hi : a + i < b) : byte (s.extract a b) i = byte s (a + i) := by
  unfold byte
  have : (s.extract a b).data.toList.getD i 0 = s.data.toList.getD (a + i) 0 := by
    have h1 : i < (s.extract a b).size := by rw [ByteArray.size_extract]; omega
    have h2 : a + i < s.size := by omega
    have e1 : (s.extract a b).data.toList[i]? = some (s.extract a b)[i] := by rw [List.getElem?_eq_getElem (by rw [Array.length_toList]; exact h1)]; rfl
    have e2 : s.data.toList[a + i]? = some s[a + i] := by rw [List.getElem?_eq_getElem (by rw [Array.length_toList]; exact h2)]; rfl
    rw [List.getD, List.getD, e1, e2, ByteArray.getElem_extract]
  rw [this]

/-- The number that the first digits are. -/
def val (f : Nat → Int) : Nat → Int
  | 0 => 0
  | i + 1 => 10 * val f i + (f i - 48)
def dig (x : Int) : Prop := 48 ≤ x ∧ x ≤ 57
instance (x : Int) : Decidable (dig x) := inferInstanceAs (Decidable (_ ∧ _))
theorem val_bd (f : Nat → Int) (n : Nat) (h : ∀ i, i < n → dig (f i)) : 0 ≤ val f n ∧ val f n + 1 ≤ 10 ^ n := by
  induction n with
  | zero => simp [val]
  | succ n ih =>
    obtain ⟨h1, h2⟩ := ih fun i hi => h i (by omega)
    obtain ⟨h3, h4⟩ := h n (by omega)
    simp only [val, Int.pow_succ]
    omega
theorem val_congr (f g : Nat → Int) (n : Nat) (h : ∀ i, i < n → f i = g i) : val f n = val g n := by
  induction n with
  | zero => rfl
  | succ n ih => simp only [val]; rw [ih fun i hi => h i (by omega), h n (by omega)]

open Classical in
/-- The number that digits are; -1: they are none. -/
noncomputable def numV (f : Nat → Int) (n : Nat) : Int := if ∀ i, i < n → dig (f i) then val f n else -1
theorem numV_yes {f : Nat → Int} {n : Nat} (h : ∀ i, i < n → dig (f i)) : numV f n = val f n := if_pos h
theorem numV_no {f : Nat → Int} {n i : Nat} (hi : i < n) (h : ¬ dig (f i)) : numV f n = -1 := if_neg fun h' => h (h' i hi)
theorem numV_congr (f g : Nat → Int) (n : Nat) (h : ∀ i, i < n → f i = g i) : numV f n = numV g n := by
  unfold numV
  have : (∀ i, i < n → dig (f i)) ↔ (∀ i, i < n → dig (g i)) :=
    ⟨fun k i hi => by rw [← h i hi]; exact k i hi, fun k i hi => by rw [h i hi]; exact k i hi⟩
  by_cases k : ∀ i, i < n → dig (f i)
  · rw [if_pos k, if_pos (this.1 k), val_congr f g n h]
  · rw [if_neg k, if_neg fun h' => k (this.2 h')]
theorem numV_sign (f : Nat → Int) (n : Nat) : (∀ i, i < n → dig (f i)) ∧ 0 ≤ numV f n ∨ (∃ i, i < n ∧ ¬ dig (f i)) ∧ numV f n = -1 := by
  by_cases k : ∀ i, i < n → dig (f i)
  · rw [numV_yes k]; exact .inl ⟨k, (val_bd f n k).1⟩
  · have : ∃ i, i < n ∧ ¬ dig (f i) := by
      refine Classical.byContradiction fun h => k fun i hi => Classical.byContradiction fun h' => h ⟨i, hi, h'⟩
    obtain ⟨i, hi, h⟩ := this
    exact .inr ⟨⟨i, hi, h⟩, numV_no hi h⟩

/-- Is the byte at a place as a date's is? -/
def fitsAt (f : Nat → Int) (i : Nat) : Prop := if i = 4 ∨ i = 7 then f i = 45 else dig (f i)
/-- The three numbers, as far as they are read. -/
def part (f : Nat → Int) (i : Nat) : Nat → Int
  | 0 => val f (min i 4)
  | 1 => val (fun j => f (5 + j)) (min (i - 5) 2)
  | _ => val (fun j => f (8 + j)) (i - 8)
/-- Which of them is read. -/
def which (i : Nat) : Nat := if i ≤ 4 then 0 else if i ≤ 7 then 1 else 2

/-- A text of a date. -/
def isDate (f : Nat → Int) : Prop := ∀ i, i < 10 → fitsAt f i
def yOf (f : Nat → Int) : Int := val f 4
def mOf (f : Nat → Int) : Int := val (fun j => f (5 + j)) 2
def dOf (f : Nat → Int) : Int := val (fun j => f (8 + j)) 2

theorem part_0 {f : Nat → Int} {i : Nat} (h : i < 4) : part f (i + 1) 0 = 10 * part f i 0 + (f i - 48) ∧ part f (i + 1) 1 = part f i 1 ∧ part f (i + 1) 2 = part f i 2 ∧ which i = 0 ∧ which (i + 1) = 0 := by
  have : i = 0 ∨ i = 1 ∨ i = 2 ∨ i = 3 := by omega
  rcases this with rfl | rfl | rfl | rfl <;> exact ⟨rfl, rfl, rfl, rfl, rfl⟩
theorem part_1 {f : Nat → Int} {i : Nat} (h : 5 ≤ i) (h' : i < 7) : part f (i + 1) 0 = part f i 0 ∧ part f (i + 1) 1 = 10 * part f i 1 + (f i - 48) ∧ part f (i + 1) 2 = part f i 2 ∧ which i = 1 ∧ which (i + 1) = 1 := by
  have : i = 5 ∨ i = 6 := by omega
  rcases this with rfl | rfl <;> exact ⟨rfl, rfl, rfl, rfl, rfl⟩
theorem part_2 {f : Nat → Int} {i : Nat} (h : 8 ≤ i) (h' : i < 10) : part f (i + 1) 0 = part f i 0 ∧ part f (i + 1) 1 = part f i 1 ∧ part f (i + 1) 2 = 10 * part f i 2 + (f i - 48) ∧ which i = 2 ∧ which (i + 1) = 2 := by
  have : i = 8 ∨ i = 9 := by omega
  rcases this with rfl | rfl <;> exact ⟨rfl, rfl, rfl, rfl, rfl⟩
theorem part_d {f : Nat → Int} {i : Nat} (h : i = 4 ∨ i = 7) : part f (i + 1) 0 = part f i 0 ∧ part f (i + 1) 1 = part f i 1 ∧ part f (i + 1) 2 = part f i 2 ∧ which (i + 1) = which i + 1 ∧ which i ≤ 1 := by
  rcases h with rfl | rfl <;> exact ⟨rfl, rfl, rfl, rfl, by decide⟩
theorem part_bd {f : Nat → Int} {i : Nat} (hi : i ≤ 10) (h : ∀ j, j < i → fitsAt f j) : (0 ≤ part f i 0 ∧ part f i 0 ≤ 9999) ∧ (0 ≤ part f i 1 ∧ part f i 1 ≤ 99) ∧ (0 ≤ part f i 2 ∧ part f i 2 ≤ 99) := by
  have key : ∀ (g : Nat → Int) (n N : Nat), n ≤ N → (∀ j, j < n → dig (g j)) → 0 ≤ val g n ∧ val g n + 1 ≤ 10 ^ N := by
    intro g n N hn hg
    obtain ⟨h1, h2⟩ := val_bd g n hg
    have h3 : 10 ^ n ≤ 10 ^ N := Nat.pow_le_pow_right (by omega) hn
    have h4 : ((10 ^ n : Nat) : Int) = 10 ^ n := by simp
    have h5 : ((10 ^ N : Nat) : Int) = 10 ^ N := by simp
    omega
  have hd : ∀ j, j < i → j ≠ 4 → j ≠ 7 → dig (f j) := fun j hj h4 h7 => by
    have := h j hj
    unfold fitsAt at this
    rw [if_neg (by omega)] at this
    exact this
  have a := key f (min i 4) 4 (by omega) (fun j hj => hd j (by omega) (by omega) (by omega))
  have b := key (fun j => f (5 + j)) (min (i - 5) 2) 2 (by omega) (fun j hj => hd (5 + j) (by omega) (by omega) (by omega))
  have c := key (fun j => f (8 + j)) (i - 8) 2 (by omega) (fun j hj => hd (8 + j) (by omega) (by omega) (by omega))
  unfold part
  simp only at *
  omega
theorem part_end (f : Nat → Int) : part f 10 0 = yOf f ∧ part f 10 1 = mOf f ∧ part f 10 2 = dOf f := ⟨rfl, rfl, rfl⟩
theorem fits_succ {f : Nat → Int} {i : Nat} (h : ∀ j, j < i → fitsAt f j) (hi : fitsAt f i) : ∀ j, j < i + 1 → fitsAt f j := fun j hj => by
  by_cases e : j = i
  · rw [e]; exact hi
  · exact h j (by omega)
end Go.Proofs.YtkbfbgapfmlfkaaDoor.Txt
