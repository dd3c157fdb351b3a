/- The plain law of DiskLasts: each byte behind a crash. No function of the program in sight. -/
import Derived.Test.YtbbjeoepoocofaaF3
namespace Go.Proofs.Ytbbjeoepoocofaa

theorem block_getD (D : Dk) (i k : Nat) (hk : k < D.size) : (D.block i).getD k 0 = D.now.getD (i * D.size + k) 0 := by
  unfold Dk.block
  simp only [List.getD, List.getElem?_take, hk, if_true, List.getElem?_drop]

/-- What the open writes of these calls are. -/
theorem lasts_byte (D0 : Dk) (l : List Opv) (fs : List Int) (f : Nat) (hf : f ≤ l.length) (hn : ∀ i, f ≤ i → i < l.length → (l.getD i ⟨false, 0, []⟩).sync = false) (hs : (D0.runs (l.take f)).still)
    (hlen : (D0.runs l).firm.length = D0.blocks * D0.size) (i k : Nat) (hk : k < D0.size) :
    (((D0.runs l).crash fs).block i).getD k 0 = ((D0.runs (l.take f)).block i).getD k 0 ∨
    ∃ j, f ≤ j ∧ j < l.length ∧ (l.getD j ⟨false, 0, []⟩).block = i ∧ k < (l.getD j ⟨false, 0, []⟩).b.length ∧ (l.getD j ⟨false, 0, []⟩).b.length ≤ D0.size ∧ (l.getD j ⟨false, 0, []⟩).b.getD k 0 = (((D0.runs l).crash fs).block i).getD k 0 := by
  have hb := D0.runs_blocks l
  have hbf := D0.runs_blocks (l.take f)
  obtain ⟨hfirm, -⟩ := behind D0 l f l.length hf (Nat.le_refl _) (fun j a b => hn j a b)
  have hopen := open_from D0 l f l.length hf (Nat.le_refl _) (fun j a b => hn j a b) hs.2
  rw [List.take_length] at hfirm hopen
  have e1 : (((D0.runs l).crash fs).block i).getD k 0 = ((D0.runs l).torn fs).getD (i * D0.size + k) 0 := by
    rw [block_getD _ _ _ (by show k < (D0.runs l).size; rw [hb.2]; exact hk)]
    show ((D0.runs l).torn fs).getD (i * (D0.runs l).size + k) 0 = _
    rw [hb.2]
  have e2 : ((D0.runs (l.take f)).block i).getD k 0 = (D0.runs l).firm.getD (i * D0.size + k) 0 := by
    rw [block_getD _ _ _ (by rw [hbf.2]; exact hk), hbf.2, ← hs.1, hfirm]
  rw [e1, e2]
  have hA : ∀ x ∈ (D0.runs l).open_.zip fs, x.1.1 < D0.blocks ∧ x.1.2.length ≤ D0.size := by
    intro x hx
    obtain ⟨j, -, -, he, hxe⟩ := hopen x.1 (List.of_mem_zip hx).1
    rw [err_zero] at he
    rw [hxe]
    exact ⟨by show (l.getD j ⟨false, 0, []⟩).block.toNat < _; omega, he.2.2⟩
  have hsz : (D0.runs l).torn fs = torn D0.size (D0.runs l).firm ((D0.runs l).open_.zip fs) := by unfold Dk.torn; rw [hb.2]
  rw [hsz]
  obtain ⟨-, h | ⟨x, hx, h3, h4, h5⟩⟩ := torn_byte D0.blocks D0.size ((D0.runs l).open_.zip fs) (D0.runs l).firm hlen hA (i * D0.size + k)
  · exact .inl h
  · right
    obtain ⟨j, hj1, hj2, he, hxe⟩ := hopen x.1 (List.of_mem_zip hx).1
    rw [err_zero] at he
    rw [hxe] at h3 h4 h5
    simp only at h3 h4 h5
    have hbi : (l.getD j ⟨false, 0, []⟩).block.toNat = i := by
      generalize (l.getD j ⟨false, 0, []⟩).block.toNat = q at *
      have h6 : ¬ i + 1 ≤ q := fun h => by
        have := Nat.mul_le_mul_right D0.size h
        rw [Nat.add_mul, Nat.one_mul] at this
        omega
      have h7 : ¬ q + 1 ≤ i := fun h => by
        have := Nat.mul_le_mul_right D0.size h
        rw [Nat.add_mul, Nat.one_mul] at this
        omega
      omega
    rw [hbi] at h3 h4 h5
    refine ⟨j, hj1, hj2, by omega, by omega, he.2.2, ?_⟩
    rw [h5]
    congr 1
    omega

/-- The disk right behind the last Sync, and a crash there. -/
theorem still_crash {D : Dk} (h : D.still) : (D.crash []).now = D.now := by
  show D.torn [] = D.now
  unfold Dk.torn
  rw [h.2]
  exact h.1
theorem block_same {D E : Dk} (h1 : D.now = E.now) (h2 : D.size = E.size) (i : Nat) : D.block i = E.block i := by unfold Dk.block; rw [h1, h2]
theorem crash_ones_block {D : Dk} (h : D.whole) (n : Nat) (hn : D.open_.length = n) (i : Nat) : (D.crash (List.replicate n (-1))).block i = D.block i := by
  subst hn
  exact block_same (D := D.crash (List.replicate D.open_.length (-1))) (E := D) (crash_ones h) rfl i
theorem still_crash_block {D : Dk} (h : D.still) (i : Nat) : (D.crash []).block i = D.block i := block_same (D := D.crash []) (E := D) (still_crash h) rfl i

/-- A byte is what it was, or what one of the calls from f to i wrote there. -/
def goodAt (l : List Opv) (f j k n : Nat) (xk tk : Int) (i : Nat) : Prop :=
  xk = tk ∨ ∃ m, f ≤ m ∧ m < i ∧ (l.getD m ⟨false, 0, []⟩).block = j ∧ k < (l.getD m ⟨false, 0, []⟩).b.length ∧ (l.getD m ⟨false, 0, []⟩).b.length ≤ n ∧ (l.getD m ⟨false, 0, []⟩).b.getD k 0 = xk
theorem goodAt_succ {l : List Opv} {f j k n : Nat} {xk tk : Int} {i : Nat} (h : goodAt l f j k n xk tk (i + 1)) (hi : i < l.length) :
    goodAt l f j k n xk tk i ∨ (l[i].block = j ∧ k < l[i].b.length ∧ l[i].b.length ≤ n ∧ l[i].b.getD k 0 = xk) := by
  have e : l.getD i ⟨false, 0, []⟩ = l[i] := by simp [List.getD, List.getElem?_eq_getElem hi]
  rcases h with h | ⟨m, h1, h2, h3⟩
  · exact .inl (.inl h)
  · by_cases hm : m = i
    · subst hm
      rw [e] at h3
      exact .inr h3
    · exact .inl (.inr ⟨m, h1, by omega, h3⟩)

end Go.Proofs.Ytbbjeoepoocofaa
