/- What calls on a disk leave, in plain lists: the last Sync parts them. No function of the program in sight. -/
import Derived.Test.YtbbjeoepoocofaaE4
namespace Go.Proofs.Ytbbjeoepoocofaa

/-- Behind which call the last Sync among the first k lies. -/
def fAt (l : List Opv) : Nat → Nat
  | 0 => 0
  | k + 1 => if (l.getD k ⟨false, 0, []⟩).sync then k + 1 else fAt l k
theorem fAt_le (l : List Opv) (k : Nat) : fAt l k ≤ k := by
  induction k with
  | zero => exact Nat.le_refl _
  | succ k ih => unfold fAt; split <;> omega
theorem fAt_none (l : List Opv) (k i : Nat) (h1 : fAt l k ≤ i) (h2 : i < k) : (l.getD i ⟨false, 0, []⟩).sync = false := by
  induction k with
  | zero => omega
  | succ k ih =>
    unfold fAt at h1
    split at h1
    · omega
    · rename_i h
      by_cases e : i = k
      · subst e; simpa using h
      · exact ih h1 (by omega)
theorem fAt_sync (l : List Opv) (k : Nat) : fAt l k = 0 ∨ (l.getD (fAt l k - 1) ⟨false, 0, []⟩).sync = true := by
  induction k with
  | zero => exact .inl rfl
  | succ k ih =>
    unfold fAt
    split
    · rename_i h; exact .inr (by simpa using h)
    · exact ih

theorem runs_take_succ (D : Dk) (l : List Opv) (k : Nat) (h : k < l.length) : D.runs (l.take (k + 1)) = (D.runs (l.take k)).op (l.getD k ⟨false, 0, []⟩) := by
  rw [List.take_add_one, List.getElem?_eq_getElem h]
  have : l.getD k ⟨false, 0, []⟩ = l[k] := by simp [List.getD, List.getElem?_eq_getElem h]
  rw [this]
  exact D.runs_snoc _ _

/-- Right behind a Sync, or ahead of all. -/
def Dk.still (D : Dk) : Prop := D.firm = D.now ∧ D.open_ = []

theorem still_at (b s : Nat) (l : List Opv) (k : Nat) (hk : k ≤ l.length) : ((newDk b s).runs (l.take (fAt l k))).still := by
  rcases fAt_sync l k with h | h
  · rw [h]; exact ⟨rfl, rfl⟩
  · by_cases h0 : fAt l k = 0
    · rw [h0]; exact ⟨rfl, rfl⟩
    · have hle := fAt_le l k
      have e : fAt l k = (fAt l k - 1) + 1 := by omega
      rw [e, runs_take_succ _ _ _ (by omega)]
      unfold Dk.op
      rw [if_pos h]
      exact ⟨rfl, rfl⟩

/-- Without a Sync nothing firm turns, and the open writes are only added to. -/
theorem put_firm (D : Dk) (i : Int) (xs : List Int) : (D.put i xs).firm = D.firm := by unfold Dk.put; split <;> rfl

theorem behind (D : Dk) (l : List Opv) (f i : Nat) (h1 : f ≤ i) (h2 : i ≤ l.length) (hn : ∀ j, f ≤ j → j < i → (l.getD j ⟨false, 0, []⟩).sync = false) :
    (D.runs (l.take i)).firm = (D.runs (l.take f)).firm ∧ ∃ t, (D.runs (l.take i)).open_ = (D.runs (l.take f)).open_ ++ t := by
  induction i with
  | zero => obtain rfl : f = 0 := by omega
            exact ⟨rfl, [], by simp⟩
  | succ i ih =>
    by_cases e : f = i + 1
    · rw [e]; exact ⟨rfl, [], by simp⟩
    · obtain ⟨a, t, b⟩ := ih (by omega) (by omega) (fun j h3 h4 => hn j h3 (by omega))
      rw [runs_take_succ _ _ _ (by omega)]
      have hs := hn i (by omega) (by omega)
      unfold Dk.op
      rw [if_neg (by rw [hs]; simp)]
      refine ⟨by rw [put_firm, a], ?_⟩
      unfold Dk.put
      split
      · refine ⟨t ++ [((l.getD i ⟨false, 0, []⟩).block.toNat, (l.getD i ⟨false, 0, []⟩).b)], ?_⟩
        rw [← List.append_assoc, ← b]
        rfl
      · exact ⟨t, b⟩

/-- What a write answers does not turn with what was written. -/
theorem err_same {D E : Dk} (h1 : D.blocks = E.blocks) (h2 : D.size = E.size) (i : Int) (n : Nat) : D.err i n = E.err i n := by unfold Dk.err; rw [h1, h2]
theorem err_zero {D : Dk} {i : Int} {n : Nat} : D.err i n = 0 ↔ 0 ≤ i ∧ i < D.blocks ∧ n ≤ D.size := by
  unfold Dk.err
  split
  · constructor
    · intro h; omega
    · rintro ⟨h, -, -⟩; omega
  · split
    · constructor
      · intro h; omega
      · rintro ⟨-, h, -⟩; omega
    · split
      · constructor
        · intro h; omega
        · rintro ⟨-, -, h⟩; omega
      · constructor
        · intro _; exact ⟨by omega, by omega, by omega⟩
        · intro _; rfl

/-- One call more, behind the last Sync. -/
theorem step_no (D : Dk) (l : List Opv) (k : Nat) (h : k < l.length) (hs : (l.getD k ⟨false, 0, []⟩).sync = false)
    (he : (D.runs (l.take k)).err (l.getD k ⟨false, 0, []⟩).block (l.getD k ⟨false, 0, []⟩).b.length ≠ 0) : (D.runs (l.take (k + 1))).open_ = (D.runs (l.take k)).open_ := by
  rw [runs_take_succ _ _ _ h]
  unfold Dk.op
  rw [if_neg (by rw [hs]; simp)]
  unfold Dk.put
  rw [if_neg he]
theorem step_yes (D : Dk) (l : List Opv) (k : Nat) (h : k < l.length) (hs : (l.getD k ⟨false, 0, []⟩).sync = false)
    (he : (D.runs (l.take k)).err (l.getD k ⟨false, 0, []⟩).block (l.getD k ⟨false, 0, []⟩).b.length = 0) :
    (D.runs (l.take (k + 1))).open_ = (D.runs (l.take k)).open_ ++ [((l.getD k ⟨false, 0, []⟩).block.toNat, (l.getD k ⟨false, 0, []⟩).b)] := by
  rw [runs_take_succ _ _ _ h]
  unfold Dk.op
  rw [if_neg (by rw [hs]; simp)]
  unfold Dk.put
  rw [if_pos he]
  rfl

/-- The open writes so far, with their fates, as far as they reach. -/
def tornTo (size : Nat) (L : List Int) (A : List (Nat × List Int)) (fs : List Int) (n : Nat) : List Int := torn size L ((A.zip fs).take n)
theorem tornTo_zero (size : Nat) (L : List Int) (A : List (Nat × List Int)) (fs : List Int) : tornTo size L A fs 0 = L := by simp [tornTo, torn]
theorem tornTo_succ (size : Nat) (L : List Int) (A : List (Nat × List Int)) (fs : List Int) (n : Nat) (x : Nat × List Int) (hx : A[n]? = some x) (hn : n < fs.length) :
    tornTo size L A fs (n + 1) = over (tornTo size L A fs n) (x.1 * size) (x.2.take (cut (fs.getD n 0) x.2.length)) := by
  have hz : (A.zip fs)[n]? = some (x, fs[n]) := by
    rw [List.getElem?_zip_eq_some]
    exact ⟨hx, List.getElem?_eq_getElem hn⟩
  unfold tornTo
  rw [List.take_add_one, hz]
  unfold torn
  rw [List.foldl_append]
  simp [List.getD, List.getElem?_eq_getElem hn]
theorem tornTo_past (size : Nat) (L : List Int) (A : List (Nat × List Int)) (fs : List Int) (n : Nat) (hn : fs.length ≤ n) : tornTo size L A fs (n + 1) = tornTo size L A fs n := by
  unfold tornTo
  rw [List.take_of_length_le (by rw [List.length_zip]; omega), List.take_of_length_le (by rw [List.length_zip]; omega)]
theorem tornTo_all (D : Dk) (fs : List Int) : tornTo D.size D.firm D.open_ fs D.open_.length = D.torn fs := by
  unfold tornTo Dk.torn
  rw [List.take_of_length_le (by rw [List.length_zip]; omega)]
end Go.Proofs.Ytbbjeoepoocofaa
