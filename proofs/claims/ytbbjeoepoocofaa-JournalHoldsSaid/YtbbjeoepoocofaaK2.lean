/- What the document's answer for disks says, in plain lists. No function of the program in sight. -/
import Derived.Test.YtbbjeoepoocofaaF3
namespace Go.Proofs.Ytbbjeoepoocofaa

/-- Bytes, block by block. -/
def blks (n size : Nat) (L : List Int) : List (List Int) := (List.range n).map fun i => (L.drop (i * size)).take size
theorem blks_length (n size : Nat) (L : List Int) : (blks n size L).length = n := by simp [blks]
theorem blks_getD {n size : Nat} {L : List Int} {i : Nat} (hi : i < n) : (blks n size L).getD i [] = (L.drop (i * size)).take size := by
  simp [blks, List.getD, hi]
theorem blks_get {n size : Nat} {L : List Int} {i : Nat} (hi : i < (blks n size L).length) : (blks n size L)[i] = (L.drop (i * size)).take size := by simp [blks]

/-- The first bytes of a write over a block. -/
def lay (x xs : List Int) (n : Nat) : List Int := (List.range x.length).map fun k => if k < n ∧ k < xs.length then xs.getD k 0 else x.getD k 0
/-- The first bytes of a write over one of the blocks. -/
def putR (ls : List (List Int)) (b : Nat) (xs : List Int) (n : Nat) : List (List Int) := (List.range ls.length).map fun i => if i = b then lay (ls.getD i []) xs n else ls.getD i []
theorem putR_length (ls : List (List Int)) (b : Nat) (xs : List Int) (n : Nat) : (putR ls b xs n).length = ls.length := by simp [putR]

theorem part_length {L : List Int} {n size i : Nat} (hL : L.length = n * size) (hi : i < n) : ((L.drop (i * size)).take size).length = size := by
  have : i * size + size ≤ n * size := fit_end (x := (i, ([] : List Int))) hi size (Nat.le_refl _)
  rw [List.length_take, List.length_drop]
  omega
theorem part_getD {L : List Int} {size i k : Nat} (hk : k < size) : ((L.drop (i * size)).take size).getD k 0 = L.getD (i * size + k) 0 := by
  simp only [List.getD, List.getElem?_take, hk, if_true, List.getElem?_drop]

theorem list_ext {α : Type} {xs ys : List α} {d : α} (h : xs.length = ys.length) (he : ∀ i, i < xs.length → xs.getD i d = ys.getD i d) : xs = ys := by
  apply List.ext_getElem h
  intro i h1 h2
  have := he i h1
  simpa [List.getD, List.getElem?_eq_getElem h1, List.getElem?_eq_getElem h2] using this

theorem put_over {n size : Nat} {L : List Int} {b : Nat} {xs : List Int} (c : Nat) (hL : L.length = n * size) (hb : b < n) (hx : xs.length ≤ size) :
    putR (blks n size L) b xs c = blks n size (over L (b * size) (xs.take c)) ∧ (over L (b * size) (xs.take c)).length = n * size := by
  have hlt : (xs.take c).length ≤ size := by rw [List.length_take]; omega
  have hfit : b * size + (xs.take c).length ≤ L.length := by rw [hL]; exact fit_end (x := (b, ([] : List Int))) hb _ hlt
  have hl2 : (over L (b * size) (xs.take c)).length = n * size := by rw [over_length hfit]; exact hL
  refine ⟨list_ext (d := []) (by rw [putR_length, blks_length, blks_length]) fun i hi => ?_, hl2⟩
  rw [putR_length, blks_length] at hi
  rw [blks_getD hi]
  have e1 : (putR (blks n size L) b xs c).getD i [] = if i = b then lay ((L.drop (i * size)).take size) xs c else (L.drop (i * size)).take size := by
    unfold putR
    simp only [List.getD, List.getElem?_map, blks_length, List.getElem?_range hi, Option.map_some, Option.getD_some]
    have := blks_getD (L := L) (size := size) hi
    simp only [List.getD] at this
    rw [this]
  rw [e1]
  by_cases h : i = b
  · subst h
    rw [if_pos rfl]
    have hp := part_length hL hi
    refine list_ext (d := 0) (by rw [part_length hl2 hi]; unfold lay; rw [List.length_map, List.length_range, hp]) fun k hk => ?_
    have hk' : k < size := by unfold lay at hk; rw [List.length_map, List.length_range, hp] at hk; exact hk
    rw [part_getD hk', over_getD hfit]
    have e2 : (lay ((L.drop (i * size)).take size) xs c).getD k 0 = if k < c ∧ k < xs.length then xs.getD k 0 else ((L.drop (i * size)).take size).getD k 0 := by
      unfold lay
      rw [hp]
      simp only [List.getD, List.getElem?_map, List.getElem?_range hk', Option.map_some, Option.getD_some]
    rw [e2, part_getD hk']
    by_cases g : k < c ∧ k < xs.length
    · rw [if_pos g, if_pos (by rw [List.length_take]; omega)]
      rw [show i * size + k - i * size = k from by omega]
      simp only [List.getD, List.getElem?_take]
      rw [if_pos g.1]
    · rw [if_neg g, if_neg (by rw [List.length_take]; omega)]
  · rw [if_neg h]
    refine list_ext (d := 0) (by rw [part_length hL hi, part_length hl2 hi]) fun k hk => ?_
    have hk' : k < size := by rw [part_length hL hi] at hk; exact hk
    rw [part_getD hk', part_getD hk', over_getD hfit, if_neg]
    rintro ⟨g1, g2⟩
    have h6 : ¬ i + 1 ≤ b := fun h => by
      have := Nat.mul_le_mul_right size h
      rw [Nat.add_mul, Nat.one_mul] at this
      omega
    have h7 : ¬ b + 1 ≤ i := fun h => by
      have := Nat.mul_le_mul_right size h
      rw [Nat.add_mul, Nat.one_mul] at this
      omega
    omega

/-- How many bytes of an open write stand, by the fates. -/
def nOf (fs : List Int) (i len : Nat) : Nat := if i < fs.length then (if fs.getD i 0 < 0 then len else (fs.getD i 0).toNat) else 0
/-- The blocks behind the first open writes. -/
def behR (ls : List (List Int)) (A : List (Nat × List Int)) (fs : List Int) : Nat → List (List Int)
  | 0 => ls
  | i + 1 => putR (behR ls A fs i) (A.getD i (0, [])).1 (A.getD i (0, [])).2 (nOf fs i (A.getD i (0, [])).2.length)
theorem behR_length (ls : List (List Int)) (A : List (Nat × List Int)) (fs : List Int) (i : Nat) : (behR ls A fs i).length = ls.length := by
  induction i with
  | zero => rfl
  | succ i ih => unfold behR; rw [putR_length, ih]

theorem over_nil (L : List Int) (off : Nat) : over L off [] = L := by simp [over]

theorem beh_blks {n size : Nat} {L : List Int} {A : List (Nat × List Int)} (fs : List Int) (hL : L.length = n * size) (hA : fits n size A) (hg : ∀ i, i < fs.length → -1 ≤ fs.getD i 0) (i : Nat) (hi : i ≤ A.length) :
    behR (blks n size L) A fs i = blks n size (tornTo size L A fs i) ∧ (tornTo size L A fs i).length = n * size := by
  induction i with
  | zero => rw [tornTo_zero]; exact ⟨rfl, hL⟩
  | succ i ih =>
    obtain ⟨h1, h2⟩ := ih (by omega)
    have hm : A[i]? = some (A.getD i (0, [])) := by simp [List.getD, List.getElem?_eq_getElem (show i < A.length by omega)]
    obtain ⟨f1, f2⟩ := hA _ (List.mem_of_getElem? hm)
    unfold behR
    rw [h1]
    by_cases hf : i < fs.length
    · rw [tornTo_succ size L A fs i _ hm hf]
      have e : (A.getD i (0, [])).2.take (nOf fs i (A.getD i (0, [])).2.length) = (A.getD i (0, [])).2.take (cut (fs.getD i 0) (A.getD i (0, [])).2.length) := by
        unfold nOf cut
        rw [if_pos hf]
        split
        · rename_i h
          rw [if_pos (.inl (by have := hg i hf; omega))]
        · rename_i h
          split
          · rename_i h'
            rw [List.take_of_length_le (by omega), List.take_of_length_le (by omega)]
          · rfl
      rw [← e]
      exact put_over _ h2 f1 f2
    · rw [tornTo_past size L A fs i (by omega)]
      have h := put_over (nOf fs i (A.getD i (0, [])).2.length) h2 f1 f2
      have e0 : nOf fs i (A.getD i (0, [])).2.length = 0 := if_neg hf
      rw [e0, List.take_zero, over_nil] at h
      rw [e0]
      exact h
end Go.Proofs.Ytbbjeoepoocofaa
