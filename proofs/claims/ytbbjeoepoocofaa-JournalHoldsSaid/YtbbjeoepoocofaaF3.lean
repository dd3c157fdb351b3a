/- What stands behind a crash, byte by byte; a crash whose writes are all whole. No function of the program in sight. -/
import Derived.Test.YtbbjeoepoocofaaF2
namespace Go.Proofs.Ytbbjeoepoocofaa

theorem over_getD {L : List Int} {off : Nat} {xs : List Int} (h : off + xs.length ≤ L.length) (p : Nat) :
    (over L off xs).getD p 0 = if off ≤ p ∧ p < off + xs.length then xs.getD (p - off) 0 else L.getD p 0 := by
  unfold over
  have ht : (L.take off).length = off := by rw [List.length_take]; omega
  by_cases h1 : p < off
  · rw [if_neg (by omega)]
    simp only [List.getD, List.getElem?_append, ht, h1, if_true, List.getElem?_take]
  · by_cases h2 : p < off + xs.length
    · rw [if_pos ⟨by omega, h2⟩]
      have h3 : p - off < xs.length := by omega
      simp only [List.getD, List.getElem?_append, ht, h1, if_false, h3, if_true]
    · rw [if_neg (by omega)]
      have h3 : ¬ p - off < xs.length := by omega
      simp only [List.getD, List.getElem?_append, ht, h1, if_false, h3, List.getElem?_drop]
      rw [show off + xs.length + (p - off - xs.length) = p from by omega]

/-- A list of open writes that fits a disk. -/
def fits (blocks size : Nat) (A : List (Nat × List Int)) : Prop := ∀ x ∈ A, x.1 < blocks ∧ x.2.length ≤ size

theorem fit_end {blocks size : Nat} {x : Nat × List Int} (h1 : x.1 < blocks) (n : Nat) (hn : n ≤ size) : x.1 * size + n ≤ blocks * size := by
  have h := Nat.mul_le_mul_right size (show x.1 + 1 ≤ blocks from h1)
  rw [Nat.add_mul, Nat.one_mul] at h
  omega

/-- Behind a crash a byte is what it was at the last Sync, or what an open write wrote there. -/
theorem torn_byte (blocks size : Nat) (l : List ((Nat × List Int) × Int)) (L : List Int) (hL : L.length = blocks * size) (hA : ∀ x ∈ l, x.1.1 < blocks ∧ x.1.2.length ≤ size) (p : Nat) :
    (torn size L l).length = blocks * size ∧ ((torn size L l).getD p 0 = L.getD p 0 ∨ ∃ x ∈ l, x.1.1 * size ≤ p ∧ p < x.1.1 * size + x.1.2.length ∧ (torn size L l).getD p 0 = x.1.2.getD (p - x.1.1 * size) 0) := by
  induction l generalizing L with
  | nil => exact ⟨hL, .inl rfl⟩
  | cons y l ih =>
    obtain ⟨hy1, hy2⟩ := hA y (by simp)
    have hc := cut_le y.2 y.1.2.length
    have hlen : (y.1.2.take (cut y.2 y.1.2.length)).length = cut y.2 y.1.2.length := by rw [List.length_take]; omega
    have hfit : y.1.1 * size + (y.1.2.take (cut y.2 y.1.2.length)).length ≤ L.length := by
      rw [hlen, hL]
      exact fit_end hy1 _ (by omega)
    have hL' : (over L (y.1.1 * size) (y.1.2.take (cut y.2 y.1.2.length))).length = blocks * size := by rw [over_length hfit]; exact hL
    obtain ⟨h1, h2⟩ := ih _ hL' (fun x hx => hA x (by simp [hx]))
    refine ⟨h1, ?_⟩
    show (torn size (over L (y.1.1 * size) (y.1.2.take (cut y.2 y.1.2.length))) l).getD p 0 = _ ∨ ∃ x ∈ y :: l, _ ∧ _ ∧ (torn size (over L (y.1.1 * size) (y.1.2.take (cut y.2 y.1.2.length))) l).getD p 0 = _
    rcases h2 with h2 | ⟨x, hx, h3, h4, h5⟩
    · rw [h2, over_getD hfit]
      split
      · rename_i hp
        refine .inr ⟨y, by simp, hp.1, by omega, ?_⟩
        simp only [List.getD, List.getElem?_take]
        rw [if_pos (by omega)]
      · exact .inl rfl
    · exact .inr ⟨x, by simp [hx], h3, h4, h5⟩

/-- The bytes as they are now are those at the last Sync, with the open writes over them. -/
def Dk.whole (D : Dk) : Prop := D.now = D.open_.foldl (fun L x => over L (x.1 * D.size) x.2) D.firm

theorem whole_put {D : Dk} (h : D.whole) (i : Int) (xs : List Int) : (D.put i xs).whole := by
  unfold Dk.put
  split
  · unfold Dk.whole at h ⊢
    simp only [Dk.write, List.foldl_append, List.foldl_cons, List.foldl_nil]
    rw [← h]
  · exact h
theorem whole_op {D : Dk} (h : D.whole) (o : Opv) : (D.op o).whole := by
  unfold Dk.op
  split
  · rfl
  · exact whole_put h _ _
theorem whole_runs {D : Dk} (h : D.whole) (l : List Opv) : (D.runs l).whole := by
  unfold Dk.runs
  induction l generalizing D with
  | nil => exact h
  | cons o l ih => exact ih (whole_op h o)
theorem whole_new (b s : Nat) : (newDk b s).whole := rfl

theorem torn_ones (size : Nat) (L : List Int) (A : List (Nat × List Int)) (n : Nat) (hn : n = A.length) :
    torn size L (A.zip (List.replicate n (-1))) = A.foldl (fun L x => over L (x.1 * size) x.2) L := by
  subst hn
  induction A generalizing L with
  | nil => rfl
  | cons x A ih =>
    rw [List.length_cons, List.replicate_succ, List.zip_cons_cons]
    show torn size (over L (x.1 * size) (x.2.take (cut (-1) x.2.length))) _ = _
    rw [show cut (-1) x.2.length = x.2.length by simp [cut], List.take_length, ih]
    rfl

theorem crash_ones {D : Dk} (h : D.whole) : (D.crash (List.replicate D.open_.length (-1))).now = D.now := by
  show D.torn _ = _
  unfold Dk.torn
  rw [torn_ones _ _ _ _ rfl, ← h]

/-- Each open write is a call that was made behind the last Sync. -/
theorem open_from (D : Dk) (l : List Opv) (f i : Nat) (h1 : f ≤ i) (h2 : i ≤ l.length) (hn : ∀ j, f ≤ j → j < i → (l.getD j ⟨false, 0, []⟩).sync = false) (hf : (D.runs (l.take f)).open_ = []) :
    ∀ x ∈ (D.runs (l.take i)).open_, ∃ j, f ≤ j ∧ j < i ∧ D.err (l.getD j ⟨false, 0, []⟩).block (l.getD j ⟨false, 0, []⟩).b.length = 0 ∧ x = ((l.getD j ⟨false, 0, []⟩).block.toNat, (l.getD j ⟨false, 0, []⟩).b) := by
  induction i with
  | zero =>
    obtain rfl : f = 0 := by omega
    intro x hx
    rw [hf] at hx
    simp at hx
  | succ i ih =>
    by_cases e : f = i + 1
    · subst e
      intro x hx
      rw [hf] at hx
      simp at hx
    · have ih' := ih (by omega) (by omega) (fun j h3 h4 => hn j h3 (by omega))
      have hs := hn i (by omega) (by omega)
      have hb := D.runs_blocks (l.take i)
      by_cases he : D.err (l.getD i ⟨false, 0, []⟩).block (l.getD i ⟨false, 0, []⟩).b.length = 0
      · rw [step_yes D l i (by omega) hs (by rw [err_same hb.1 hb.2]; exact he)]
        intro x hx
        rw [List.mem_append] at hx
        rcases hx with hx | hx
        · obtain ⟨j, a, b, c, d⟩ := ih' x hx
          exact ⟨j, a, by omega, c, d⟩
        · exact ⟨i, by omega, by omega, he, by simpa using hx⟩
      · rw [step_no D l i (by omega) hs (by rw [err_same hb.1 hb.2]; exact he)]
        intro x hx
        obtain ⟨j, a, b, c, d⟩ := ih' x hx
        exact ⟨j, a, by omega, c, d⟩

end Go.Proofs.Ytbbjeoepoocofaa
