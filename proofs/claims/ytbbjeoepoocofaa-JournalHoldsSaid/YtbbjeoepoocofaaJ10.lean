/- What lies behind the records is made nought; the pieces of Open. -/
import Derived.Test.YtbbjeoepoocofaaJ9
import Derived.Lib.SliceRun
namespace Go.Proofs.Ytbbjeoepoocofaa
open Go.RowKit

/-- Bytes, nought behind an end. -/
def clr (L : List Int) (fin : Nat) : List Int := L.take fin ++ List.replicate (L.length - fin) 0
theorem clr_length {L : List Int} {fin : Nat} (h : fin ≤ L.length) : (clr L fin).length = L.length := by simp [clr]; omega
theorem clr_getD {L : List Int} {fin : Nat} (h : fin ≤ L.length) (p : Nat) : (clr L fin).getD p 0 = if p < fin then L.getD p 0 else 0 := by
  unfold clr
  have hl : (L.take fin).length = fin := by rw [List.length_take]; omega
  by_cases hp : p < fin
  · rw [if_pos hp, getD_append_left (by omega)]
    simp only [List.getD, List.getElem?_take, hp, if_true]
  · rw [if_neg hp, getD_append_right (by omega), hl]
    simp only [List.getD, List.getElem?_replicate]
    split <;> rfl
theorem isB_clr {L : List Int} (h : isB L) (fin : Nat) : isB (clr L fin) := by
  intro x hx
  unfold clr at hx
  rw [List.mem_append] at hx
  rcases hx with hx | hx
  · exact h x (List.mem_of_mem_take hx)
  · rw [List.eq_of_mem_replicate hx]; omega
theorem getD_ext0 {xs ys : List Int} (h : xs.length = ys.length) (he : ∀ i, xs.getD i 0 = ys.getD i 0) : xs = ys := getD_ext h fun i _ => he i
theorem clr_same {L : List Int} {fin : Nat} (h : fin ≤ L.length) (hz : ∀ p, fin ≤ p → L.getD p 0 = 0) : clr L fin = L :=
  getD_ext0 (clr_length h) fun p => by
    rw [clr_getD h]
    split
    · rfl
    · exact (hz p (by omega)).symm

/-- Noughts stored, one behind the other. -/
def zer (L : List Int) (o : Nat) : Nat → List Int
  | 0 => L
  | n + 1 => zer (L.set o 0) (o + 1) n
theorem zer_length (L : List Int) (o n : Nat) : (zer L o n).length = L.length := by
  induction n generalizing L o with
  | zero => rfl
  | succ n ih => rw [zer, ih]; simp
theorem zer_getD (L : List Int) (o n p : Nat) : (zer L o n).getD p 0 = if o ≤ p ∧ p < o + n then 0 else L.getD p 0 := by
  induction n generalizing L o with
  | zero => rw [if_neg (by omega)]; rfl
  | succ n ih =>
    rw [zer, ih]
    by_cases h1 : o + 1 ≤ p ∧ p < o + 1 + n
    · rw [if_pos h1, if_pos (by omega)]
    · rw [if_neg h1]
      by_cases h2 : o = p
      · subst h2
        have e : (L.set o 0).getD o 0 = 0 := by
          simp only [List.getD, List.getElem?_set, if_true]
          split <;> rfl
        rw [e, if_pos ⟨Nat.le_refl _, by omega⟩]
      · rw [if_neg (by omega)]
        simp only [List.getD, List.getElem?_set, h2, if_false]
theorem zer_clr {L : List Int} {fin : Nat} (h : fin ≤ L.length) : zer L fin (L.length - fin) = clr L fin :=
  getD_ext0 (by rw [zer_length, clr_length h]) fun p => by
    rw [zer_getD, clr_getD h]
    by_cases h1 : p < fin
    · rw [if_neg (by omega), if_pos h1]
    · rw [if_neg h1]
      split
      · rfl
      · simp only [List.getD]; rw [List.getElem?_eq_none (by omega)]; rfl

theorem own_zer {w : World} {base g n c : Nat} {L : List Int} (h : w.ownsRow base 5 1 (.slice (some ⟨g, 0, none⟩) n c) n (bts L)) (o m : Nat) :
    (w.setCells g o (List.replicate m (.int .u8 0))).ownsRow base 5 1 (.slice (some ⟨g, 0, none⟩) n c) n (bts (zer L o m)) ∧ Keeps (fun k => k = g) w (w.setCells g o (List.replicate m (.int .u8 0))) := by
  induction m generalizing w L o with
  | zero => exact ⟨h, Keeps.refl _ _⟩
  | succ m ih =>
    have h1 := (h.stored o (.int .u8 0)).1
    rw [bts_set] at h1
    obtain ⟨a, b⟩ := ih h1 (o + 1)
    rw [List.replicate_succ]
    exact ⟨a, (Keeps.setCell (X := fun k => k = g) (a := ⟨g, o, none⟩) (Keeps.refl _ w) (.inl rfl) _).trans b (fun _ e => .inl e)⟩

/-- The journal behind 'clear(rest)'. -/
theorem JL.cleared {w : World} {j d : Nat} {L : List Int} {fin : Nat} {rs : List (List Int)} {M S : Nat → Prop} {ib ic : Nat} {rv : Value} {vs : List Value} (h : JL w j d L fin rs M S ib ic rv vs) :
    JL (w.setCells ib fin (List.replicate (L.length - fin) (.int .u8 0))) j d (clr L fin) fin rs M S ib ic rv vs ∧ Keeps M w (w.setCells ib fin (List.replicate (L.length - fin) (.int .u8 0))) := by
  obtain ⟨a, b⟩ := own_zer h.img fin (L.length - fin)
  rw [zer_clr h.finle] at a
  have hji : ib ≠ j := fun e => by
    have h1 := own_off h.img h.head (by decide)
    simp [Value.ownBlock, e] at h1
  have hl := clr_length h.finle
  refine ⟨{ head := ?_, img := by rw [hl]; exact a, recs := ?_, inner := h.inner, mj := h.mj, mi := h.mi, mr := h.mr, sub := h.sub, lt := fun k hk => Nat.lt_of_lt_of_le (h.lt k hk) b.size, bytes := isB_clr h.bytes fin, finle := by rw [hl]; exact h.finle, lenle := by rw [hl]; exact h.lenle, rslen := h.rslen }, b.mono (fun k e => by rw [e]; exact h.mi)⟩
  · rw [hl, b.block j (h.lt j (h.sub j h.mj)) (fun e => hji e.symm)]
    exact h.head
  · exact ⟨h.recs.len, own_keep h.recs.row b (fun k e e2 => own_apart h.recs.row h.img (by decide) k e (by rw [e2]; rfl)), fun i y u hy hu => own_keep (h.recs.inner i y u hy hu) b (fun k e e2 => (h.inner u (List.mem_of_getElem? hu) k e).2 (by rw [e2]; exact h.mi))⟩

/-- A disk that was written through and synced. -/
def Dk.reset (D : Dk) (L : List Int) : Dk := { D with firm := L, now := L, open_ := [] }
theorem reset_same {D : Dk} {fin : Nat} (hf : fin ≤ D.now.length) (hz : ∀ p, fin ≤ p → D.now.getD p 0 = 0) : D.sync = D.reset (clr D.now fin) := by
  rw [clr_same hf hz]; rfl
theorem reset_wrote {D : Dk} {fin n : Nat} (hl : D.now.length = D.blocks * D.size) (hf : fin ≤ D.now.length) (hn : ∀ i, i < n → (fin / D.size + i) * D.size < D.now.length) (he : D.now.length ≤ (fin / D.size + n) * D.size) :
    (wrN D (clr D.now fin) D.now.length (fin / D.size) n).sync = D.reset (clr D.now fin) := by
  have hc := clr_length hf
  obtain ⟨a, b⟩ := wrN_now D (clr D.now fin) D.now.length (fin / D.size) n (by rw [hc, hl]) hl (by omega) hn
  obtain ⟨e1, e2, -, -⟩ := wrN_same D (clr D.now fin) D.now.length (fin / D.size) n
  have hnow : (wrN D (clr D.now fin) D.now.length (fin / D.size) n).now = clr D.now fin := getD_ext0 (by rw [a, hc, hl]) fun p => by
    have hq := Nat.div_mul_le_self fin D.size
    rw [b]
    by_cases h1 : fin / D.size * D.size ≤ p ∧ p < min D.now.length ((fin / D.size + n) * D.size)
    · rw [if_pos h1]
    · rw [if_neg h1, clr_getD hf]
      by_cases h2 : p < fin
      · rw [if_pos h2]
      · rw [if_neg h2]
        simp only [List.getD]
        rw [List.getElem?_eq_none (by omega)]
        rfl
  unfold Dk.sync Dk.reset
  rw [hnow]
  generalize wrN D (clr D.now fin) D.now.length (fin / D.size) n = E at *
  obtain ⟨q1, q2, q3, q4, q5⟩ := E
  simp only at e1 e2 hnow ⊢
  rw [e1, e2]
theorem block_snoc {D : Dk} (i : Nat) : D.now.take (i * D.size) ++ D.block i = D.now.take ((i + 1) * D.size) := by
  unfold Dk.block
  rw [Nat.add_mul, Nat.one_mul, List.take_add]
end Go.Proofs.Ytbbjeoepoocofaa
