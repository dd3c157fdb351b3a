/- What a journal's bytes say, in plain lists. No function of the program in sight. -/
import Derived.Test.YtbbjeoepoocofaaF3
namespace Go.Proofs.Ytbbjeoepoocofaa

/-- Each byte twice, the second time turned. -/
def pairs : List Int → List Int
  | [] => []
  | x :: xs => x :: (255 - x) :: pairs xs
theorem pairs_length (xs : List Int) : (pairs xs).length = 2 * xs.length := by
  induction xs with
  | nil => rfl
  | cons x xs ih => simp [pairs, ih]; omega
theorem pairs_append (xs ys : List Int) : pairs (xs ++ ys) = pairs xs ++ pairs ys := by
  induction xs with
  | nil => rfl
  | cons x xs ih => simp [pairs, ih]
theorem pairs_get (xs : List Int) (i : Nat) (h : i < xs.length) : (pairs xs).getD (2 * i) 0 = xs.getD i 0 ∧ (pairs xs).getD (2 * i + 1) 0 = 255 - xs.getD i 0 := by
  induction xs generalizing i with
  | nil => simp at h
  | cons x xs ih =>
    rcases i with _ | i
    · exact ⟨rfl, rfl⟩
    · have := ih i (by simpa using h)
      rw [show 2 * (i + 1) = 2 * i + 1 + 1 from by omega]
      simpa [pairs, List.getD] using this

/-- A record's frame. -/
def frm (r : List Int) : List Int := pairs (((r.length / 256 : Nat) : Int) :: ((r.length % 256 : Nat) : Int) :: r)
theorem frm_length (r : List Int) : (frm r).length = 4 + 2 * r.length := by unfold frm; rw [pairs_length]; simp; omega
/-- Records, one behind the other. -/
def frms : List (List Int) → List Int
  | [] => []
  | r :: rs => frm r ++ frms rs
theorem frms_append (a b : List (List Int)) : frms (a ++ b) = frms a ++ frms b := by
  induction a with
  | nil => rfl
  | cons r a ih => simp [frms, ih]
theorem frms_snoc (a : List (List Int)) (r : List Int) : frms (a ++ [r]) = frms a ++ frm r := by rw [frms_append]; simp [frms]

/-- The byte at a place behind an end: it stands twice. -/
def bAt (L : List Int) (e i : Nat) : Option Int := if e + 2 * i + 1 < L.length ∧ L.getD (e + 2 * i) 0 + L.getD (e + 2 * i + 1) 0 = 255 then some (L.getD (e + 2 * i) 0) else none
theorem bAt_some {L : List Int} {e i : Nat} {x : Int} : bAt L e i = some x ↔ e + 2 * i + 1 < L.length ∧ L.getD (e + 2 * i) 0 = x ∧ L.getD (e + 2 * i + 1) 0 = 255 - x := by
  unfold bAt
  split
  · rename_i h
    constructor
    · intro hx; simp only [Option.some.injEq] at hx; exact ⟨h.1, hx, by omega⟩
    · rintro ⟨-, hx, -⟩; rw [hx]
  · rename_i h
    constructor
    · intro hx; simp at hx
    · rintro ⟨h1, h2, h3⟩; exact absurd ⟨h1, by omega⟩ h

/-- Bytes. -/
def isB (L : List Int) : Prop := ∀ x ∈ L, 0 ≤ x ∧ x ≤ 255
theorem isB_getD {L : List Int} (h : isB L) (i : Nat) : 0 ≤ L.getD i 0 ∧ L.getD i 0 ≤ 255 := by
  by_cases hi : i < L.length
  · have : L.getD i 0 = L[i] := by simp [List.getD, List.getElem?_eq_getElem hi]
    rw [this]
    exact h _ (List.getElem_mem hi)
  · have : L.getD i 0 = 0 := by simp [List.getD, List.getElem?_eq_none (by omega : L.length ≤ i)]
    omega

/-- The record behind an end is this one. -/
def Nxt (L : List Int) (e : Nat) (r : List Int) : Prop :=
  r.length ≤ 1024 ∧ bAt L e 0 = some ((r.length / 256 : Nat) : Int) ∧ bAt L e 1 = some ((r.length % 256 : Nat) : Int) ∧ ∀ i, i < r.length → bAt L e (2 + i) = some (r.getD i 0)

theorem Nxt.uniq {L : List Int} {e : Nat} {r s : List Int} (h : Nxt L e r) (k : Nxt L e s) : r = s := by
  obtain ⟨-, h1, h2, h3⟩ := h
  obtain ⟨-, k1, k2, k3⟩ := k
  rw [h1] at k1
  rw [h2] at k2
  simp only [Option.some.injEq] at k1 k2
  have hl : r.length = s.length := by omega
  refine List.ext_getElem hl fun i a b => ?_
  have e1 := h3 i a
  rw [k3 i (by omega)] at e1
  simp only [Option.some.injEq, List.getD, List.getElem?_eq_getElem a, List.getElem?_eq_getElem b, Option.getD_some] at e1
  exact e1.symm
/-- Where the frame stands. -/
theorem Nxt.iff {L : List Int} {e : Nat} {r : List Int} : Nxt L e r ↔ r.length ≤ 1024 ∧ e + (frm r).length ≤ L.length ∧ ∀ i, i < (frm r).length → L.getD (e + i) 0 = (frm r).getD i 0 := by
  have hf := pairs_get (((r.length / 256 : Nat) : Int) :: ((r.length % 256 : Nat) : Int) :: r)
  have hg0 : (((r.length / 256 : Nat) : Int) :: ((r.length % 256 : Nat) : Int) :: r).getD 0 0 = ((r.length / 256 : Nat) : Int) := rfl
  have hg1 : (((r.length / 256 : Nat) : Int) :: ((r.length % 256 : Nat) : Int) :: r).getD 1 0 = ((r.length % 256 : Nat) : Int) := rfl
  have hg2 : ∀ i, (((r.length / 256 : Nat) : Int) :: ((r.length % 256 : Nat) : Int) :: r).getD (2 + i) 0 = r.getD i 0 := fun i => by rw [Nat.add_comm 2 i]; rfl
  have hlen : (((r.length / 256 : Nat) : Int) :: ((r.length % 256 : Nat) : Int) :: r).length = r.length + 2 := rfl
  unfold Nxt
  rw [frm_length]
  simp only [bAt_some]
  constructor
  · rintro ⟨h0, ⟨a1, a2, a3⟩, ⟨b1, b2, b3⟩, h3⟩
    refine ⟨h0, ?_, fun i hi => ?_⟩
    · rcases Nat.eq_zero_or_pos r.length with hz | hz
      · omega
      · have := (h3 (r.length - 1) (by omega)).1; omega
    · have hq : i = 2 * (i / 2) ∨ i = 2 * (i / 2) + 1 := by omega
      have hj : i / 2 < r.length + 2 := by omega
      obtain ⟨p1, p2⟩ := hf (i / 2) (by rw [hlen]; exact hj)
      have key : L.getD (e + 2 * (i / 2)) 0 = (((r.length / 256 : Nat) : Int) :: ((r.length % 256 : Nat) : Int) :: r).getD (i / 2) 0 ∧ L.getD (e + 2 * (i / 2) + 1) 0 = 255 - (((r.length / 256 : Nat) : Int) :: ((r.length % 256 : Nat) : Int) :: r).getD (i / 2) 0 := by
        have hc : i / 2 = 0 ∨ i / 2 = 1 ∨ ∃ k, i / 2 = 2 + k ∧ k < r.length := by
          by_cases c0 : i / 2 = 0
          · exact .inl c0
          · by_cases c1 : i / 2 = 1
            · exact .inr (.inl c1)
            · exact .inr (.inr ⟨i / 2 - 2, by omega, by omega⟩)
        rcases hc with hc | hc | ⟨k, hc, hk⟩
        · rw [hc, hg0]; exact ⟨a2, a3⟩
        · rw [hc, hg1]; exact ⟨b2, b3⟩
        · rw [hc, hg2]; exact ⟨(h3 k hk).2.1, (h3 k hk).2.2⟩
      unfold frm
      rcases hq with hq | hq
      · rw [hq, p1]; exact key.1
      · rw [hq, ← Nat.add_assoc, p2]; exact key.2
  · rintro ⟨h0, h1, h2⟩
    have key : ∀ k, k < r.length + 2 → L.getD (e + 2 * k) 0 = (((r.length / 256 : Nat) : Int) :: ((r.length % 256 : Nat) : Int) :: r).getD k 0 ∧ L.getD (e + 2 * k + 1) 0 = 255 - (((r.length / 256 : Nat) : Int) :: ((r.length % 256 : Nat) : Int) :: r).getD k 0 := by
      intro k hk
      obtain ⟨p1, p2⟩ := hf k (by rw [hlen]; exact hk)
      have q1 := h2 (2 * k) (by omega)
      have q2 := h2 (2 * k + 1) (by omega)
      unfold frm at q1 q2
      rw [p1] at q1
      rw [← Nat.add_assoc, p2] at q2
      exact ⟨q1, q2⟩
    refine ⟨h0, ⟨by omega, ?_⟩, ⟨by omega, ?_⟩, fun i hi => ⟨by omega, ?_⟩⟩
    · have := key 0 (by omega); rw [hg0] at this; exact this
    · have := key 1 (by omega); rw [hg1] at this; exact this
    · have := key (2 + i) (by omega); rw [hg2] at this; exact this

/-- So far these records stand at the beginning. -/
structure Chain (L : List Int) (rs : List (List Int)) (e : Nat) : Prop where
  fin : e = (frms rs).length
  le : e ≤ L.length
  at_ : ∀ i, i < e → L.getD i 0 = (frms rs).getD i 0
  small : ∀ r ∈ rs, r.length ≤ 1024
theorem Chain.nil (L : List Int) : Chain L [] 0 := ⟨rfl, Nat.zero_le _, fun i hi => by omega, fun r hr => by simp at hr⟩
theorem getD_append_left {a b : List Int} {i : Nat} (h : i < a.length) : (a ++ b).getD i 0 = a.getD i 0 := by simp [List.getD, List.getElem?_append, h]
theorem getD_append_right {a b : List Int} {i : Nat} (h : a.length ≤ i) : (a ++ b).getD i 0 = b.getD (i - a.length) 0 := by simp [List.getD, List.getElem?_append, Nat.not_lt.2 h]
theorem Chain.snoc {L : List Int} {rs : List (List Int)} {e : Nat} {r : List Int} (h : Chain L rs e) (k : Nxt L e r) : Chain L (rs ++ [r]) (e + (4 + 2 * r.length)) := by
  obtain ⟨k0, k1, k2⟩ := Nxt.iff.1 k
  rw [frm_length] at k1 k2
  refine ⟨by rw [frms_snoc, List.length_append, frm_length, ← h.fin], by omega, fun i hi => ?_, fun s hs => ?_⟩
  · rw [frms_snoc]
    by_cases hi' : i < e
    · rw [getD_append_left (by rw [← h.fin]; exact hi')]
      exact h.at_ i hi'
    · rw [getD_append_right (by rw [← h.fin]; omega), ← h.fin]
      have := k2 (i - e) (by omega)
      rw [show e + (i - e) = i by omega] at this
      exact this
  · rw [List.mem_append] at hs
    rcases hs with hs | hs
    · exact h.small s hs
    · simp at hs; rw [hs]; exact k0
/-- These records stand at the beginning, and no more. -/
def Recs (L : List Int) (rs : List (List Int)) (e : Nat) : Prop := Chain L rs e ∧ ¬ ∃ r, Nxt L e r

theorem Chain.head {L : List Int} {r : List Int} {rs : List (List Int)} {o : Nat} (ho : o + (frms (r :: rs)).length ≤ L.length) (h : ∀ i, i < (frms (r :: rs)).length → L.getD (o + i) 0 = (frms (r :: rs)).getD i 0) (hr : r.length ≤ 1024) : Nxt L o r := by
  refine Nxt.iff.2 ⟨hr, ?_, fun i hi => ?_⟩
  · simp only [frms, List.length_append] at ho; omega
  · rw [h i (by simp only [frms, List.length_append]; omega)]
    exact getD_append_left hi

/-- What stands at the beginning is one thing alone. -/
theorem chain_uniq (L : List Int) (rs ss : List (List Int)) (o : Nat)
    (h1 : o + (frms rs).length ≤ L.length) (h2 : ∀ i, i < (frms rs).length → L.getD (o + i) 0 = (frms rs).getD i 0) (h3 : ∀ r ∈ rs, r.length ≤ 1024) (h4 : ¬ ∃ r, Nxt L (o + (frms rs).length) r)
    (k1 : o + (frms ss).length ≤ L.length) (k2 : ∀ i, i < (frms ss).length → L.getD (o + i) 0 = (frms ss).getD i 0) (k3 : ∀ r ∈ ss, r.length ≤ 1024) (k4 : ¬ ∃ r, Nxt L (o + (frms ss).length) r) : rs = ss := by
  induction rs generalizing ss o with
  | nil =>
    rcases ss with _ | ⟨s, ss⟩
    · rfl
    · exact absurd ⟨s, Chain.head k1 k2 (k3 s (by simp))⟩ (show ¬ ∃ r, Nxt L o r from h4)
  | cons r rs ih =>
    rcases ss with _ | ⟨s, ss⟩
    · exact absurd ⟨r, Chain.head h1 h2 (h3 r (by simp))⟩ (show ¬ ∃ r, Nxt L o r from k4)
    · have e1 := (Chain.head h1 h2 (h3 r (by simp))).uniq (Chain.head k1 k2 (k3 s (by simp)))
      subst e1
      have hl : ∀ t : List (List Int), (frms (r :: t)).length = (frm r).length + (frms t).length := fun t => by simp [frms]
      rw [hl] at h1 h2 h4 k1 k2 k4
      have tail : ∀ t : List (List Int), (∀ i, i < (frm r).length + (frms t).length → L.getD (o + i) 0 = (frms (r :: t)).getD i 0) → ∀ i, i < (frms t).length → L.getD (o + (frm r).length + i) 0 = (frms t).getD i 0 := fun t h i hi => by
        rw [Nat.add_assoc, h ((frm r).length + i) (by omega)]
        show (frm r ++ frms t).getD _ 0 = _
        rw [getD_append_right (by omega)]
        congr 1
        omega
      rw [ih ss (o + (frm r).length) (by omega) (tail rs h2) (fun x hx => h3 x (by simp [hx])) (by rw [Nat.add_assoc]; exact h4) (by omega) (tail ss k2) (fun x hx => k3 x (by simp [hx])) (by rw [Nat.add_assoc]; exact k4)]

theorem Recs.uniq {L : List Int} {rs ss : List (List Int)} {e f : Nat} (h : Recs L rs e) (k : Recs L ss f) : rs = ss ∧ e = f := by
  obtain ⟨⟨h1, h2, h3, h4⟩, h5⟩ := h
  obtain ⟨⟨k1, k2, k3, k4⟩, k5⟩ := k
  subst h1
  subst k1
  have := chain_uniq L rs ss 0 (by omega) (fun i hi => by rw [Nat.zero_add]; exact h3 i hi) h4 (by rw [Nat.zero_add]; exact h5) (by omega) (fun i hi => by rw [Nat.zero_add]; exact k3 i hi) k4 (by rw [Nat.zero_add]; exact k5)
  subst this
  exact ⟨rfl, rfl⟩
end Go.Proofs.Ytbbjeoepoocofaa
