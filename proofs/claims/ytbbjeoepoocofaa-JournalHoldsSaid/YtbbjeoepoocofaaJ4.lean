/- How a journal lies in memory; what its writes leave on the disk. -/
import Derived.Test.YtbbjeoepoocofaaJ3
import Derived.Test.YtbbjeoepoocofaaK6
namespace Go.Proofs.Ytbbjeoepoocofaa
open Go.RowKit

/-- The journal of the disk at block d lies at block j: its image, where the records end, the records; what it alone writes lies in M, all that it reads (but the disk) in S. -/
structure JL (w : World) (j d : Nat) (L : List Int) (fin : Nat) (rs : List (List Int)) (M S : Nat → Prop) (ib ic : Nat) (rv : Value) (vs : List Value) : Prop where
  head : w.heap[j]? = some (.cells #[.slice (some ⟨ib, 0, none⟩) L.length ic, .int .i64 fin, .pointer (some ⟨d, 0, none⟩), rv] 97)
  img : w.ownsRow 0 5 1 (.slice (some ⟨ib, 0, none⟩) L.length ic) L.length (bts L)
  recs : Tbv w 0 rv rs vs
  inner : ∀ u ∈ vs, ∀ k, u.ownBlock = some k → S k ∧ ¬ M k
  mj : M j
  mi : M ib
  mr : ∀ k, rv.ownBlock = some k → M k
  sub : ∀ k, M k → S k
  lt : ∀ k, S k → k < w.heap.size
  bytes : isB L
  finle : fin ≤ L.length
  lenle : L.length ≤ 100000
  rslen : rs.length ≤ 1000000
def Jr (w : World) (j d : Nat) (L : List Int) (fin : Nat) (rs : List (List Int)) (M S : Nat → Prop) : Prop := ∃ ib ic rv vs, JL w j d L fin rs M S ib ic rv vs

theorem JL.keep {X : Nat → Prop} {w w' : World} {j d : Nat} {L : List Int} {fin : Nat} {rs : List (List Int)} {M S : Nat → Prop} {ib ic : Nat} {rv : Value} {vs : List Value} (h : JL w j d L fin rs M S ib ic rv vs)
    (hk : Keeps X w w') (hX : ∀ k, S k → ¬ X k) : JL w' j d L fin rs M S ib ic rv vs where
  head := by rw [hk.block j (h.lt j (h.sub j h.mj)) (hX j (h.sub j h.mj))]; exact h.head
  img := own_keep h.img hk fun k e => by
    obtain rfl : ib = k := by simpa [Value.ownBlock] using e
    exact hX _ (h.sub _ h.mi)
  recs := ⟨h.recs.len, own_keep h.recs.row hk (fun k e => hX k (h.sub k (h.mr k e))), fun i x u hx hu => own_keep (h.recs.inner i x u hx hu) hk (fun k e => hX k (h.inner u (List.mem_of_getElem? hu) k e).1)⟩
  inner := h.inner
  mj := h.mj
  mi := h.mi
  mr := h.mr
  sub := h.sub
  lt := fun k hk' => Nat.lt_of_lt_of_le (h.lt k hk') hk.size
  bytes := h.bytes
  finle := h.finle
  lenle := h.lenle
  rslen := h.rslen
theorem JL.cells {w : World} {j d : Nat} {L : List Int} {fin : Nat} {rs : List (List Int)} {M S : Nat → Prop} {ib ic : Nat} {rv : Value} {vs : List Value} (h : JL w j d L fin rs M S ib ic rv vs) :
    w.cell? ⟨j, 0, none⟩ = some (.slice (some ⟨ib, 0, none⟩) L.length ic) ∧ w.cell? ⟨j, 1, none⟩ = some (.int .i64 fin) ∧ w.cell? ⟨j, 2, none⟩ = some (.pointer (some ⟨d, 0, none⟩)) ∧ w.cell? ⟨j, 3, none⟩ = some rv :=
  ⟨by rw [cell_of_row w j 0 _ _ _ h.head]; rfl, by rw [cell_of_row w j 1 _ _ _ h.head]; rfl, by rw [cell_of_row w j 2 _ _ _ h.head]; rfl, by rw [cell_of_row w j 3 _ _ _ h.head]; rfl⟩
theorem JL.free {w : World} {j d : Nat} {L : List Int} {fin : Nat} {rs : List (List Int)} {M S : Nat → Prop} {ib ic : Nat} {rv : Value} {vs : List Value} (h : JL w j d L fin rs M S ib ic rv vs) (i : Nat) : w.frozen? ⟨j, i, none⟩ = false :=
  frozen_of_row w j i _ _ h.head
theorem JL.rb {w : World} {j d : Nat} {L : List Int} {fin : Nat} {rs : List (List Int)} {M S : Nat → Prop} {ib ic : Nat} {rv : Value} {vs : List Value} (h : JL w j d L fin rs M S ib ic rv vs) : Rb w (.slice (some ⟨ib, 0, none⟩) L.length ic) L := Rd.of_own h.img
theorem Jr.keep {X : Nat → Prop} {w w' : World} {j d : Nat} {L : List Int} {fin : Nat} {rs : List (List Int)} {M S : Nat → Prop} (h : Jr w j d L fin rs M S) (hk : Keeps X w w') (hX : ∀ k, S k → ¬ X k) : Jr w' j d L fin rs M S :=
  let ⟨a, b, c, e, l⟩ := h; ⟨a, b, c, e, l.keep hk hX⟩
theorem Jr.below {w w' : World} {j d : Nat} {L : List Int} {fin : Nat} {rs : List (List Int)} {M S : Nat → Prop} (h : Jr w j d L fin rs M S) (hb : Below w.heap.size w w') : Jr w' j d L fin rs M S :=
  h.keep (X := fun _ => False) (Keeps.of_below hb) (fun _ _ f => f)

/-- A part of an image. -/
def part (L : List Int) (lo hi : Nat) : List Int := (L.drop lo).take (hi - lo)
theorem part_len {L : List Int} {lo hi : Nat} (h : hi ≤ L.length) : (part L lo hi).length = hi - lo := by unfold part; rw [List.length_take, List.length_drop]; omega
theorem part_at {L : List Int} {lo hi i : Nat} (h : i < hi - lo) : (part L lo hi).getD i 0 = L.getD (lo + i) 0 := by
  unfold part
  simp only [List.getD, List.getElem?_take, h, if_true, List.getElem?_drop]
theorem Rb.part {w : World} {ib n ic : Nat} {L : List Int} (h : Rb w (.slice (some ⟨ib, 0, none⟩) n ic) L) {lo hi : Nat} (h1 : lo ≤ hi) (h2 : hi ≤ L.length) :
    Rb w (.slice (some ⟨ib, lo, none⟩) (hi - lo) (ic - lo)) (Ytbbjeoepoocofaa.part L lo hi) := by
  have hc := h.capOk
  have hlen := part_len (lo := lo) h2
  rcases h.2 with ⟨h' | ⟨aa, c2, h', hc2⟩, h0⟩ | ⟨b, off, cap, h', hc1, hc2, hcc⟩
  · simp at h'
  · unfold Rb
    rw [hlen]
    refine ⟨by rw [bts_length, hlen]; omega, .inl ⟨.inr ⟨⟨ib, lo, none⟩, ic - lo, by rw [show hi - lo = 0 by omega], by omega⟩, by omega⟩⟩
  · simp only [Value.slice.injEq, Option.some.injEq, Addr.mk.injEq, and_true] at h'
    obtain ⟨⟨rfl, rfl⟩, rfl, rfl⟩ := h'
    unfold Rb
    rw [hlen]
    refine ⟨by rw [bts_length, hlen]; omega, .inr ⟨ib, lo, ic - lo, rfl, by omega, by omega, fun i u hi' => ?_⟩⟩
    have hi2 := (List.getElem?_eq_some_iff.1 hi').1
    rw [bts_length, hlen] at hi2
    rw [bts_get (by rw [hlen]; exact hi2)] at hi'
    rw [part_at hi2] at hi'
    have := hcc (lo + i) _ (bts_get (by omega))
    rw [Nat.zero_add] at this
    rw [this]
    exact hi'

/-- A disk to which an image's bytes were written, block by block: n of them from block b on. -/
def wrN (D : Dk) (L : List Int) (tt b : Nat) : Nat → Dk
  | 0 => D
  | n + 1 => (wrN D L tt b n).write (b + n) (part L ((b + n) * D.size) (min tt ((b + n + 1) * D.size)))
theorem wrN_same (D : Dk) (L : List Int) (tt b n : Nat) : (wrN D L tt b n).blocks = D.blocks ∧ (wrN D L tt b n).size = D.size ∧ (wrN D L tt b n).firm = D.firm ∧ (wrN D L tt b n).open_.length = D.open_.length + n := by
  induction n with
  | zero => exact ⟨rfl, rfl, rfl, rfl⟩
  | succ n ih => exact ⟨ih.1, ih.2.1, ih.2.2.1, by simp only [wrN, Dk.write, List.length_append, ih.2.2.2, List.length_singleton]; omega⟩

theorem mul_lt_lt {b n s : Nat} (h : b < n) : b * s + s ≤ n * s := fit_end (x := (b, ([] : List Int))) h s (Nat.le_refl _)

/-- What stands there then. -/
theorem wrN_now (D : Dk) (L : List Int) (tt b n : Nat) (hL : L.length = D.blocks * D.size) (hD : D.now.length = D.blocks * D.size) (hto : tt ≤ L.length) (hn : ∀ i, i < n → (b + i) * D.size < tt) :
    (wrN D L tt b n).now.length = D.blocks * D.size ∧ ∀ p, (wrN D L tt b n).now.getD p 0 = if b * D.size ≤ p ∧ p < min tt ((b + n) * D.size) then L.getD p 0 else D.now.getD p 0 := by
  induction n with
  | zero => refine ⟨hD, fun p => ?_⟩; rw [if_neg (by rw [Nat.add_zero]; omega)]; rfl
  | succ n ih =>
    obtain ⟨h1, h2⟩ := ih fun i hi => hn i (by omega)
    have hs := wrN_same D L tt b n
    have hlt := hn n (by omega)
    have hlo : (b + n) * D.size ≤ min tt ((b + n + 1) * D.size) := by rw [Nat.add_mul (b + n) 1, Nat.one_mul]; omega
    have hpl := part_len (L := L) (lo := (b + n) * D.size) (hi := min tt ((b + n + 1) * D.size)) (by omega)
    have hfit : (b + n) * D.size + (part L ((b + n) * D.size) (min tt ((b + n + 1) * D.size))).length ≤ (wrN D L tt b n).now.length := by rw [hpl, h1, ← hL]; omega
    show (over (wrN D L tt b n).now ((b + n) * (wrN D L tt b n).size) _).length = _ ∧ _
    rw [hs.2.1]
    refine ⟨by rw [over_length hfit]; exact h1, fun p => ?_⟩
    show (over (wrN D L tt b n).now ((b + n) * (wrN D L tt b n).size) _).getD p 0 = _
    rw [hs.2.1, over_getD hfit, h2 p, hpl]
    have e1 : (b + (n + 1)) * D.size = (b + n) * D.size + D.size := by rw [← Nat.add_assoc, Nat.add_mul (b + n) 1, Nat.one_mul]
    have e2 : (b + n + 1) * D.size = (b + n) * D.size + D.size := by rw [Nat.add_mul (b + n) 1, Nat.one_mul]
    have e3 : b * D.size ≤ (b + n) * D.size := Nat.mul_le_mul_right _ (by omega)
    by_cases c : (b + n) * D.size ≤ p ∧ p < (b + n) * D.size + (min tt ((b + n + 1) * D.size) - (b + n) * D.size)
    · rw [if_pos c, part_at (by omega), if_pos (by omega)]
      congr 1
      omega
    · rw [if_neg c]
      by_cases c2 : b * D.size ≤ p ∧ p < min tt ((b + n) * D.size)
      · rw [if_pos c2, if_pos (by omega)]
      · rw [if_neg c2, if_neg (by omega)]

/-- The open writes that were added. -/
theorem wrN_open (D : Dk) (L : List Int) (tt b n : Nat) : ∀ x ∈ (wrN D L tt b n).open_, x ∈ D.open_ ∨ ∃ i, i < n ∧ x = (b + i, part L ((b + i) * D.size) (min tt ((b + i + 1) * D.size))) := by
  induction n with
  | zero => exact fun x hx => .inl hx
  | succ n ih =>
    intro x hx
    simp only [wrN, Dk.write, List.mem_append, List.mem_singleton] at hx
    rcases hx with hx | rfl
    · rcases ih x hx with h | ⟨i, hi, h⟩
      · exact .inl h
      · exact .inr ⟨i, by omega, h⟩
    · exact .inr ⟨n, by omega, rfl⟩
end Go.Proofs.Ytbbjeoepoocofaa
