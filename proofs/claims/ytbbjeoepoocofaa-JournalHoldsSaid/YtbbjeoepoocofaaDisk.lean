/- What a disk of the program is, as plain data, and how it lies in memory. No function of the program in sight. -/
import Derived.Test.YtbbjeoepoocofaaMem
namespace Go.Proofs.Ytbbjeoepoocofaa
open Go.RowKit

/-- A disk: blocks of so many bytes; all bytes as they were at the last Sync, as they are now; the open writes (a block, its bytes). -/
structure Dk where
  blocks : Nat
  size : Nat
  firm : List Int
  now : List Int
  open_ : List (Nat × List Int)

/-- xs laid over L from a place on. -/
def over (L : List Int) (off : Nat) (xs : List Int) : List Int := L.take off ++ (xs ++ L.drop (off + xs.length))

theorem over_length {L : List Int} {off : Nat} {xs : List Int} (h : off + xs.length ≤ L.length) : (over L off xs).length = L.length := by simp [over]; omega

/-- The cells of a row of open writes, whose bytes lie in these slices. -/
def wcells : List (Nat × Value) → List Value
  | [] => []
  | (b, v) :: r => .int .i64 b :: v :: wcells r
theorem wcells_length (l : List (Nat × Value)) : (wcells l).length = l.length * 2 := by
  induction l with
  | nil => rfl
  | cons a l ih => simp [wcells, ih]; omega
theorem wcells_append (a b : List (Nat × Value)) : wcells (a ++ b) = wcells a ++ wcells b := by
  induction a with
  | nil => rfl
  | cons x a ih => simp [wcells, ih]
theorem wcells_get (l : List (Nat × Value)) (i : Nat) (x : Nat × Value) (h : l[i]? = some x) : (wcells l)[2 * i]? = some (.int .i64 x.1) ∧ (wcells l)[2 * i + 1]? = some x.2 := by
  induction l generalizing i with
  | nil => simp at h
  | cons y l ih =>
    rcases i with _ | i
    · simp at h; subst h; simp [wcells]
    · have := ih i (by simpa using h)
      rw [show 2 * (i + 1) = 2 * i + 1 + 1 from by omega]
      simpa [wcells] using this
theorem wcells_one {l : List (Nat × Value)} (h : ∀ x ∈ l, x.2.oneCell' = true) : ∀ u ∈ wcells l, u.oneCell' = true := by
  induction l with
  | nil => simp [wcells]
  | cons a l ih =>
    intro u hu
    simp only [wcells, List.mem_cons] at hu
    rcases hu with rfl | rfl | hu
    · rfl
    · exact h a (by simp)
    · exact ih (fun x hx => h x (by simp [hx])) u hu

/-- The disk D lies at block d; what the disk alone writes lies in M; all that it reads in S. The open writes' bytes lie in the slices vs. -/
structure Lies (w : World) (d : Nat) (D : Dk) (M S : Nat → Prop) (fb fc nb nc : Nat) (ov : Value) (vs : List (Nat × Value)) : Prop where
  head : w.heap[d]? = some (.cells #[.int .i64 D.blocks, .int .i64 D.size, .slice (some ⟨fb, 0, none⟩) (D.blocks * D.size) fc, .slice (some ⟨nb, 0, none⟩) (D.blocks * D.size) nc, ov] 89 (0, 0))
  pos : 1 ≤ D.blocks ∧ D.blocks ≤ 1024 ∧ 1 ≤ D.size ∧ D.size ≤ 4096
  firmLen : D.firm.length = D.blocks * D.size
  nowLen : D.now.length = D.blocks * D.size
  firm : w.ownsRow 0 5 1 (.slice (some ⟨fb, 0, none⟩) (D.blocks * D.size) fc) (D.blocks * D.size) (bts D.firm)
  now : w.ownsRow 0 5 1 (.slice (some ⟨nb, 0, none⟩) (D.blocks * D.size) nc) (D.blocks * D.size) (bts D.now)
  openLen : D.open_.length ≤ 1000000
  vsLen : vs.length = D.open_.length
  openRow : w.ownsRow 0 91 2 ov D.open_.length (wcells vs)
  inner : ∀ (i : Nat) (x : Nat × Value) (y : Nat × List Int), vs[i]? = some x → D.open_[i]? = some y → x.1 = y.1 ∧ y.1 < D.blocks ∧ y.2.length ≤ D.size ∧ Rb w x.2 y.2 ∧ (∀ k, x.2.ownBlock = some k → 0 < y.2.length → S k ∧ ¬ M k) ∧ x.2.oneCell' = true
  md : M d
  mf : M fb
  mn : M nb
  mo : ∀ k, ov.ownBlock = some k → M k
  apart : d ≠ fb ∧ d ≠ nb ∧ fb ≠ nb ∧ (∀ k, ov.ownBlock = some k → k ≠ d ∧ k ≠ fb ∧ k ≠ nb)
  sub : ∀ k, M k → S k
  lt : ∀ k, S k → k < w.heap.size

/-- The disk D lies at block d, wherever its parts are. -/
def DiskAt (w : World) (d : Nat) (D : Dk) (M S : Nat → Prop) : Prop := ∃ fb fc nb nc ov vs, Lies w d D M S fb fc nb nc ov vs

theorem Lies.keep {X : Nat → Prop} {w w' : World} {d : Nat} {D : Dk} {M S : Nat → Prop} {fb fc nb nc : Nat} {ov : Value} {vs : List (Nat × Value)} (h : Lies w d D M S fb fc nb nc ov vs)
    (hk : Keeps X w w') (hX : ∀ k, S k → ¬ X k) : Lies w' d D M S fb fc nb nc ov vs where
  head := by rw [hk.block d (h.lt d (h.sub d h.md)) (hX d (h.sub d h.md))]; exact h.head
  pos := h.pos
  firmLen := h.firmLen
  nowLen := h.nowLen
  firm := own_keep h.firm hk fun k e => by obtain rfl : fb = k := by simpa [Value.ownBlock] using e
                                           exact hX _ (h.sub _ h.mf)
  now := own_keep h.now hk fun k e => by obtain rfl : nb = k := by simpa [Value.ownBlock] using e
                                         exact hX _ (h.sub _ h.mn)
  openLen := h.openLen
  vsLen := h.vsLen
  openRow := own_keep h.openRow hk fun k e => hX k (h.sub k (h.mo k e))
  inner := fun i x y hx hy => by
    obtain ⟨a, b, c, e, f, g⟩ := h.inner i x y hx hy
    exact ⟨a, b, c, e.keep hk (fun k hk1 hk2 => hX k (f k hk1 hk2).1), f, g⟩
  md := h.md
  mf := h.mf
  mn := h.mn
  mo := h.mo
  apart := h.apart
  sub := h.sub
  lt := fun k hk' => Nat.lt_of_lt_of_le (h.lt k hk') hk.size

theorem DiskAt.keep {X : Nat → Prop} {w w' : World} {d : Nat} {D : Dk} {M S : Nat → Prop} (h : DiskAt w d D M S) (hk : Keeps X w w') (hX : ∀ k, S k → ¬ X k) : DiskAt w' d D M S :=
  let ⟨a, b, c, e, f, g, l⟩ := h; ⟨a, b, c, e, f, g, l.keep hk hX⟩
theorem DiskAt.below {w w' : World} {d : Nat} {D : Dk} {M S : Nat → Prop} (h : DiskAt w d D M S) (hb : Below w.heap.size w w') : DiskAt w' d D M S :=
  h.keep (X := fun _ => False) (Keeps.of_below hb) fun _ _ f => f
theorem DiskAt.lt {w : World} {d : Nat} {D : Dk} {M S : Nat → Prop} (h : DiskAt w d D M S) : ∀ k, S k → k < w.heap.size := let ⟨_, _, _, _, _, _, l⟩ := h; l.lt
theorem DiskAt.sub {w : World} {d : Nat} {D : Dk} {M S : Nat → Prop} (h : DiskAt w d D M S) : ∀ k, M k → S k := let ⟨_, _, _, _, _, _, l⟩ := h; l.sub

end Go.Proofs.Ytbbjeoepoocofaa
