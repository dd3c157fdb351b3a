/- What of memory a walk of this seat speaks of: which blocks may have been written, what a slice reads as. No function of the program in sight. -/
import Derived.Laws.OwnMore
import Derived.Laws.CopyOwn
import Derived.Below
import Derived.Lib.Hide
import Derived.Deep.Draws
namespace Go.Proofs.Ytbbjeoepoocofaa
open Go.RowKit

/-- Blocks of X alone may have been written; new blocks may have been laid behind what was there. -/
structure Keeps (X : Nat → Prop) (w w' : World) : Prop where
  os : w'.os = w.os
  tape : w'.tape = w.tape
  output : w'.output = w.output
  size : w.heap.size ≤ w'.heap.size
  block : ∀ k, k < w.heap.size → ¬ X k → w'.heap[k]? = w.heap[k]?

theorem Keeps.refl (X : Nat → Prop) (w : World) : Keeps X w w := ⟨rfl, rfl, rfl, Nat.le_refl _, fun _ _ _ => rfl⟩
theorem Keeps.trans {X Y : Nat → Prop} {a b c : World} (h : Keeps X a b) (k : Keeps Y b c) (hY : ∀ i, Y i → X i ∨ a.heap.size ≤ i) : Keeps X a c :=
  ⟨k.os.trans h.os, k.tape.trans h.tape, k.output.trans h.output, Nat.le_trans h.size k.size, fun i hi hX =>
    (k.block i (Nat.lt_of_lt_of_le hi h.size) (fun hy => (hY i hy).elim hX (fun h1 => by omega))).trans (h.block i hi hX)⟩
theorem Keeps.mono {X Y : Nat → Prop} {a b : World} (h : Keeps X a b) (hXY : ∀ i, X i → Y i) : Keeps Y a b :=
  ⟨h.os, h.tape, h.output, h.size, fun i hi hY => h.block i hi fun hX => hY (hXY i hX)⟩
theorem Keeps.of_below {X : Nat → Prop} {w w' : World} (h : Below w.heap.size w w') : Keeps X w w' := ⟨h.os, h.tape, h.output, h.size, fun k hk _ => h.block k hk⟩
theorem Keeps.below {X : Nat → Prop} {w w' : World} {B : Nat} (h : Keeps X w w') (hB : B ≤ w.heap.size) (hX : ∀ k, X k → B ≤ k) : Below B w w' :=
  ⟨h.os, h.tape, h.output, h.size, fun k hk => h.block k (by omega) fun hx => by have := hX k hx; omega⟩
theorem Keeps.of_grown {X : Nat → Prop} {w w' : World} {row : Option Nat} (h : w.grownBy w' row) (hX : ∀ k, row = some k → X k) : Keeps X w w' :=
  ⟨h.os, h.tape, h.output, h.size, fun k hk hx => h.block k hk fun e => hx (hX k e.symm)⟩
theorem Keeps.grown {X : Nat → Prop} {w w' : World} (h : Keeps X w w') {row : Option Nat} (hr : ∀ k, X k → some k = row) : w.grownBy w' row :=
  ⟨h.os, h.tape, h.output, h.size, fun k hk hne => h.block k hk fun hx => hne (hr k hx)⟩
theorem Keeps.cell {X : Nat → Prop} {w w' : World} (h : Keeps X w w') {a : Addr} (ha : ¬ X a.block) {v : Value} (hv : w.cell? a = some v) : w'.cell? a = some v :=
  (World.cell?_of_block (h.block a.block (World.block_lt_of_cell? w a hv) ha)).trans hv
theorem Keeps.setCell {X : Nat → Prop} {w0 w : World} (h : Keeps X w0 w) {a : Addr} (ha : X a.block ∨ w0.heap.size ≤ a.block) (u : Value) : Keeps X w0 (w.setCell a u) :=
  h.trans (Y := fun k => k = a.block) ⟨rfl, rfl, rfl, by simp [World.setCell], fun k _ hk => Below.heap_setCell _ _ _ _ hk⟩ (fun i hi => hi ▸ ha)
theorem Keeps.drewN {X : Nat → Prop} {a w : World} (h : Keeps X a w) (n : Nat) : Keeps X a (w.drewN n) := ⟨h.os, h.tape, h.output, h.size, h.block⟩
theorem Keeps.drew {X : Nat → Prop} {a w : World} (h : Keeps X a w) : Keeps X a w.drew := ⟨h.os, h.tape, h.output, h.size, h.block⟩
theorem Keeps.alloc {X : Nat → Prop} {a w : World} (h : Keeps X a w) (o : Obj) : Keeps X a (w.alloc o) :=
  h.trans (Y := fun _ => False) (Keeps.of_below ((Below.refl _ _).alloc (Nat.le_refl _) o)) (fun _ f => f.elim)

theorem below_drewN {w : World} {B : Nat} (n : Nat) : Below B w (w.drewN n) := ⟨rfl, rfl, rfl, Nat.le_refl _, fun _ _ => rfl⟩

/-- A slice of n elements (each of so many cells) that reads as these cells. -/
def Rd (w : World) (size : Nat) (v : Value) (n : Nat) (xs : List Value) : Prop :=
  xs.length = n * size ∧
  (((v = .slice none 0 0 ∨ ∃ a c, v = .slice (some a) 0 c ∧ c ≤ maxLen) ∧ n = 0) ∨
   ∃ b off cap, v = .slice (some ⟨b, off, none⟩) n cap ∧ n ≤ cap ∧ cap ≤ maxLen ∧ ∀ j u, xs[j]? = some u → w.cell? ⟨b, off + j, none⟩ = some u)

theorem Rd.len {w : World} {size : Nat} {v : Value} {n : Nat} {xs : List Value} (h : Rd w size v n xs) : n ≤ maxLen := by
  rcases h.2 with ⟨_, rfl⟩ | ⟨_, _, _, _, h1, h2, _⟩
  · exact Nat.zero_le _
  · omega

theorem Rd.keep {X : Nat → Prop} {w w' : World} {size : Nat} {v : Value} {n : Nat} {xs : List Value} (h : Rd w size v n xs) (hk : Keeps X w w')
    (hv : ∀ k, v.ownBlock = some k → 0 < n → ¬ X k) : Rd w' size v n xs := by
  refine ⟨h.1, ?_⟩
  rcases h.2 with h | ⟨b, off, cap, rfl, h1, h2, h3⟩
  · exact .inl h
  · refine .inr ⟨b, off, cap, rfl, h1, h2, fun j u hj => hk.cell (hv b rfl ?_) (h3 j u hj)⟩
    rcases Nat.eq_zero_or_pos n with h0 | h0
    · have : xs.length = 0 := by rw [h.1, h0, Nat.zero_mul]
      have := (List.getElem?_eq_some_iff.1 hj).1
      omega
    · exact h0

theorem Rd.below {B : Nat} {w w' : World} {size : Nat} {v : Value} {n : Nat} {xs : List Value} (h : Rd w size v n xs) (hk : Below B w w')
    (hv : ∀ k, v.ownBlock = some k → 0 < n → k < B) : Rd w' size v n xs :=
  h.keep (X := fun k => B ≤ k) ⟨hk.os, hk.tape, hk.output, hk.size, fun k _ hx => hk.block k (by omega)⟩ (fun k h1 h2 h3 => by have := hv k h1 h2; omega)

theorem Rd.lt {w : World} {size : Nat} {v : Value} {n : Nat} {xs : List Value} (h : Rd w size v n xs) (hs : 0 < size) : ∀ k, v.ownBlock = some k → 0 < n → k < w.heap.size := by
  intro k hk hn
  rcases h.2 with ⟨_, h0⟩ | ⟨b, off, cap, rfl, h1, h2, h3⟩
  · omega
  · have e : b = k := by simpa [Value.ownBlock] using hk
    subst e
    have hl : 0 < xs.length := by rw [h.1]; exact Nat.mul_pos hn hs
    exact World.block_lt_of_cell? w _ (h3 0 xs[0] (List.getElem?_eq_getElem hl))

/-- What a slice of the call's own reads as. -/
theorem Rd.of_own {w : World} {base : Nat} {e : TypeId} {size : Nat} {v : Value} {n : Nat} {xs : List Value} (h : w.ownsRow base e size v n xs) : Rd w size v n xs := by
  refine ⟨h.1, ?_⟩
  rcases h.2 with h' | ⟨g, cap, cur, rfl, _, hg, h1, h2, h3, h4⟩
  · exact .inl ⟨.inl h'.1, h'.2⟩
  · refine .inr ⟨g, 0, cap, rfl, h1, h2, fun j u hj => ?_⟩
    rw [Nat.zero_add, cell_of_row w g j cur e (0, 0) hg]
    rw [← h4, List.getElem?_take] at hj
    split at hj
    · simpa using hj
    · simp at hj

/-- Nil, or a slice somewhere whose elements read as told. -/
theorem Rd.two {w : World} {size : Nat} {v : Value} {n : Nat} {xs : List Value} (h : Rd w size v n xs) :
    (v = .slice none 0 0 ∧ n = 0) ∨ ∃ a cap, v = .slice (some a) n cap ∧ n ≤ cap ∧ cap ≤ maxLen ∧ ∀ j u, xs[j]? = some u → w.cell? (a.add j) = some u := by
  have hl := h.1
  rcases h.2 with ⟨h' | ⟨a, c, h', hc⟩, h0⟩ | ⟨b, off, cap, rfl, h1, h2, h3⟩
  · exact .inl ⟨h', h0⟩
  · refine .inr ⟨a, c, by rw [h', h0], by omega, hc, fun j u hj => ?_⟩
    have := (List.getElem?_eq_some_iff.1 hj).1
    rw [hl, h0] at this
    omega
  · refine .inr ⟨⟨b, off, none⟩, cap, rfl, h1, h2, fun j u hj => ?_⟩
    have hadd : (⟨b, off, none⟩ : Addr).add j = ⟨b, off + j, none⟩ := by unfold Addr.add; split <;> simp_all
    rw [hadd]
    exact h3 j u hj

theorem Rd.capOk {w : World} {size : Nat} {sp : Option Addr} {n m sc : Nat} {xs : List Value} (h : Rd w size (.slice sp n sc) m xs) : n = m ∧ m ≤ sc ∧ sc ≤ maxLen := by
  rcases h.two with ⟨h', h0⟩ | ⟨a, c, h', h1, h2, _⟩
  · simp only [Value.slice.injEq] at h'
    unfold maxLen
    omega
  · simp only [Value.slice.injEq] at h'
    omega

theorem own_mono {w : World} {base base' : Nat} {e : TypeId} {size : Nat} {v : Value} {n : Nat} {xs : List Value} (h : w.ownsRow base e size v n xs) (hb : base' ≤ base) : w.ownsRow base' e size v n xs :=
  ⟨h.1, h.2.imp id fun ⟨g, cap, cur, a, b, c⟩ => ⟨g, cap, cur, a, Nat.le_trans hb b, c⟩⟩

theorem own_keep {X : Nat → Prop} {w w' : World} {base : Nat} {e : TypeId} {size : Nat} {v : Value} {n : Nat} {xs : List Value} (h : w.ownsRow base e size v n xs) (hk : Keeps X w w')
    (hv : ∀ k, v.ownBlock = some k → ¬ X k) : w'.ownsRow base e size v n xs := by
  refine ⟨h.1, ?_⟩
  rcases h.2 with h' | ⟨g, cap, cur, rfl, hb, hg, r⟩
  · exact .inl h'
  · refine .inr ⟨g, cap, cur, rfl, hb, ?_, r⟩
    rw [hk.block g (Array.getElem?_eq_some_iff.1 hg).1 (hv g rfl)]
    exact hg

theorem own_lt {w : World} {base : Nat} {e : TypeId} {size : Nat} {v : Value} {n : Nat} {xs : List Value} (h : w.ownsRow base e size v n xs) : ∀ k, v.ownBlock = some k → base ≤ k ∧ k < w.heap.size := h.lt

/-- Bytes, as the cells that hold them. -/
def bts (xs : List Int) : List Value := xs.map (Value.int .u8)
theorem bts_length (xs : List Int) : (bts xs).length = xs.length := by simp [bts]
theorem bts_get {xs : List Int} {i : Nat} (h : i < xs.length) : (bts xs)[i]? = some (.int .u8 (xs.getD i 0)) := by
  simp [bts, List.getD, List.getElem?_eq_getElem h]
theorem bts_one {xs : List Int} : ∀ v ∈ bts xs, v.oneCell' = true := by
  intro v hv
  simp only [bts, List.mem_map] at hv
  obtain ⟨a, _, rfl⟩ := hv
  rfl

/-- A slice of bytes that reads as these. -/
def Rb (w : World) (v : Value) (xs : List Int) : Prop := Rd w 1 v xs.length (bts xs)

theorem Rb.cell {w : World} {v : Value} {xs : List Int} (h : Rb w v xs) {i : Nat} (hi : i < xs.length) :
    ∃ b off cap, v = .slice (some ⟨b, off, none⟩) xs.length cap ∧ xs.length ≤ cap ∧ cap ≤ maxLen ∧ ∀ j, j < xs.length → w.cell? ⟨b, off + j, none⟩ = some (.int .u8 (xs.getD j 0)) := by
  rcases h.2 with ⟨_, h0⟩ | ⟨b, off, cap, hv, h1, h2, h3⟩
  · omega
  · exact ⟨b, off, cap, hv, h1, h2, fun j hj => h3 j _ (bts_get hj)⟩

end Go.Proofs.Ytbbjeoepoocofaa
