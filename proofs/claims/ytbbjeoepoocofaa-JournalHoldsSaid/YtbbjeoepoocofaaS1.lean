/- Things in memory that lie apart: what each alone writes, what each reads; a journal on its disk as one thing. -/
import Derived.Test.YtbbjeoepoocofaaR5
namespace Go.Proofs.Ytbbjeoepoocofaa
open Go.RowKit

/-- What a thing alone writes, and what it reads. -/
structure Foot where
  m : Nat → Prop
  s : Nat → Prop

def Apart (a b : Foot) : Prop := (∀ k, a.m k → ¬ b.s k) ∧ (∀ k, b.m k → ¬ a.s k)
theorem Apart.symm {a b : Foot} (h : Apart a b) : Apart b a := ⟨h.2, h.1⟩

/-- It lies whole in a world, and writes from a height on. -/
structure Sits (w : World) (B : Nat) (a : Foot) : Prop where
  sub : ∀ k, a.m k → a.s k
  lt : ∀ k, a.s k → k < w.heap.size
  base : ∀ k, a.m k → B ≤ k

/-- It was changed, and nothing else. -/
structure Upd (a a' : Foot) (w w' : World) : Prop where
  keeps : Keeps a.m w w'
  m : ∀ k, a'.m k → a.m k ∨ w.heap.size ≤ k
  s : ∀ k, a'.s k → a.s k ∨ w.heap.size ≤ k

theorem Upd.refl (a : Foot) (w : World) : Upd a a w w := ⟨Keeps.refl _ _, fun _ h => .inl h, fun _ h => .inl h⟩
theorem Upd.of_below {a : Foot} {w w' : World} (h : Below w.heap.size w w') : Upd a a w w' := ⟨Keeps.of_below h, fun _ h => .inl h, fun _ h => .inl h⟩
theorem Upd.trans {a b c : Foot} {u v w : World} (h : Upd a b u v) (k : Upd b c v w) : Upd a c u w :=
  ⟨h.keeps.trans k.keeps h.m, fun i hi => (k.m i hi).elim (h.m i) (fun e => .inr (Nat.le_trans h.keeps.size e)), fun i hi => (k.s i hi).elim (h.s i) (fun e => .inr (Nat.le_trans h.keeps.size e))⟩
theorem Upd.below {a a' : Foot} {w w' : World} {B : Nat} (h : Upd a a' w w') (hf : Sits w B a) (hB : B ≤ w.heap.size) : Below B w w' := h.keeps.below hB hf.base
theorem Upd.fit {a a' : Foot} {w w' : World} {B : Nat} (h : Upd a a' w w') (hf : Sits w B a) (hB : B ≤ w.heap.size) (sub : ∀ k, a'.m k → a'.s k) (lt : ∀ k, a'.s k → k < w'.heap.size) : Sits w' B a' :=
  ⟨sub, lt, fun k hk => (h.m k hk).elim (hf.base k) (fun e => by omega)⟩
theorem Upd.apart {a a' b : Foot} {w w' : World} {B : Nat} (h : Upd a a' w w') (hb : Sits w B b) (hab : Apart a b) : Apart a' b :=
  ⟨fun k hk hs => (h.m k hk).elim (fun e => hab.1 k e hs) (fun e => by have := hb.lt k hs; omega), fun k hk hs => (h.s k hs).elim (hab.2 k hk) (fun e => by have := hb.lt k (hb.sub k hk); omega)⟩
/-- What lies apart is as it was. -/
theorem Upd.off {a a' b : Foot} {w w' : World} (_ : Upd a a' w w') (hab : Apart a b) : ∀ k, b.s k → ¬ a.m k := fun k hs hm => hab.1 k hm hs
theorem Sits.mono {w w' : World} {B : Nat} {a : Foot} (h : Sits w B a) (hz : w.heap.size ≤ w'.heap.size) : Sits w' B a := ⟨h.sub, fun k hk => Nat.lt_of_lt_of_le (h.lt k hk) hz, h.base⟩
/-- A new thing lies apart from what was there. -/
theorem Sits.fresh {w : World} {B : Nat} {a b : Foot} (h : Sits w B b) (hm : ∀ k, a.m k → w.heap.size ≤ k) (hs : ∀ k, a.s k → w.heap.size ≤ k ∨ k < B) : Apart a b :=
  ⟨fun k hk h2 => by have := hm k hk; have := h.lt k h2; omega, fun k hk h2 => (hs k h2).elim (fun e => by have := h.lt k (h.sub k hk); omega) (fun e => by have := h.base k hk; omega)⟩

/-- A row of slices of bytes: the row is its own; the bytes may be anybody's. -/
structure Tab (w : World) (v : Value) (ls : List (List Int)) (a : Foot) : Prop where
  row : ∃ vs : List Value, vs.length = ls.length ∧ w.ownsRow 0 30 1 v ls.length vs ∧ ∀ (i : Nat) (x : List Int) (u : Value), ls[i]? = some x → vs[i]? = some u → Rb w u x ∧ ∀ k, u.ownBlock = some k → 0 < x.length → a.s k ∧ ¬ a.m k
  own : ∀ k, v.ownBlock = some k → a.m k
  sub : ∀ k, a.m k → a.s k
  lt : ∀ k, a.s k → k < w.heap.size

theorem Tab.keep {X : Nat → Prop} {w w' : World} {v : Value} {ls : List (List Int)} {a : Foot} (h : Tab w v ls a) (hk : Keeps X w w') (hX : ∀ k, a.s k → ¬ X k) : Tab w' v ls a where
  row := by
    obtain ⟨vs, h1, h2, h3⟩ := h.row
    exact ⟨vs, h1, own_keep h2 hk (fun k e => hX k (h.sub k (h.own k e))), fun i x u hx hu => ⟨(h3 i x u hx hu).1.keep hk (fun k e p => hX k ((h3 i x u hx hu).2 k e p).1), (h3 i x u hx hu).2⟩⟩
  own := h.own
  sub := h.sub
  lt := fun k hk' => Nat.lt_of_lt_of_le (h.lt k hk') hk.size
theorem Tab.below {w w' : World} {v : Value} {ls : List (List Int)} {a : Foot} (h : Tab w v ls a) (hb : Below w.heap.size w w') : Tab w' v ls a := h.keep (X := fun _ => False) (Keeps.of_below hb) (fun _ _ f => f)
theorem Tab.bb {w : World} {v : Value} {ls : List (List Int)} {a : Foot} (h : Tab w v ls a) : Bb w v ls := by
  obtain ⟨vs, h1, h2, h3⟩ := h.row
  exact ⟨vs, h1, Rd.of_own h2, fun i x u hx hu => (h3 i x u hx hu).1⟩
theorem Tab.nil (w : World) : Tab w (.slice none 0 0) [] ⟨fun _ => False, fun _ => False⟩ := ⟨⟨[], rfl, World.ownsRow_nil _ _ _ _, fun i x u h => by simp at h⟩, fun k e => by simp [Value.ownBlock] at e, fun _ f => f, fun _ f => f.elim⟩
theorem Tab.of_tbl {w : World} {base : Nat} {v : Value} {ls : List (List Int)} (h : Tbl w base v ls) : ∃ a, Tab w v ls a ∧ (∀ k, a.s k → base ≤ k) := by
  obtain ⟨vs, h1, h2⟩ := h
  refine ⟨⟨fun k => v.ownBlock = some k, fun k => base ≤ k ∧ k < w.heap.size⟩, ⟨⟨vs, h1.len, own_mono h1.row (Nat.zero_le _), fun i x u hx hu => ⟨Rd.of_own (h1.inner i x u hx hu), fun k e _ => ⟨⟨h2 u (List.mem_of_getElem? hu) k e, (own_lt (h1.inner i x u hx hu) k e).2⟩, fun e2 => own_apart h1.row (h1.inner i x u hx hu) (by decide) k e2 e⟩⟩⟩, fun k e => e, fun k e => own_lt h1.row k e, fun k e => e.2⟩, fun k e => e.1⟩
/-- One slice more. -/
theorem Tab.snoc {w w7 : World} {v v7 u : Value} {ls : List (List Int)} {a : Foot} {x : List Int} {o : Obj} {g cap : Nat} (h : Tab w v ls a) (hu : Rb w u x) (hut : ∀ k, u.ownBlock = some k → 0 < x.length → k < w.heap.size ∧ ¬ a.m k) (e7 : v7 = .slice (some ⟨g, 0, none⟩) (ls.length + 1) cap)
    {vs : List Value} (hvl : vs.length = ls.length) (hvi : ∀ (i : Nat) (x : List Int) (u : Value), ls[i]? = some x → vs[i]? = some u → Rb w u x ∧ ∀ k, u.ownBlock = some k → 0 < x.length → a.s k ∧ ¬ a.m k)
    (hown : w7.ownsRow 0 30 1 v7 (ls.length + 1) (vs ++ [u])) (hg : (w.alloc o).grownBy w7 v.ownBlock) (hat : v.ownBlock = some g ∨ g = w.heap.size + 1) :
    ∃ a', Tab w7 v7 (ls ++ [x]) a' ∧ Keeps a.m w w7 ∧ (∀ k, a'.m k → a.m k ∨ w.heap.size ≤ k) ∧ (∀ k, a'.s k → a.s k ∨ w.heap.size ≤ k ∨ (u.ownBlock = some k ∧ 0 < x.length)) := by
  have hk : Keeps (fun k => v.ownBlock = some k) w w7 := ((Keeps.refl _ w).alloc o).trans (Keeps.of_grown (X := fun k => v.ownBlock = some k) hg (fun _ e => e)) (fun _ e => .inl e)
  have hkm : Keeps a.m w w7 := hk.mono h.own
  have hgm : a.m g ∨ w.heap.size ≤ g := hat.imp (fun e => h.own g e) (fun e => by omega)
  have hgl : g < w7.heap.size := (own_lt hown g (by rw [e7]; rfl)).2
  have hz := hkm.size
  have hold : ∀ k, k < w.heap.size → ¬ a.m k → ¬ (a.m k ∨ k = g) := fun k hlt hn hm => hm.elim hn (fun e => hgm.elim (fun e2 => hn (by rw [e]; exact e2)) (fun e2 => by omega))
  refine ⟨⟨fun k => a.m k ∨ k = g, fun k => a.s k ∨ k = g ∨ (u.ownBlock = some k ∧ 0 < x.length)⟩, ⟨⟨vs ++ [u], by simp [hvl], by rw [List.length_append]; exact hown, fun i y s hy hs => ?_⟩, fun k e => ?_, fun k e => e.imp (h.sub k) .inl, ?_⟩, hkm, ?_, ?_⟩
  · rw [List.getElem?_append] at hy hs
    rw [hvl] at hs
    split at hy
    · rename_i hi
      rw [if_pos hi] at hs
      obtain ⟨p, q⟩ := hvi i y s hy hs
      exact ⟨p.keep hkm (fun k e1 e2 => (q k e1 e2).2), fun k e1 e2 => ⟨.inl (q k e1 e2).1, hold k (h.lt k (q k e1 e2).1) (q k e1 e2).2⟩⟩
    · rename_i hi
      rw [if_neg hi] at hs
      have e1 : i - ls.length = 0 := by have := (List.getElem?_eq_some_iff.1 hy).1; simp at this; omega
      rw [e1] at hy hs
      simp at hy hs
      subst hy
      subst hs
      exact ⟨hu.keep hkm (fun k e1 e2 => (hut k e1 e2).2), fun k e1 e2 => ⟨.inr (.inr ⟨e1, e2⟩), hold k (hut k e1 e2).1 (hut k e1 e2).2⟩⟩
  · rw [e7] at e
    exact .inr (by simpa [Value.ownBlock] using e.symm)
  · rintro k (e | e | ⟨e, e'⟩)
    · have := h.lt k e; omega
    · omega
    · have := (hut k e e').1; omega
  · rintro k (e | e)
    · exact .inl e
    · rw [e]; exact hgm
  · rintro k (e | e | e)
    · exact .inl e
    · rw [e]; exact hgm.elim (fun e => .inl (h.sub g e)) (fun e => .inr (.inl e))
    · exact .inr (.inr e)
end Go.Proofs.Ytbbjeoepoocofaa
