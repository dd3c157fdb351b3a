/- Slices of slices of bytes. No function of the program in sight. -/
import Derived.Test.YtbbjeoepoocofaaG1
import Derived.Maps.AppendAt
namespace Go.Proofs.Ytbbjeoepoocofaa
open Go.RowKit

/-- A slice of slices of bytes that reads as these. -/
def Bb (w : World) (v : Value) (ls : List (List Int)) : Prop :=
  ∃ vs : List Value, vs.length = ls.length ∧ Rd w 1 v ls.length vs ∧ ∀ (i : Nat) (x : List Int) (u : Value), ls[i]? = some x → vs[i]? = some u → Rb w u x

theorem Bb.below' {w w' : World} {v : Value} {ls : List (List Int)} (h : Bb w v ls) (hb : Below w.heap.size w w') : Bb w' v ls := by
  obtain ⟨vs, h1, h2, h3⟩ := h
  exact ⟨vs, h1, h2.keep (X := fun _ => False) (Keeps.of_below hb) (fun _ _ _ f => f), fun i x u hx hu => (h3 i x u hx hu).below' hb⟩
theorem Bb.form {w : World} {v : Value} {ls : List (List Int)} (h : Bb w v ls) : ∃ sp sc, v = .slice sp ls.length sc ∧ ls.length ≤ maxLen := by
  obtain ⟨vs, h1, h2, h3⟩ := h
  obtain ⟨sp, sc, hv, -⟩ := h2.form
  exact ⟨sp, sc, hv, h2.len⟩
/-- One of them, as the program reads it. -/
theorem Bb.at {w : World} {v : Value} {ls : List (List Int)} (h : Bb w v ls) {i : Nat} (hi : i < ls.length) :
    ∃ b off cap va vc, v = .slice (some ⟨b, off, none⟩) ls.length cap ∧ w.cell? ⟨b, off + i, none⟩ = some (.slice va ls[i].length vc) ∧ Rb w (.slice va ls[i].length vc) ls[i] := by
  obtain ⟨vs, h1, h2, h3⟩ := h
  rcases h2.2 with ⟨_, h0⟩ | ⟨b, off, cap, hv, -, -, hc⟩
  · omega
  · have hr := h3 i ls[i] vs[i] (List.getElem?_eq_getElem hi) (List.getElem?_eq_getElem (by omega))
    obtain ⟨sp, sc, hu, -⟩ := hr.form
    rw [hu] at hr
    refine ⟨b, off, cap, sp, sc, hv, ?_, hr⟩
    rw [hc i vs[i] (List.getElem?_eq_getElem (by omega)), hu]

/-- A slice of the call's own, of slices of bytes (these, in those slices), none of which lies in its own block. -/
structure Obv (w : World) (base : Nat) (v : Value) (ls : List (List Int)) (vs : List Value) : Prop where
  len : vs.length = ls.length
  row : w.ownsRow base 30 1 v ls.length vs
  inner : ∀ (i : Nat) (x : List Int) (u : Value), ls[i]? = some x → vs[i]? = some u → Rb w u x ∧ ∀ k, v.ownBlock = some k → u.ownBlock = some k → x.length = 0

theorem Obv.nil (w : World) (base : Nat) : Obv w base (.slice none 0 0) [] [] := ⟨rfl, World.ownsRow_nil _ _ _ _, fun i x u h => by simp at h⟩
theorem Obv.bb {w : World} {base : Nat} {v : Value} {ls : List (List Int)} {vs : List Value} (h : Obv w base v ls vs) : Bb w v ls :=
  ⟨vs, h.len, Rd.of_own h.row, fun i x u hx hu => (h.inner i x u hx hu).1⟩
theorem Obv.below' {w w' : World} {base : Nat} {v : Value} {ls : List (List Int)} {vs : List Value} (h : Obv w base v ls vs) (hb : Below w.heap.size w w') : Obv w' base v ls vs :=
  ⟨h.len, own_keep h.row (X := fun _ => False) (Keeps.of_below hb) (fun _ _ f => f), fun i x u hx hu => ⟨(h.inner i x u hx hu).1.below' hb, (h.inner i x u hx hu).2⟩⟩
theorem Obv.snoc {w w' : World} {base : Nat} {v v' u : Value} {ls : List (List Int)} {vs : List Value} {x : List Int} {o : Obj} (h : Obv w base v ls vs) (hu : Rb w u x)
    (hne : ∀ k, v.ownBlock = some k → u.ownBlock = some k → x.length = 0) (hown : w'.ownsRow base 30 1 v' (ls.length + 1) (vs ++ [u])) (hgrow : (w.alloc o).grownBy w' v.ownBlock)
    (hat : v'.ownBlock = v.ownBlock ∨ v'.ownBlock = some (w.alloc o).heap.size) : Obv w' base v' (ls ++ [x]) (vs ++ [u]) := by
  have hk : Keeps (fun k => v.ownBlock = some k) w w' := ((Keeps.refl _ w).alloc o).trans (Keeps.of_grown (X := fun k => v.ownBlock = some k) hgrow (fun _ e => e)) (fun _ e => .inl e)
  have key : ∀ (y : List Int) (s : Value), Rb w s y → (∀ k, v.ownBlock = some k → s.ownBlock = some k → y.length = 0) → Rb w' s y ∧ ∀ k, v'.ownBlock = some k → s.ownBlock = some k → y.length = 0 := by
    intro y s hs hn
    refine ⟨hs.keep hk (fun k h1 h2 h3 => by have := hn k h3 h1; omega), fun k h1 h2 => ?_⟩
    rcases hat with e | e
    · exact hn k (by rw [← e]; exact h1) h2
    · rcases Nat.eq_zero_or_pos y.length with h0 | h0
      · exact h0
      · have := hs.lt (by decide) k h2 h0
        rw [h1] at e
        simp only [Option.some.injEq, World.size_alloc] at e
        omega
  refine ⟨by rw [List.length_append, List.length_append, h.len]; rfl, by rw [List.length_append]; exact hown, fun i y s hy hs => ?_⟩
  rw [List.getElem?_append] at hy hs
  rw [h.len] at hs
  split at hy
  · rename_i hi
    rw [if_pos hi] at hs
    obtain ⟨a, b⟩ := h.inner i y s hy hs
    exact key y s a b
  · rename_i hi
    rw [if_neg hi] at hs
    have e1 : i - ls.length = 0 := by have := (List.getElem?_eq_some_iff.1 hy).1; simp at this; omega
    rw [e1] at hy hs
    simp at hy hs
    subst hy
    subst hs
    exact key _ _ hu hne

/-- A slice of slices of bytes that reads as these: rows that were laid as such. -/
def Tb (w : World) (v : Value) (ls : List (List Int)) : Prop :=
  ∃ vs : List Value, vs.length = ls.length ∧ w.ownsRow 0 30 1 v ls.length vs ∧ ∀ (i : Nat) (x : List Int) (u : Value), ls[i]? = some x → vs[i]? = some u → w.ownsRow 0 5 1 u x.length (bts x)

theorem own_same {w w' : World} {base : Nat} {e : TypeId} {size : Nat} {v : Value} {n : Nat} {xs : List Value} (h : w.ownsRow base e size v n xs) (hb : Below w.heap.size w w') : w'.ownsRow base e size v n xs :=
  own_keep h (X := fun _ => False) (Keeps.of_below hb) (fun _ _ f => f)
/-- The block of a row says what it holds. -/
theorem own_tag {w : World} {base : Nat} {e : TypeId} {size : Nat} {v : Value} {n : Nat} {xs : List Value} (h : w.ownsRow base e size v n xs) {k : Nat} (hk : v.ownBlock = some k) : ∃ cur, w.heap[k]? = some (.cells cur e) := by
  rcases h.2 with ⟨rfl, -⟩ | ⟨g, cap, cur, rfl, -, hg, -⟩
  · simp [Value.ownBlock] at hk
  · obtain rfl : g = k := by simpa [Value.ownBlock] using hk
    exact ⟨cur, hg⟩
theorem own_apart {w : World} {base base' : Nat} {e e' : TypeId} {size size' : Nat} {v v' : Value} {n n' : Nat} {xs xs' : List Value} (h : w.ownsRow base e size v n xs) (h' : w.ownsRow base' e' size' v' n' xs') (he : e ≠ e') : ∀ k, v.ownBlock = some k → ¬ v'.ownBlock = some k := fun k h1 h2 => by
  obtain ⟨c1, e1⟩ := own_tag h h1
  obtain ⟨c2, e2⟩ := own_tag h' h2
  rw [e1] at e2
  simp only [Option.some.injEq, Obj.cells.injEq] at e2
  exact he e2.2.1
theorem own_off {w : World} {base : Nat} {e e' : TypeId} {size : Nat} {v : Value} {n : Nat} {xs : List Value} (h : w.ownsRow base e size v n xs) {T : Nat} {cs : Array Value} (hT : w.heap[T]? = some (.cells cs e')) (he : e ≠ e') : ¬ v.ownBlock = some T := fun h1 => by
  obtain ⟨c1, e1⟩ := own_tag h h1
  rw [e1] at hT
  simp only [Option.some.injEq, Obj.cells.injEq] at hT
  exact he hT.2.1

theorem Tb.below' {w w' : World} {v : Value} {ls : List (List Int)} (h : Tb w v ls) (hb : Below w.heap.size w w') : Tb w' v ls := by
  obtain ⟨vs, h1, h2, h3⟩ := h
  exact ⟨vs, h1, own_same h2 hb, fun i x u hx hu => own_same (h3 i x u hx hu) hb⟩
/-- A write to a block that is no such row. -/
theorem Tb.off {w w' : World} {v : Value} {ls : List (List Int)} {T : Nat} {cs : Array Value} {e : TypeId} (h : Tb w v ls) (hT : w.heap[T]? = some (.cells cs e)) (h30 : 30 ≠ e) (h5 : 5 ≠ e) (hk : Keeps (fun k => k = T) w w') : Tb w' v ls := by
  obtain ⟨vs, h1, h2, h3⟩ := h
  exact ⟨vs, h1, own_keep h2 hk (fun k a b => own_off h2 hT h30 (by rw [a, b])), fun i x u hx hu => own_keep (h3 i x u hx hu) hk (fun k a b => own_off (h3 i x u hx hu) hT h5 (by rw [a, b]))⟩
theorem Tb.bb {w : World} {v : Value} {ls : List (List Int)} (h : Tb w v ls) : Bb w v ls := by
  obtain ⟨vs, h1, h2, h3⟩ := h
  exact ⟨vs, h1, Rd.of_own h2, fun i x u hx hu => Rd.of_own (h3 i x u hx hu)⟩
theorem Tb.form {w : World} {v : Value} {ls : List (List Int)} (h : Tb w v ls) : ∃ sp sc, v = .slice sp ls.length sc ∧ ls.length ≤ maxLen := h.bb.form
/-- One of them, as the program reads it. -/
theorem Tb.at {w : World} {v : Value} {ls : List (List Int)} (h : Tb w v ls) {i : Nat} (hi : i < ls.length) :
    ∃ b off cap va vc, v = .slice (some ⟨b, off, none⟩) ls.length cap ∧ w.cell? ⟨b, off + i, none⟩ = some (.slice va ls[i].length vc) ∧ w.ownsRow 0 5 1 (.slice va ls[i].length vc) ls[i].length (bts ls[i]) := by
  obtain ⟨vs, h1, h2, h3⟩ := h
  rcases (Rd.of_own h2).2 with ⟨_, h0⟩ | ⟨b, off, cap, hv, -, -, hc⟩
  · omega
  · have hr := h3 i ls[i] vs[i] (List.getElem?_eq_getElem hi) (List.getElem?_eq_getElem (by omega))
    obtain ⟨sp, sc, hu⟩ := own_slice hr
    rw [hu] at hr
    refine ⟨b, off, cap, sp, sc, hv, ?_, hr⟩
    rw [hc i vs[i] (List.getElem?_eq_getElem (by omega)), hu]

/-- Such a row of the call's own. -/
structure Tbv (w : World) (base : Nat) (v : Value) (ls : List (List Int)) (vs : List Value) : Prop where
  len : vs.length = ls.length
  row : w.ownsRow base 30 1 v ls.length vs
  inner : ∀ (i : Nat) (x : List Int) (u : Value), ls[i]? = some x → vs[i]? = some u → w.ownsRow 0 5 1 u x.length (bts x)

theorem Tbv.nil (w : World) (base : Nat) : Tbv w base (.slice none 0 0) [] [] := ⟨rfl, World.ownsRow_nil _ _ _ _, fun i x u h => by simp at h⟩
theorem Tbv.tb {w : World} {base : Nat} {v : Value} {ls : List (List Int)} {vs : List Value} (h : Tbv w base v ls vs) : Tb w v ls := ⟨vs, h.len, own_mono h.row (Nat.zero_le _), h.inner⟩
theorem Tbv.below' {w w' : World} {base : Nat} {v : Value} {ls : List (List Int)} {vs : List Value} (h : Tbv w base v ls vs) (hb : Below w.heap.size w w') : Tbv w' base v ls vs :=
  ⟨h.len, own_same h.row hb, fun i x u hx hu => own_same (h.inner i x u hx hu) hb⟩
theorem Tbv.off {w w' : World} {base : Nat} {v : Value} {ls : List (List Int)} {vs : List Value} {T : Nat} {cs : Array Value} {e : TypeId} (h : Tbv w base v ls vs) (hT : w.heap[T]? = some (.cells cs e)) (h30 : 30 ≠ e) (h5 : 5 ≠ e) (hk : Keeps (fun k => k = T) w w') : Tbv w' base v ls vs :=
  ⟨h.len, own_keep h.row hk (fun k a b => own_off h.row hT h30 (by rw [a, b])), fun i x u hx hu => own_keep (h.inner i x u hx hu) hk (fun k a b => own_off (h.inner i x u hx hu) hT h5 (by rw [a, b]))⟩
theorem Tbv.snoc {w w' : World} {base : Nat} {v v' u : Value} {ls : List (List Int)} {vs : List Value} {x : List Int} {o : Obj} (h : Tbv w base v ls vs) (hu : w.ownsRow 0 5 1 u x.length (bts x))
    (hown : w'.ownsRow base 30 1 v' (ls.length + 1) (vs ++ [u])) (hgrow : (w.alloc o).grownBy w' v.ownBlock) : Tbv w' base v' (ls ++ [x]) (vs ++ [u]) := by
  have hk : Keeps (fun k => v.ownBlock = some k) w w' := ((Keeps.refl _ w).alloc o).trans (Keeps.of_grown (X := fun k => v.ownBlock = some k) hgrow (fun _ e => e)) (fun _ e => .inl e)
  have key : ∀ (y : List Int) (s : Value), w.ownsRow 0 5 1 s y.length (bts y) → w'.ownsRow 0 5 1 s y.length (bts y) := fun y s hs => own_keep hs hk (fun k a b => own_apart h.row hs (by decide) k b a)
  refine ⟨by rw [List.length_append, List.length_append, h.len]; rfl, by rw [List.length_append]; exact hown, fun i y s hy hs => ?_⟩
  rw [List.getElem?_append] at hy hs
  rw [h.len] at hs
  split at hy
  · rename_i hi
    rw [if_pos hi] at hs
    exact key y s (h.inner i y s hy hs)
  · rename_i hi
    rw [if_neg hi] at hs
    have e1 : i - ls.length = 0 := by have := (List.getElem?_eq_some_iff.1 hy).1; simp at this; omega
    rw [e1] at hy hs
    simp at hy hs
    subst hy
    subst hs
    exact key _ _ hu

theorem info50 : (Try.prog.info? 30).map (fun i => (i.zero, i.size, i.bytes)) = some (some (.slice none 0 0), 1, 24) := info30
end Go.Proofs.Ytbbjeoepoocofaa
