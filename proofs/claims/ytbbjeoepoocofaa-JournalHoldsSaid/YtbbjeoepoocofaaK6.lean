/- What the walk of DiskCrashes carries. -/
import Derived.Test.YtbbjeoepoocofaaK5
namespace Go.Proofs.Ytbbjeoepoocofaa
open Go.RowKit

theorem info68 : (Try.prog.info? 68).map (fun i => (i.zero, i.size, i.bytes)) = some (some (.agg #[.int .i64 0, .slice none 0 0]), 2, 32) := by kernel_rfl

/-- A disk whose bytes are as many as it says, and whose open writes fit it. -/
structure Fit (D : Dk) : Prop where
  firm : D.firm.length = D.blocks * D.size
  now : D.now.length = D.blocks * D.size
  opn : fits D.blocks D.size D.open_
theorem Fit.op {D : Dk} (h : Fit D) (o : Opv) : Fit (D.op o) := by
  unfold Dk.op
  split
  · exact ⟨h.now, h.now, fun x hx => by simp [Dk.sync] at hx⟩
  · unfold Dk.put
    split
    · rename_i he
      rw [err_zero] at he
      obtain ⟨e1, e2, e3⟩ := he
      have hb : o.block.toNat < D.blocks := by omega
      have hlen : o.block.toNat * D.size + o.b.length ≤ D.now.length := by rw [h.now]; exact fit_end (x := (o.block.toNat, ([] : List Int))) hb _ e3
      refine ⟨h.firm, ?_, fun x hx => ?_⟩
      · show (over D.now (o.block.toNat * D.size) o.b).length = _
        rw [over_length hlen]; exact h.now
      · simp only [Dk.write, List.mem_append, List.mem_singleton] at hx
        rcases hx with hx | rfl
        · exact h.opn x hx
        · exact ⟨hb, e3⟩
    · exact h
theorem Fit.new (b s : Nat) : Fit (newDk b s) := ⟨by simp [newDk], by simp [newDk], fun x hx => by simp [newDk] at hx⟩
theorem Fit.runs {D : Dk} (h : Fit D) (l : List Opv) : Fit (D.runs l) := by
  unfold Dk.runs
  induction l generalizing D with
  | nil => exact h
  | cons o l ih => exact ih (h.op o)

theorem blks_small {n size : Nat} {L : List Int} (h : size ≤ 100000) : ∀ x ∈ blks n size L, x.length ≤ 100000 := by
  intro x hx
  unfold blks at hx
  rw [List.mem_map] at hx
  obtain ⟨i, -, rfl⟩ := hx
  rw [List.length_take]
  omega
theorem blks_all {n size : Nat} {L : List Int} (h : L.length = n * size) : ∀ x ∈ blks n size L, x.length = size := by
  intro x hx
  unfold blks at hx
  rw [List.mem_map] at hx
  obtain ⟨i, hi, rfl⟩ := hx
  rw [List.mem_range] at hi
  exact part_length h hi
theorem blks_zero (n size : Nat) : blks n size (newDk n size).firm = List.replicate n (List.replicate size 0) := by
  refine list_ext (d := []) (by rw [blks_length, List.length_replicate]) fun i hi => ?_
  rw [blks_length] at hi
  rw [blks_getD hi]
  have h1 : (List.replicate n (List.replicate size (0 : Int))).getD i [] = List.replicate size 0 := by simp [List.getD, hi]
  have hf : (newDk n size).firm.length = n * size := (Fit.new n size).firm
  rw [h1]
  refine list_ext (d := 0) (by rw [part_length hf hi, List.length_replicate]) fun k hk => ?_
  rw [part_length hf hi] at hk
  rw [part_getD hk]
  simp only [newDk, List.getD, List.getElem?_replicate]
  split <;> simp

/-- The blocks as they are read. -/
theorem now_blks {D : Dk} (h : Fit D) (hw : D.whole) : behR (blks D.blocks D.size D.firm) D.open_ (List.replicate D.open_.length (-1)) D.open_.length = blks D.blocks D.size D.now := by
  have h1 := (beh_blks (A := D.open_) (List.replicate D.open_.length (-1)) h.firm h.opn (fun i hi => by rw [List.length_replicate] at hi; simp [List.getD, hi]) D.open_.length (Nat.le_refl _)).1
  rw [h1, tornTo_all]
  congr 1
  exact crash_ones hw
/-- The blocks behind a crash. -/
theorem crash_blks {D : Dk} (h : Fit D) (fs : List Int) (hg : ∀ i, i < fs.length → -1 ≤ fs.getD i 0) : behR (blks D.blocks D.size D.firm) D.open_ fs D.open_.length = blks D.blocks D.size (D.crash fs).now := by
  have h1 := (beh_blks (A := D.open_) fs h.firm h.opn hg D.open_.length (Nat.le_refl _)).1
  rw [h1, tornTo_all]
  rfl

/-- A row of writes of the call's own, whose bytes lie under a height. -/
structure Wv (w : World) (B base : Nat) (v : Value) (A : List (Nat × List Int)) (vs : List (Nat × Value)) : Prop where
  len : vs.length = A.length
  row : w.ownsRow base 68 2 v A.length (wcells vs)
  inner : ∀ (i : Nat) (x : Nat × Value) (y : Nat × List Int), vs[i]? = some x → A[i]? = some y → x.1 = y.1 ∧ Rb w x.2 y.2 ∧ ∀ k, x.2.ownBlock = some k → 0 < y.2.length → k < B
theorem Wv.wb {w : World} {B base : Nat} {v : Value} {A : List (Nat × List Int)} {vs : List (Nat × Value)} (h : Wv w B base v A vs) : Wb w v A :=
  ⟨vs, h.len, Rd.of_own h.row, fun i x y hx hy => ⟨(h.inner i x y hx hy).1, (h.inner i x y hx hy).2.1⟩⟩
theorem Wv.nil (w : World) (B base : Nat) : Wv w B base (.slice none 0 0) [] [] := ⟨rfl, World.ownsRow_nil _ _ _ _, fun i x y h => by simp at h⟩
theorem Wv.keep {X : Nat → Prop} {w w' : World} {B base : Nat} {v : Value} {A : List (Nat × List Int)} {vs : List (Nat × Value)} (h : Wv w B base v A vs) (hk : Keeps X w w') (hX : ∀ k, X k → B ≤ k) (hv : ∀ k, v.ownBlock = some k → ¬ X k) : Wv w' B base v A vs :=
  ⟨h.len, own_keep h.row hk hv, fun i x y hx hy => ⟨(h.inner i x y hx hy).1, (h.inner i x y hx hy).2.1.keep hk (fun k a b c => by have := (h.inner i x y hx hy).2.2 k a b; have := hX k c; omega), (h.inner i x y hx hy).2.2⟩⟩
theorem Wv.snoc {w w' : World} {B base : Nat} {v v' : Value} {A : List (Nat × List Int)} {vs : List (Nat × Value)} {b : Nat} {u : Value} {xs : List Int} {o : Obj} (h : Wv w B base v A vs) (hB : B ≤ base) (hu : Rb w u xs) (hub : ∀ k, u.ownBlock = some k → 0 < xs.length → k < B)
    (hown : w'.ownsRow base 68 2 v' (A.length + 1) (wcells vs ++ [.int .i64 b, u])) (hgrow : (w.alloc o).grownBy w' v.ownBlock) : Wv w' B base v' (A ++ [(b, xs)]) (vs ++ [(b, u)]) := by
  have hk : Keeps (fun k => v.ownBlock = some k) w w' := ((Keeps.refl _ w).alloc o).trans (Keeps.of_grown (X := fun k => v.ownBlock = some k) hgrow (fun _ e => e)) (fun _ e => .inl e)
  have key : ∀ (y : List Int) (s : Value), Rb w s y → (∀ k, s.ownBlock = some k → 0 < y.length → k < B) → Rb w' s y := fun y s hs hn => hs.keep hk (fun k a b c => by have := hn k a b; have := (own_lt h.row k c).1; omega)
  refine ⟨by rw [List.length_append, List.length_append, h.len]; rfl, by rw [List.length_append, wcells_append]; exact hown, fun i x y hx hy => ?_⟩
  rw [List.getElem?_append] at hx hy
  rw [h.len] at hx
  split at hy
  · rename_i hi
    rw [if_pos hi] at hx
    obtain ⟨a, b, c⟩ := h.inner i x y hx hy
    exact ⟨a, key _ _ b c, c⟩
  · rename_i hi
    rw [if_neg hi] at hx
    have e1 : i - A.length = 0 := by have := (List.getElem?_eq_some_iff.1 hy).1; simp at this; omega
    rw [e1] at hx hy
    simp at hx hy
    subst hx
    subst hy
    exact ⟨rfl, key _ _ hu hub, hub⟩

/-- An append to another row. -/
theorem Tb.apart {w w' : World} {v rv : Value} {ls : List (List Int)} {base size n : Nat} {e : TypeId} {xs : List Value} (h : Tb w v ls) (hr : w.ownsRow base e size rv n xs) (h30 : 30 ≠ e) (h5 : 5 ≠ e) (hk : Keeps (fun k => rv.ownBlock = some k) w w') : Tb w' v ls := by
  obtain ⟨vs, h1, h2, h3⟩ := h
  exact ⟨vs, h1, own_keep h2 hk (fun k a b => own_apart h2 hr h30 k a b), fun i x u hx hu => own_keep (h3 i x u hx hu) hk (fun k a b => own_apart (h3 i x u hx hu) hr h5 k a b)⟩

theorem RefNew_ok (w : World) (a b : Int) (h0 : 0 ≤ a) (h1 : a ≤ 1000) (h2 : 0 ≤ b) (h3 : b ≤ 5000) :
    Calls Try.prog 35 #[.int .i64 a, .int .i64 b] w fun e w' => (∃ v', e = .returned (.agg #[v', .slice none 0 0]) ∧ Tb w' v' (List.replicate a.toNat (List.replicate b.toNat 0))) ∧ Below w.heap.size w w' := by
  obtain ⟨m, rfl⟩ : ∃ m : Nat, a = m := ⟨a.toNat, by omega⟩
  obtain ⟨n, rfl⟩ : ∃ n : Nat, b = n := ⟨b.toNat, by omega⟩
  exact RefNew_any w m n (by omega) (by omega)
end Go.Proofs.Ytbbjeoepoocofaa
