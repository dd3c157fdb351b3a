import Derived.Test.YtbbjeoepoocofaaD4
namespace Go.Proofs.Ytbbjeoepoocofaa
open Go.RowKit

/-- The slice's own address, length and capacity. -/
theorem Rd.form {w : World} {size : Nat} {v : Value} {n : Nat} {xs : List Value} (h : Rd w size v n xs) :
    ∃ sp sc, v = .slice sp n sc ∧ (0 < xs.length → ∃ ad, sp = some ad ∧ ∀ j u, xs[j]? = some u → w.cell? (ad.add j) = some u) := by
  have hl := h.1
  rcases h.two with ⟨rfl, rfl⟩ | ⟨a, cap, rfl, _, _, hc⟩
  · exact ⟨none, 0, rfl, fun hp => by rw [hl] at hp; omega⟩
  · exact ⟨_, cap, rfl, fun _ => ⟨_, rfl, hc⟩⟩

theorem keep_cell {X : Nat → Prop} {w w' : World} {d : Nat} {ov : Value} (hk : Keeps X w w') (hd : ¬ X d) (h : w.cell? ⟨d, 4, none⟩ = some ov ∧ w.frozen? ⟨d, 4, none⟩ = false) :
    w'.cell? ⟨d, 4, none⟩ = some ov ∧ w'.frozen? ⟨d, 4, none⟩ = false :=
  ⟨hk.cell (a := ⟨d, 4, none⟩) hd h.1, (World.frozen?_of_block (a := ⟨d, 4, none⟩) (hk.block d (World.block_lt_of_cell? w _ h.1) hd)).trans h.2⟩

theorem wcells_snoc (vs : List (Nat × Value)) (i : Nat) (v : Value) : wcells vs ++ [.int .i64 (i : Int), v] = wcells (vs ++ [(i, v)]) := by rw [wcells_append]; rfl

theorem setCell_head {w : World} {d : Nat} {a b c e f g : Value} (h : w.heap[d]? = some (.cells #[a, b, c, e, f] 89 (0, 0))) : (w.setCell ⟨d, 4, none⟩ g).heap[d]? = some (.cells #[a, b, c, e, g] 89 (0, 0)) := by
  rw [heap_setCell_same w d 4 _ _ g h]
  rfl

/-- A write, put together: the bytes went to the row as it is now (w3), the write's own bytes and the row of writes grew (w5), the head holds the new row. -/
theorem write_lies {w w3 w5 : World} {d : Nat} {D : Dk} {M S : Nat → Prop} {fb fc nb nc : Nat} {ov : Value} {vs : List (Nat × Value)} (l : Lies w d D M S fb fc nb nc ov vs) (i : Nat) (hi : i < D.blocks) (xs : List Int) (hx : xs.length ≤ D.size)
    (hlen : D.open_.length + 1 ≤ 1000000)
    (K3 : Keeps (fun k => k = nb) w w3) (hnow : w3.ownsRow 0 5 1 (.slice (some ⟨nb, 0, none⟩) (D.blocks * D.size) nc) (D.blocks * D.size) (bts (over D.now (i * D.size) xs)))
    (K5 : Keeps (fun k => ov.ownBlock = some k) w3 w5) (v : Value) (hv : Rb w5 v xs) (hv1 : v.oneCell' = true) (g cap H : Nat) (hvb : ∀ k, v.ownBlock = some k → w3.heap.size ≤ k ∧ k < H)
    (hown : w5.ownsRow 0 91 2 (.slice (some ⟨g, 0, none⟩) (D.open_.length + 1) cap) (D.open_.length + 1) (wcells vs ++ [.int .i64 (i : Int), v])) (hat : ov.ownBlock = some g ∨ g = H) (hH : w3.heap.size ≤ H) (hg : g < w5.heap.size) :
    ∃ M' S', DiskAt (w5.setCell ⟨d, 4, none⟩ (.slice (some ⟨g, 0, none⟩) (D.open_.length + 1) cap)) d (D.write i xs) M' S' ∧ Keeps M w (w5.setCell ⟨d, 4, none⟩ (.slice (some ⟨g, 0, none⟩) (D.open_.length + 1) cap)) ∧
      (∀ k, M' k → M k ∨ w.heap.size ≤ k) ∧ (∀ k, S' k → S k ∨ w.heap.size ≤ k) := by
  obtain ⟨ad1, ad2, ad3, ad4⟩ := l.apart
  have hM : ∀ k, M k → k < w.heap.size := fun k hk => l.lt k (l.sub k hk)
  have hsz := K3.size
  have hdM := hM d l.md
  have K35 : Keeps (fun k => k = nb ∨ ov.ownBlock = some k) w w5 := (K3.mono (Y := fun k => k = nb ∨ ov.ownBlock = some k) fun _ h => .inl h).trans K5 fun k h => .inl (.inr h)
  have hgc : M g ∨ w.heap.size ≤ g := by
    rcases hat with h | h
    · exact .inl (l.mo g h)
    · exact .inr (by omega)
  have hgd : g ≠ d ∧ g ≠ fb ∧ g ≠ nb := by
    rcases hat with h | h
    · exact ad4 g h
    · have h1 := hM fb l.mf
      have h2 := hM nb l.mn
      exact ⟨by omega, by omega, by omega⟩
  have hset : Keeps (fun k => k = d) w5 (w5.setCell ⟨d, 4, none⟩ (.slice (some ⟨g, 0, none⟩) (D.open_.length + 1) cap)) := Keeps.setCell (X := fun k => k = d) (Keeps.refl _ _) (a := ⟨d, 4, none⟩) (.inl rfl) _
  have KM : Keeps M w (w5.setCell ⟨d, 4, none⟩ (.slice (some ⟨g, 0, none⟩) (D.open_.length + 1) cap)) :=
    (K35.mono fun k h => h.elim (fun e => by rw [e]; exact l.mn) (l.mo k)).trans hset fun k h => .inl (by rw [h]; exact l.md)
  have hsz5 : w5.heap.size = (w5.setCell ⟨d, 4, none⟩ (.slice (some ⟨g, 0, none⟩) (D.open_.length + 1) cap)).heap.size := by simp [World.setCell]
  have K6 : Keeps (fun k => (k = nb ∨ ov.ownBlock = some k) ∨ k = d) w (w5.setCell ⟨d, 4, none⟩ (.slice (some ⟨g, 0, none⟩) (D.open_.length + 1) cap)) :=
    (K35.mono (Y := fun k => (k = nb ∨ ov.ownBlock = some k) ∨ k = d) fun _ h => .inl h).trans hset fun k h => .inl (.inr h)
  have K36 : Keeps (fun k => ov.ownBlock = some k ∨ k = d) w3 (w5.setCell ⟨d, 4, none⟩ (.slice (some ⟨g, 0, none⟩) (D.open_.length + 1) cap)) :=
    (K5.mono (Y := fun k => ov.ownBlock = some k ∨ k = d) fun _ h => .inl h).trans hset fun k h => .inl (.inr h)
  generalize hw6 : w5.setCell ⟨d, 4, none⟩ (.slice (some ⟨g, 0, none⟩) (D.open_.length + 1) cap) = w6 at *
  refine ⟨fun k => M k ∨ k = g, fun k => S k ∨ (v.ownBlock = some k ∧ 0 < xs.length) ∨ k = g, ⟨fb, fc, nb, nc, .slice (some ⟨g, 0, none⟩) (D.open_.length + 1) cap, vs ++ [(i, v)], ?_⟩, KM, ?_, ?_⟩
  · refine { head := ?_, pos := l.pos, firmLen := l.firmLen, nowLen := ?_, firm := ?_, now := ?_, openLen := ?_, vsLen := ?_, openRow := ?_, inner := ?_, md := .inl l.md, mf := .inl l.mf, mn := .inl l.mn, mo := ?_, apart := ?_, sub := ?_, lt := ?_ }
    · have h5 : w5.heap[d]? = _ := (K35.block d hdM (fun h => h.elim ad2 (fun h => (ad4 d h).1 rfl))).trans l.head
      rw [← hw6]
      exact setCell_head h5
    · have := size_facts l.pos.2.1 l.pos.2.2.2 hi
      show (over D.now (i * D.size) xs).length = _
      rw [over_length (by rw [l.nowLen]; omega)]
      exact l.nowLen
    · exact own_keep l.firm K6 fun k e => by
        obtain rfl : fb = k := by simpa [Value.ownBlock] using e
        rintro ((h | h) | h)
        · exact ad3 h
        · exact (ad4 _ h).2.1 rfl
        · exact ad1 h.symm
    · exact own_keep hnow K36 fun k e => by
        obtain rfl : nb = k := by simpa [Value.ownBlock] using e
        rintro (h | h)
        · exact (ad4 _ h).2.2 rfl
        · exact ad2 h.symm
    · simp [Dk.write]; omega
    · simp [Dk.write, l.vsLen]
    · have := own_keep hown hset (fun k e => by
        obtain rfl : g = k := by simpa [Value.ownBlock] using e
        exact hgd.1)
      rw [wcells_snoc] at this
      simpa [Dk.write] using this
    · intro j x y hjx hjy
      have hl := l.vsLen
      simp only [Dk.write] at hjy
      rw [List.getElem?_append] at hjx hjy
      by_cases hj : j < vs.length
      · rw [if_pos hj] at hjx
        rw [if_pos (by omega)] at hjy
        obtain ⟨f1, f2, f3, f4, f5, f6⟩ := l.inner j x y hjx hjy
        refine ⟨f1, f2, f3, f4.keep K6 (fun k h1 h2 => ?_), fun k h1 h2 => ⟨.inl (f5 k h1 h2).1, ?_⟩, f6⟩
        · have := f5 k h1 h2
          rintro ((h | h) | h)
          · exact this.2 (by rw [h]; exact l.mn)
          · exact this.2 (l.mo k h)
          · exact this.2 (by rw [h]; exact l.md)
        · have h3 := f5 k h1 h2
          have h4 := l.lt k h3.1
          rintro (h | h)
          · exact h3.2 h
          · rcases hat with h5 | h5
            · exact h3.2 (by rw [h]; exact l.mo g h5)
            · omega
      · rw [if_neg hj] at hjx
        rw [if_neg (by omega)] at hjy
        have h0 : j - vs.length = 0 := by
          have := (List.getElem?_eq_some_iff.1 hjx).1
          simp at this
          omega
        rw [h0] at hjx
        rw [← hl, h0] at hjy
        simp only [List.getElem?_cons_zero, Option.some.injEq] at hjx hjy
        subst hjx
        subst hjy
        refine ⟨rfl, hi, hx, hv.keep hset (fun k h1 h2 => ?_), fun k h1 h2 => ⟨.inr (.inl ⟨h1, h2⟩), ?_⟩, hv1⟩
        · have := (hvb k h1).1
          intro h
          omega
        · have h3 := hvb k h1
          rintro (h | h)
          · have := hM k h
            omega
          · rcases hat with h5 | h5
            · have := hM g (l.mo g h5)
              omega
            · omega
    · intro k e
      obtain rfl : g = k := by simpa [Value.ownBlock] using e
      exact .inr rfl
    · refine ⟨ad1, ad2, ad3, fun k e => ?_⟩
      obtain rfl : g = k := by simpa [Value.ownBlock] using e
      exact hgd
    · rintro k (h | h)
      · exact .inl (l.sub k h)
      · exact .inr (.inr h)
    · rintro k (h | ⟨h, h'⟩ | h)
      · exact Nat.lt_of_lt_of_le (l.lt k h) KM.size
      · rw [← hsz5]
        exact hv.lt (by omega) k h h'
      · rw [h, ← hsz5]; exact hg
  · rintro k (h | h)
    · exact .inl h
    · rw [h]; exact hgc
  · rintro k (h | ⟨h, h'⟩ | h)
    · exact .inl h
    · have := (hvb k h).1
      exact .inr (by omega)
    · rw [h]
      exact hgc.imp (l.sub g) id

theorem info5s : (Try.prog.info? 5).map (·.size) = some 1 := by kernel_rfl

/-- Behind a write that was taken. -/
def Wrote (d : Nat) (D : Dk) (M S : Nat → Prop) (w : World) (e : Ending) (w' : World) : Prop :=
  e = .returned (.int .i64 0) ∧ ∃ M' S', DiskAt w' d D M' S' ∧ Keeps M w w' ∧ (∀ k, M' k → M k ∨ w.heap.size ≤ k) ∧ (∀ k, S' k → S k ∨ w.heap.size ≤ k)

end Go.Proofs.Ytbbjeoepoocofaa
