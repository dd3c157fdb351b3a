import Derived.Test.YtbbjeoepoocofaaD7
namespace Go.Proofs.Ytbbjeoepoocofaa
open Go.RowKit

/-- The cells of a disk's head, said of a world that is a letter. -/
theorem keep5 {X : Nat → Prop} {w w' : World} {d : Nat} {v0 v1 v2 v3 v4 : Value} (hk : Keeps X w w') (hd : ¬ X d)
    (h : w.cell? ⟨d, 0, none⟩ = some v0 ∧ w.cell? ⟨d, 1, none⟩ = some v1 ∧ w.cell? ⟨d, 2, none⟩ = some v2 ∧ w.cell? ⟨d, 3, none⟩ = some v3 ∧ w.cell? ⟨d, 4, none⟩ = some v4) :
    w'.cell? ⟨d, 0, none⟩ = some v0 ∧ w'.cell? ⟨d, 1, none⟩ = some v1 ∧ w'.cell? ⟨d, 2, none⟩ = some v2 ∧ w'.cell? ⟨d, 3, none⟩ = some v3 ∧ w'.cell? ⟨d, 4, none⟩ = some v4 :=
  ⟨hk.cell (a := ⟨d, 0, none⟩) hd h.1, hk.cell (a := ⟨d, 1, none⟩) hd h.2.1, hk.cell (a := ⟨d, 2, none⟩) hd h.2.2.1, hk.cell (a := ⟨d, 3, none⟩) hd h.2.2.2.1, hk.cell (a := ⟨d, 4, none⟩) hd h.2.2.2.2⟩

/-- A disk in new memory. -/
def Twin (D : Dk) (M S : Nat → Prop) (w : World) (e : Ending) (w' : World) : Prop :=
  ∃ d M' S', e = .returned (.pointer (some ⟨d, 0, none⟩)) ∧ DiskAt w' d D M' S' ∧ (∀ k, M' k → w.heap.size ≤ k) ∧ (∀ k, S' k → (S k ∧ ¬ M k) ∨ w.heap.size ≤ k) ∧ Below w.heap.size w w'

/-- A disk put together of three rows of its own, the inner bytes shared. -/
theorem twin_lies {w w6 : World} {d : Nat} {D : Dk} {M S : Nat → Prop} {fb fc nb nc : Nat} {ov : Value} {vs : List (Nat × Value)} (l : Lies w d D M S fb fc nb nc ov vs)
    (K : Keeps (fun _ => False) w w6) (g1 c1 g2 c2 : Nat) (v3 : Value) (h1 : w6.ownsRow w.heap.size 5 1 (.slice (some ⟨g1, 0, none⟩) (D.blocks * D.size) c1) (D.blocks * D.size) (bts D.firm))
    (h2 : w6.ownsRow w.heap.size 5 1 (.slice (some ⟨g2, 0, none⟩) (D.blocks * D.size) c2) (D.blocks * D.size) (bts D.now)) (h3 : w6.ownsRow w.heap.size 91 2 v3 D.open_.length (wcells vs))
    (h12 : g1 ≠ g2) (h13 : ∀ k, v3.ownBlock = some k → k ≠ g1 ∧ k ≠ g2) :
    ∃ M' S', DiskAt (w6.alloc (.cells #[.int .i64 D.blocks, .int .i64 D.size, .slice (some ⟨g1, 0, none⟩) (D.blocks * D.size) c1, .slice (some ⟨g2, 0, none⟩) (D.blocks * D.size) c2, v3] 89)) w6.heap.size D M' S' ∧
      (∀ k, M' k → w.heap.size ≤ k) ∧ (∀ k, S' k → (S k ∧ ¬ M k) ∨ w.heap.size ≤ k) := by
  have a1 := own_lt h1 g1 rfl
  have a2 := own_lt h2 g2 rfl
  have a3 := own_lt h3
  have hsz := K.size
  have KA : Keeps (fun _ => False) w6 (w6.alloc (.cells #[.int .i64 D.blocks, .int .i64 D.size, .slice (some ⟨g1, 0, none⟩) (D.blocks * D.size) c1, .slice (some ⟨g2, 0, none⟩) (D.blocks * D.size) c2, v3] 89)) := (Keeps.refl _ _).alloc _
  have KW := K.trans KA (fun _ f => f.elim)
  have hh := heap_alloc_new w6 (.cells #[.int .i64 D.blocks, .int .i64 D.size, .slice (some ⟨g1, 0, none⟩) (D.blocks * D.size) c1, .slice (some ⟨g2, 0, none⟩) (D.blocks * D.size) c2, v3] 89)
  have hs7 : (w6.alloc (.cells #[.int .i64 D.blocks, .int .i64 D.size, .slice (some ⟨g1, 0, none⟩) (D.blocks * D.size) c1, .slice (some ⟨g2, 0, none⟩) (D.blocks * D.size) c2, v3] 89)).heap.size = w6.heap.size + 1 := by simp
  generalize w6.alloc (.cells #[.int .i64 D.blocks, .int .i64 D.size, .slice (some ⟨g1, 0, none⟩) (D.blocks * D.size) c1, .slice (some ⟨g2, 0, none⟩) (D.blocks * D.size) c2, v3] 89) = w7 at *
  refine ⟨fun k => k = w6.heap.size ∨ k = g1 ∨ k = g2 ∨ v3.ownBlock = some k, fun k => (k = w6.heap.size ∨ k = g1 ∨ k = g2 ∨ v3.ownBlock = some k) ∨ (S k ∧ ¬ M k), ⟨g1, c1, g2, c2, v3, vs, ?_⟩, ?_, ?_⟩
  · refine { head := hh, pos := l.pos, firmLen := l.firmLen, nowLen := l.nowLen, firm := ?_, now := ?_, openLen := l.openLen, vsLen := l.vsLen, openRow := ?_, inner := ?_, md := .inl rfl, mf := .inr (.inl rfl), mn := .inr (.inr (.inl rfl)), mo := fun k h => .inr (.inr (.inr h)), apart := ?_, sub := fun k h => .inl h, lt := ?_ }
    · exact own_mono (own_keep h1 KA fun _ _ f => f) (Nat.zero_le _)
    · exact own_mono (own_keep h2 KA fun _ _ f => f) (Nat.zero_le _)
    · exact own_mono (own_keep h3 KA fun _ _ f => f) (Nat.zero_le _)
    · intro i x y hx hy
      obtain ⟨f1, f2, f3, f4, f5, f6⟩ := l.inner i x y hx hy
      refine ⟨f1, f2, f3, f4.keep KW (fun _ _ _ f => f), fun k e1 e2 => ⟨.inr (f5 k e1 e2), ?_⟩, f6⟩
      have := l.lt k (f5 k e1 e2).1
      rintro (h | h | h | h)
      · omega
      · omega
      · omega
      · have := (a3 k h).1; omega
    · exact ⟨by omega, by omega, h12, fun k e => ⟨by have := (a3 k e).2; omega, (h13 k e).1, (h13 k e).2⟩⟩
    · rintro k ((h | h | h | h) | h)
      · omega
      · omega
      · omega
      · have := (a3 k h).2; omega
      · have := l.lt k h.1; omega
  · rintro k (h | h | h | h)
    · omega
    · omega
    · omega
    · exact (a3 k h).1
  · rintro k ((h | h | h | h) | h)
    · exact .inr (by omega)
    · exact .inr (by omega)
    · exact .inr (by omega)
    · exact .inr (a3 k h).1
    · exact .inl h

theorem Copy_nil (w : World) : Calls Try.prog 32 #[.pointer none] w fun e w' => e = .returned (.pointer none) ∧ w = w' := by
  go_enter Try.func32, Try.ntmps32
  go_wp2_with fail
  go_ret
  exact ⟨rfl, rfl⟩

set_option maxRecDepth 100000 in
set_option maxHeartbeats 1000000 in
theorem Copy_yes (w : World) (d : Nat) (D : Dk) (M S : Nat → Prop) (h : DiskAt w d D M S) :
    Calls Try.prog 32 #[.pointer (some ⟨d, 0, none⟩)] w (Twin D M S w) := by
  obtain ⟨fb, fc, nb, nc, ov, vs, l⟩ := h
  obtain ⟨oa, oc, rfl⟩ := own_slice l.openRow
  obtain ⟨c0, c1, c2, c3, c4⟩ := l.cells
  have hd := l.lt d (l.sub d l.md)
  obtain ⟨p1, p2, p3, p4⟩ := l.pos
  obtain ⟨-, s2, -⟩ := size_facts (i := 0) p2 p4 (by omega)
  have hpos : 0 < D.blocks * D.size := Nat.mul_pos p1 p3
  have hol := l.openLen
  have LL := Lib.hid l
  clear l
  obtain ⟨N, hN⟩ : ∃ N, N = D.blocks * D.size := ⟨_, rfl⟩
  rw [← hN] at c2 c3 s2 hpos
  have HN := Lib.hid hN
  clear hN
  have HF : Hid (Rd w 1 (.slice (some ⟨fb, 0, none⟩) N fc) N (bts D.firm)) := by unfold Hid; rw [HN.out]; exact Rd.of_own LL.out.firm
  have HW : Hid (Rd w 1 (.slice (some ⟨nb, 0, none⟩) N nc) N (bts D.now)) := by unfold Hid; rw [HN.out]; exact Rd.of_own LL.out.now
  have HO : Hid (Rd w 2 (.slice oa D.open_.length oc) D.open_.length (wcells vs)) := Rd.of_own LL.out.openRow
  have HONE : Hid (∀ u ∈ wcells vs, u.oneCell' = true) := wcells_one fun x hx => by
    obtain ⟨i, hi⟩ := List.getElem?_of_mem hx
    have hlt : i < D.open_.length := by rw [← LL.out.vsLen]; exact (List.getElem?_eq_some_iff.1 hi).1
    exact (LL.out.inner i x _ hi (List.getElem?_eq_getElem hlt)).2.2.2.2.2
  go_enter Try.func32, Try.ntmps32
  go_wp2_with fail
  go_region_held3 (fun w' => w'.cell? ⟨d, 0, none⟩ = some (.int .i64 D.blocks) ∧ w'.cell? ⟨d, 1, none⟩ = some (.int .i64 D.size) ∧ w'.cell? ⟨d, 2, none⟩ = some (.slice (some ⟨fb, 0, none⟩) N fc) ∧ w'.cell? ⟨d, 3, none⟩ = some (.slice (some ⟨nb, 0, none⟩) N nc) ∧ w'.cell? ⟨d, 4, none⟩ = some (.slice oa D.open_.length oc))
    (first
      | assumption
      | exact ⟨by assumption, by assumption, by assumption, by assumption, by assumption⟩
      | exact keep5 (Keeps.of_below (X := fun _ => False) b6) (fun f => f.elim) (by first | assumption | exact ⟨by assumption, by assumption, by assumption, by assumption, by assumption⟩)
      | exact keep5 (Keeps.of_below (X := fun _ => False) b5) (fun f => f.elim) (by first | assumption | exact ⟨by assumption, by assumption, by assumption, by assumption, by assumption⟩)
      | exact keep5 (Keeps.of_below (X := fun _ => False) b4) (fun f => f.elim) (by first | assumption | exact ⟨by assumption, by assumption, by assumption, by assumption, by assumption⟩)
      | exact keep5 (Keeps.alloc (Keeps.refl (fun _ => False) _) _) (fun f => f.elim) (by first | assumption | exact ⟨by assumption, by assumption, by assumption, by assumption, by assumption⟩)
      | fail)
    (first
      | (go_at_call 58; refine (clone_writes _ _ _ _ (HO.out.keep k5 (fun _ _ _ f => f)) HONE.out (by omega)).mono ?_; rintro e w6 ⟨v3, rfl, hown6, b6, -⟩; obtain ⟨va3, vc3, rfl⟩ := own_slice hown6)
      | (go_at_call 50; refine (clone_bytes _ _ _ _ (HW.out.keep k4 (fun _ _ _ f => f)) bts_one (by omega)).mono ?_; rintro e w5 ⟨v2, rfl, hown5, b5, -⟩; obtain ⟨va2, vc2, rfl⟩ := own_slice hown5; have k5 : Keeps (fun _ => False) w w5 := k4.trans (Keeps.of_below b5) (fun _ f => .inl f))
      | (go_at_call 50; refine (clone_bytes _ _ _ _ (HF.out.keep ((Keeps.refl (fun _ => False) _).drew) (fun _ _ _ f => f)) bts_one (by omega)).mono ?_; rintro e w4 ⟨v1, rfl, hown4, b4, -⟩; obtain ⟨va1, vc1, rfl⟩ := own_slice hown4; have k4 : Keeps (fun _ => False) w w4 := (Keeps.refl (fun _ => False) w).drew.trans (Keeps.of_below b4) (fun _ f => .inl f))
      | fail)
  go_wp2_with fail
  go_ret
  obtain ⟨g1, q1, e1, g1a, g1b⟩ := hown4.form hpos
  obtain ⟨g2, q2, e2, g2a, g2b⟩ := hown5.form hpos
  simp only [Value.slice.injEq, true_and] at e1 e2
  obtain ⟨rfl, rfl⟩ := e1
  obtain ⟨rfl, rfl⟩ := e2
  have z4 : w.heap.size ≤ w4.heap.size := k4.size
  have z5 := b5.size
  have z6 := b6.size
  have k6 : Keeps (fun _ => False) w w6 := k5.trans (Keeps.of_below (X := fun _ => False) b6) (fun _ f => f.elim)
  have k46 : Keeps (fun _ => False) w4 w6 := (Keeps.of_below (X := fun _ => False) b5).trans (Keeps.of_below (X := fun _ => False) b6) (fun _ f => f.elim)
  have o1 : w6.ownsRow w.heap.size 5 1 (.slice (some ⟨g1, 0, none⟩) (D.blocks * D.size) vc1) (D.blocks * D.size) (bts D.firm) := by
    rw [← HN.out]; exact own_keep hown4 k46 (fun _ _ f => f)
  have o2 : w6.ownsRow w.heap.size 5 1 (.slice (some ⟨g2, 0, none⟩) (D.blocks * D.size) vc2) (D.blocks * D.size) (bts D.now) := by
    rw [← HN.out]; exact own_mono (own_keep hown5 (Keeps.of_below (X := fun _ => False) b6) (fun _ _ f => f)) z4
  have o3 : w6.ownsRow w.heap.size 91 2 (.slice va3 D.open_.length vc3) D.open_.length (wcells vs) := own_mono hown6 (by omega)
  obtain ⟨M', S', hD, hM, hS⟩ := twin_lies LL.out k6 g1 vc1 g2 vc2 (.slice va3 D.open_.length vc3) o1 o2 o3 (by omega) (fun k e => by have := own_lt hown6 k e; omega)
  refine ⟨_, M', S', rfl, ?_, hM, hS, ?_⟩
  · rw [HN.out]; exact hD
  · exact (k6.alloc _).below (Nat.le_refl _) (fun _ f => f.elim)
end Go.Proofs.Ytbbjeoepoocofaa
