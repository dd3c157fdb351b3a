import Derived.Test.YtbbjeoepoocofaaD6
namespace Go.Proofs.Ytbbjeoepoocofaa
open Go.RowKit

theorem Write_nil (w : World) (i : Int) (bv : Value) :
    Calls Try.prog 22 #[.pointer none, .int .i64 i, bv] w fun e w' => e = .returned (.int .i64 2) ∧ w = w' := by
  go_enter Try.func22, Try.ntmps22
  go_wp2_with fail
  go_ret
  exact ⟨rfl, rfl⟩
theorem Write_neg (w : World) (d : Nat) (i : Int) (hi : i < 0) (bv : Value) :
    Calls Try.prog 22 #[.pointer (some ⟨d, 0, none⟩), .int .i64 i, bv] w fun e w' => e = .returned (.int .i64 10) ∧ Below w.heap.size w w' := by
  go_enter Try.func22, Try.ntmps22
  go_wp2_with fail
  go_ret
  exact ⟨rfl, Below.refl _ _⟩
theorem Write_full (w : World) (d : Nat) (D : Dk) (M S : Nat → Prop) (i : Int) (h0 : 0 ≤ i) (hi : D.blocks ≤ i) (bv : Value) (h : DiskAt w d D M S) :
    Calls Try.prog 22 #[.pointer (some ⟨d, 0, none⟩), .int .i64 i, bv] w fun e w' => e = .returned (.int .i64 21) ∧ Below w.heap.size w w' := by
  obtain ⟨fb, fc, nb, nc, ov, vs, l⟩ := h
  obtain ⟨c0, c1, -, -, -⟩ := l.cells
  have hhas : decide (0 ≤ i ∧ i < (D.blocks : Int)) = false := by simp; omega
  clear l
  go_enter Try.func22, Try.ntmps22
  go_wp2_with fail
  refine (has_any _ _ _ _).mono ?_; rintro e w1 ⟨rfl, b1⟩
  rw [hhas]
  go_wp2_with fail
  go_ret
  exact ⟨rfl, b1⟩
theorem Write_arg (w : World) (d : Nat) (D : Dk) (M S : Nat → Prop) (i : Int) (h0 : 0 ≤ i) (hi : i < D.blocks) (sp : Option Addr) (n sc : Nat) (hn : D.size < n) (h : DiskAt w d D M S) :
    Calls Try.prog 22 #[.pointer (some ⟨d, 0, none⟩), .int .i64 i, .slice sp n sc] w fun e w' => e = .returned (.int .i64 1) ∧ Below w.heap.size w w' := by
  obtain ⟨fb, fc, nb, nc, ov, vs, l⟩ := h
  obtain ⟨c0, c1, -, -, -⟩ := l.cells
  have hhas : decide (0 ≤ i ∧ i < (D.blocks : Int)) = true := by simp; omega
  have hd := l.lt d (l.sub d l.md)
  clear l
  go_enter Try.func22, Try.ntmps22
  go_wp2_with fail
  refine (has_any _ _ _ _).mono ?_; rintro e w1 ⟨rfl, b1⟩
  rw [hhas]
  have k1 : w1.cell? ⟨d, 1, none⟩ = some (.int .i64 D.size) := (b1.cell (p := ⟨d, 1, none⟩) hd).trans c1
  go_wp2_with fail
  go_ret
  exact ⟨rfl, b1⟩

/-- A disk behind a Sync. -/
def Dk.sync (D : Dk) : Dk := { D with firm := D.now, open_ := [] }

theorem Sync_nil (w : World) : Calls Try.prog 33 #[.pointer none] w fun e w' => e = .returned (.int .i64 2) ∧ w = w' := by
  go_enter Try.func33, Try.ntmps33
  go_wp2_with fail
  go_ret
  exact ⟨rfl, rfl⟩

theorem setCell_head2 {w : World} {d : Nat} {a b c e f g : Value} (h : w.heap[d]? = some (.cells #[a, b, c, e, f] 89 (0, 0))) : (w.setCell ⟨d, 2, none⟩ g).heap[d]? = some (.cells #[a, b, g, e, f] 89 (0, 0)) := by
  rw [heap_setCell_same w d 2 _ _ g h]
  rfl

/-- A Sync, put together. -/
theorem sync_lies {w w4 : World} {d : Nat} {D : Dk} {M S : Nat → Prop} {fb fc nb nc : Nat} {ov : Value} {vs : List (Nat × Value)} (l : Lies w d D M S fb fc nb nc ov vs)
    (b4 : Below w.heap.size w w4) (v : Value) (hown : w4.ownsRow w.heap.size 5 1 v (D.blocks * D.size) (bts D.now)) :
    ∃ M' S', DiskAt ((w4.setCell ⟨d, 2, none⟩ v).setCell ⟨d, 4, none⟩ (.slice none 0 0)) d D.sync M' S' ∧ Keeps M w ((w4.setCell ⟨d, 2, none⟩ v).setCell ⟨d, 4, none⟩ (.slice none 0 0)) ∧
      (∀ k, M' k → M k ∨ w.heap.size ≤ k) ∧ (∀ k, S' k → S k ∨ w.heap.size ≤ k) := by
  obtain ⟨ad1, ad2, ad3, ad4⟩ := l.apart
  obtain ⟨p1, p2, p3, p4⟩ := l.pos
  have hpos : 0 < D.blocks * D.size := Nat.mul_pos p1 p3
  obtain ⟨g, vc, rfl, hg1, hg2⟩ := hown.form hpos
  have hM : ∀ k, M k → k < w.heap.size := fun k hk => l.lt k (l.sub k hk)
  have hdM := hM d l.md
  have hnM := hM nb l.mn
  have K : Keeps (fun k => k = d) w ((w4.setCell ⟨d, 2, none⟩ (.slice (some ⟨g, 0, none⟩) (D.blocks * D.size) vc)).setCell ⟨d, 4, none⟩ (.slice none 0 0)) :=
    Keeps.setCell (Keeps.setCell (Keeps.of_below b4) (a := ⟨d, 2, none⟩) (by exact .inl rfl) _) (a := ⟨d, 4, none⟩) (by exact .inl rfl) _
  have K4 : Keeps (fun k => k = d) w4 ((w4.setCell ⟨d, 2, none⟩ (.slice (some ⟨g, 0, none⟩) (D.blocks * D.size) vc)).setCell ⟨d, 4, none⟩ (.slice none 0 0)) :=
    Keeps.setCell (Keeps.setCell (Keeps.refl _ _) (a := ⟨d, 2, none⟩) (by exact .inl rfl) _) (a := ⟨d, 4, none⟩) (by exact .inl rfl) _
  have hh : ((w4.setCell ⟨d, 2, none⟩ (.slice (some ⟨g, 0, none⟩) (D.blocks * D.size) vc)).setCell ⟨d, 4, none⟩ (.slice none 0 0)).heap[d]? = some (.cells #[.int .i64 D.blocks, .int .i64 D.size, .slice (some ⟨g, 0, none⟩) (D.blocks * D.size) vc, .slice (some ⟨nb, 0, none⟩) (D.blocks * D.size) nc, .slice none 0 0] 89 (0, 0)) :=
    setCell_head (setCell_head2 ((b4.block d hdM).trans l.head))
  generalize (w4.setCell ⟨d, 2, none⟩ (.slice (some ⟨g, 0, none⟩) (D.blocks * D.size) vc)).setCell ⟨d, 4, none⟩ (.slice none 0 0) = w6 at *
  refine ⟨fun k => M k ∨ k = g, fun k => S k ∨ k = g, ⟨g, vc, nb, nc, .slice none 0 0, [], ?_⟩, K.mono fun k h => by rw [h]; exact l.md, ?_, ?_⟩
  · refine { head := hh, pos := l.pos, firmLen := l.nowLen, nowLen := l.nowLen, firm := ?_, now := ?_, openLen := by simp [Dk.sync], vsLen := rfl, openRow := World.ownsRow_nil _ _ _ _, inner := ?_, md := .inl l.md, mf := .inr rfl, mn := .inl l.mn, mo := ?_, apart := ?_, sub := ?_, lt := ?_ }
    · exact own_mono (own_keep hown K4 fun k e => by
        obtain rfl : g = k := by simpa [Value.ownBlock] using e
        intro h; omega) (Nat.zero_le _)
    · exact own_keep l.now K fun k e => by
        obtain rfl : nb = k := by simpa [Value.ownBlock] using e
        exact fun h => ad2 h.symm
    · intro i x y hx; simp at hx
    · intro k e; simp [Value.ownBlock] at e
    · exact ⟨by omega, ad2, by omega, fun k e => by simp [Value.ownBlock] at e⟩
    · rintro k (h | h)
      · exact .inl (l.sub k h)
      · exact .inr h
    · rintro k (h | h)
      · exact Nat.lt_of_lt_of_le (l.lt k h) K.size
      · rw [h]; exact Nat.lt_of_lt_of_le hg2 K4.size
  · rintro k (h | h)
    · exact .inl h
    · rw [h]; exact .inr hg1
  · rintro k (h | h)
    · exact .inl h
    · rw [h]; exact .inr hg1

theorem Sync_yes (w : World) (d : Nat) (D : Dk) (M S : Nat → Prop) (h : DiskAt w d D M S) :
    Calls Try.prog 33 #[.pointer (some ⟨d, 0, none⟩)] w (Wrote d D.sync M S w) := by
  obtain ⟨fb, fc, nb, nc, ov, vs, l⟩ := h
  obtain ⟨c0, c1, c2, c3, c4⟩ := l.cells
  have hd := l.lt d (l.sub d l.md)
  obtain ⟨p1, p2, p3, p4⟩ := l.pos
  obtain ⟨-, s2, -⟩ := size_facts (i := 0) p2 p4 (by omega)
  have f2 := l.free 2
  have f4 := l.free 4
  have LL := Lib.hid l
  clear l
  obtain ⟨N, hN⟩ : ∃ N, N = D.blocks * D.size := ⟨_, rfl⟩
  rw [← hN] at c2 c3 s2
  have HN := Lib.hid hN
  clear hN
  have hrd : Rd w 1 (.slice (some ⟨nb, 0, none⟩) N nc) N (bts D.now) := by rw [HN.out]; exact Rd.of_own LL.out.now
  have HRD := Lib.hid hrd
  clear hrd
  go_enter Try.func33, Try.ntmps33
  go_wp2_with fail
  refine (clone_bytes _ _ _ _ HRD.out bts_one (by omega)).mono ?_; rintro e w4 ⟨v, rfl, hown4, b4, -⟩
  have k2 : w4.cell? ⟨d, 2, none⟩ = some (.slice (some ⟨fb, 0, none⟩) N fc) := (b4.cell (p := ⟨d, 2, none⟩) hd).trans c2
  have k4 : w4.cell? ⟨d, 4, none⟩ = some ov := (b4.cell (p := ⟨d, 4, none⟩) hd).trans c4
  have g2 : w4.frozen? ⟨d, 2, none⟩ = false := (b4.frozen (p := ⟨d, 2, none⟩) hd).trans f2
  have g4 : w4.frozen? ⟨d, 4, none⟩ = false := (b4.frozen (p := ⟨d, 4, none⟩) hd).trans f4
  obtain ⟨va, vc, rfl⟩ := own_slice hown4
  have HO := Lib.hid hown4
  clear hown4 c0 c1 c2 c3 c4
  go_wp2_with fail
  go_ret
  exact ⟨rfl, sync_lies LL.out b4 _ (by rw [← HN.out]; exact HO.out)⟩
end Go.Proofs.Ytbbjeoepoocofaa
