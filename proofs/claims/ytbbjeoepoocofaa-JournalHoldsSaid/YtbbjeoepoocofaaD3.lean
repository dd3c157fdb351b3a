import Derived.Test.YtbbjeoepoocofaaD2
namespace Go.Proofs.Ytbbjeoepoocofaa
open Go.RowKit

/-- A block's bytes as they are now. -/
def Dk.block (D : Dk) (i : Nat) : List Int := (D.now.drop (i * D.size)).take D.size

/-- Bytes in new memory, and no error. -/
def Got (xs : List Int) (w : World) (e : Ending) (w' : World) : Prop :=
  ∃ v, e = .returned (.tuple #[v, .int .i64 0]) ∧ w'.ownsRow w.heap.size 5 1 v xs.length (bts xs) ∧ Below w.heap.size w w'

theorem size_facts {b s i : Nat} (hb : b ≤ 1024) (hs : s ≤ 4096) (hi : i < b) : i * s + s ≤ b * s ∧ b * s ≤ 4194304 ∧ (i + 1) * s = i * s + s := by
  have h1 : (i + 1) * s ≤ b * s := Nat.mul_le_mul_right s hi
  have h2 : b * s ≤ 1024 * 4096 := Nat.mul_le_mul hb hs
  rw [Nat.add_mul, Nat.one_mul] at h1
  exact ⟨h1, h2, by rw [Nat.add_mul, Nat.one_mul]⟩

theorem bts_drop_take (L : List Int) (a n : Nat) : ((bts L).drop a).take n = bts ((L.drop a).take n) := by simp [bts, List.map_drop, List.map_take]

theorem rd_sub {w : World} {g n cap : Nat} {L : List Int} (h : w.ownsRow 0 5 1 (.slice (some ⟨g, 0, none⟩) n cap) n (bts L)) (a m : Nat) (ham : a + m ≤ n) (c : Nat) (hc : m ≤ c) (hc' : c ≤ maxLen) :
    Rd w 1 (.slice (some ⟨g, a, none⟩) m c) m (bts ((L.drop a).take m)) := by
  have hl : L.length = n := by have := h.1; rw [bts_length] at this; omega
  refine ⟨by rw [bts_length, List.length_take, List.length_drop, hl]; omega, .inr ⟨g, a, c, rfl, hc, hc', fun j u hj => ?_⟩⟩
  have hj' : j < m := by
    have := (List.getElem?_eq_some_iff.1 hj).1
    rw [bts_length, List.length_take] at this
    omega
  rw [h.cellAt (a + j) (by omega)]
  rw [← bts_drop_take, List.getElem?_take, if_pos hj', List.getElem?_drop] at hj
  exact hj

theorem block_length {D : Dk} {i : Nat} (h : D.now.length = D.blocks * D.size) (hb : D.blocks ≤ 1024) (hs : D.size ≤ 4096) (hi : i < D.blocks) : (D.block i).length = D.size := by
  have := size_facts hb hs hi
  unfold Dk.block
  rw [List.length_take, List.length_drop, h]
  omega

set_option maxHeartbeats 400000 in
theorem Read_yes (w : World) (d : Nat) (D : Dk) (M S : Nat → Prop) (i : Nat) (hi : i < D.blocks) (h : DiskAt w d D M S) :
    Calls Try.prog 20 #[.pointer (some ⟨d, 0, none⟩), .int .i64 i] w (Got (D.block i) w) := by
  obtain ⟨fb, fc, nb, nc, ov, vs, l⟩ := h
  obtain ⟨c0, c1, -, c3, -⟩ := l.cells
  obtain ⟨p1, p2, p3, p4⟩ := l.pos
  have hbl := block_length l.nowLen p2 p4 hi
  have HB : Hid (D.block i = (D.now.drop (i * D.size)).take D.size) := rfl
  have HN := Lib.hid l.now
  have hnc : D.blocks * D.size ≤ nc ∧ nc ≤ maxLen := by
    rcases l.now.2 with ⟨h, _⟩ | ⟨g, cap, cur, h, _, _, h1, h2, _⟩
    · simp at h
    · simp only [Value.slice.injEq, Option.some.injEq, Addr.mk.injEq, and_true, true_and] at h
      obtain ⟨rfl, rfl⟩ := h
      exact ⟨h1, h2⟩
  have hd := l.lt d (l.sub d l.md)
  obtain ⟨s1, s2, s3⟩ := size_facts p2 p4 hi
  clear l
  generalize D.block i = X at *
  obtain ⟨bk, sz, fm, nw, op⟩ := D
  simp only at *
  have e1 : (i : Int) * (sz : Int) = ((i * sz : Nat) : Int) := by simp
  have e2 : ((i : Int) + 1) * (sz : Int) = ((i * sz + sz : Nat) : Int) := by rw [← s3]; simp
  have hhas : decide (0 ≤ (i : Int) ∧ (i : Int) < (bk : Int)) = true := by simp; omega
  have hspan := span_any bk sz i
  rw [e1, e2] at hspan
  have HS := Lib.hid hspan
  clear hspan s3 e1 e2
  generalize i * sz = a at *
  generalize bk * sz = N at *
  unfold maxLen at hnc
  go_enter Try.func20, Try.ntmps20
  go_wp2_with fail
  refine (has_any _ _ _ _).mono ?_; rintro e w1 ⟨rfl, b1⟩
  rw [hhas]
  have k0 : w1.cell? ⟨d, 0, none⟩ = some (.int .i64 bk) := (b1.cell (p := ⟨d, 0, none⟩) hd).trans c0
  have k1 : w1.cell? ⟨d, 1, none⟩ = some (.int .i64 sz) := (b1.cell (p := ⟨d, 1, none⟩) hd).trans c1
  go_wp2_with fail
  refine (HS.out _ (by omega) (by omega) (by omega) (by omega) (by omega) (by omega)).mono ?_; rintro e w2 ⟨rfl, b2⟩
  have b12 : Below w.heap.size w w2 := b1.trans (b2.mono b1.size)
  have m3 : w2.cell? ⟨d, 3, none⟩ = some (.slice (some ⟨nb, 0, none⟩) N nc) := (b12.cell (p := ⟨d, 3, none⟩) hd).trans c3
  go_wp2_with fail
  have hrd : Rd w2 1 (.slice (some ⟨nb, a, none⟩) sz (nc - a)) sz (bts X) := by
    rw [HB.out]
    exact (rd_sub HN.out a sz s1 (nc - a) (by omega) (by unfold maxLen; omega)).below b12 (fun k hk _ => (own_lt HN.out k hk).2)
  refine (clone_bytes _ _ _ _ hrd bts_one (by omega)).mono ?_; rintro e w3 ⟨v, rfl, hown, b3, -⟩
  have HO := Lib.hid hown
  clear hown
  go_wp2_with fail
  go_ret2
  refine ⟨v, rfl, ?_, b12.trans (b3.mono b12.size)⟩
  have := HO.out
  rw [hbl]
  exact own_mono this b12.size

theorem Read_no (w : World) (d : Nat) (D : Dk) (M S : Nat → Prop) (i : Int) (hi : i < 0 ∨ D.blocks ≤ i) (h : DiskAt w d D M S) :
    Calls Try.prog 20 #[.pointer (some ⟨d, 0, none⟩), .int .i64 i] w fun e w' => e = .returned (.tuple #[.slice none 0 0, .int .i64 10]) ∧ Below w.heap.size w w' := by
  obtain ⟨fb, fc, nb, nc, ov, vs, l⟩ := h
  obtain ⟨c0, c1, -, -, -⟩ := l.cells
  have hhas : decide (0 ≤ i ∧ i < (D.blocks : Int)) = false := by simp; omega
  clear l
  go_enter Try.func20, Try.ntmps20
  go_wp2_with fail
  refine (has_any _ _ _ _).mono ?_; rintro e w1 ⟨rfl, b1⟩
  rw [hhas]
  go_wp2_with fail
  go_ret2
  exact ⟨rfl, b1⟩
theorem Read_nil (w : World) (i : Int) :
    Calls Try.prog 20 #[.pointer none, .int .i64 i] w fun e w' => e = .returned (.tuple #[.slice none 0 0, .int .i64 2]) ∧ w = w' := by
  go_enter Try.func20, Try.ntmps20
  go_wp2_with fail
  go_ret2
  exact ⟨rfl, rfl⟩

/-- A new disk. -/
def newDk (b s : Nat) : Dk := { blocks := b, size := s, firm := List.replicate (b * s) 0, now := List.replicate (b * s) 0, open_ := [] }

/-- A disk in new memory, and no error. -/
def Made (D : Dk) (w : World) (e : Ending) (w' : World) : Prop :=
  ∃ d M S, e = .returned (.tuple #[.pointer (some ⟨d, 0, none⟩), .int .i64 0]) ∧ DiskAt w' d D M S ∧ (∀ k, S k → w.heap.size ≤ k) ∧ Below w.heap.size w w'

theorem own_of_block {w : World} {g : Nat} {cur : Array Value} {e : TypeId} {size n : Nat} {xs : List Value} (hg : w.heap[g]? = some (.cells cur e (0, 0))) (hs : cur.size = n * size) (hx : cur.toList = xs) (hn : n ≤ maxLen) :
    w.ownsRow 0 e size (.slice (some ⟨g, 0, none⟩) n n) n xs :=
  ⟨by rw [← hx]; simpa using hs, .inr ⟨g, n, cur, rfl, Nat.zero_le _, hg, Nat.le_refl _, hn, hs, by rw [hx]; exact List.take_of_length_le (by rw [← hx]; simp [hs])⟩⟩

theorem New_lies (w : World) (b s N : Nat) (hN : N = b * s) (h1 : 1 ≤ b) (h2 : b ≤ 1024) (h3 : 1 ≤ s) (h4 : s ≤ 4096) (s2 : N ≤ 4194304) (fb nb : Nat)
    (h : (fb = w.heap.size ∧ nb = w.heap.size + 1) ∨ (fb = w.heap.size + 1 ∧ nb = w.heap.size)) :
    DiskAt (((w.alloc (.cells (madeCells #[.int .u8 0] N) 5)).alloc (.cells (madeCells #[.int .u8 0] N) 5)).alloc (.cells #[.int .i64 b, .int .i64 s, .slice (some ⟨fb, 0, none⟩) N N, .slice (some ⟨nb, 0, none⟩) N N, .slice none 0 0] 89)).drew
      (w.heap.size + 1 + 1) (newDk b s) (fun k => w.heap.size ≤ k ∧ k ≤ w.heap.size + 2) (fun k => w.heap.size ≤ k ∧ k ≤ w.heap.size + 2) := by
  have hb : ∀ g, g = w.heap.size ∨ g = w.heap.size + 1 → (((w.alloc (.cells (madeCells #[.int .u8 0] N) 5)).alloc (.cells (madeCells #[.int .u8 0] N) 5)).alloc (.cells #[.int .i64 b, .int .i64 s, .slice (some ⟨fb, 0, none⟩) N N, .slice (some ⟨nb, 0, none⟩) N N, .slice none 0 0] 89)).drew.heap[g]? = some (.cells (madeCells #[.int .u8 0] N) 5 (0, 0)) := by
    intro g hg
    rw [heap_drew, Below.heap_alloc _ _ _ (by simp; omega)]
    rcases hg with rfl | rfl
    · rw [Below.heap_alloc _ _ _ (by simp)]; exact heap_alloc_new _ _
    · have := heap_alloc_new (w.alloc (.cells (madeCells #[.int .u8 0] N) 5)) (.cells (madeCells #[.int .u8 0] N) 5)
      simpa using this
  have hx : (madeCells #[.int .u8 0] N).toList = bts (List.replicate N 0) := by rw [toList_madeCells_one]; simp [bts]
  have hml : N ≤ maxLen := by unfold maxLen; omega
  have ho : ∀ g, g = w.heap.size ∨ g = w.heap.size + 1 → _ := fun g hg => own_of_block (size := 1) (n := N) (hb g hg) (by rw [size_madeCells]; omega) hx hml
  refine ⟨fb, N, nb, N, .slice none 0 0, [], ?_⟩
  unfold newDk
  rw [← hN]
  refine { head := ?_, pos := ⟨h1, h2, h3, h4⟩, firmLen := ?_, nowLen := ?_, firm := ?_, now := ?_, openLen := by simp, vsLen := rfl, openRow := World.ownsRow_nil _ _ _ _, inner := ?_, md := ?_, mf := ?_, mn := ?_, mo := ?_, apart := ?_, sub := fun _ h => h, lt := ?_ }
  · rw [heap_drew]
    have := heap_alloc_new ((w.alloc (.cells (madeCells #[.int .u8 0] N) 5)).alloc (.cells (madeCells #[.int .u8 0] N) 5)) (.cells #[.int .i64 b, .int .i64 s, .slice (some ⟨fb, 0, none⟩) N N, .slice (some ⟨nb, 0, none⟩) N N, .slice none 0 0] 89)
    simp only [← hN]
    simpa using this
  · simp [hN]
  · simp [hN]
  · simp only [← hN]; exact ho fb (by omega)
  · simp only [← hN]; exact ho nb (by omega)
  · intro i x y hx; simp at hx
  · omega
  · omega
  · omega
  · intro k hk; simp [Value.ownBlock] at hk
  · exact ⟨by omega, by omega, by omega, fun k hk => by simp [Value.ownBlock] at hk⟩
  · intro k hk; simp; omega

set_option maxRecDepth 100000 in
set_option maxHeartbeats 400000 in
theorem New_yes (w : World) (b s : Nat) (h1 : 1 ≤ b) (h2 : b ≤ 1024) (h3 : 1 ≤ s) (h4 : s ≤ 4096) :
    Calls Try.prog 26 #[.int .i64 b, .int .i64 s] w (Made (newDk b s) w) := by
  obtain ⟨i0, hi, hz0, hz1, hz2⟩ := info_parts info5
  obtain ⟨-, s2, -⟩ := size_facts (i := 0) h2 h4 (by omega)
  obtain ⟨N, hN⟩ : ∃ N, N = b * s := ⟨_, rfl⟩
  have e1 : (b : Int) * (s : Int) = (N : Int) := by rw [hN]; simp
  rw [← hN] at s2
  have HN := Lib.hid hN
  clear hN
  have hmk : ∀ w, (Instr.makeSlice 30 (.int .i64 N) (.int .i64 N)).run Try.prog w = .ok (.slice (some ⟨w.heap.size, 0, none⟩) N N) (w.alloc (.cells (madeCells #[.int .u8 0] N) 5)) := by
    intro w
    have := run_make (P := Try.prog) w 30 5 i0 (.int .u8 0) Try.underlying30 hi hz0 .i64 .i64 N N (by omega) (Int.le_refl _) (by rw [hz2]; omega) (by omega)
    rw [hz1] at this
    simpa [Value.cells] using this
  go_enter Try.func26, Try.ntmps26
  go_wp2_with fail
  go_region
  · go_wp2_with fail
    go_ret2
    exact ⟨_, _, _, rfl, New_lies w b s N HN.out h1 h2 h3 h4 s2 _ _ (.inl ⟨rfl, rfl⟩), fun k hk => hk.1, Below.drew (((((Below.refl _ _).alloc (Nat.le_refl _) _).alloc (by simp) _).alloc (by simp; omega) _))⟩
  · go_wp2_with fail
    go_ret2
    exact ⟨_, _, _, rfl, New_lies w b s N HN.out h1 h2 h3 h4 s2 _ _ (.inr ⟨rfl, rfl⟩), fun k hk => hk.1, Below.drew (((((Below.refl _ _).alloc (Nat.le_refl _) _).alloc (by simp) _).alloc (by simp; omega) _))⟩
end Go.Proofs.Ytbbjeoepoocofaa
