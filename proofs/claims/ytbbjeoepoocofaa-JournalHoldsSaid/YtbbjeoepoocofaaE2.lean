import Derived.Test.YtbbjeoepoocofaaE1
namespace Go.Proofs.Ytbbjeoepoocofaa
open Go.RowKit

theorem Write_ok (w : World) (d : Nat) (D : Dk) (M S : Nat → Prop) (i : Int) (h0 : 0 ≤ i) (hi : i < D.blocks) (bv : Value) (xs : List Int) (hx : xs.length ≤ D.size) (hb : Rb w bv xs)
    (hbM : ∀ k, bv.ownBlock = some k → 0 < xs.length → ¬ M k) (h : DiskAt w d D M S) (hop : D.open_.length < 1000000) :
    Calls Try.prog 22 #[.pointer (some ⟨d, 0, none⟩), .int .i64 i, bv] w (Wrote d (D.write i.toNat xs) M S w) := by
  obtain ⟨n, rfl⟩ : ∃ n : Nat, i = n := ⟨i.toNat, by omega⟩
  exact Write_yes w d D M S n (by omega) bv xs hx hb hbM h hop

theorem Read_ok (w : World) (d : Nat) (D : Dk) (M S : Nat → Prop) (i : Int) (h0 : 0 ≤ i) (hi : i < D.blocks) (h : DiskAt w d D M S) :
    Calls Try.prog 20 #[.pointer (some ⟨d, 0, none⟩), .int .i64 i] w (Got (D.block i.toNat) w) := by
  obtain ⟨n, rfl⟩ : ∃ n : Nat, i = n := ⟨i.toNat, by omega⟩
  exact Read_yes w d D M S n (by omega) h

theorem New_ok (w : World) (b s : Int) (h1 : 1 ≤ b) (h2 : b ≤ 1024) (h3 : 1 ≤ s) (h4 : s ≤ 4096) :
    Calls Try.prog 26 #[.int .i64 b, .int .i64 s] w (Made (newDk b.toNat s.toNat) w) := by
  obtain ⟨b, rfl⟩ : ∃ n : Nat, b = n := ⟨b.toNat, by omega⟩
  obtain ⟨s, rfl⟩ : ∃ n : Nat, s = n := ⟨s.toNat, by omega⟩
  exact New_yes w b s (by omega) (by omega) (by omega) (by omega)

theorem Crash_good (w : World) (d : Nat) (D : Dk) (M S : Nat → Prop) (h : DiskAt w d D M S) (fv : Value) (fs : List Int) (hf : Rd w 1 fv fs.length (its fs)) (hn : fs.length ≤ D.open_.length) (hg : ∀ i, i < fs.length → -1 ≤ fs.getD i 0) :
    Calls Try.prog 19 #[.pointer (some ⟨d, 0, none⟩), fv] w (Made (D.crash fs) w) := by
  refine (Crash_any w d D M S h fv fs hf hn).mono ?_
  rintro e w' (⟨-, h⟩ | ⟨⟨i, h1, h2⟩, -⟩)
  · exact h
  · have := hg i h1
    omega

theorem rd_new (w : World) (vs : List Value) (n : Nat) (hn : vs.length = n) (hm : n ≤ maxLen) (t : TypeId) : Rd (w.alloc (.cells vs.toArray t)) 1 (.slice (some ⟨w.heap.size, 0, none⟩) n n) n vs := by
  refine ⟨by omega, .inr ⟨w.heap.size, 0, n, rfl, Nat.le_refl _, hm, fun j u hj => ?_⟩⟩
  rw [Nat.zero_add, cell_of_row _ _ j _ _ _ (heap_alloc_new w _)]
  simpa using hj

/-- A disk all of whose memory is the call's own. -/
def Own (base : Nat) (w : World) (d : Nat) (D : Dk) : Prop := ∃ M S, DiskAt w d D M S ∧ ∀ k, S k → base ≤ k

theorem Own.below {base : Nat} {w w' : World} {d : Nat} {D : Dk} (h : Own base w d D) (hb : Below w.heap.size w w') : Own base w' d D :=
  let ⟨M, S, h1, h2⟩ := h; ⟨M, S, h1.below hb, h2⟩

abbrev Daw : Dk := (newDk 2 4).write 0 [1, 2, 3]
theorem Daw0 : (Daw.crash []).block 0 = [0, 0, 0, 0] := by decide +kernel
theorem Daw1 : (Daw.crash [2]).block 0 = [1, 2, 0, 0] := by decide +kernel
theorem Daw2 : (Daw.crash [-1]).block 0 = [1, 2, 3, 0] := by decide +kernel

theorem Own.crash {base : Nat} {w : World} {d : Nat} {D : Dk} (h : Own base w d D) (fv : Value) (fs : List Int) (hf : Rd w 1 fv fs.length (its fs)) (hn : fs.length ≤ D.open_.length) (hg : ∀ i, i < fs.length → -1 ≤ fs.getD i 0) (hb : base ≤ w.heap.size) :
    Calls Try.prog 19 #[.pointer (some ⟨d, 0, none⟩), fv] w fun e w' => ∃ d', e = .returned (.tuple #[.pointer (some ⟨d', 0, none⟩), .int .i64 0]) ∧ Own base w' d' (D.crash fs) ∧ Own base w' d D ∧ Below w.heap.size w w' := by
  obtain ⟨M, S, h1, h2⟩ := h
  refine (Crash_good w d D M S h1 fv fs hf hn hg).mono ?_
  rintro e w' ⟨d', M', S', rfl, h3, h4, h5⟩
  exact ⟨d', rfl, ⟨M', S', h3, fun k hk => Nat.le_trans hb (h4 k hk)⟩, ⟨M, S, h1.below h5, h2⟩, h5⟩

theorem Own.read {base : Nat} {w : World} {d : Nat} {D : Dk} (h : Own base w d D) (i : Int) (h0 : 0 ≤ i) (hi : i < D.blocks) :
    Calls Try.prog 20 #[.pointer (some ⟨d, 0, none⟩), .int .i64 i] w (Got (D.block i.toNat) w) :=
  let ⟨M, S, h1, _⟩ := h; Read_ok w d D M S i h0 hi h1

theorem Rb.below' {w w' : World} {v : Value} {xs : List Int} (h : Rb w v xs) (hb : Below w.heap.size w w') : Rb w' v xs :=
  h.keep (X := fun _ => False) (Keeps.of_below hb) (fun _ _ _ f => f)

set_option maxHeartbeats 1000000 in
theorem awake_any (w : World) : Calls Try.prog 16 #[] w fun e w' => e = .returned (.bool true) ∧ Below w.heap.size w w' := by
  go_enter Try.func16, Try.ntmps16
  go_wp2_with fail
  refine (New_ok w 2 4 (by omega) (by omega) (by omega) (by omega)).mono ?_
  rintro e w1 ⟨d, M, S, rfl, hd, hS, b1⟩
  have hd1 : ∀ o, DiskAt (w1.alloc o) d (newDk 2 4) M S := fun o => hd.below ((Below.refl _ _).alloc (Nat.le_refl _) o)
  have hd1' := Lib.hid hd1
  have hlt := Lib.hid hd.lt
  have hsub := Lib.hid hd.sub
  have hS' := Lib.hid hS
  clear hd hd1 hS
  go_wp2_with fail
  refine (Write_ok _ d (newDk 2 4) M S 0 (by omega) (by decide) _ [1, 2, 3] (by decide) (rd_new w1 (bts [1, 2, 3]) 3 rfl (by decide) _) ?_ (hd1'.out _) (by decide)).mono ?_
  · intro k e _ hk
    have := hlt.out k (hsub.out k hk)
    simp [Value.ownBlock] at e
    omega
  rintro e w2 ⟨rfl, M2, S2, hd2, K2, hM2, hS2⟩
  have b2 : Below w.heap.size w w2 := by
    refine (b1.alloc b1.size _).trans (K2.below ?_ ?_)
    · have := b1.size; simp; omega
    · intro k hk; exact hS'.out k (hsub.out k hk)
  have O2 : Hid (Own w.heap.size w2 d Daw) := ⟨M2, S2, hd2, fun k hk => by
    have := b1.size
    rcases hS2 k hk with h | h
    · exact hS'.out k h
    · simp at h; omega⟩
  clear hd2 K2 hM2 hS2 hd1' hlt hsub hS' b1
  go_wp2_with fail
  refine (O2.out.crash (.slice none 0 0) [] ⟨rfl, .inl ⟨.inl rfl, rfl⟩⟩ (by decide) (by simp) b2.size).mono ?_
  rintro e w3 ⟨d3, rfl, h33, h3, b3⟩
  have O33 := Lib.hid h33
  have O3 : Hid (∀ o, Own w.heap.size (w3.alloc o) d Daw) := fun o => h3.below ((Below.refl _ _).alloc (Nat.le_refl _) o)
  have B3 := b2.trans (b3.mono b2.size)
  clear h33 h3 b3
  go_wp2_with fail
  refine ((O3.out _).crash _ [2] (rd_new w3 (its [2]) 1 rfl (by decide) _) (by decide) (by decide) (by have := B3.size; simp; omega)).mono ?_
  rintro e w4 ⟨d4, rfl, h44, h4, b4⟩
  have O44 := Lib.hid h44
  have O4 : Hid (∀ o, Own w.heap.size (w4.alloc o) d Daw) := fun o => h4.below ((Below.refl _ _).alloc (Nat.le_refl _) o)
  have C4 : Below w3.heap.size w3 w4 := Below.trans ((Below.refl _ _).alloc (Nat.le_refl _) _) (b4.mono (by simp))
  have B4 := B3.trans (C4.mono B3.size)
  have O34 : Hid (Own w.heap.size w4 d3 (Daw.crash [])) := O33.out.below C4
  clear h44 h4 b4
  go_wp2_with fail
  refine ((O4.out _).crash _ [-1] (rd_new w4 (its [-1]) 1 rfl (by decide) _) (by decide) (by decide) (by have := B4.size; simp; omega)).mono ?_
  rintro e w5 ⟨d5, rfl, h55, -, b5⟩
  have C5 : Below w4.heap.size w4 w5 := Below.trans ((Below.refl _ _).alloc (Nat.le_refl _) _) (b5.mono (by simp))
  have B5 := B4.trans (C5.mono B4.size)
  have O55 := Lib.hid h55
  have O35 : Hid (Own w.heap.size w5 d3 (Daw.crash [])) := O34.out.below C5
  have O45 : Hid (Own w.heap.size w5 d4 (Daw.crash [2])) := O44.out.below C5
  clear h55 b5 C4 C5
  go_wp2_with fail
  refine (O35.out.read 0 (by omega) (by decide)).mono ?_
  rintro e w6 ⟨v6, rfl, h6, b6⟩
  obtain ⟨va6, vc6, rfl⟩ := own_slice h6
  have X6 := Lib.hid (Rd.of_own h6)
  have O46 : Hid (Own w.heap.size w6 d4 (Daw.crash [2])) := O45.out.below b6
  have O56 : Hid (Own w.heap.size w6 d5 (Daw.crash [-1])) := O55.out.below b6
  have B6 := B5.trans (b6.mono B5.size)
  clear h6 b6
  go_wp2_with fail
  refine (O46.out.read 0 (by omega) (by decide)).mono ?_
  rintro e w7 ⟨v7, rfl, h7, b7⟩
  obtain ⟨va7, vc7, rfl⟩ := own_slice h7
  have X7 := Lib.hid (Rd.of_own h7)
  have Y6 := Lib.hid (Rb.below' X6.out b7)
  have O57 : Hid (Own w.heap.size w7 d5 (Daw.crash [-1])) := O56.out.below b7
  have B7 := B6.trans (b7.mono B6.size)
  clear h7 b7
  go_wp2_with fail
  refine (O57.out.read 0 (by omega) (by decide)).mono ?_
  rintro e w8 ⟨v8, rfl, h8, b8⟩
  obtain ⟨va8, vc8, rfl⟩ := own_slice h8
  have X8 := Lib.hid (Rd.of_own h8)
  have Z6 := Lib.hid (Rb.below' Y6.out b8)
  have Z7 := Lib.hid (Rb.below' X7.out b8)
  have B8 := B7.trans (b8.mono B7.size)
  clear h8 b8
  go_wp2_with fail
  refine (Bytes_any _ _ _ ((Daw.crash []).block 0) [0, 0, 0, 0] (Rb.below' Z6.out ((Below.refl _ _).alloc (Nat.le_refl _) _)) (rd_new w8 (bts [0, 0, 0, 0]) 4 rfl (by decide) _)).mono ?_
  rintro e w9 ⟨rfl, n9, hw9⟩
  have C9 : Below w8.heap.size w8 w9 := by rw [hw9]; exact Below.drewN ((Below.refl _ _).alloc (Nat.le_refl _) _) n9
  rw [decide_eq_true Daw0]
  have B9 := B8.trans (C9.mono B8.size)
  have Y7 := Lib.hid (Rb.below' Z7.out C9)
  have Y8 := Lib.hid (Rb.below' X8.out C9)
  clear hw9 C9
  go_wp2_with fail
  refine (Bytes_any _ _ _ ((Daw.crash [2]).block 0) [1, 2, 0, 0] (Rb.below' Y7.out ((Below.refl _ _).alloc (Nat.le_refl _) _)) (rd_new w9 (bts [1, 2, 0, 0]) 4 rfl (by decide) _)).mono ?_
  rintro e w10 ⟨rfl, n10, hw10⟩
  have C10 : Below w9.heap.size w9 w10 := by rw [hw10]; exact Below.drewN ((Below.refl _ _).alloc (Nat.le_refl _) _) n10
  rw [decide_eq_true Daw1]
  have B10 := B9.trans (C10.mono B9.size)
  have V8 := Lib.hid (Rb.below' Y8.out C10)
  clear hw10 C10
  go_wp2_with fail
  refine (Bytes_any _ _ _ ((Daw.crash [-1]).block 0) [1, 2, 3, 0] (Rb.below' V8.out ((Below.refl _ _).alloc (Nat.le_refl _) _)) (rd_new w10 (bts [1, 2, 3, 0]) 4 rfl (by decide) _)).mono ?_
  rintro e w11 ⟨rfl, n11, hw11⟩
  have C11 : Below w10.heap.size w10 w11 := by rw [hw11]; exact Below.drewN ((Below.refl _ _).alloc (Nat.le_refl _) _) n11
  rw [decide_eq_true Daw2]
  have B11 := B10.trans (C11.mono B10.size)
  clear hw11 C11
  go_wp2_with fail
  go_ret
  exact ⟨rfl, B11⟩
end Go.Proofs.Ytbbjeoepoocofaa
