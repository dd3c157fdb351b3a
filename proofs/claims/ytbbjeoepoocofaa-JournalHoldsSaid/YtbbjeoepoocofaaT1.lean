import Derived.Test.YtbbjeoepoocofaaE6
import Derived.Test.YtbbjeoepoocofaaF2
namespace Go.Proofs.Ytbbjeoepoocofaa
open Go.RowKit

/-- A disk all of whose memory lies under a height. -/
def Under (hi : Nat) (w : World) (d : Nat) (D : Dk) : Prop := ∃ M S, DiskAt w d D M S ∧ ∀ k, S k → k < hi
theorem Under.below {hi : Nat} {w w' : World} {d : Nat} {D : Dk} (h : Under hi w d D) (hb : Below hi w w') : Under hi w' d D := by
  obtain ⟨M, S, h1, h2⟩ := h
  exact ⟨M, S, h1.keep (X := fun k => hi ≤ k) ⟨hb.os, hb.tape, hb.output, hb.size, fun k _ hx => hb.block k (by omega)⟩ (fun k hk hx => by have := h2 k hk; omega), h2⟩
theorem Own.under {base : Nat} {w : World} {d : Nat} {D : Dk} (h : Own base w d D) : Under w.heap.size w d D := by
  obtain ⟨M, S, h1, h2⟩ := h
  exact ⟨M, S, h1, h1.lt⟩
theorem Under.read {hi : Nat} {w : World} {d : Nat} {D : Dk} (h : Under hi w d D) (i : Int) (h0 : 0 ≤ i) (hi : i < D.blocks) :
    Calls Try.prog 20 #[.pointer (some ⟨d, 0, none⟩), .int .i64 i] w (Got (D.block i.toNat) w) :=
  let ⟨M, S, h1, _⟩ := h; Read_ok w d D M S i h0 hi h1
theorem Under.opens {hi : Nat} {w : World} {d : Nat} {D : Dk} (h : Under hi w d D) : Calls Try.prog 18 #[.pointer (some ⟨d, 0, none⟩)] w fun e w' => e = .returned (.int .i64 D.open_.length) ∧ w = w' :=
  let ⟨M, S, h1, _⟩ := h; Open_any w d D M S h1

/-- What a crash answers, any fates. -/
theorem Own.crash_any {base : Nat} {w : World} {d : Nat} {D : Dk} (h : Own base w d D) (_ : base ≤ w.heap.size) (fv : Value) (fs : List Int) (hf : Rd w 1 fv fs.length (its fs)) :
    Calls Try.prog 19 #[.pointer (some ⟨d, 0, none⟩), fv] w fun e w' => Below w.heap.size w w' ∧
      ((fs.length ≤ D.open_.length ∧ (∀ i, i < fs.length → -1 ≤ fs.getD i 0) ∧ ∃ d', e = .returned (.tuple #[.pointer (some ⟨d', 0, none⟩), .int .i64 0]) ∧ Own w.heap.size w' d' (D.crash fs)) ∨
       (¬ (fs.length ≤ D.open_.length ∧ ∀ i, i < fs.length → -1 ≤ fs.getD i 0) ∧ e = .returned (.tuple #[.pointer none, .int .i64 1]))) := by
  obtain ⟨M, S, h1, h2⟩ := h
  by_cases hn : fs.length ≤ D.open_.length
  · refine (Crash_any w d D M S h1 fv fs hf hn).mono ?_
    rintro e w' (⟨hg, d', M', S', rfl, h3, h4, h5⟩ | ⟨⟨i, hi, hlt⟩, rfl, h5⟩)
    · exact ⟨h5, .inl ⟨hn, hg, d', rfl, M', S', h3, h4⟩⟩
    · exact ⟨h5, .inr ⟨fun h => by have := h.2 i hi; omega, rfl⟩⟩
  · obtain ⟨sp, sc, rfl, -⟩ := hf.form
    refine (Crash_many w d D M S h1 sp fs.length sc (by omega)).mono ?_
    rintro e w' ⟨rfl, rfl⟩
    exact ⟨Below.refl _ _, .inr ⟨fun h => hn h.1, rfl⟩⟩

theorem Under.len {hi : Nat} {w : World} {d : Nat} {D : Dk} (h : Under hi w d D) (i : Nat) (hi : i < D.blocks) : (D.block i).length = D.size := by
  obtain ⟨M, S, ⟨_, _, _, _, _, _, l⟩, _⟩ := h
  exact block_length l.nowLen l.pos.2.1 l.pos.2.2.2 hi
theorem OpsAt.cap {w : World} {B : Nat} {sp : Option Addr} {n sc : Nat} {l : List Opv} (h : OpsAt w B (.slice sp n sc) l) : n ≤ sc ∧ sc ≤ maxLen := by
  obtain ⟨vs, h1, h2, h3⟩ := h.row
  have := h2.capOk
  omega
theorem OpsAt.nil (w : World) (B : Nat) : OpsAt w B (.slice none 0 0) [] := ⟨⟨[], rfl, ⟨rfl, .inl ⟨.inl rfl, rfl⟩⟩, fun i x u hx => by simp at hx⟩, fun k _ h => by simp at h⟩
theorem Rb.take {w : World} {sp : Option Addr} {n sc : Nat} {xs : List Int} (h : Rb w (.slice sp n sc) xs) (c : Nat) (hc : c ≤ xs.length) : Rb w (.slice sp c sc) (xs.take c) := by
  have hl : (xs.take c).length = c := by rw [List.length_take]; omega
  have hb : bts (xs.take c) = (bts xs).take c := by simp [bts, List.map_take]
  unfold Rb
  rw [hl]
  refine ⟨by rw [bts_length, hl]; omega, ?_⟩
  rcases h.2 with ⟨h' | ⟨aa, c2, h', hc2⟩, h0⟩ | ⟨b, off, cap, h', hc1, hc2, hcc⟩
  · simp only [Value.slice.injEq] at h'
    obtain ⟨rfl, rfl, rfl⟩ := h'
    exact .inl ⟨.inl (by rw [show c = 0 by omega]), by omega⟩
  · simp only [Value.slice.injEq] at h'
    obtain ⟨rfl, rfl, rfl⟩ := h'
    exact .inl ⟨.inr ⟨aa, sc, by rw [show c = 0 by omega], hc2⟩, by omega⟩
  · simp only [Value.slice.injEq] at h'
    obtain ⟨rfl, -, rfl⟩ := h'
    refine .inr ⟨b, off, sc, rfl, by omega, hc2, fun j u hj => hcc j u ?_⟩
    rw [hb, List.getElem?_take] at hj
    split at hj
    · exact hj
    · simp at hj

/-- The two sizes, in a block of their own. -/
def Box (w : World) (q : Nat) (a b : Int) : Prop := w.cell? ⟨q, 0, none⟩ = some (.int .i64 a) ∧ w.cell? ⟨q, 1, none⟩ = some (.int .i64 b)
theorem Box.below {w w' : World} {q B : Nat} {a b : Int} (h : Box w q a b) (hb : Below B w w') (hq : q < B) : Box w' q a b :=
  ⟨(hb.cell (p := ⟨q, 0, none⟩) hq).trans h.1, (hb.cell (p := ⟨q, 1, none⟩) hq).trans h.2⟩
theorem Box.new (w : World) (a b : Int) (t : TypeId) : Box (w.alloc (.cells #[.int .i64 a, .int .i64 b] t)) w.heap.size a b :=
  ⟨by rw [cell_of_row _ _ 0 _ _ _ (heap_alloc_new w _)]; rfl, by rw [cell_of_row _ _ 1 _ _ _ (heap_alloc_new w _)]; rfl⟩

set_option maxRecDepth 100000 in
set_option maxHeartbeats 4000000 in
theorem Torn_law (w : World) (a b : Int) (lv fv : Value) (l : List Opv) (fs : List Int) (hl : OpsAt w w.heap.size lv l) (hf : Rd w 1 fv fs.length (its fs)) :
    Calls Try.prog 4 #[.agg #[.int .i64 a, .int .i64 b], lv, fv] w fun e w' => e = .returned (.bool true) ∧ Below w.heap.size w w' := by
  obtain ⟨lp, lc, rfl, hlm⟩ := hl.form
  obtain ⟨fp, fc, rfl, -⟩ := hf.form
  have hfm := hf.len
  unfold maxLen at hlm hfm
  have HL := Lib.hid hl
  have HF := Lib.hid hf
  have HFL : Hid (∀ k, (Value.slice fp fs.length fc).ownBlock = some k → 0 < fs.length → k < w.heap.size) := hf.lt (by decide)
  clear hl hf
  go_enter Try.func4, Try.ntmps4
  go_wp2_with fail
  refine (small_any _ a b).mono ?_
  rintro e w1 ⟨rfl, b1⟩
  have A0 : Below w.heap.size w (w.alloc (.cells #[.int .i64 a, .int .i64 b] 22)) := (Below.refl _ _).alloc (Nat.le_refl _) _
  have B1 : Below w.heap.size w w1 := A0.trans (b1.mono (by simp))
  have S1 : w.heap.size + 1 ≤ w1.heap.size := by have := b1.size; simpa using this
  have X1 : Box w1 w.heap.size a b := (Box.new w a b 22).below b1 (by simp)
  have L1 : Hid (OpsAt w1 w.heap.size (.slice lp l.length lc) l) := HL.out.below B1
  have F1 : Hid (Rd w1 1 (.slice fp fs.length fc) fs.length (its fs)) := HF.out.keep (X := fun _ => False) (Keeps.of_below B1) (fun _ _ _ f => f)
  clear A0 b1 HL HF
  by_cases hs : smallB a b = true
  · rw [hs]
    obtain ⟨s1, s2, s3, s4⟩ := of_decide_eq_true hs
    have hsm : Hid (1 ≤ a ∧ a ≤ 8 ∧ 1 ≤ b ∧ b ≤ 40) := ⟨s1, s2, s3, s4⟩
    clear hs
    obtain ⟨x0, x1⟩ := X1
    go_wp2_with fail
    refine (few_any w1 _ _ l L1.out).mono ?_
    rintro e w2 ⟨rfl, rfl⟩
    by_cases hw : fewB l = true
    · rw [hw]
      obtain ⟨l1, l2⟩ := of_decide_eq_true hw
      have HL2 := Lib.hid l2
      clear hw l2
      by_cases hn : fs.length ≤ 40
      · go_wp2_with fail
        refine (made_any w1 a b s1 (by omega) s3 (by omega) w.heap.size (by omega) _ l L1.out (by omega)).mono ?_
        rintro e w2 ⟨d, rfl, O2, b2⟩
        have B2 := B1.trans (b2.mono (by omega : w.heap.size ≤ w1.heap.size))
        have F2 : Hid (Rd w2 1 (.slice fp fs.length fc) fs.length (its fs)) := F1.out.keep (X := fun _ => False) (Keeps.of_below b2) (fun _ _ _ f => f)
        have O2' := Lib.hid O2
        have y0 : w2.cell? ⟨w.heap.size, 0, none⟩ = some (.int .i64 a) := (b2.cell (p := ⟨w.heap.size, 0, none⟩) (by simp; omega)).trans x0
        have y1 : w2.cell? ⟨w.heap.size, 1, none⟩ = some (.int .i64 b) := (b2.cell (p := ⟨w.heap.size, 1, none⟩) (by simp; omega)).trans x1
        have L2 : Hid (OpsAt w2 w.heap.size (.slice lp l.length lc) l) := L1.out.below (b2.mono (by omega))
        have S2 := b2.size
        clear O2 b2 x0 x1 L1 F1 B1
        go_wp2_with fail
        refine (O2'.out.crash_any S2 _ fs F2.out).mono ?_
        rintro e w3 ⟨b3, ⟨g1, g2, c, rfl, O3⟩ | ⟨hno, rfl⟩⟩
        · have HG := Lib.hid g2
          have O3' := Lib.hid O3
          have B3 := B2.trans (b3.mono (by omega : w.heap.size ≤ w2.heap.size))
          have F3 : Hid (Rd w3 1 (.slice fp fs.length fc) fs.length (its fs)) := F2.out.keep (X := fun _ => False) (Keeps.of_below b3) (fun _ _ _ f => f)
          have z0 : w3.cell? ⟨w.heap.size, 0, none⟩ = some (.int .i64 a) := (b3.cell (p := ⟨w.heap.size, 0, none⟩) (by simp; omega)).trans y0
          have z1 : w3.cell? ⟨w.heap.size, 1, none⟩ = some (.int .i64 b) := (b3.cell (p := ⟨w.heap.size, 1, none⟩) (by simp; omega)).trans y1
          have L3 : Hid (OpsAt w3 w.heap.size (.slice lp l.length lc) l) := L2.out.below (b3.mono (by omega))
          have S3 := b3.size
          clear g2 O3 b3 y0 y1 L2 F2 B2
          go_wp2_with fail
          go_loopw [10, 11] (fun f i wr => ∃ k : Nat, f = .int .i64 (fAt l k : Nat) ∧ i = .int .i64 k ∧ k ≤ l.length ∧ w3 = wr) (fun _ i _ => l.length - (intOf i).toNat)
          case atStart => exact ⟨0, rfl, rfl, Nat.zero_le _, rfl⟩
          case round =>
            obtain ⟨k, rfl, rfl, hk, rfl⟩ := hrel
            by_cases hlt : k < l.length
            · obtain ⟨lb, lo, cap, va, vc, e1, -, -, q0, -, -, -, -⟩ := L3.out.at hlt
              simp only [Value.slice.injEq, true_and] at e1
              obtain ⟨rfl, rfl⟩ := e1
              have hsy : Hid ((l.getD k ⟨false, 0, []⟩).sync = l[k].sync) := by unfold Hid; simp [List.getD, List.getElem?_eq_getElem hlt]
              generalize l[k].sync = sy at *
              have H1 : Hid (sy = true → fAt l (k + 1) = k + 1) := fun h => by unfold fAt; rw [hsy.out, if_pos h]
              have H2 : Hid (sy = false → fAt l (k + 1) = fAt l k) := fun h => by rw [fAt, hsy.out, h]; rfl
              cases sy
              · go_wp2_with fail
                go_roundw
                case rel => exact ⟨k + 1, by rw [H2.out rfl], rfl, by omega, by trivial⟩
                case measure => simp [intOf]; omega
              · go_wp2_with fail
                go_roundw
                case rel => exact ⟨k + 1, by rw [H1.out rfl]; rfl, rfl, by omega, by trivial⟩
                case measure => simp [intOf]; omega
            · obtain rfl : k = l.length := by omega
              have hfl := fAt_le l l.length
              have hf1 : Hid (∀ i, fAt l l.length ≤ i → i < l.length → (l.getD i ⟨false, 0, []⟩).sync = false) := fun i => fAt_none l l.length i
              have hf2 : Hid (((newDk a.toNat b.toNat).runs (l.take (fAt l l.length))).still) := still_at _ _ l l.length (Nat.le_refl _)
              generalize fAt l l.length = f at *
              obtain ⟨hc1, hc2⟩ := L3.out.cap
              unfold maxLen at hc2
              have hfc : f ≤ lc := by omega
              go_wp2_with fail
              go_region_law (first
                | (go_simp; go_at_call 17; refine (made_any w3.drew a b s1 (by omega) s3 (by omega) w.heap.size (by show w.heap.size ≤ w3.heap.size; omega) _ (l.take f) ((L3.out.take f (by omega)).below ⟨rfl, rfl, rfl, Nat.le_refl _, fun _ _ => rfl⟩) (by rw [List.length_take]; omega)).mono ?_; rintro e w4 ⟨x, rfl, O4, b4⟩)
                | fail)
              have O4' : Hid (Own w3.heap.size w4 x ((newDk a.toNat b.toNat).runs (l.take f))) := O4
              have b4' : Below w3.heap.size w3 w4 := ⟨b4.os, b4.tape, b4.output, b4.size, b4.block⟩
              have C4 : Hid (Under w3.heap.size w4 c (((newDk a.toNat b.toNat).runs l).crash fs)) := O3'.out.under.below b4'
              have B4 := B3.trans (b4'.mono (by omega : w.heap.size ≤ w3.heap.size))
              have F4 : Hid (Rd w4 1 (.slice fp fs.length fc) fs.length (its fs)) := F3.out.keep (X := fun _ => False) (Keeps.of_below b4') (fun _ _ _ f => f)
              have X4 : Hid (Box w4 w.heap.size a b) := (show Box w3 w.heap.size a b from ⟨z0, z1⟩).below b4' (by omega)
              have L4 : Hid (OpsAt w4 w.heap.size (.slice lp l.length lc) l) := L3.out.below (b4'.mono (by omega))
              have S4 := b4'.size
              have HT : Hid (TornInv (newDk a.toNat b.toNat) l fs f ((newDk a.toNat b.toNat).runs (l.take f))) := TornInv.start _ _ _ _ hfl hf1.out hf2.out
              have hf0 : Hid (((newDk a.toNat b.toNat).runs (l.take f)).open_.length = 0) := by unfold Hid; rw [hf2.out.2]; rfl
              have hbA : ((newDk a.toNat b.toNat).blocks : Int) = a ∧ ((newDk a.toNat b.toNat).size : Int) = b := by
                constructor
                · show (a.toNat : Int) = a; omega
                · show (b.toNat : Int) = b; omega
              have HBA := Lib.hid hbA
              clear O4 b4 b4' z0 z1 L3 F3 B3 hf2 hbA O3' O2'
              go_wp2_with fail
              go_loopw [13, 14] (fun nv iv wr => ∃ (k : Nat) (X : Dk), nv = .int .i64 (((newDk a.toNat b.toNat).runs (l.take k)).open_.length : Nat) ∧ iv = .int .i64 k ∧ f ≤ k ∧ k ≤ l.length ∧ Own w3.heap.size wr x X ∧ TornInv (newDk a.toNat b.toNat) l fs k X ∧ Below w3.heap.size w4 wr) (fun _ i _ => l.length - (intOf i).toNat)
              case atStart => exact ⟨f, _, by rw [hf0.out]; rfl, rfl, Nat.le_refl _, hfl, O4'.out, HT.out, Below.refl _ _⟩
              case round =>
                obtain ⟨k, X, rfl, rfl, hfk, hk, hO, hT, hB⟩ := hrel
                have HO := Lib.hid hO
                have HTI := Lib.hid hT
                clear hO hT
                have hz := hB.size
                have hz' : w3.heap.size ≤ wr.heap.size := by omega
                obtain ⟨v0, v1⟩ := X4.out.below hB (by omega)
                by_cases hlt : k < l.length
                · have hsync : (l.getD k ⟨false, 0, []⟩).sync = false := hf1.out k hfk hlt
                  have hgd : l.getD k ⟨false, 0, []⟩ = l[k] := by simp [List.getD, List.getElem?_eq_getElem hlt]
                  have HNO := Lib.hid (fun he => (HTI.out.no hlt hsync he))
                  have HYES := Lib.hid (fun he h2 => HTI.out.yes (fs := fs) hfk hlt hf1.out he h2)
                  have HPAST := Lib.hid (fun he h2 => HTI.out.past (fs := fs) hfk hlt hf1.out he h2)
                  have HAT := Lib.hid (fun he => (TornInv.at_open (D0 := newDk a.toNat b.toNat) hfk hlt hf1.out he).1)
                  rw [hgd] at HNO HYES HPAST HAT
                  clear hsync hgd
                  have hopX : X.open_.length < 1000000 := by have := HTI.out.opn; omega
                  clear HTI
                  go_wp2_with fail
                  refine (made_any wr a b s1 (by omega) s3 (by omega) wr.heap.size (Nat.le_refl _) _ [] (OpsAt.nil _ _) (by simp)).mono ?_
                  rintro e w5 ⟨y, rfl, O5, b5⟩
                  have L5 : OpsAt w5 w.heap.size (.slice lp l.length lc) l := L4.out.below ((hB.trans (b5.mono hz')).mono (by omega))
                  obtain ⟨lb, lo, cap, va, vc, e1, -, -, -, q1, q2, hb5, hbB⟩ := L5.at hlt
                  simp only [Value.slice.injEq, true_and] at e1
                  obtain ⟨rfl, rfl⟩ := e1
                  have O5' : Hid (Own wr.heap.size w5 y (newDk a.toNat b.toNat)) := O5
                  have HB5 := Lib.hid hb5
                  have HBB := Lib.hid hbB
                  have hvc : l[k].b.length ≤ vc ∧ vc ≤ maxLen := hb5.capOk.2
                  have hlb : lb < wr.heap.size := by have := L5.lt lb rfl (by omega); omega
                  clear O5 hb5 hbB L5
                  have hz5 := b5.size
                  have HB5' := Lib.hid b5
                  clear b5
                  generalize l[k] = o at *
                  obtain ⟨os, ob, oxs⟩ := o
                  simp only at *
                  obtain ⟨vc1, vc2⟩ := hvc
                  unfold maxLen at vc2
                  by_cases he : (newDk a.toNat b.toNat).err ob oxs.length = 0
                  · have hne : ((newDk a.toNat b.toNat).err ob oxs.length != 0) = false := by simp [he]
                    go_wp2_with fail
                    go_region_law (first
                      | (go_simp; go_at_call 22; refine (O5'.out.draw.write hz5 ob _ oxs (HB5.out.below' ⟨rfl, rfl, rfl, Nat.le_refl _, fun _ _ => rfl⟩) (fun j hj hp => Nat.lt_of_lt_of_le (HBB.out j hj hp) (by omega)) (by simp [newDk])).mono ?_; rintro e w6 ⟨rfl, -, b6⟩)
                      | fail)
                    all_goals
                      have b6' : Below wr.heap.size w5 w6 := ⟨b6.os, b6.tape, b6.output, b6.size, b6.block⟩
                      have B6 : Below wr.heap.size wr w6 := HB5'.out.trans b6'
                      have O6 : Hid (Own w3.heap.size w6 x X) := HO.out.below B6
                      have hH6 : w3.heap.size ≤ w6.heap.size := by have := B6.size; omega
                      have t1 : w6.cell? ⟨lb, lo + k * 3 + 1, none⟩ = some (.int .i64 ob) := (b6'.cell (p := ⟨lb, lo + k * 3 + 1, none⟩) hlb).trans q1
                      have t2 : w6.cell? ⟨lb, lo + k * 3 + 2, none⟩ = some (.slice va oxs.length vc) := (b6'.cell (p := ⟨lb, lo + k * 3 + 2, none⟩) hlb).trans q2
                      have HB6 : Hid (Rb w6 (.slice va oxs.length vc) oxs) := HB5.out.below b6' (fun j hj hp => Nat.lt_of_lt_of_le (HBB.out j hj hp) (by omega))
                      have F6 : Hid (Rd w6 1 (.slice fp fs.length fc) fs.length (its fs)) := F4.out.below ((hB.trans (B6.mono hz')).mono (by omega : w.heap.size ≤ w3.heap.size)) HFL.out
                      clear b6 q1 q2
                      obtain ⟨nn, hnn⟩ : ∃ nn, ((newDk a.toNat b.toNat).runs (l.take k)).open_.length = nn := ⟨_, rfl⟩
                      have HNN := Lib.hid hnn
                      have hnn2 : nn ≤ 100 := by rw [← hnn]; have h1 := (newDk a.toNat b.toNat).runs_open (l.take k); have h2 : (newDk a.toNat b.toNat).open_.length = 0 := rfl; rw [List.length_take] at h1; omega
                      rw [hnn]
                      clear hnn
                      by_cases hnf : nn < fs.length
                      · rcases F6.out.2 with ⟨_, h0⟩ | ⟨fvb, fvo, fvc, hfv, -, -, hcell⟩
                        · omega
                        simp only [Value.slice.injEq, true_and] at hfv
                        obtain ⟨rfl, rfl⟩ := hfv
                        have hfk6 : w6.cell? ⟨fvb, fvo + nn, none⟩ = some (.int .i64 (fs.getD nn 0)) := hcell nn _ (its_get hnf)
                        have hge : -1 ≤ fs.getD nn 0 := HG.out nn hnf
                        clear hcell
                        obtain ⟨fk, hfke⟩ : ∃ fk, fs.getD nn 0 = fk := ⟨_, rfl⟩
                        have HFK := Lib.hid hfke
                        rw [hfke] at hfk6 hge
                        clear hfke
                        by_cases hneg : fk < 0
                        · have hcut : cut fk oxs.length = oxs.length := by unfold cut; rw [if_pos (by omega)]
                          have HCUT := Lib.hid hcut
                          clear hcut
                          have hcl : oxs.length ≤ oxs.length := by omega
                          have hclv : oxs.length ≤ vc := by omega
                          go_wp2_with fail
                          go_region_law (first
                            | (go_simp; go_at_call 22; refine (O6.out.draw.write hH6 ob _ (oxs.take oxs.length) ((HB6.out.take oxs.length hcl).keep (X := fun _ => False) ((Keeps.refl _ _).drew) (fun _ _ _ f => f)) (fun j hj hp => Nat.lt_of_lt_of_le (HBB.out j (by cases va with | none => simp [Value.ownBlock] at hj | some aa => simpa [Value.ownBlock] using hj) (by rw [List.length_take] at hp; omega)) (by omega)) hopX).mono ?_; rintro e w7 ⟨rfl, O7, b7⟩)
                            | fail)
                          all_goals
                            have O7' := Lib.hid O7
                            clear O7
                            go_wp2_with fail
                            go_roundw
                            case rel => exact ⟨k + 1, X.put ob (oxs.take oxs.length), by rw [HAT.out he, HNN.out]; rfl, rfl, by omega, by omega, O7'.out, by have h := HYES.out he (by rw [HNN.out]; exact hnf); rw [HNN.out, HFK.out, HCUT.out] at h; exact h, (hB.trans (B6.mono hz')).trans ⟨b7.os, b7.tape, b7.output, b7.size, b7.block⟩⟩
                            case measure => simp [intOf]; omega
                        · by_cases hbig : (oxs.length : Int) < fk
                          · have hcut : cut fk oxs.length = oxs.length := by unfold cut; rw [if_pos (by omega)]
                            have HCUT := Lib.hid hcut
                            clear hcut
                            have hcl : oxs.length ≤ oxs.length := by omega
                            have hclv : oxs.length ≤ vc := by omega
                            go_wp2_with fail
                            go_region_law (first
                              | (go_simp; go_at_call 22; refine (O6.out.draw.write hH6 ob _ (oxs.take oxs.length) ((HB6.out.take oxs.length hcl).keep (X := fun _ => False) ((Keeps.refl _ _).drew) (fun _ _ _ f => f)) (fun j hj hp => Nat.lt_of_lt_of_le (HBB.out j (by cases va with | none => simp [Value.ownBlock] at hj | some aa => simpa [Value.ownBlock] using hj) (by rw [List.length_take] at hp; omega)) (by omega)) hopX).mono ?_; rintro e w7 ⟨rfl, O7, b7⟩)
                              | fail)
                            all_goals
                              have O7' := Lib.hid O7
                              clear O7
                              go_wp2_with fail
                              go_roundw
                              case rel => exact ⟨k + 1, X.put ob (oxs.take oxs.length), by rw [HAT.out he, HNN.out]; rfl, rfl, by omega, by omega, O7'.out, by have h := HYES.out he (by rw [HNN.out]; exact hnf); rw [HNN.out, HFK.out, HCUT.out] at h; exact h, (hB.trans (B6.mono hz')).trans ⟨b7.os, b7.tape, b7.output, b7.size, b7.block⟩⟩
                              case measure => simp [intOf]; omega
                          · obtain ⟨m, rfl⟩ : ∃ m : Nat, fk = m := ⟨fk.toNat, by omega⟩
                            have hcut : cut (m : Int) oxs.length = m := by unfold cut; rw [if_neg (by omega)]; rfl
                            have HCUT := Lib.hid hcut
                            clear hcut
                            have hcl : m ≤ oxs.length := by omega
                            have hclv : m ≤ vc := by omega
                            go_wp2_with fail
                            go_region_law (first
                              | (go_simp; go_at_call 22; refine (O6.out.draw.write hH6 ob _ (oxs.take m) ((HB6.out.take m hcl).keep (X := fun _ => False) ((Keeps.refl _ _).drew) (fun _ _ _ f => f)) (fun j hj hp => Nat.lt_of_lt_of_le (HBB.out j (by cases va with | none => simp [Value.ownBlock] at hj | some aa => simpa [Value.ownBlock] using hj) (by rw [List.length_take] at hp; omega)) (by omega)) hopX).mono ?_; rintro e w7 ⟨rfl, O7, b7⟩)
                              | fail)
                            all_goals
                              have O7' := Lib.hid O7
                              clear O7
                              go_wp2_with fail
                              go_roundw
                              case rel => exact ⟨k + 1, X.put ob (oxs.take m), by rw [HAT.out he, HNN.out]; rfl, rfl, by omega, by omega, O7'.out, by have h := HYES.out he (by rw [HNN.out]; exact hnf); rw [HNN.out, HFK.out, HCUT.out] at h; exact h, (hB.trans (B6.mono hz')).trans ⟨b7.os, b7.tape, b7.output, b7.size, b7.block⟩⟩
                              case measure => simp [intOf]; omega
                      · go_wp2_with fail
                        go_roundw
                        case rel => exact ⟨k + 1, X, by rw [HAT.out he, HNN.out]; rfl, rfl, by omega, by omega, O6.out, HPAST.out he (by rw [HNN.out]; omega), hB.trans (B6.mono hz')⟩
                        case measure => simp [intOf]; omega
                  · have hne : ((newDk a.toNat b.toNat).err ob oxs.length != 0) = true := by simp [he]
                    go_wp2_with fail
                    go_region_law (first
                      | (go_simp; go_at_call 22; refine (O5'.out.draw.write hz5 ob _ oxs (HB5.out.below' ⟨rfl, rfl, rfl, Nat.le_refl _, fun _ _ => rfl⟩) (fun j hj hp => Nat.lt_of_lt_of_le (HBB.out j hj hp) (by omega)) (by simp [newDk])).mono ?_; rintro e w6 ⟨rfl, -, b6⟩)
                      | fail)
                    all_goals
                      have B6 : Below wr.heap.size wr w6 := HB5'.out.trans ⟨b6.os, b6.tape, b6.output, b6.size, b6.block⟩
                      go_wp2_with fail
                      go_roundw
                      case rel => exact ⟨k + 1, X, by rw [(HNO.out he).2], rfl, by omega, by omega, HO.out.below B6, (HNO.out he).1, hB.trans (B6.mono hz')⟩
                      case measure => simp [intOf]; omega
                · obtain rfl : k = l.length := by omega
                  have hblk := HTI.out.block
                  have C5 : Hid (Under w3.heap.size wr c (((newDk a.toNat b.toNat).runs l).crash fs)) := C4.out.below hB
                  have hcb : (((newDk a.toNat b.toNat).runs l).crash fs).blocks = a.toNat ∧ (((newDk a.toNat b.toNat).runs l).crash fs).size = b.toNat := (newDk a.toNat b.toNat).runs_blocks l
                  have hxb : X.blocks = a.toNat ∧ X.size = b.toNat := ⟨HTI.out.blocks, HTI.out.size⟩
                  have hco : (((newDk a.toNat b.toNat).runs l).crash fs).open_.length = 0 := rfl
                  have HCB := Lib.hid hcb
                  have HXB := Lib.hid hxb
                  have HBLK := Lib.hid hblk
                  have HCO := Lib.hid hco
                  have X5 : Hid (Box wr w.heap.size a b) := ⟨v0, v1⟩
                  have B5 := B4.trans (hB.mono (by omega : w.heap.size ≤ w3.heap.size))
                  have z5 : w3.heap.size ≤ wr.heap.size := hz'
                  clear hblk hcb hxb hco HTI HT hf1 O4' C4 v0 v1 hB L4 F4 HG HFL hf0 hz hz' S4
                  generalize ((newDk a.toNat b.toNat).runs l).crash fs = DC at *
                  generalize ((newDk a.toNat b.toNat).runs (l.take l.length)).open_.length = n13 at *
                  go_wp2_with fail
                  go_loopw [17] (fun jv wq => ∃ j : Nat, jv = .int .i64 j ∧ j ≤ a.toNat ∧ Below wr.heap.size wr wq) (fun jv _ => a.toNat - (intOf jv).toNat)
                  case atStart => exact ⟨0, rfl, Nat.zero_le _, Below.refl _ _⟩
                  case round =>
                    obtain ⟨j, rfl, hj, hQ⟩ := hrel
                    obtain ⟨v0, v1⟩ := X5.out.below hQ (by omega)
                    have zq := hQ.size
                    by_cases hjl : j < a.toNat
                    · have hjl' : (j : Int) < a := by omega
                      have CL : Hid ((DC.block j).length = b.toNat) := by unfold Hid; rw [C5.out.len j (by rw [HCB.out.1]; omega)]; exact HCB.out.2
                      go_wp2_with fail
                      refine ((C5.out.below (hQ.mono z5)).read j (by omega) (by rw [HCB.out.1]; omega)).mono ?_
                      rintro e w5 ⟨vv5, rfl, h5, b5⟩
                      obtain ⟨va5, vc5, rfl⟩ := own_slice h5
                      have Y5 : Hid (Rb w5 (.slice va5 (DC.block j).length vc5) (DC.block j)) := Rd.of_own h5
                      clear h5
                      go_wp2_with fail
                      refine ((HO.out.below (hQ.trans (b5.mono zq))).read j (by omega) (by rw [HXB.out.1]; omega)).mono ?_
                      rintro e w6 ⟨vv6, rfl, h6, b6⟩
                      obtain ⟨va6, vc6, rfl⟩ := own_slice h6
                      have Y6 : Hid (Rb w6 (.slice va6 (X.block j).length vc6) (X.block j)) := Rd.of_own h6
                      have Z5 : Hid (Rb w6 (.slice va5 (DC.block j).length vc5) (DC.block j)) := Y5.out.below' b6
                      clear h6 Y5
                      have hbe : X.block j = DC.block j := HBLK.out j
                      have HBE := Lib.hid hbe
                      clear hbe
                      have Q6 := (hQ.trans (b5.mono zq)).trans (b6.mono (by have := b5.size; omega))
                      obtain ⟨u0, u1⟩ := X5.out.below Q6 (by omega)
                      have hlen : (((DC.block j).length : Int) != b) = false := by rw [CL.out]; simp; omega
                      go_wp2_with fail
                      refine (Bytes_any _ _ _ _ _ Z5.out Y6.out).mono ?_
                      rintro e w7 ⟨rfl, n7, hw7⟩
                      have b7 : Below w6.heap.size w6 w7 := by rw [hw7]; exact Below.drewN (Below.refl _ _) n7
                      rw [decide_eq_true HBE.out.symm]
                      have Q7 := Q6.trans (b7.mono (by have := Q6.size; omega))
                      obtain ⟨p0, p1⟩ := X5.out.below Q7 (by omega)
                      clear hw7 b5 b6 b7
                      go_wp2_with fail
                      go_roundw
                      case rel => exact ⟨j + 1, rfl, by omega, Q7⟩
                      case measure => simp [intOf]; omega
                    · have hjl' : ¬ (j : Int) < a := by omega
                      go_wp2_with fail
                      refine ((C5.out.below (hQ.mono z5)).opens).mono ?_
                      rintro e w5 ⟨rfl, rfl⟩
                      rw [HCO.out]
                      go_wp2_with fail
                      refine (awake_any _).mono ?_
                      rintro e w6 ⟨rfl, b6⟩
                      go_wp2_with fail
                      go_ret
                      exact ⟨rfl, B5.trans ((hQ.trans (b6.mono zq)).mono (by omega))⟩
        · go_wp2_with fail
          refine (awake_any _).mono ?_
          rintro e w4 ⟨rfl, b4⟩
          go_wp2_with fail
          go_ret
          exact ⟨rfl, B2.trans ((b3.trans (b4.mono b3.size)).mono (by omega))⟩
      · go_wp2_with fail
        refine (awake_any _).mono ?_
        rintro e w2 ⟨rfl, b2⟩
        go_wp2_with fail
        go_ret
        exact ⟨rfl, B1.trans (b2.mono (by omega))⟩
    · have hw' : fewB l = false := by simpa using hw
      rw [hw']
      clear hw hw'
      go_wp2_with fail
      refine (awake_any _).mono ?_
      rintro e w2 ⟨rfl, b2⟩
      go_wp2_with fail
      go_ret
      exact ⟨rfl, B1.trans (b2.mono (by omega))⟩
  · have hs' : smallB a b = false := by simpa using hs
    rw [hs']
    clear hs hs'
    go_wp2_with fail
    refine (awake_any _).mono ?_
    rintro e w2 ⟨rfl, b2⟩
    go_wp2_with fail
    go_ret
    exact ⟨rfl, B1.trans (b2.mono (by omega))⟩
end Go.Proofs.Ytbbjeoepoocofaa
