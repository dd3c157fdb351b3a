import Derived.Test.YtbbjeoepoocofaaK6
namespace Go.Proofs.Ytbbjeoepoocofaa
open Go.RowKit

set_option maxRecDepth 100000 in
set_option maxHeartbeats 4000000 in
theorem Crashes_law (w : World) (a b : Int) (lv fv : Value) (l : List Opv) (fs : List Int) (hl : OpsAt w w.heap.size lv l) (hf : Rd w 1 fv fs.length (its fs)) :
    Calls Try.prog 8 #[.agg #[.int .i64 a, .int .i64 b], lv, fv] w fun e w' => e = .returned (.bool true) ∧ Below w.heap.size w w' := by
  obtain ⟨lp, lc, rfl, hlm⟩ := hl.form
  obtain ⟨fp, fc, rfl, -⟩ := hf.form
  have hfm := hf.len
  unfold maxLen at hlm hfm
  have HL := Lib.hid hl
  have HF := Lib.hid hf
  have HFL : Hid (∀ k, (Value.slice fp fs.length fc).ownBlock = some k → 0 < fs.length → k < w.heap.size) := hf.lt (by decide)
  clear hl hf
  go_enter Try.func8, Try.ntmps8
  go_wp2_with fail
  refine (small_any _ a b).mono ?_
  rintro e w1 ⟨rfl, b1⟩
  have A0 : Below w.heap.size w (w.alloc (.cells #[.int .i64 a, .int .i64 b] 22)) := (Below.refl _ _).alloc (Nat.le_refl _) _
  have B1 : Below w.heap.size w w1 := A0.trans (b1.mono (by simp))
  have S1 : w.heap.size + 1 ≤ w1.heap.size := by have := b1.size; simpa using this
  have X1 : Box w1 w.heap.size a b := (Box.new w a b 22).below b1 (by simp)
  have L1 : Hid (OpsAt w1 w.heap.size (.slice lp l.length lc) l) := HL.out.below B1
  have F1 : Hid (Rd w1 1 (.slice fp fs.length fc) fs.length (its fs)) := HF.out.keep (X := fun _ => False) (Keeps.of_below B1) (fun _ _ _ f => f)
  clear A0 b1 HL HF
  by_cases hs : smallB a b = true
  · rw [hs]
    obtain ⟨s1, s2, s3, s4⟩ := of_decide_eq_true hs
    have hsm : Hid (1 ≤ a ∧ a ≤ 8 ∧ 1 ≤ b ∧ b ≤ 40) := ⟨s1, s2, s3, s4⟩
    clear hs
    obtain ⟨x0, x1⟩ := X1
    go_wp2_with fail
    refine (few_any w1 _ _ l L1.out).mono ?_
    rintro e w2 ⟨rfl, rfl⟩
    by_cases hw : fewB l = true
    · rw [hw]
      obtain ⟨l1, l2⟩ := of_decide_eq_true hw
      have HL2 := Lib.hid l2
      clear hw l2
      by_cases hn : fs.length ≤ 40
      · go_wp2_with fail
        refine (made_any w1 a b s1 (by omega) s3 (by omega) w.heap.size (by omega) _ l L1.out (by omega)).mono ?_
        rintro e w2 ⟨d, rfl, O2, b2⟩
        have B2 := B1.trans (b2.mono (by omega : w.heap.size ≤ w1.heap.size))
        have F2 : Hid (Rd w2 1 (.slice fp fs.length fc) fs.length (its fs)) := F1.out.keep (X := fun _ => False) (Keeps.of_below b2) (fun _ _ _ f => f)
        have O2' := Lib.hid O2
        have y0 : w2.cell? ⟨w.heap.size, 0, none⟩ = some (.int .i64 a) := (b2.cell (p := ⟨w.heap.size, 0, none⟩) (by simp; omega)).trans x0
        have y1 : w2.cell? ⟨w.heap.size, 1, none⟩ = some (.int .i64 b) := (b2.cell (p := ⟨w.heap.size, 1, none⟩) (by simp; omega)).trans x1
        have L2 : Hid (OpsAt w2 w.heap.size (.slice lp l.length lc) l) := L1.out.below (b2.mono (by omega))
        have S2 := b2.size
        clear O2 b2 x0 x1 L1 F1 B1
        go_wp2_with fail
        refine (RefNew_ok _ a b (by omega) (by omega) (by omega) (by omega)).mono ?_
        rintro e w3 ⟨⟨xv, rfl, hx⟩, b3⟩
        obtain ⟨xp, xc, rfl, -⟩ := hx.form
        rw [List.length_replicate]
        have HX := Lib.hid hx
        have S3 := b3.size
        have B3 := B2.trans (b3.mono (by omega : w.heap.size ≤ w2.heap.size))
        have O3 : Hid (Own w1.heap.size w3 d ((newDk a.toNat b.toNat).runs l)) := O2'.out.below b3
        have F3 : Hid (Rd w3 1 (.slice fp fs.length fc) fs.length (its fs)) := F2.out.keep (X := fun _ => False) (Keeps.of_below b3) (fun _ _ _ f => f)
        have X3 : Hid (Box w3 w.heap.size a b) := (show Box w2 w.heap.size a b from ⟨y0, y1⟩).below b3 (by omega)
        have L3 : Hid (OpsAt w3 w.heap.size (.slice lp l.length lc) l) := L2.out.below (b3.mono (by omega))
        clear hx b3 y0 y1 O2' L2 F2
        go_wp2_with fail
        have h4 : (w3.alloc (.cells #[.slice xp a.toNat xc, .slice none 0 0] 64)).heap[w3.heap.size]? = some (.cells #[.slice xp a.toNat xc, .slice none 0 0] 64) := heap_alloc_new w3 _
        have T4 : Hid (Tb (w3.alloc (.cells #[.slice xp a.toNat xc, .slice none 0 0] 64)) (.slice xp a.toNat xc) (blks a.toNat b.toNat (newDk a.toNat b.toNat).firm)) := by
          unfold Hid
          rw [blks_zero]
          have := HX.out
          rw [List.length_replicate] at this
          exact this.below' ((Below.refl _ _).alloc (Nat.le_refl _) _)
        have B34 : Below w3.heap.size w3 (w3.alloc (.cells #[.slice xp a.toNat xc, .slice none 0 0] 64)) := (Below.refl _ _).alloc (Nat.le_refl _) _
        have z4 : (w3.alloc (.cells #[.slice xp a.toNat xc, .slice none 0 0] 64)).heap.size = w3.heap.size + 1 := by simp
        generalize w3.alloc (.cells #[.slice xp a.toNat xc, .slice none 0 0] 64) = w4 at *
        have S34 : w3.heap.size < w4.heap.size := by omega
        have H4 := Lib.hid h4
        have BB34 := Lib.hid B34
        clear h4 z4 B34 HX
        obtain ⟨XB, hXB⟩ : ∃ XB, w3.heap.size = XB := ⟨_, rfl⟩
        have HXB := Lib.hid hXB
        rw [hXB] at S34 ⊢
        have hXBw : w.heap.size < XB := by omega
        clear hXB
        obtain ⟨i0, hi68, hz0, hz1, hz2⟩ := info_parts info68
        go_loopw [9] (fun iv wr => ∃ (i : Nat) (lv' ov : Value) (vs : List (Nat × Value)), iv = .int .i64 i ∧ i ≤ l.length ∧ wr.heap[XB]? = some (.cells #[lv', ov] 64) ∧ Tb wr lv' (blks a.toNat b.toNat ((newDk a.toNat b.toNat).runs (l.take i)).firm) ∧ Wv wr w.heap.size w4.heap.size ov ((newDk a.toNat b.toNat).runs (l.take i)).open_ vs ∧ Below XB w3 wr ∧ w4.heap.size ≤ wr.heap.size) (fun iv _ => l.length - (intOf iv).toNat)
        case atStart => exact ⟨0, _, _, [], rfl, Nat.zero_le _, (by rw [← HXB.out]; exact H4.out), T4.out, Wv.nil _ _ _, BB34.out.mono (by rw [HXB.out]; exact Nat.le_refl _), Nat.le_refl _⟩
        case round =>
          obtain ⟨wa, hwa⟩ : ∃ wa, wa = wr := ⟨_, rfl⟩
          subst hwa
          obtain ⟨i, lv', ov, vs, rfl, hi, hXo, hT, hW, hB, hz⟩ := hrel
          obtain ⟨tp, tc, rfl, -⟩ := hT.form
          rw [blks_length] at hXo hT
          obtain ⟨op, oc, rfl⟩ := own_slice hW.row
          have HXO := Lib.hid hXo
          have HT := Lib.hid hT
          have HW := Lib.hid hW
          have hr1 := ((newDk a.toNat b.toNat).runs_blocks (l.take i))
          have hr2 := ((newDk a.toNat b.toNat).runs_open (l.take i))
          have hr3 : (newDk a.toNat b.toNat).open_.length = 0 := rfl
          have hno : ((newDk a.toNat b.toNat).runs (l.take i)).open_.length ≤ 30 := by rw [List.length_take] at hr2; omega
          have HFT := Lib.hid ((Fit.new a.toNat b.toNat).runs (l.take i))
          have HWH := Lib.hid (whole_runs (whole_new a.toNat b.toNat) (l.take i))
          have HNB : Hid (behR (blks a.toNat b.toNat ((newDk a.toNat b.toNat).runs (l.take i)).firm) ((newDk a.toNat b.toNat).runs (l.take i)).open_ (List.replicate ((newDk a.toNat b.toNat).runs (l.take i)).open_.length (-1)) ((newDk a.toNat b.toNat).runs (l.take i)).open_.length = blks a.toNat b.toNat ((newDk a.toNat b.toNat).runs (l.take i)).now) := by
            have := now_blks HFT.out HWH.out
            rw [hr1.1, hr1.2] at this
            exact this
          have HRB : Hid (((newDk a.toNat b.toNat).runs (l.take i)).blocks = a.toNat ∧ ((newDk a.toNat b.toNat).runs (l.take i)).size = b.toNat) := hr1
          have HFL2 : Hid (∀ x ∈ blks a.toNat b.toNat ((newDk a.toNat b.toNat).runs (l.take i)).firm, x.length = b.toNat) := by
            refine blks_all ?_
            have := HFT.out.firm
            rw [hr1.1, hr1.2] at this
            exact this
          have q0 : wa.cell? ⟨XB, 0, none⟩ = some (.slice tp a.toNat tc) := by rw [cell_of_row wa XB 0 _ _ _ hXo]; rfl
          have q1 : wa.cell? ⟨XB, 1, none⟩ = some (.slice op ((newDk a.toNat b.toNat).runs (l.take i)).open_.length oc) := by rw [cell_of_row wa XB 1 _ _ _ hXo]; rfl
          clear hXo hT hW hr1 hr2 hr3
          by_cases hlt : i < l.length
          · have LI : OpsAt wa w.heap.size (.slice lp l.length lc) l := L3.out.below (hB.mono (by omega))
            obtain ⟨lb, lo, cap, va, vc, e1, -, -, p0, p1, p2, hb6, hbB⟩ := LI.at hlt
            simp only [Value.slice.injEq, true_and] at e1
            obtain ⟨rfl, rfl⟩ := e1
            have HB6 := Lib.hid hb6
            have HBB := Lib.hid hbB
            have hlb : lb < w.heap.size := LI.lt lb rfl (by omega)
            have hstep : Hid ((newDk a.toNat b.toNat).runs (l.take (i + 1)) = ((newDk a.toNat b.toNat).runs (l.take i)).op l[i]) := by
              have := runs_take_succ (newDk a.toNat b.toNat) l i hlt
              have e : l.getD i ⟨false, 0, []⟩ = l[i] := by simp [List.getD, List.getElem?_eq_getElem hlt]
              rw [e] at this
              exact this
            have hbl : l[i].b.length ≤ 40 := HL2.out _ (List.getElem_mem hlt)
            clear hb6 hbB LI
            generalize (newDk a.toNat b.toNat).runs (l.take i) = D at *
            generalize l[i] = o at *
            obtain ⟨os, ob, xs⟩ := o
            simp only at *
            cases os
            · have T0 : Hid ((newDk a.toNat b.toNat).runs (l.take (i + 1)) = D.put ob xs) := hstep.out
              clear hstep
              have n1 : ∀ o, (wa.alloc o).cell? ⟨lb, lo + i * 3 + 1, none⟩ = some (.int .i64 ob) := fun o => ((Keeps.refl (fun _ => False) wa).alloc o).cell (fun f => f) p1
              have n2 : ∀ o, (wa.alloc o).cell? ⟨lb, lo + i * 3 + 2, none⟩ = some (.slice va xs.length vc) := fun o => ((Keeps.refl (fun _ => False) wa).alloc o).cell (fun f => f) p2
              go_wp2_with fail
              go_region
              have b5 : Below wa.heap.size wa (wa.alloc (.cells #[.int .i64 ob, .slice va xs.length vc] 68)).drew := ((Below.refl _ _).alloc (Nat.le_refl _) _).drew
              have q5 : (wa.alloc (.cells #[.int .i64 ob, .slice va xs.length vc] 68)).drew.heap[wa.heap.size]? = some (.cells #[.int .i64 ob, .slice va xs.length vc] 68) := heap_alloc_new wa _
              have z5 : (wa.alloc (.cells #[.int .i64 ob, .slice va xs.length vc] 68)).drew.heap.size = wa.heap.size + 1 := by simp
              generalize (wa.alloc (.cells #[.int .i64 ob, .slice va xs.length vc] 68)).drew = w5 at *
              have t5 : w5.heap[XB]? = some (.cells #[.slice tp a.toNat tc, .slice op D.open_.length oc] 64) := (b5.block XB (by omega)).trans HXO.out
              have r0 : w5.cell? ⟨XB, 0, none⟩ = some (.slice tp a.toNat tc) := by rw [cell_of_row w5 XB 0 _ _ _ t5]; rfl
              have r1 : w5.cell? ⟨XB, 1, none⟩ = some (.slice op D.open_.length oc) := by rw [cell_of_row w5 XB 1 _ _ _ t5]; rfl
              have f1 : w5.frozen? ⟨XB, 1, none⟩ = false := frozen_of_row w5 XB 1 _ _ t5
              have m0 : w5.cell? ⟨wa.heap.size, 0, none⟩ = some (.int .i64 ob) := by rw [cell_of_row w5 _ 0 _ _ _ q5]; rfl
              have m1 : w5.cell? ⟨wa.heap.size, 1, none⟩ = some (.slice va xs.length vc) := by rw [cell_of_row w5 _ 1 _ _ _ q5]; rfl
              have HT5 : Hid (Tb w5 (.slice tp a.toNat tc) (blks a.toNat b.toNat D.firm)) := HT.out.below' b5
              have HW5 : Hid (Wv w5 w.heap.size w4.heap.size (.slice op D.open_.length oc) D.open_ vs) := HW.out.keep (X := fun _ => False) (Keeps.of_below b5) (fun _ f => f.elim) (fun _ _ f => f)
              have HB5 : Hid (Rb w5 (.slice va xs.length vc) xs) := HB6.out.below' b5
              have B5 := hB.trans (b5.mono (by omega))
              have HX5 := Lib.hid t5
              clear t5 q5 b5 n1 n2 p0 p1 p2 q0 q1
              go_wp2_with fail
              refine (Wrong_any w5 _ _ _ (blks a.toNat b.toNat D.firm) b.toNat ob xs.length HT5.out (by rw [blks_length]; omega) (by rw [blks_length]; omega) HFL2.out ⟨_, _, rfl⟩ (by omega) ⟨_, _, _, rfl⟩).mono ?_
              rintro e w6 ⟨rfl, b6⟩
              have herr : (if ob < 0 then (10 : Int) else if ((blks a.toNat b.toNat D.firm).length : Int) ≤ ob then 21 else if b.toNat < xs.length then 1 else 0) = D.err ob xs.length := by
                unfold Dk.err
                rw [blks_length, HRB.out.1, HRB.out.2]
              rw [herr]
              clear herr
              have t6 : w6.heap[XB]? = some (.cells #[.slice tp a.toNat tc, .slice op D.open_.length oc] 64) := (b6.block XB (by omega)).trans HX5.out
              have r60 : w6.cell? ⟨XB, 1, none⟩ = some (.slice op D.open_.length oc) := by rw [cell_of_row w6 XB 1 _ _ _ t6]; rfl
              have m60 : w6.cell? ⟨wa.heap.size, 0, none⟩ = some (.int .i64 ob) := (b6.cell (p := ⟨wa.heap.size, 0, none⟩) (by show wa.heap.size < w5.heap.size; omega)).trans m0
              have m61 : w6.cell? ⟨wa.heap.size, 1, none⟩ = some (.slice va xs.length vc) := (b6.cell (p := ⟨wa.heap.size, 1, none⟩) (by show wa.heap.size < w5.heap.size; omega)).trans m1
              have HT6 : Hid (Tb w6 (.slice tp a.toNat tc) (blks a.toNat b.toNat D.firm)) := HT5.out.below' b6
              have HW6 : Hid (Wv w6 w.heap.size w4.heap.size (.slice op D.open_.length oc) D.open_ vs) := HW5.out.keep (X := fun _ => False) (Keeps.of_below b6) (fun _ f => f.elim) (fun _ _ f => f)
              have HB7 : Hid (Rb w6 (.slice va xs.length vc) xs) := HB5.out.below' b6
              have HX6 := Lib.hid t6
              have B6 := B5.trans (b6.mono (by omega))
              have z6 := b6.size
              clear t6 b6 r0 r1 f1 m0 m1 HT5 HW5 HB5 HX5
              by_cases he : D.err ob xs.length = 0
              · have hput : Hid (D.put ob xs = D.write ob.toNat xs) := by unfold Hid Dk.put; rw [if_pos he]
                obtain ⟨e1, -, -⟩ := err_zero.1 he
                rw [he]
                clear he
                obtain ⟨bn, rfl⟩ : ∃ bn : Nat, ob = bn := ⟨ob.toNat, by omega⟩
                have HROW := Lib.hid HW6.out.row
                go_wp2_with ((at_builtin; refine wpList_append_own _ rfl _ _ 62 rfl w4.heap.size 68 i0 (.agg #[.int .i64 0, .slice none 0 0]) 2 32 Try.underlying62 hi68 hz0 hz1 hz2 rfl (by decide) _ D.open_.length (wcells vs) rfl (own_keep HROW.out ((Keeps.refl (fun _ => False) w6).alloc _) (fun _ _ f => f)) ⟨w6.heap.size, 0, none⟩ 1 1 [.int .i64 bn, .slice va xs.length vc] rfl rfl (World.news_of_block (heap_alloc_new w6 _)) (by simp [Value.oneCell']) (by unfold maxLen; omega) (by omega) (by simp; omega) ?_))
                intro v7 w7 hown7 hg7 _
                obtain ⟨vp7, vc7, rfl⟩ := own_slice hown7
                have k7 : Keeps (fun k => (Value.slice op D.open_.length oc).ownBlock = some k) w6 w7 := ((Keeps.refl _ w6).alloc _).trans (Keeps.of_grown (X := fun k => (Value.slice op D.open_.length oc).ownBlock = some k) hg7 (fun _ e => e)) (fun _ e => .inl e)
                have hnX : ¬ (Value.slice op D.open_.length oc).ownBlock = some XB := fun e => by have := (own_lt HROW.out XB e).1; omega
                have t7 : w7.heap[XB]? = some (.cells #[.slice tp a.toNat tc, .slice op D.open_.length oc] 64) := (k7.block XB (by omega) hnX).trans HX6.out
                have HW7 : Hid (Wv w7 w.heap.size w4.heap.size (.slice vp7 (D.open_.length + 1) vc7) (D.open_ ++ [(bn, xs)]) (vs ++ [(bn, .slice va xs.length vc)])) := HW6.out.snoc (by omega) HB7.out HBB.out hown7 hg7
                have HT7 : Hid (Tb w7 (.slice tp a.toNat tc) (blks a.toNat b.toNat D.firm)) := HT6.out.apart HROW.out (by decide) (by decide) k7
                have r71 : w7.cell? ⟨XB, 1, none⟩ = some (.slice op D.open_.length oc) := by rw [cell_of_row w7 XB 1 _ _ _ t7]; rfl
                have f71 : w7.frozen? ⟨XB, 1, none⟩ = false := frozen_of_row w7 XB 1 _ _ t7
                have HX7 := Lib.hid t7
                have B7 : Below XB w3 w7 := B6.trans (k7.below (by omega) (fun k hk => by have := (own_lt HROW.out k hk).1; omega))
                have z7 := k7.size
                clear hown7 hg7 k7 t7 r60
                go_wp2_with fail
                go_roundw
                case rel =>
                  have hS : Keeps (fun k => k = XB) w7 (w7.setCell ⟨XB, 1, none⟩ (.slice vp7 (D.open_.length + 1) vc7)) := Keeps.setCell (X := fun k => k = XB) (a := ⟨XB, 1, none⟩) (Keeps.refl _ w7) (.inl rfl) _
                  refine ⟨i + 1, _, _, vs ++ [(bn, .slice va xs.length vc)], rfl, by omega, heap_setCell_same w7 XB 1 _ _ _ HX7.out, ?_, ?_, B7.trans (hS.below (by omega) (fun k hk => by omega)), ?_⟩
                  · rw [T0.out, hput.out]
                    exact HT7.out.off HX7.out (by decide) (by decide) hS
                  · rw [T0.out, hput.out]
                    exact HW7.out.keep hS (fun k hk => by omega) (fun k h1 h2 => by have := (own_lt HW7.out.row k h1).1; omega)
                  · have := hS.size; omega
                case measure => simp [intOf]; omega
              · have hput : Hid (D.put ob xs = D) := by unfold Hid Dk.put; rw [if_neg he]
                have hne : (D.err ob xs.length == 0) = false := by simp [he]
                go_wp2_with fail
                go_roundw
                case rel => exact ⟨i + 1, _, _, vs, rfl, by omega, HX6.out, by rw [T0.out, hput.out]; exact HT6.out, by rw [T0.out, hput.out]; exact HW6.out, B6, by omega⟩
                case measure => simp [intOf]; omega
            · have T0 : Hid ((newDk a.toNat b.toNat).runs (l.take (i + 1)) = D.sync) := hstep.out
              clear hstep
              go_wp2_with fail
              refine (Now_any _ _ _ (blks a.toNat b.toNat D.firm) D.open_ HT.out HW.out.wb (by rw [blks_length]; omega) (blks_small (by omega)) (by omega)).mono ?_
              rintro e w5 ⟨⟨v5, rfl, hv5⟩, b5⟩
              rw [HNB.out] at hv5
              obtain ⟨vp5, vc5, rfl, -⟩ := hv5.form
              rw [blks_length] at hv5 ⊢
              have t5 : w5.heap[XB]? = some (.cells #[.slice tp a.toNat tc, .slice op D.open_.length oc] 64) := (b5.block XB (by omega)).trans HXO.out
              have r0 : w5.cell? ⟨XB, 0, none⟩ = some (.slice tp a.toNat tc) := by rw [cell_of_row w5 XB 0 _ _ _ t5]; rfl
              have r1 : w5.cell? ⟨XB, 1, none⟩ = some (.slice op D.open_.length oc) := by rw [cell_of_row w5 XB 1 _ _ _ t5]; rfl
              have f0 : w5.frozen? ⟨XB, 0, none⟩ = false := frozen_of_row w5 XB 0 _ _ t5
              have f1 : w5.frozen? ⟨XB, 1, none⟩ = false := frozen_of_row w5 XB 1 _ _ t5
              have HV5 := Lib.hid hv5
              have HT5 := Lib.hid t5
              have B5 := hB.trans (b5.mono (by omega))
              have z5 := b5.size
              clear hv5 t5 b5 q0 q1
              go_wp2_with fail
              go_roundw
              case rel =>
                have hS : Keeps (fun k => k = XB) w5 ((w5.setCell ⟨XB, 0, none⟩ (.slice vp5 a.toNat vc5)).setCell ⟨XB, 1, none⟩ (.slice none 0 0)) :=
                  Keeps.setCell (X := fun k => k = XB) (a := ⟨XB, 1, none⟩) (Keeps.setCell (X := fun k => k = XB) (a := ⟨XB, 0, none⟩) (Keeps.refl _ w5) (.inl rfl) _) (.inl rfl) _
                have hh := heap_setCell_same _ XB 1 _ _ (.slice none 0 0) (heap_setCell_same w5 XB 0 _ _ (.slice vp5 a.toNat vc5) HT5.out)
                refine ⟨i + 1, .slice vp5 a.toNat vc5, .slice none 0 0, [], rfl, by omega, hh, ?_, ?_, B5.trans (hS.below (by have := B5.size; have := HXB.out; omega) (fun k hk => by omega)), ?_⟩
                · rw [T0.out]
                  exact HV5.out.off HT5.out (by decide) (by decide) hS
                · rw [T0.out]
                  exact Wv.nil _ _ _
                · have := hS.size; omega
              case measure => simp [intOf]; omega
          · obtain rfl : i = l.length := by omega
            rw [List.take_length] at *
            have hB' : Hid (Below w3.heap.size w3 wa) := by unfold Hid; rw [HXB.out]; exact hB
            have zb := hB.size
            have HCB : Hid (∀ hg : (∀ i, i < fs.length → -1 ≤ fs.getD i 0), behR (blks a.toNat b.toNat ((newDk a.toNat b.toNat).runs l).firm) ((newDk a.toNat b.toNat).runs l).open_ fs ((newDk a.toNat b.toNat).runs l).open_.length = blks a.toNat b.toNat (((newDk a.toNat b.toNat).runs l).crash fs).now) := fun hg => by
              have := crash_blks HFT.out fs hg
              rw [HRB.out.1, HRB.out.2] at this
              exact this
            have HCC : Hid ((((newDk a.toNat b.toNat).runs l).crash fs).blocks = a.toNat ∧ (((newDk a.toNat b.toNat).runs l).crash fs).size = b.toNat ∧ (((newDk a.toNat b.toNat).runs l).crash fs).open_.length = 0) := ⟨HRB.out.1, HRB.out.2, rfl⟩
            generalize (newDk a.toNat b.toNat).runs l = D at *
            go_wp2_with fail
            refine ((O3.out.below hB'.out).crash_any (by omega) _ fs (F3.out.keep (X := fun _ => False) (Keeps.of_below hB'.out) (fun _ _ _ f => f))).mono ?_
            rintro e w5 ⟨b5, ⟨g1, g2, c, rfl, OC⟩ | ⟨hbad, rfl⟩⟩
            · have HG2 := Lib.hid g2
              have OC' := Lib.hid OC
              have HCB' := Lib.hid (HCB.out g2)
              generalize D.crash fs = DC at *
              have t5 : w5.heap[XB]? = some (.cells #[.slice tp a.toNat tc, .slice op D.open_.length oc] 64) := (b5.block XB (by omega)).trans HXO.out
              have r0 : w5.cell? ⟨XB, 0, none⟩ = some (.slice tp a.toNat tc) := by rw [cell_of_row w5 XB 0 _ _ _ t5]; rfl
              have r1 : w5.cell? ⟨XB, 1, none⟩ = some (.slice op D.open_.length oc) := by rw [cell_of_row w5 XB 1 _ _ _ t5]; rfl
              have HT5 : Hid (Tb w5 (.slice tp a.toNat tc) (blks a.toNat b.toNat D.firm)) := HT.out.below' b5
              have HW5 : Hid (Wb w5 (.slice op D.open_.length oc) D.open_) := HW.out.wb.below' b5
              have B5 : Below w3.heap.size w3 w5 := hB'.out.trans (b5.mono (by omega))
              have OD5 : Hid (Own w1.heap.size w5 d D) := O3.out.below B5
              have F5 : Hid (Rd w5 1 (.slice fp fs.length fc) fs.length (its fs)) := F3.out.keep (X := fun _ => False) (Keeps.of_below B5) (fun _ _ _ f => f)
              have X5 : Hid (Box w5 w.heap.size a b) := X3.out.below B5 (by omega)
              have hlen5 : decide ((D.open_.length : Int) < (fs.length : Int)) = false := by simp; omega
              have z5 := b5.size
              have BW5 : Below w.heap.size w w5 := B3.trans (B5.mono (by omega))
              clear g2 OC t5 b5 HCB hB' q0 q1 F3 O3 HT HW
              go_wp2_with fail
              go_loopw [13, 14] (fun sv kv wr => ∃ k : Nat, sv = .bool false ∧ kv = .int .i64 k ∧ k ≤ fs.length ∧ w5 = wr) (fun _ kv _ => fs.length - (intOf kv).toNat)
              case atStart => exact ⟨0, congrArg Value.bool (decide_eq_false (by omega)), rfl, Nat.zero_le _, rfl⟩
              case round =>
                obtain ⟨k, rfl, rfl, hk, rfl⟩ := hrel
                by_cases hkl : k < fs.length
                · rcases F5.out.2 with ⟨_, h0⟩ | ⟨fb, fo, fcap, hfv, -, -, hcell⟩
                  · omega
                  simp only [Value.slice.injEq, true_and] at hfv
                  obtain ⟨rfl, rfl⟩ := hfv
                  have q3 : w5.cell? ⟨fb, fo + k, none⟩ = some (.int .i64 (fs.getD k 0)) := hcell k _ (its_get hkl)
                  have hge := HG2.out k hkl
                  clear hcell
                  generalize fs.getD k 0 = f at *
                  go_wp2_with fail
                  go_roundw
                  case rel => exact ⟨k + 1, congrArg Value.bool (decide_eq_false (by omega)), rfl, by omega, by trivial⟩
                  case measure => simp [intOf]; omega
                · obtain rfl : k = fs.length := by omega
                  obtain ⟨v0, v1⟩ := X5.out
                  have k18 : Hid (∀ w', (w'.cell? ⟨XB, 0, none⟩ = some (.slice tp a.toNat tc) ∧ w'.cell? ⟨XB, 1, none⟩ = some (.slice op D.open_.length oc) ∧ w'.cell? ⟨w.heap.size, 1, none⟩ = some (.int .i64 b) ∧ Below w5.heap.size w5 w') → Calls Try.prog 18 #[.pointer (some ⟨c, 0, none⟩)] w' fun e w'' => e = .returned (.int .i64 0) ∧ w' = w'') := fun w' h0 => by
                    have h := h0.2.2.2
                    refine ((OC'.out.under.below (h.mono (by omega))).opens).mono ?_
                    rintro e w'' ⟨rfl, rfl⟩
                    rw [HCC.out.2.2]
                    exact ⟨rfl, rfl⟩
                  have k38 : Hid (∀ w', (w'.cell? ⟨XB, 0, none⟩ = some (.slice tp a.toNat tc) ∧ w'.cell? ⟨XB, 1, none⟩ = some (.slice op D.open_.length oc) ∧ w'.cell? ⟨w.heap.size, 1, none⟩ = some (.int .i64 b) ∧ Below w5.heap.size w5 w') → Calls Try.prog 38 #[.pointer (some ⟨c, 0, none⟩)] w' fun e w'' => e = .returned (.int .i64 b) ∧ w' = w'') := fun w' h0 => by
                    have h := h0.2.2.2
                    obtain ⟨M, S, h1, -⟩ := OC'.out.below h
                    refine (Size_any w' c DC M S h1).mono ?_
                    rintro e w'' ⟨rfl, rfl⟩
                    rw [HCC.out.2.1, show ((b.toNat : Nat) : Int) = b by omega]
                    exact ⟨rfl, rfl⟩
                  have k40 : Hid (∀ w', (w'.cell? ⟨XB, 0, none⟩ = some (.slice tp a.toNat tc) ∧ w'.cell? ⟨XB, 1, none⟩ = some (.slice op D.open_.length oc) ∧ w'.cell? ⟨w.heap.size, 1, none⟩ = some (.int .i64 b) ∧ Below w5.heap.size w5 w') → Calls Try.prog 40 #[.agg #[.slice tp a.toNat tc, .slice op D.open_.length oc], .slice fp fs.length fc] w' fun e w'' => (∃ v', e = .returned v' ∧ Tb w'' v' (blks a.toNat b.toNat DC.now)) ∧ Below w'.heap.size w' w'') := fun w' h0 => by
                    have h := h0.2.2.2
                    refine (Behind_any w' _ _ _ (blks a.toNat b.toNat D.firm) D.open_ fs (HT5.out.below' h) (HW5.out.below' h) (F5.out.keep (X := fun _ => False) (Keeps.of_below h) (fun _ _ _ f => f)) (by rw [blks_length]; omega) (blks_small (by omega)) (by omega)).mono ?_
                    rintro e w'' ⟨⟨v', rfl, hv⟩, hb⟩
                    rw [HCB'.out] at hv
                    exact ⟨⟨v', rfl, hv⟩, hb⟩
                  have k39 : Hid (∀ w' v', (w'.cell? ⟨XB, 0, none⟩ = some (.slice tp a.toNat tc) ∧ w'.cell? ⟨XB, 1, none⟩ = some (.slice op D.open_.length oc) ∧ w'.cell? ⟨w.heap.size, 1, none⟩ = some (.int .i64 b) ∧ Below w5.heap.size w5 w') → Tb w' v' (blks a.toNat b.toNat DC.now) → Calls Try.prog 39 #[.pointer (some ⟨c, 0, none⟩), v'] w' fun e w'' => e = .returned (.bool true) ∧ Below w'.heap.size w' w'') := fun w' v' h0 ht => by
                    have h := h0.2.2.2
                    obtain ⟨M, S, h1, -⟩ := OC'.out.below h
                    exact same_yes w' c DC M S h1 v' (by rw [HCC.out.1, HCC.out.2.1]; exact ht)
                  have kd18 : Hid (∀ w', (w'.cell? ⟨XB, 0, none⟩ = some (.slice tp a.toNat tc) ∧ w'.cell? ⟨XB, 1, none⟩ = some (.slice op D.open_.length oc) ∧ w'.cell? ⟨w.heap.size, 1, none⟩ = some (.int .i64 b) ∧ Below w5.heap.size w5 w') → Calls Try.prog 18 #[.pointer (some ⟨d, 0, none⟩)] w' fun e w'' => e = .returned (.int .i64 D.open_.length) ∧ w' = w'') := fun w' h => (OD5.out.under.below (h.2.2.2.mono (by omega))).opens
                  have k36 : Hid (∀ w', (w'.cell? ⟨XB, 0, none⟩ = some (.slice tp a.toNat tc) ∧ w'.cell? ⟨XB, 1, none⟩ = some (.slice op D.open_.length oc) ∧ w'.cell? ⟨w.heap.size, 1, none⟩ = some (.int .i64 b) ∧ Below w5.heap.size w5 w') → Calls Try.prog 36 #[.agg #[.slice tp a.toNat tc, .slice op D.open_.length oc]] w' fun e w'' => (∃ v', e = .returned v' ∧ Tb w'' v' (blks a.toNat b.toNat D.now)) ∧ Below w'.heap.size w' w'') := fun w' h0 => by
                    have h := h0.2.2.2
                    refine (Now_any w' _ _ (blks a.toNat b.toNat D.firm) D.open_ (HT5.out.below' h) (HW5.out.below' h) (by rw [blks_length]; omega) (blks_small (by omega)) (by omega)).mono ?_
                    rintro e w'' ⟨⟨v', rfl, hv⟩, hb⟩
                    rw [HNB.out] at hv
                    exact ⟨⟨v', rfl, hv⟩, hb⟩
                  have kd39 : Hid (∀ w' v', (w'.cell? ⟨XB, 0, none⟩ = some (.slice tp a.toNat tc) ∧ w'.cell? ⟨XB, 1, none⟩ = some (.slice op D.open_.length oc) ∧ w'.cell? ⟨w.heap.size, 1, none⟩ = some (.int .i64 b) ∧ Below w5.heap.size w5 w') → Tb w' v' (blks a.toNat b.toNat D.now) → Calls Try.prog 39 #[.pointer (some ⟨d, 0, none⟩), v'] w' fun e w'' => e = .returned (.bool true) ∧ Below w'.heap.size w' w'') := fun w' v' h0 ht => by
                    have h := h0.2.2.2
                    obtain ⟨M, S, h1, -⟩ := OD5.out.below h
                    exact same_yes w' d D M S h1 v' (by rw [HRB.out.1, HRB.out.2]; exact ht)
                  have hkeep : Hid (∀ w' w6, (w'.cell? ⟨XB, 0, none⟩ = some (.slice tp a.toNat tc) ∧ w'.cell? ⟨XB, 1, none⟩ = some (.slice op D.open_.length oc) ∧ w'.cell? ⟨w.heap.size, 1, none⟩ = some (.int .i64 b) ∧ Below w5.heap.size w5 w') → Below w'.heap.size w' w6 → w6.cell? ⟨XB, 0, none⟩ = some (.slice tp a.toNat tc) ∧ w6.cell? ⟨XB, 1, none⟩ = some (.slice op D.open_.length oc) ∧ w6.cell? ⟨w.heap.size, 1, none⟩ = some (.int .i64 b) ∧ Below w5.heap.size w5 w6) := fun w' w6 h0 h2 => by
                    have h1 := h0.2.2.2
                    have h := h1.trans (h2.mono h1.size)
                    exact ⟨(h.cell (p := ⟨XB, 0, none⟩) (by show XB < w5.heap.size; omega)).trans r0, (h.cell (p := ⟨XB, 1, none⟩) (by show XB < w5.heap.size; omega)).trans r1, (h.cell (p := ⟨w.heap.size, 1, none⟩) (by show w.heap.size < w5.heap.size; omega)).trans v1, h⟩
                  go_wp2_with fail
                  go_region_held3 (fun w' => w'.cell? ⟨XB, 0, none⟩ = some (.slice tp a.toNat tc) ∧ w'.cell? ⟨XB, 1, none⟩ = some (.slice op D.open_.length oc) ∧ w'.cell? ⟨w.heap.size, 1, none⟩ = some (.int .i64 b) ∧ Below w5.heap.size w5 w')
                    (first
                      | assumption
                      | exact ⟨r0, r1, v1, Below.refl _ _⟩
                      | exact ⟨r0, r1, v1, (Below.refl _ _).drew⟩
                      | exact hkeep.out _ _ (by assumption) (by assumption)
                      | fail)
                    (first
                      | (go_at_call 18; with_reducible refine (k18.out _ (by assumption)).mono ?_; rintro e w6 ⟨rfl, rfl⟩)
                      | (go_at_call 18; with_reducible refine (kd18.out _ (by assumption)).mono ?_; rintro e w6 ⟨rfl, rfl⟩)
                      | (go_at_call 38; with_reducible refine (k38.out _ (by assumption)).mono ?_; rintro e w6 ⟨rfl, rfl⟩)
                      | (go_at_call 40; with_reducible refine (k40.out _ (by assumption)).mono ?_; rintro e w6 ⟨⟨v6, rfl, hv6⟩, hb6⟩)
                      | (go_at_call 39; with_reducible refine (k39.out _ _ (by assumption) hv6).mono ?_; rintro e w7 ⟨rfl, hb7⟩)
                      | (go_at_call 36; with_reducible refine (k36.out _ (by assumption)).mono ?_; rintro e w8 ⟨⟨v8, rfl, hv8⟩, hb8⟩)
                      | (go_at_call 39; with_reducible refine (kd39.out _ _ (by assumption) hv8).mono ?_; rintro e w9 ⟨rfl, hb9⟩)
                      | (go_at_call 16; refine (awake_any _).mono ?_; rintro e w10 ⟨rfl, hb10⟩)
                      | fail)
                  have hB10 : Below w5.heap.size w5 w10 := (by assumption : w10.cell? ⟨XB, 0, none⟩ = some (.slice tp a.toNat tc) ∧ w10.cell? ⟨XB, 1, none⟩ = some (.slice op D.open_.length oc) ∧ w10.cell? ⟨w.heap.size, 1, none⟩ = some (.int .i64 b) ∧ Below w5.heap.size w5 w10).2.2.2
                  have HB10 := Lib.hid hB10
                  clear hB10 hb6 hb7 hb8 hb9 hb10 hv6 hv8
                  go_wp2_with fail
                  go_ret
                  exact ⟨rfl, BW5.trans (HB10.out.mono BW5.size)⟩
            · have HBAD := Lib.hid hbad
              have t5 : w5.heap[XB]? = some (.cells #[.slice tp a.toNat tc, .slice op D.open_.length oc] 64) := (b5.block XB (by omega)).trans HXO.out
              have r1 : w5.cell? ⟨XB, 1, none⟩ = some (.slice op D.open_.length oc) := by rw [cell_of_row w5 XB 1 _ _ _ t5]; rfl
              have B5 : Below w3.heap.size w3 w5 := hB'.out.trans (b5.mono (by omega))
              have F5 : Hid (Rd w5 1 (.slice fp fs.length fc) fs.length (its fs)) := F3.out.keep (X := fun _ => False) (Keeps.of_below B5) (fun _ _ _ f => f)
              have BW5 : Below w.heap.size w w5 := B3.trans (B5.mono (by omega))
              obtain ⟨s0, hs0⟩ : ∃ s0, decide (D.open_.length < fs.length) = s0 := ⟨_, rfl⟩
              have HS0 : Hid (D.open_.length < fs.length → s0 = true) := fun h => by rw [← hs0]; exact decide_eq_true h
              clear t5 b5 HCB hB' q0 q1 F3 O3 HT HW hbad
              go_wp2_with fail
              go_loopw [13, 14] (fun sv kv wr => ∃ (k : Nat) (sb : Bool), sv = .bool sb ∧ kv = .int .i64 k ∧ k ≤ fs.length ∧ Hid (D.open_.length < fs.length → sb = true) ∧ Hid (∀ j, j < k → fs.getD j 0 < -1 → sb = true) ∧ w5 = wr) (fun _ kv _ => fs.length - (intOf kv).toNat)
              case atStart => exact ⟨0, s0, by rw [← hs0], rfl, Nat.zero_le _, HS0.out, fun j hj => by omega, rfl⟩
              case round =>
                obtain ⟨k, sb, rfl, rfl, hk, h1, h2, rfl⟩ := hrel
                have H1 := Lib.hid h1.out
                have H2 := Lib.hid h2.out
                clear h1 h2
                by_cases hkl : k < fs.length
                · rcases F5.out.2 with ⟨_, h0⟩ | ⟨fb, fo, fcap, hfv, -, -, hcell⟩
                  · omega
                  simp only [Value.slice.injEq, true_and] at hfv
                  obtain ⟨rfl, rfl⟩ := hfv
                  have q3 : w5.cell? ⟨fb, fo + k, none⟩ = some (.int .i64 (fs.getD k 0)) := hcell k _ (its_get hkl)
                  have HK : Hid (∀ t : Bool, (sb = true → t = true) → (fs.getD k 0 < -1 → t = true) → ∀ j, j < k + 1 → fs.getD j 0 < -1 → t = true) := fun t ht hf j hj hlt => by
                    by_cases e : j = k
                    · rw [e] at hlt; exact hf hlt
                    · exact ht (H2.out j (by omega) hlt)
                  clear hcell
                  generalize fs.getD k 0 = f at *
                  cases sb
                  · by_cases hf : f < -1
                    · go_wp2_with fail
                      go_roundw
                      case rel => exact ⟨k + 1, true, rfl, rfl, by omega, fun _ => rfl, HK.out true (fun _ => rfl) (fun _ => rfl), by trivial⟩
                      case measure => simp [intOf]; omega
                    · have hfd : decide (f < -1) = false := by simp; omega
                      go_wp2_with fail
                      go_roundw
                      case rel => exact ⟨k + 1, false, rfl, rfl, by omega, H1.out, HK.out false (fun h => h) (fun h => absurd h (by omega)), by trivial⟩
                      case measure => simp [intOf]; omega
                  · go_wp2_with fail
                    go_roundw
                    case rel => exact ⟨k + 1, true, rfl, rfl, by omega, fun _ => rfl, HK.out true (fun _ => rfl) (fun _ => rfl), by trivial⟩
                    case measure => simp [intOf]; omega
                · obtain rfl : k = fs.length := by omega
                  have hsb : sb = true := by
                    cases sb
                    · exfalso
                      refine HBAD.out ⟨?_, fun i hi => ?_⟩
                      · exact Nat.le_of_not_lt fun h => by have := H1.out h; cases this
                      · exact Int.not_lt.1 fun h => by have := H2.out i hi h; cases this
                    · rfl
                  subst hsb
                  go_wp2_with fail
                  refine (awake_any _).mono ?_
                  rintro e w6 ⟨rfl, b6⟩
                  go_wp2_with fail
                  go_ret
                  exact ⟨rfl, BW5.trans (b6.mono BW5.size)⟩
      · go_wp2_with fail
        refine (awake_any _).mono ?_
        rintro e w2 ⟨rfl, b2⟩
        go_wp2_with fail
        go_ret
        exact ⟨rfl, B1.trans (b2.mono (by omega))⟩
    · have hw' : fewB l = false := by simpa using hw
      rw [hw']
      clear hw hw'
      go_wp2_with fail
      refine (awake_any _).mono ?_
      rintro e w2 ⟨rfl, b2⟩
      go_wp2_with fail
      go_ret
      exact ⟨rfl, B1.trans (b2.mono (by omega))⟩
  · have hs' : smallB a b = false := by simpa using hs
    rw [hs']
    clear hs hs'
    go_wp2_with fail
    refine (awake_any _).mono ?_
    rintro e w2 ⟨rfl, b2⟩
    go_wp2_with fail
    go_ret
    exact ⟨rfl, B1.trans (b2.mono (by omega))⟩
end Go.Proofs.Ytbbjeoepoocofaa
