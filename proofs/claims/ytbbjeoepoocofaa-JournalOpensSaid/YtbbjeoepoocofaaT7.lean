import Derived.Test.YtbbjeoepoocofaaV3
import Derived.Test.YtbbjeoepoocofaaS3
namespace Go.Proofs.Ytbbjeoepoocofaa
open Go.RowKit

theorem isB_over {L xs : List Int} (h : isB L) (hx : isB xs) (off : Nat) : isB (over L off xs) := fun y hy => by
  unfold over at hy
  rw [List.mem_append, List.mem_append] at hy
  rcases hy with hy | hy | hy
  · exact h y (List.mem_of_mem_take hy)
  · exact hx y hy
  · exact h y (List.mem_of_mem_drop hy)
theorem runs_isB {D : Dk} (h : isB D.now) (l : List Opv) (hl : ∀ o ∈ l, isB o.b) : isB (D.runs l).now := by
  unfold Dk.runs
  induction l generalizing D with
  | nil => exact h
  | cons o l ih =>
    refine ih (D := D.op o) ?_ (fun p hp => hl p (by simp [hp]))
    unfold Dk.op
    split
    · exact h
    · unfold Dk.put
      split
      · exact isB_over h (hl o (by simp)) _
      · exact h
theorem clr_over {L : List Int} {f : Nat} (h : f ≤ L.length) : over (List.replicate L.length 0) 0 (L.take f) = clr L f := by
  have hl : (L.take f).length = f := by rw [List.length_take]; omega
  unfold over clr
  rw [List.take_zero, List.nil_append, hl, Nat.zero_add, List.drop_replicate]

set_option maxRecDepth 100000 in
set_option maxHeartbeats 8000000 in
theorem Opens_law (w : World) (a b : Int) (lv : Value) (l : List Opv) (hl : OpsAt w w.heap.size lv l) (hlB : ∀ o ∈ l, isB o.b) :
    Calls Try.prog 10 #[.agg #[.int .i64 a, .int .i64 b], lv] w fun e w' => e = .returned (.bool true) ∧ Below w.heap.size w w' := by
  obtain ⟨lp, lc, rfl, hlm⟩ := hl.form
  unfold maxLen at hlm
  have HL := Lib.hid hl
  have HLB := Lib.hid hlB
  clear hl hlB
  go_enter Try.func10, Try.ntmps10
  go_wp2_with fail
  refine (small18_any _ a b).mono ?_
  rintro e w1 ⟨rfl, b1⟩
  have A0 : Below w.heap.size w (w.alloc (.cells #[.int .i64 a, .int .i64 b] 22)) := (Below.refl _ _).alloc (Nat.le_refl _) _
  have B1 : Hid (Below w.heap.size w w1) := A0.trans (b1.mono (by simp))
  have S1 : w.heap.size + 1 ≤ w1.heap.size := by have := b1.size; simpa using this
  have X1 : Box w1 w.heap.size a b := (Box.new w a b 22).below b1 (by simp)
  have L1 : Hid (OpsAt w1 w.heap.size (.slice lp l.length lc) l) := HL.out.below B1.out
  clear A0 b1 HL
  by_cases hs : small18 a b = true
  · rw [hs]
    obtain ⟨m, n, rfl, rfl, m1, m2, n1, n2⟩ := small18_num hs
    clear hs
    obtain ⟨x0, x1⟩ := X1
    by_cases hn : l.length ≤ 30
    · go_wp2_with fail
      refine (New_yes w1 m n m1 (by omega) n1 (by omega)).mono ?_
      rintro e w2 ⟨d, M, S, rfl, hd, hS, b2⟩
      have O2 : Hid (Own w.heap.size w2 d (newDk m n)) := ⟨M, S, hd, fun k hk => by have := hS k hk; omega⟩
      have B2 : Hid (Below w.heap.size w w2) := B1.out.trans (b2.mono (by omega))
      have z2 := b2.size
      have L2 : Hid (OpsAt w2 w.heap.size (.slice lp l.length lc) l) := L1.out.below (b2.mono (by omega))
      clear hd hS b2 x0 x1 L1 B1
      go_wp2_with fail
      go_loopw [7] (fun i wr => ∃ k : Nat, i = .int .i64 k ∧ k ≤ l.length ∧ Own w.heap.size wr d ((newDk m n).runs (l.take k)) ∧ Below w.heap.size w2 wr) (fun i _ => l.length - (intOf i).toNat)
      case atStart => exact ⟨0, rfl, Nat.zero_le _, O2.out, Below.refl _ _⟩
      case round =>
        obtain ⟨k, rfl, hk, hO, hW⟩ := hrel
        have HW : Hid (Below w.heap.size w2 wr) := hW
        have zr := hW.size
        by_cases hlt : k < l.length
        · obtain ⟨b, off, cap, va, vc, e1, hc1, hc2, q0, q1, q2, hb, hbB⟩ := (L2.out.below hW).at hlt
          simp only [Value.slice.injEq, true_and] at e1
          obtain ⟨rfl, rfl⟩ := e1
          have hrun : (newDk m n).runs (l.take (k + 1)) = ((newDk m n).runs (l.take k)).op l[k] := by
            rw [List.take_add_one, List.getElem?_eq_getElem hlt]
            exact Dk.runs_snoc _ _ _
          have hop : ((newDk m n).runs (l.take k)).open_.length < 1000000 := by
            have h1 := (newDk m n).runs_open (l.take k)
            have h2 : (newDk m n).open_.length = 0 := rfl
            rw [List.length_take] at h1
            omega
          have HR := Lib.hid hrun
          have HOW := Lib.hid hO
          have HB := Lib.hid hb
          have HBB := Lib.hid hbB
          clear hrun hO hb hbB hW
          generalize (newDk m n).runs (l.take k) = D at *
          generalize l[k] = o at *
          obtain ⟨os, ob, oxs⟩ := o
          simp only at *
          by_cases h40 : oxs.length ≤ 40
          · cases os
            · go_wp2_with fail
              go_region_law (first
                | (go_simp; go_at_call 22; refine (HOW.out.draw.write (show w.heap.size ≤ wr.heap.size by have := B2.out.size; omega) ob _ oxs (HB.out.below' ⟨rfl, rfl, rfl, Nat.le_refl _, fun _ _ => rfl⟩) (fun k hk hp => HBB.out k hk hp) hop).mono ?_; rintro e w4 ⟨rfl, h4, b4⟩)
                | fail)
              all_goals
                have H4 : Hid (Own w.heap.size w4 d (D.put ob oxs)) := h4
                have B4 : Hid (Below w.heap.size w2 w4) := HW.out.trans ⟨b4.os, b4.tape, b4.output, b4.size, b4.block⟩
                clear h4 b4 q0 q1 q2
                go_wp2_with fail
                go_roundw
                case rel => exact ⟨k + 1, by simp, by omega, by rw [HR.out]; exact H4.out, B4.out⟩
                case measure => simp [intOf]; omega
            · go_wp2_with fail
              refine (HOW.out.sync (show w.heap.size ≤ wr.heap.size by have := B2.out.size; omega)).mono ?_
              rintro e w4 ⟨rfl, h4, b4⟩
              have H4 : Hid (Own w.heap.size w4 d D.sync) := h4
              have B4 : Hid (Below w.heap.size w2 w4) := HW.out.trans b4
              clear h4 b4 q0 q1 q2
              go_wp2_with fail
              go_roundw
              case rel => exact ⟨k + 1, by simp, by omega, by rw [HR.out]; exact H4.out, B4.out⟩
              case measure => simp [intOf]; omega
          · go_wp2_with fail
            refine (awake18_any _).mono ?_
            rintro e wz ⟨rfl, bz⟩
            go_wp2_with fail
            go_ret
            have BR := B2.out.trans (HW.out.mono (Nat.le_refl _))
            exact ⟨rfl, BR.trans (bz.mono BR.size)⟩
        · obtain rfl : k = l.length := by omega
          have HO : Hid (Own w.heap.size wr d ((newDk m n).runs l)) := by
            have := hO
            rw [List.take_length] at this
            exact this
          have hrb := (newDk m n).runs_blocks l
          have hro := (newDk m n).runs_open l
          have hro0 : (newDk m n).open_.length = 0 := rfl
          have HIS : Hid (isB ((newDk m n).runs l).now) := runs_isB (new_isB m n) l HLB.out
          have hbl : ((newDk m n).runs l).blocks = m := hrb.1
          have hsz : ((newDk m n).runs l).size = n := hrb.2
          have BR : Hid (Below w.heap.size w wr) := B2.out.trans HW.out
          clear hO hW hrb HW L2 O2 B2
          generalize (newDk m n).runs l = D at *
          have hop : D.open_.length ≤ 30 := by omega
          obtain ⟨M', S', hD, hS'⟩ := HO.out
          have HD : Hid (DiskAt wr d D M' S') := hD
          have SQ : Hid (Sits wr w.heap.size ⟨M', S'⟩) := ⟨hD.sub, hD.lt, fun k hk => hS' k (hD.sub k hk)⟩
          have hnl : D.now.length = m * n := by obtain ⟨_, _, _, _, _, _, li⟩ := hD; rw [li.nowLen, hbl, hsz]
          have hmn : m * n ≤ 20 * 40 := Nat.mul_le_mul m2 n2
          have hmn0 : 0 < m * n := Nat.mul_pos m1 n1
          have hN1 : D.now.length ≤ 800 := by omega
          have hN0 : 0 < D.now.length := by omega
          have HBL := Lib.hid hbl
          have HSZ := Lib.hid hsz
          clear hD hS' HO hbl hsz hro hro0 hnl
          go_wp2_with fail
          refine (bytes_any wr d D M' S' HD.out (by rw [HBL.out]; omega)).mono ?_
          rintro e w5 ⟨v5, rfl, h5, b5⟩
          obtain ⟨g, gc, rfl, g1, g2⟩ := h5.form hN0
          have O5 := Lib.hid h5
          have D5 : Hid (DiskAt w5 d D M' S') := HD.out.below b5
          have S5 : Hid (Sits w5 w.heap.size ⟨M', S'⟩) := SQ.out.mono b5.size
          have B5 : Hid (Below w.heap.size w w5) := BR.out.trans (b5.mono BR.out.size)
          have hgm : Hid (¬ M' g) := fun hk => by have := SQ.out.lt g (SQ.out.sub g hk); omega
          clear h5 b5 HD SQ BR
          go_wp2_with fail
          refine (Open_JJ w5 d D ⟨M', S'⟩ D5.out HIS.out (by rw [HBL.out]; omega) (by rw [HSZ.out]; omega) (by omega)).mono ?_
          rintro e w6 ⟨j, rs, fin, p6, q6, rfl, hr6, hj6, hp6, u6⟩
          have HR6 := Lib.hid hr6
          have J6 : Hid (Jr w6 j d (clr D.now fin) fin rs p6.m p6.s) := hj6.jr
          have DK6 : Hid (DiskAt w6 d (D.reset (clr D.now fin)) q6.m q6.s) := hj6.dk
          have HSM : Hid (∀ r ∈ rs, r.length ≤ 1000000) := fun r hr => by have := hj6.ji.small r hr; omega
          have hfin : fin ≤ D.now.length := hr6.1.le
          have hrl : rs.length ≤ 200 := by have := frms_len4 rs; have := hr6.1.fin; omega
          have O6 : Hid (w6.ownsRow 0 5 1 (.slice (some ⟨g, 0, none⟩) D.now.length gc) D.now.length (bts D.now)) := own_mono (own_keep O5.out u6.keeps (fun k e hk => by
            obtain rfl : g = k := by simpa [Value.ownBlock] using e
            exact hgm.out hk)) (Nat.zero_le _)
          have b6 := u6.below S5.out B5.out.size
          have B6 : Hid (Below w.heap.size w w6) := B5.out.trans b6
          have hz6 : g < w6.heap.size := by have := b6.size; omega
          clear hr6 hj6 hp6 u6 b6 O5 D5 S5 B5 hgm
          go_wp2_with fail
          refine (RefRecords_any w6 g gc D.now O6.out HIS.out (by omega)).mono ?_
          rintro e w7 ⟨ov, rs', f', rfl, hr7, ht7, b7⟩
          obtain ⟨rfl, rfl⟩ := hr7.uniq HR6.out
          have T7 : Hid (Bb w7 ov rs') := ht7.reads
          obtain ⟨ova, ovc, rfl, -⟩ := ht7.reads.form
          have J7 := Lib.hid (J6.out.below b7)
          have D7 := Lib.hid (DK6.out.below b7)
          have O7 := Lib.hid (own_same O6.out b7)
          have B7 : Hid (Below w.heap.size w w7) := B6.out.trans (b7.mono B6.out.size)
          have hz7 : g < w7.heap.size := by have := b7.size; omega
          clear hr7 ht7 b7 J6 DK6 O6 B6 HR6
          go_wp2_with fail
          refine (Records_any w7 j d _ f' rs' p6.m p6.s J7.out hrl HSM.out).mono ?_
          rintro e w8 ⟨xv, rfl, hx, b8⟩
          have X8 : Hid (Bb w8 xv rs') := hx.reads
          obtain ⟨xa, xc, rfl, -⟩ := hx.reads.form
          have T8 : Hid (Bb w8 (.slice ova rs'.length ovc) rs') := T7.out.below' b8
          have J8 := Lib.hid (J7.out.below b8)
          have D8 := Lib.hid (D7.out.below b8)
          have O8 := Lib.hid (own_same O7.out b8)
          have B8 : Hid (Below w.heap.size w w8) := B7.out.trans (b8.mono B7.out.size)
          have hz8 : g < w8.heap.size := by have := b8.size; omega
          clear hx b8 T7 J7 D7 O7 B7
          go_wp2_with fail
          refine (Same_any w8 _ _ rs' rs' X8.out T8.out).mono ?_
          rw [decide_eq_true rfl]
          rintro e w9 ⟨rfl, n9, hw9⟩
          have b9 := below_of_drew' hw9
          have J9 := Lib.hid (J8.out.below b9)
          have D9 := Lib.hid (D8.out.below b9)
          have O9 := Lib.hid (own_same O8.out b9)
          have B9 : Hid (Below w.heap.size w w9) := B8.out.trans (b9.mono B8.out.size)
          have hz9 : g < w9.heap.size := by have := b9.size; omega
          clear hw9 b9 X8 T8 J8 D8 O8 B8
          go_wp2_with fail
          refine (Len_any w9 j d _ f' rs' p6.m p6.s J9.out).mono ?_
          rintro e w10 ⟨rfl, rfl⟩
          go_wp2_with fail
          refine (Open_any w9 d _ q6.m q6.s D9.out).mono ?_
          rintro e w10 ⟨rfl, rfl⟩
          rw [show (D.reset (clr D.now f')).open_.length = 0 from rfl]
          obtain ⟨i0, hi5, hz0, hz1, hz2⟩ := info_parts info5
          have hmk : ∀ w, (Instr.makeSlice 30 (.int .i64 D.now.length) (.int .i64 D.now.length)).run Try.prog w = .ok (.slice (some ⟨w.heap.size, 0, none⟩) D.now.length D.now.length) (w.alloc (.cells (madeCells #[.int .u8 0] D.now.length) 5)) := by
            intro w
            have := run_make (P := Try.prog) w 30 5 i0 (.int .u8 0) Try.underlying30 hi5 hz0 .i64 .i64 D.now.length D.now.length (by omega) (Int.le_refl _) (by rw [hz2]; omega) (by omega)
            rw [hz1] at this
            simpa [Value.cells] using this
          have hgcc := (Rd.of_own O9.out).capOk.2
          have hgc1 : D.now.length ≤ gc := hgcc.1
          have hgc2 : gc ≤ 9223372036854775807 := hgcc.2
          have hfg : f' ≤ gc := by omega
          clear hgcc
          have W10 : Hid ((w9.alloc (.cells (madeCells #[.int .u8 0] D.now.length) 5)).heap[w9.heap.size]? = some (.cells (madeCells #[.int .u8 0] D.now.length).toList.toArray 5)) := by
            unfold Hid
            rw [Array.toArray_toList]
            exact heap_alloc_new w9 _
          have B10 : Hid (Below w9.heap.size w9 (w9.alloc (.cells (madeCells #[.int .u8 0] D.now.length) 5))) := (Below.refl _ _).alloc (Nat.le_refl _) _
          have hcur : Hid ((madeCells #[.int .u8 0] D.now.length).toList = bts (List.replicate D.now.length 0)) := by
            unfold Hid
            rw [toList_madeCells_one]
            simp [bts]
          have hcl : Hid ((madeCells #[.int .u8 0] D.now.length).toList.length = D.now.length) := by
            unfold Hid
            rw [hcur.out, bts_length, List.length_replicate]
          have htl : Hid ((D.now.take f').length = f') := by unfold Hid; rw [List.length_take]; omega
          have HNL : Hid ((bts (D.now.take f')).length = Nat.min f' D.now.length) := by unfold Hid; rw [bts_length, htl.out]; show f' = min f' D.now.length; omega
          have HPOS : Hid (0 < (bts (D.now.take f')).length → ∃ ad, (some ⟨g, 0, none⟩ : Option Addr) = some ad ∧ ∀ j v, (bts (D.now.take f'))[j]? = some v → (w9.alloc (.cells (madeCells #[.int .u8 0] D.now.length) 5)).cell? (ad.add j) = some v) := fun _ => ⟨_, rfl, fun i v hv => by
            have hi : i < f' := by have := (List.getElem?_eq_some_iff.1 hv).1; rw [bts_length, htl.out] at this; exact this
            have hadd : (⟨g, 0, none⟩ : Addr).add i = ⟨g, 0 + i, none⟩ := by unfold Addr.add; split <;> simp_all
            rw [hadd, Nat.zero_add, B10.out.cell (p := ⟨g, i, none⟩) hz9, O9.out.cellAt i (by omega)]
            have e1 : bts (D.now.take f') = (bts D.now).take f' := by simp [bts, List.map_take]
            rw [e1, List.getElem?_take, if_pos hi] at hv
            exact hv⟩
          have HFIT : Hid (0 + (bts (D.now.take f')).length ≤ (madeCells #[.int .u8 0] D.now.length).toList.length) := by unfold Hid; rw [bts_length, htl.out, hcl.out]; omega
          go_wp2_with ((with_reducible refine wpList_copy_keep (o := ⟨some 114, _, _, _, _, _⟩) ?_ (.tmp 110) (.tmp 113) 30 30 ?_ 5 Try.underlying30 info5s (some ⟨g, 0, none⟩) D.now.length D.now.length f' gc w9.heap.size 0 ?_ ?_ (madeCells #[.int .u8 0] D.now.length).toList 5 W10.out (bts (D.now.take f')) HNL.out HPOS.out HFIT.out bts_one ?_); rfl; rfl; rfl; rfl; intro w11 hco)
          have N11 : Hid (w11.ownsRow 0 5 1 (.slice (some ⟨w9.heap.size, 0, none⟩) D.now.length D.now.length) D.now.length (bts (clr D.now f'))) := by
            unfold Hid
            rw [← clr_over hfin]
            refine copy_own (L := List.replicate D.now.length 0) ?_ (Nat.le_refl _) (by unfold maxLen; omega) hcl.out (by rw [htl.out]; omega) hco
            rw [List.take_of_length_le (by rw [hcl.out]; exact Nat.le_refl _)]
            exact hcur.out
          have b11 : Below w9.heap.size w9 w11 := B10.out.trans (hco.keeps.below (by simp) (fun k hk => by omega))
          have J11 := Lib.hid (J9.out.below b11)
          have D11 := Lib.hid (D9.out.below b11)
          have B11 : Hid (Below w.heap.size w w11) := B9.out.trans (b11.mono B9.out.size)
          have HCL : Hid ((clr D.now f').length = D.now.length) := clr_length hfin
          clear hco b11 W10 B10 hcur hcl htl HNL HPOS HFIT hmk J9 D9 O9 B9
          go_wp2_with fail
          refine (bytes_any w11 d _ q6.m q6.s D11.out (by show D.blocks ≤ 64; rw [HBL.out]; omega)).mono ?_
          rintro e w12 ⟨v12, rfl, h12, b12⟩
          rw [show (D.reset (clr D.now f')).now = clr D.now f' from rfl, HCL.out] at h12
          obtain ⟨p12, c12, rfl⟩ := own_slice h12
          have R12 : Hid (Rb w12 (.slice p12 D.now.length c12) (clr D.now f')) := by
            have := Rd.of_own h12
            unfold Hid Rb
            rw [HCL.out]
            exact this
          have N12 : Hid (Rb w12 (.slice (some ⟨w9.heap.size, 0, none⟩) D.now.length D.now.length) (clr D.now f')) := by
            have := Rd.of_own (own_same N11.out b12)
            unfold Hid Rb
            rw [HCL.out]
            exact this
          have J12 := Lib.hid (J11.out.below b12)
          have B12 : Hid (Below w.heap.size w w12) := B11.out.trans (b12.mono B11.out.size)
          clear h12 b12 N11 J11 D11 B11
          go_wp2_with fail
          refine (Bytes_any w12 _ _ _ _ R12.out N12.out).mono ?_
          rw [decide_eq_true rfl]
          rintro e w13 ⟨rfl, n13, hw13⟩
          have b13 := below_of_drew' hw13
          have J13 := Lib.hid (J12.out.below b13)
          have B13 : Hid (Below w.heap.size w w13) := B12.out.trans (b13.mono B12.out.size)
          clear hw13 b13 R12 N12 J12 B12
          go_wp2_with fail
          refine (Room_any w13 j d _ f' rs' p6.m p6.s J13.out).mono ?_
          rw [HCL.out]
          rintro e w14 ⟨rfl, b14⟩
          have B14 : Hid (Below w.heap.size w w14) := B13.out.trans (b14.mono B13.out.size)
          clear b14 J13 B13
          obtain ⟨rv, hrv⟩ : ∃ rv, roomV D.now.length f' = rv := ⟨_, rfl⟩
          have HRV := Lib.hid hrv
          rw [hrv]
          clear hrv
          go_wp2_with fail
          refine (Room18_any w14 D.now.length f' (by omega) (by omega)).mono ?_
          rw [HRV.out]
          rintro e w15 ⟨rfl, rfl⟩
          go_wp2_with fail
          refine (awake18_any _).mono ?_
          rintro e wz ⟨rfl, bz⟩
          go_wp2_with fail
          go_ret
          exact ⟨rfl, B14.out.trans (bz.mono B14.out.size)⟩
    · clear x0 x1
      go_wp2_with fail
      refine (awake18_any _).mono ?_
      rintro e wz ⟨rfl, bz⟩
      go_wp2_with fail
      go_ret
      exact ⟨rfl, B1.out.trans (bz.mono B1.out.size)⟩
  · have hs' : small18 a b = false := by simpa using hs
    rw [hs']
    clear hs hs'
    go_wp2_with fail
    refine (awake18_any _).mono ?_
    rintro e wz ⟨rfl, bz⟩
    go_wp2_with fail
    go_ret
    exact ⟨rfl, B1.out.trans (bz.mono B1.out.size)⟩
end Go.Proofs.Ytbbjeoepoocofaa
