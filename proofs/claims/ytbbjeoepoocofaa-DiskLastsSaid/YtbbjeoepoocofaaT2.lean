import Derived.Test.YtbbjeoepoocofaaT1
import Derived.Test.YtbbjeoepoocofaaF4
namespace Go.Proofs.Ytbbjeoepoocofaa
open Go.RowKit

theorem Under.crash_any {hi : Nat} {w : World} {d : Nat} {D : Dk} (h : Under hi w d D) (fv : Value) (fs : List Int) (hf : Rd w 1 fv fs.length (its fs)) :
    Calls Try.prog 19 #[.pointer (some ⟨d, 0, none⟩), fv] w fun e w' => Below w.heap.size w w' ∧
      ((fs.length ≤ D.open_.length ∧ (∀ i, i < fs.length → -1 ≤ fs.getD i 0) ∧ ∃ d', e = .returned (.tuple #[.pointer (some ⟨d', 0, none⟩), .int .i64 0]) ∧ Own w.heap.size w' d' (D.crash fs)) ∨
       (¬ (fs.length ≤ D.open_.length ∧ ∀ i, i < fs.length → -1 ≤ fs.getD i 0) ∧ e = .returned (.tuple #[.pointer none, .int .i64 1]))) := by
  obtain ⟨M, S, h1, -⟩ := h
  have : Own 0 w d D := ⟨M, S, h1, fun _ _ => Nat.zero_le _⟩
  exact this.crash_any (Nat.zero_le _) fv fs hf

/-- What a crash answers, in one. -/
theorem Under.crash_two {hi : Nat} {w : World} {d : Nat} {D : Dk} (h : Under hi w d D) (fv : Value) (fs : List Int) (hf : Rd w 1 fv fs.length (its fs)) :
    Calls Try.prog 19 #[.pointer (some ⟨d, 0, none⟩), fv] w fun e w' => Below w.heap.size w w' ∧ ∃ q g, e = .returned (.tuple #[.pointer q, .int .i64 g]) ∧
      ((g = 0 ∧ ∃ c, q = some ⟨c, 0, none⟩ ∧ Own w.heap.size w' c (D.crash fs)) ∨ g = 1) := by
  refine (h.crash_any fv fs hf).mono ?_
  rintro e w' ⟨b, ⟨-, -, d', rfl, O⟩ | ⟨-, rfl⟩⟩
  · exact ⟨b, _, _, rfl, .inl ⟨rfl, d', rfl, O⟩⟩
  · exact ⟨b, _, _, rfl, .inr rfl⟩

set_option maxRecDepth 100000 in
set_option maxHeartbeats 4000000 in
theorem Lasts_law (w : World) (a b : Int) (lv fv : Value) (l : List Opv) (fs : List Int) (hl : OpsAt w w.heap.size lv l) (hf : Rd w 1 fv fs.length (its fs)) :
    Calls Try.prog 3 #[.agg #[.int .i64 a, .int .i64 b], lv, fv] w fun e w' => e = .returned (.bool true) ∧ Below w.heap.size w w' := by
  obtain ⟨lp, lc, rfl, hlm⟩ := hl.form
  obtain ⟨fp, fc, rfl, -⟩ := hf.form
  have hfm := hf.len
  unfold maxLen at hlm hfm
  have HL := Lib.hid hl
  have HF := Lib.hid hf
  have HFL : Hid (∀ k, (Value.slice fp fs.length fc).ownBlock = some k → 0 < fs.length → k < w.heap.size) := hf.lt (by decide)
  clear hl hf
  go_enter Try.func3, Try.ntmps3
  go_wp2_with fail
  refine (small_any _ a b).mono ?_
  rintro e w1 ⟨rfl, b1⟩
  have A0 : Below w.heap.size w (w.alloc (.cells #[.int .i64 a, .int .i64 b] 22)) := (Below.refl _ _).alloc (Nat.le_refl _) _
  have B1 : Below w.heap.size w w1 := A0.trans (b1.mono (by simp))
  have S1 : w.heap.size + 1 ≤ w1.heap.size := by have := b1.size; simpa using this
  have X1 : Box w1 w.heap.size a b := (Box.new w a b 22).below b1 (by simp)
  have L1 : Hid (OpsAt w1 w.heap.size (.slice lp l.length lc) l) := HL.out.below B1
  have F1 : Hid (Rd w1 1 (.slice fp fs.length fc) fs.length (its fs)) := HF.out.keep (X := fun _ => False) (Keeps.of_below B1) (fun _ _ _ f => f)
  clear A0 b1 HL HF
  by_cases hs : smallB a b = true
  · rw [hs]
    obtain ⟨s1, s2, s3, s4⟩ := of_decide_eq_true hs
    have hsm : Hid (1 ≤ a ∧ a ≤ 8 ∧ 1 ≤ b ∧ b ≤ 40) := ⟨s1, s2, s3, s4⟩
    clear hs
    obtain ⟨x0, x1⟩ := X1
    go_wp2_with fail
    refine (few_any w1 _ _ l L1.out).mono ?_
    rintro e w2 ⟨rfl, rfl⟩
    by_cases hw : fewB l = true
    · rw [hw]
      obtain ⟨l1, l2⟩ := of_decide_eq_true hw
      have HL2 := Lib.hid l2
      clear hw l2
      by_cases hn : fs.length ≤ 40
      · go_wp2_with fail
        refine (made_any w1 a b s1 (by omega) s3 (by omega) w.heap.size (by omega) _ l L1.out (by omega)).mono ?_
        rintro e w2 ⟨d, rfl, O2, b2⟩
        have B2 := B1.trans (b2.mono (by omega : w.heap.size ≤ w1.heap.size))
        have F2 : Hid (Rd w2 1 (.slice fp fs.length fc) fs.length (its fs)) := F1.out.keep (X := fun _ => False) (Keeps.of_below b2) (fun _ _ _ f => f)
        have O2' := Lib.hid O2
        have y0 : w2.cell? ⟨w.heap.size, 0, none⟩ = some (.int .i64 a) := (b2.cell (p := ⟨w.heap.size, 0, none⟩) (by simp; omega)).trans x0
        have y1 : w2.cell? ⟨w.heap.size, 1, none⟩ = some (.int .i64 b) := (b2.cell (p := ⟨w.heap.size, 1, none⟩) (by simp; omega)).trans x1
        have L2 : Hid (OpsAt w2 w.heap.size (.slice lp l.length lc) l) := L1.out.below (b2.mono (by omega))
        have S2 := b2.size
        clear O2 b2 x0 x1 L1 F1 B1
        go_wp2_with fail
        go_loopw [8, 9] (fun f i wr => ∃ k : Nat, f = .int .i64 (fAt l k : Nat) ∧ i = .int .i64 k ∧ k ≤ l.length ∧ w2 = wr) (fun _ i _ => l.length - (intOf i).toNat)
        case atStart => exact ⟨0, rfl, rfl, Nat.zero_le _, rfl⟩
        case round =>
          obtain ⟨k, rfl, rfl, hk, rfl⟩ := hrel
          by_cases hlt : k < l.length
          · obtain ⟨lb, lo, cap, va, vc, e1, -, -, q0, -, -, -, -⟩ := L2.out.at hlt
            simp only [Value.slice.injEq, true_and] at e1
            obtain ⟨rfl, rfl⟩ := e1
            have hsy : Hid ((l.getD k ⟨false, 0, []⟩).sync = l[k].sync) := by unfold Hid; simp [List.getD, List.getElem?_eq_getElem hlt]
            generalize l[k].sync = sy at *
            have H1 : Hid (sy = true → fAt l (k + 1) = k + 1) := fun h => by unfold fAt; rw [hsy.out, if_pos h]
            have H2 : Hid (sy = false → fAt l (k + 1) = fAt l k) := fun h => by rw [fAt, hsy.out, h]; rfl
            cases sy
            · go_wp2_with fail
              go_roundw
              case rel => exact ⟨k + 1, by rw [H2.out rfl], rfl, by omega, by trivial⟩
              case measure => simp [intOf]; omega
            · go_wp2_with fail
              go_roundw
              case rel => exact ⟨k + 1, by rw [H1.out rfl]; rfl, rfl, by omega, by trivial⟩
              case measure => simp [intOf]; omega
          · obtain rfl : k = l.length := by omega
            have hfl := fAt_le l l.length
            have hf1 : Hid (∀ i, fAt l l.length ≤ i → i < l.length → (l.getD i ⟨false, 0, []⟩).sync = false) := fun i => fAt_none l l.length i
            have hf2 : Hid (((newDk a.toNat b.toNat).runs (l.take (fAt l l.length))).still) := still_at _ _ l l.length (Nat.le_refl _)
            generalize fAt l l.length = f at *
            obtain ⟨hc1, hc2⟩ := L2.out.cap
            unfold maxLen at hc2
            have hfc : f ≤ lc := by omega
            go_wp2_with fail
            go_region_law (first
              | (go_simp; go_at_call 17; refine (made_any w2.drew a b s1 (by omega) s3 (by omega) w.heap.size (by show w.heap.size ≤ w2.heap.size; omega) _ (l.take f) ((L2.out.take f (by omega)).below ⟨rfl, rfl, rfl, Nat.le_refl _, fun _ _ => rfl⟩) (by rw [List.length_take]; omega)).mono ?_; rintro e w4 ⟨x, rfl, O4, b4⟩)
              | fail)
            have O4' : Hid (Own w2.heap.size w4 x ((newDk a.toNat b.toNat).runs (l.take f))) := O4
            have b4' : Below w2.heap.size w2 w4 := ⟨b4.os, b4.tape, b4.output, b4.size, b4.block⟩
            have C4 : Hid (Under w2.heap.size w4 d ((newDk a.toNat b.toNat).runs l)) := O2'.out.under.below b4'
            have B4 := B2.trans (b4'.mono (by omega : w.heap.size ≤ w2.heap.size))
            have F4 : Hid (Rd w4 1 (.slice fp fs.length fc) fs.length (its fs)) := F2.out.keep (X := fun _ => False) (Keeps.of_below b4') (fun _ _ _ f => f)
            have X4 : Hid (Box w4 w.heap.size a b) := (show Box w2 w.heap.size a b from ⟨y0, y1⟩).below b4' (by omega)
            have L4 : Hid (OpsAt w4 w.heap.size (.slice lp l.length lc) l) := L2.out.below (b4'.mono (by omega))
            have S4 := b4'.size
            have hOP : ((newDk a.toNat b.toNat).runs l).open_.length ≤ 30 := by have h1 := (newDk a.toNat b.toNat).runs_open l; have h2 : (newDk a.toNat b.toNat).open_.length = 0 := rfl; omega
            clear O4 b4 b4' y0 y1 L2 F2 O2' B2
            obtain ⟨i0, hi3, hz0, hz1, hz2⟩ := info_parts info3
            go_wp2_with fail
            obtain ⟨no, hno⟩ : ∃ no, ((newDk a.toNat b.toNat).runs l).open_.length = no := ⟨_, rfl⟩
            have HNO := Lib.hid hno
            rw [hno] at hOP
            clear hno
            go_loopw [11, 12] (fun v iv wr => ∃ k : Nat, iv = .int .i64 k ∧ k ≤ no ∧ wr.ownsRow w4.heap.size 3 1 v k (its (List.replicate k (-1))) ∧ Below w4.heap.size w4 wr) (fun _ i _ => no - (intOf i).toNat)
            case atStart => exact ⟨0, rfl, Nat.zero_le _, World.ownsRow_nil _ _ _ _, Below.refl _ _⟩
            case round =>
              obtain ⟨k, rfl, hk, hown, hB⟩ := hrel
              obtain ⟨va, vc, rfl⟩ := own_slice hown
              have HOW := Lib.hid hown
              clear hown
              go_wp2_with fail
              refine ((C4.out.below (hB.mono S4)).opens).mono ?_
              rintro e w5 ⟨rfl, rfl⟩
              rw [HNO.out]
              by_cases hlt : k < no
              · have hk40 : (k : Int) < 40 := by omega
                go_wp2_with ((at_builtin; refine wpList_append_own _ rfl _ _ 24 rfl w4.heap.size 3 i0 (.int .i64 0) 1 8 Try.underlying24 hi3 hz0 hz1 hz2 rfl (by decide) _ k (its (List.replicate k (-1))) rfl (own_keep HOW.out ((Keeps.refl (fun _ => False) wr).alloc _) (fun _ _ f => f)) ⟨wr.heap.size, 0, none⟩ 1 1 [.int .i64 (-1)] rfl rfl (World.news_of_block (heap_alloc_new wr _)) (by simp [Value.oneCell']) (by unfold maxLen; omega) (by omega) (by have := hB.size; simp; omega) ?_))
                rintro v' w6 hown6 hg6 -
                have HO6 : Hid (w6.ownsRow w4.heap.size 3 1 v' (k + 1) (its (List.replicate (k + 1) (-1)))) := by
                  have := hown6
                  rw [show its (List.replicate (k + 1) (-1)) = its (List.replicate k (-1)) ++ [.int .i64 (-1)] by simp [its, List.replicate_succ']]
                  exact this
                have B6 : Below w4.heap.size w4 w6 := (hB.alloc hB.size _).grown hg6 (by have := hB.size; simp; omega) (fun j hj => (own_lt HOW.out j hj).1)
                clear hown6 hg6
                go_wp2_with fail
                go_roundw
                case rel => exact ⟨k + 1, rfl, by omega, HO6.out, B6⟩
                case measure => simp [intOf]; omega
              · have hk' : Hid (no = k) := by unfold Hid; omega
                have HRD : Hid (Rd wr 1 (.slice va k vc) (List.replicate k (-1 : Int)).length (its (List.replicate k (-1)))) := by rw [List.length_replicate]; exact Rd.of_own HOW.out
                have hAll : Hid (∀ i, (((newDk a.toNat b.toNat).runs l).crash (List.replicate k (-1))).block i = ((newDk a.toNat b.toNat).runs l).block i) := fun i => crash_ones_block (whole_runs (whole_new _ _) _) k (by rw [HNO.out]; omega) i
                have hAb : Hid ((((newDk a.toNat b.toNat).runs l).crash (List.replicate k (-1))).blocks = a.toNat) := ((newDk a.toNat b.toNat).runs_blocks l).1
                go_wp2_with fail
                refine ((C4.out.below (hB.mono S4)).crash_any _ (List.replicate k (-1)) HRD.out).mono ?_
                rintro e w5 ⟨b5, ⟨-, -, c1, rfl, O5⟩ | ⟨hno, -⟩⟩
                case inr => exact absurd ⟨by rw [List.length_replicate, HNO.out, hk'.out]; exact Nat.le_refl _, fun i hi => by rw [List.length_replicate] at hi; simp [List.getD, hi]⟩ hno
                have BB5 : Below w4.heap.size w4 w5 := hB.trans (b5.mono hB.size)
                have SB : w4.heap.size ≤ wr.heap.size := hB.size
                generalize ((newDk a.toNat b.toNat).runs l).crash (List.replicate k (-1)) = DA at *
                have O5' := Lib.hid O5
                clear O5 HRD HOW b5 hB
                go_wp2_with fail
                refine ((O4'.out.below BB5).crash (.slice none 0 0) [] ⟨rfl, .inl ⟨.inl rfl, rfl⟩⟩ (by simp) (by simp) (by have := BB5.size; omega)).mono ?_
                rintro e w6 ⟨c2, rfl, O6, O6w, b6⟩
                have O6' := Lib.hid O6
                have O6w' := Lib.hid O6w
                have O56 : Hid (Own wr.heap.size w6 c1 DA) := O5'.out.below b6
                have BB6 : Below w4.heap.size w4 w6 := BB5.trans (b6.mono BB5.size)
                have hS : Hid (∀ i, (((newDk a.toNat b.toNat).runs (l.take f)).crash []).block i = ((newDk a.toNat b.toNat).runs (l.take f)).block i) := fun i => still_crash_block hf2.out i
                have hSb : Hid ((((newDk a.toNat b.toNat).runs (l.take f)).crash []).blocks = a.toNat) := ((newDk a.toNat b.toNat).runs_blocks (l.take f)).1
                generalize ((newDk a.toNat b.toNat).runs (l.take f)).crash [] = DS at *
                clear O6 O6w O5' O4' BB5
                go_wp2_with fail
                refine ((C4.out.below (BB6.mono S4)).crash_two _ fs (F4.out.below (BB6.mono (by omega)) HFL.out)).mono ?_
                rintro e w7 ⟨b7, q, g, rfl, hg⟩
                have HG := Lib.hid hg
                have BB7 : Below w4.heap.size w4 w7 := BB6.trans (b7.mono BB6.size)
                have CA : Hid (Own wr.heap.size w7 c1 DA) := O56.out.below b7
                have CW : Hid (Own w2.heap.size w7 x ((newDk a.toNat b.toNat).runs (l.take f))) := O6w'.out.below b7
                have CS : Hid (Own w2.heap.size w7 c2 DS) := O6'.out.below b7
                have CD : Hid (Under w2.heap.size w7 d ((newDk a.toNat b.toNat).runs l)) := C4.out.below (BB7.mono S4)
                have L7 : Hid (OpsAt w7 w.heap.size (.slice lp l.length lc) l) := L4.out.below (BB7.mono (by omega))
                have X7 : Hid (Box w7 w.heap.size a b) := X4.out.below BB7 (by omega)
                have B7 : Below w.heap.size w w7 := B4.trans (BB7.mono (by omega))
                have S7 : w2.heap.size ≤ w7.heap.size := by have := BB7.size; omega
                have S67 : w.heap.size ≤ w6.heap.size := by have := BB6.size; omega
                have HBY : Hid (∀ i k, k < b.toNat → (((newDk a.toNat b.toNat).runs l).crash fs |>.block i).getD k 0 = (((newDk a.toNat b.toNat).runs (l.take f)).block i).getD k 0 ∨ ∃ j, f ≤ j ∧ j < l.length ∧ (l.getD j ⟨false, 0, []⟩).block = i ∧ k < (l.getD j ⟨false, 0, []⟩).b.length ∧ (l.getD j ⟨false, 0, []⟩).b.length ≤ b.toNat ∧ (l.getD j ⟨false, 0, []⟩).b.getD k 0 = ((((newDk a.toNat b.toNat).runs l).crash fs).block i).getD k 0) := by
                  obtain ⟨M, S, ⟨_, _, _, _, _, _, li⟩, _⟩ := CD.out
                  have h1 := ((newDk a.toNat b.toNat).runs_blocks l)
                  intro i k hk
                  exact lasts_byte (newDk a.toNat b.toNat) l fs f hfl hf1.out hf2.out (by rw [li.firmLen, h1.1, h1.2]) i k hk
                have hDb : Hid (((newDk a.toNat b.toNat).runs l).blocks = a.toNat ∧ ((newDk a.toNat b.toNat).runs l).size = b.toNat) := (newDk a.toNat b.toNat).runs_blocks l
                have hWb : Hid (((newDk a.toNat b.toNat).runs (l.take f)).blocks = a.toNat ∧ ((newDk a.toNat b.toNat).runs (l.take f)).size = b.toNat) := (newDk a.toNat b.toNat).runs_blocks (l.take f)
                have hCb : Hid ((((newDk a.toNat b.toNat).runs l).crash fs).blocks = a.toNat ∧ (((newDk a.toNat b.toNat).runs l).crash fs).size = b.toNat) := (newDk a.toNat b.toNat).runs_blocks l
                generalize ((newDk a.toNat b.toNat).runs l).crash fs = DC at *
                generalize (newDk a.toNat b.toNat).runs l = DD at *
                generalize (newDk a.toNat b.toNat).runs (l.take f) = DW at *
                clear hg b7 b6 O56 O6' O6w' C4 BB6 BB7 F4 X4 L4 HFL HNO hf1 hf2
                go_wp2_with fail
                go_loopw [19] (fun jv wq => ∃ j : Nat, jv = .int .i64 j ∧ j ≤ a.toNat ∧ Below w7.heap.size w7 wq) (fun jv _ => a.toNat - (intOf jv).toNat)
                case atStart => exact ⟨0, rfl, Nat.zero_le _, Below.refl _ _⟩
                case round =>
                  obtain ⟨j, rfl, hj, hQ⟩ := hrel
                  obtain ⟨v0, v1⟩ := X7.out.below hQ (by omega)
                  have zq := hQ.size
                  by_cases hjl : j < a.toNat
                  · have hjl' : (j : Int) < a := by omega
                    go_wp2_with fail
                    refine ((CD.out.below (hQ.mono S7)).read j (by omega) (by rw [hDb.out.1]; omega)).mono ?_
                    rintro e w11 ⟨vv1, rfl, h1, b11⟩
                    obtain ⟨va1, vc1, rfl⟩ := own_slice h1
                    have R1 : Hid (Rb w11 (.slice va1 (DD.block j).length vc1) (DD.block j)) := Rd.of_own h1
                    have Q11 := hQ.trans (b11.mono zq)
                    clear h1 b11
                    go_wp2_with fail
                    refine ((CA.out.below Q11).read j (by omega) (by rw [hAb.out]; omega)).mono ?_
                    rintro e w12 ⟨vv2, rfl, h2, b12⟩
                    obtain ⟨va2, vc2, rfl⟩ := own_slice h2
                    have R2 : Hid (Rb w12 (.slice va2 (DA.block j).length vc2) (DA.block j)) := Rd.of_own h2
                    have R1b : Hid (Rb w12 (.slice va1 (DD.block j).length vc1) (DD.block j)) := R1.out.below' b12
                    have Q12 := Q11.trans (b12.mono Q11.size)
                    clear h2 b12 R1
                    go_wp2_with fail
                    refine ((CW.out.below Q12).read j (by omega) (by rw [hWb.out.1]; omega)).mono ?_
                    rintro e w13 ⟨vv3, rfl, h3, b13⟩
                    obtain ⟨va3, vc3, rfl⟩ := own_slice h3
                    have R3 : Hid (Rb w13 (.slice va3 (DW.block j).length vc3) (DW.block j)) := Rd.of_own h3
                    have R1c : Hid (Rb w13 (.slice va1 (DD.block j).length vc1) (DD.block j)) := R1b.out.below' b13
                    have R2c : Hid (Rb w13 (.slice va2 (DA.block j).length vc2) (DA.block j)) := R2.out.below' b13
                    have Q13 := Q12.trans (b13.mono Q12.size)
                    clear h3 b13 R1b R2
                    go_wp2_with fail
                    refine ((CS.out.below Q13).read j (by omega) (by rw [hSb.out]; omega)).mono ?_
                    rintro e w14 ⟨vv4, rfl, h4, b14⟩
                    obtain ⟨va4, vc4, rfl⟩ := own_slice h4
                    have R4 : Hid (Rb w14 (.slice va4 (DS.block j).length vc4) (DS.block j)) := Rd.of_own h4
                    have R1d : Hid (Rb w14 (.slice va1 (DD.block j).length vc1) (DD.block j)) := R1c.out.below' b14
                    have R2d : Hid (Rb w14 (.slice va2 (DA.block j).length vc2) (DA.block j)) := R2c.out.below' b14
                    have R3d : Hid (Rb w14 (.slice va3 (DW.block j).length vc3) (DW.block j)) := R3.out.below' b14
                    have Q14 := Q13.trans (b14.mono Q13.size)
                    clear h4 b14 R1c R2c R3
                    go_wp2_with fail
                    refine (Bytes_any _ _ _ _ _ R2d.out R1d.out).mono ?_
                    rintro e w15 ⟨rfl, n15, hw15⟩
                    rw [decide_eq_true (hAll.out j)]
                    have b15 : Below w14.heap.size w14 w15 := by rw [hw15]; exact Below.drewN (Below.refl _ _) n15
                    have R3e : Hid (Rb w15 (.slice va3 (DW.block j).length vc3) (DW.block j)) := R3d.out.below' b15
                    have R4e : Hid (Rb w15 (.slice va4 (DS.block j).length vc4) (DS.block j)) := R4.out.below' b15
                    have Q15 := Q14.trans (b15.mono Q14.size)
                    clear hw15 b15 R1d R2d R3d R4
                    go_wp2_with fail
                    refine (Bytes_any _ _ _ _ _ R4e.out R3e.out).mono ?_
                    rintro e w16 ⟨rfl, n16, hw16⟩
                    rw [decide_eq_true (hS.out j)]
                    have b16 : Below w15.heap.size w15 w16 := by rw [hw16]; exact Below.drewN (Below.refl _ _) n16
                    have R3f : Hid (Rb w16 (.slice va3 (DW.block j).length vc3) (DW.block j)) := R3e.out.below' b16
                    have Q16 := Q15.trans (b16.mono Q15.size)
                    clear hw16 b16 R3e R4e
                    have hlW : (DW.block j).length = b.toNat := by
                      have := Own.under CW.out
                      rw [this.len j (by rw [hWb.out.1]; omega), hWb.out.2]
                    have hlen : (((DW.block j).length : Int) != b) = false := by rw [hlW]; simp; omega
                    obtain ⟨u0, u1⟩ := X7.out.below Q16 (by omega)
                    have HLW := Lib.hid hlW
                    clear hlW
                    rcases HG.out with ⟨hg0, c, hq, OC⟩ | hg1
                    · subst hg0
                      subst hq
                      have OC' := Lib.hid OC
                      clear OC HG
                      go_wp2_with fail
                      refine ((OC'.out.below Q16).read j (by omega) (by rw [hCb.out.1]; omega)).mono ?_
                      rintro e w17 ⟨vv5, rfl, h5, b17⟩
                      obtain ⟨va5, vc5, rfl⟩ := own_slice h5
                      have R5 : Hid (Rb w17 (.slice va5 (DC.block j).length vc5) (DC.block j)) := Rd.of_own h5
                      have R3g : Hid (Rb w17 (.slice va3 (DW.block j).length vc3) (DW.block j)) := R3f.out.below' b17
                      have Q17 := Q16.trans (b17.mono Q16.size)
                      have L17 : Hid (OpsAt w17 w.heap.size (.slice lp l.length lc) l) := L7.out.below (Q17.mono (by omega))
                      have hlC : (DC.block j).length = b.toNat := by
                        rw [(Own.under OC'.out).len j (by rw [hCb.out.1]; omega), hCb.out.2]
                      have HLC := Lib.hid hlC
                      have hlen5 : (((DC.block j).length : Int) != b) = false := by rw [hlC]; simp; omega
                      obtain ⟨t0, t1⟩ := X7.out.below Q17 (by omega)
                      have HBJ : Hid (∀ k, k < b.toNat → ((DC.block j).getD k 0 = (DW.block j).getD k 0 ∨ ∃ i, f ≤ i ∧ i < l.length ∧ (l.getD i ⟨false, 0, []⟩).block = j ∧ k < (l.getD i ⟨false, 0, []⟩).b.length ∧ (l.getD i ⟨false, 0, []⟩).b.length ≤ b.toNat ∧ (l.getD i ⟨false, 0, []⟩).b.getD k 0 = (DC.block j).getD k 0)) := fun k hk => HBY.out j k hk
                      simp only [Int.toNat_natCast]
                      generalize DC.block j = XC at *
                      generalize DW.block j = XW at *
                      clear h5 b17 R3f hlC v0 v1 u0 u1
                      go_wp2_with fail
                      go_loopw [30] (fun kv wk => ∃ k : Nat, kv = .int .i64 k ∧ k ≤ XC.length ∧ ∃ n, wk = w17.drewN n) (fun kv _ => XC.length - (intOf kv).toNat)
                      case atStart => exact ⟨0, rfl, Nat.zero_le _, 0, rfl⟩
                      case round =>
                        obtain ⟨k, rfl, hk, nk, hwk⟩ := hrel
                        have HWK := Lib.hid hwk
                        clear hwk
                        by_cases hkl : k < XC.length
                        · obtain ⟨bx, ox, cx, ex, -, -, qx⟩ := R5.out.cell hkl
                          obtain ⟨bt, ot, ct, et, -, -, qt⟩ := R3g.out.cell (i := k) (by rw [HLW.out, ← HLC.out]; exact hkl)
                          simp only [Value.slice.injEq, true_and] at ex et
                          obtain ⟨rfl, rfl⟩ := ex
                          obtain ⟨rfl, rfl⟩ := et
                          have p1 : wr.cell? ⟨bx, ox + k, none⟩ = some (.int .u8 (XC.getD k 0)) := by rw [HWK.out]; exact qx k hkl
                          have p2 : wr.cell? ⟨bt, ot + k, none⟩ = some (.int .u8 (XW.getD k 0)) := by rw [HWK.out]; exact qt k (by rw [HLW.out, ← HLC.out]; exact hkl)
                          have hkl2 : k < XW.length := by rw [HLW.out, ← HLC.out]; exact hkl
                          have HP := HBJ.out k (by rw [← HLC.out]; exact hkl)
                          have HP' := Lib.hid HP
                          clear qx qt HP
                          generalize hxk : XC.getD k 0 = xk at *
                          generalize htk : XW.getD k 0 = tk at *
                          obtain ⟨s0, hs0⟩ : ∃ s0, (xk == tk) = s0 := ⟨_, rfl⟩
                          have HS0 : Hid (xk = tk → s0 = true) := fun h => by rw [← hs0]; simp [h]
                          clear hxk htk
                          go_wp2_with fail
                          go_quiet (fail)
                          go_wp2_with fail
                          go_loopw [31, 32] (fun isv iv wi => ∃ (i : Nat) (s : Bool), isv = .bool s ∧ iv = .int .i64 i ∧ f ≤ i ∧ i ≤ l.length ∧ Hid (goodAt l f j k b.toNat xk tk i → s = true) ∧ ∃ n, wi = w17.drewN n) (fun _ iv _ => l.length - (intOf iv).toNat)
                          case atStart => exact ⟨f, s0, rfl, rfl, Nat.le_refl _, hfl, fun h => h.elim HS0.out (fun ⟨i, h1, h2, _⟩ => absurd h2 (by omega)), nk + nq, by rw [HWK.out, drewN2]⟩
                          case round =>
                            obtain ⟨i, s, rfl, rfl, hfi, hi, hgood, ni, hwi⟩ := hrel
                            have HWI := Lib.hid hwi
                            have HGD := Lib.hid hgood.out
                            clear hwi hgood
                            by_cases hil : i < l.length
                            · have LI : OpsAt wr w.heap.size (.slice lp l.length lc) l := by rw [HWI.out]; exact L17.out.below (Below.drewN (Below.refl _ _) ni)
                              obtain ⟨lb, lo, cap, va8, vc8, e1, -, -, -, q1, q2, hb8, -⟩ := LI.at hil
                              simp only [Value.slice.injEq, true_and] at e1
                              obtain ⟨rfl, rfl⟩ := e1
                              have HB8 := Lib.hid hb8
                              have HGS : Hid (goodAt l f j k b.toNat xk tk (i + 1) → goodAt l f j k b.toNat xk tk i ∨ (l[i].block = j ∧ k < l[i].b.length ∧ l[i].b.length ≤ b.toNat ∧ l[i].b.getD k 0 = xk)) := fun h => goodAt_succ h hil
                              have pb1 : wr.cell? ⟨w.heap.size, 1, none⟩ = some (.int .i64 b) := by rw [HWI.out]; exact t1
                              have px : wr.cell? ⟨bx, ox + k, none⟩ = some (.int .u8 xk) := by rw [HWI.out]; rw [HWK.out] at p1; exact p1
                              have h8 : l[i].b.length ≤ vc8 ∧ vc8 ≤ maxLen := hb8.capOk.2
                              unfold maxLen at h8
                              obtain ⟨h81, h82⟩ := h8
                              clear hb8 LI
                              generalize l[i] = o at *
                              obtain ⟨os, ob, oxs⟩ := o
                              simp only at *
                              cases s
                              · by_cases hob : ob = (j : Int)
                                · by_cases hko : k < oxs.length
                                  · have hko' : (k : Int) < (oxs.length : Int) := by omega
                                    obtain ⟨b9, o9, c9, e9, -, -, q9⟩ := HB8.out.cell hko
                                    simp only [Value.slice.injEq, true_and] at e9
                                    obtain ⟨rfl, rfl⟩ := e9
                                    have po : wr.cell? ⟨b9, o9 + k, none⟩ = some (.int .u8 (oxs.getD k 0)) := q9 k hko
                                    clear q9
                                    by_cases hlo : (oxs.length : Int) ≤ b
                                    · generalize hok : oxs.getD k 0 = ok at *
                                      have hob1 : (ob == (j : Int)) = true := by simp [hob]
                                      clear hok
                                      by_cases hxo : ok = xk
                                      · have hxo1 : (ok == xk) = true := by simp [hxo]
                                        clear hob hxo
                                        go_wp2_with fail
                                        go_quiet (fail)
                                        go_wp2_with fail
                                        go_roundw
                                        case rel => exact ⟨i + 1, true, rfl, rfl, by omega, by omega, fun _ => rfl, ni + nq, by rw [HWI.out, drewN2]⟩
                                        case measure => simp [intOf]; omega
                                      · have hxo1 : (ok == xk) = false := by simp [hxo]
                                        have HXO := Lib.hid hxo
                                        clear hob hxo
                                        go_wp2_with fail
                                        go_quiet (fail)
                                        go_wp2_with fail
                                        go_roundw
                                        case rel => exact ⟨i + 1, false, rfl, rfl, by omega, by omega, fun h => (HGS.out h).elim HGD.out (fun g => absurd g.2.2.2 HXO.out), ni + nq, by rw [HWI.out, drewN2]⟩
                                        case measure => simp [intOf]; omega
                                    · have hob1 : (ob == (j : Int)) = true := by simp [hob]
                                      have hlo1 : decide ((oxs.length : Int) ≤ b) = false := by simp; omega
                                      clear hob
                                      go_wp2_with fail
                                      go_quiet (fail)
                                      go_wp2_with fail
                                      go_roundw
                                      case rel => exact ⟨i + 1, false, rfl, rfl, by omega, by omega, fun h => (HGS.out h).elim HGD.out (fun g => absurd g.2.2.1 (by omega)), ni + nq, by rw [HWI.out, drewN2]⟩
                                      case measure => simp [intOf]; omega
                                  · have hko' : ¬ (k : Int) < (oxs.length : Int) := by omega
                                    have hob1 : (ob == (j : Int)) = true := by simp [hob]
                                    clear hob
                                    go_wp2_with fail
                                    go_quiet (fail)
                                    go_wp2_with fail
                                    go_roundw
                                    case rel => exact ⟨i + 1, false, rfl, rfl, by omega, by omega, fun h => (HGS.out h).elim HGD.out (fun g => absurd g.2.1 hko), ni + nq, by rw [HWI.out, drewN2]⟩
                                    case measure => simp [intOf]; omega
                                · have hob1 : (ob == (j : Int)) = false := by simp [hob]
                                  have HOB := Lib.hid hob
                                  clear hob
                                  go_wp2_with fail
                                  go_quiet (fail)
                                  go_wp2_with fail
                                  go_roundw
                                  case rel => exact ⟨i + 1, false, rfl, rfl, by omega, by omega, fun h => (HGS.out h).elim HGD.out (fun g => absurd g.1 HOB.out), ni + nq, by rw [HWI.out, drewN2]⟩
                                  case measure => simp [intOf]; omega
                              · skip
                                go_wp2_with fail
                                go_quiet (fail)
                                go_wp2_with fail
                                go_roundw
                                case rel => exact ⟨i + 1, true, rfl, rfl, by omega, by omega, fun _ => rfl, ni + nq, by rw [HWI.out, drewN2]⟩
                                case measure => simp [intOf]; omega
                            · obtain rfl : i = l.length := by omega
                              have hs : s = true := HGD.out (by rw [HLC.out] at hkl; exact HP'.out)
                              subst hs
                              have QI : Hid (wr = w17.drewN ni) := HWI.out
                              have hkb : k < 40 := by have := HLC.out; omega
                              go_wp2_with fail
                              go_roundw
                              case rel => exact ⟨k + 1, rfl, by omega, ni, QI.out⟩
                              case measure => simp [intOf]; omega
                        · go_wp2_with fail
                          go_roundw
                          case rel => exact ⟨j + 1, rfl, by omega, by rw [HWK.out]; exact Below.drewN Q17 nk⟩
                          case measure => simp [intOf]; omega
                    · subst hg1
                      go_wp2_with fail
                      go_roundw
                      case rel => exact ⟨j + 1, rfl, by omega, Q16⟩
                      case measure => simp [intOf]; omega
                  · have hjl' : ¬ (j : Int) < a := by omega
                    go_wp2_with fail
                    refine (awake_any _).mono ?_
                    rintro e w8 ⟨rfl, b8⟩
                    go_wp2_with fail
                    go_ret
                    exact ⟨rfl, B7.trans ((hQ.trans (b8.mono zq)).mono (by omega))⟩
      · go_wp2_with fail
        refine (awake_any _).mono ?_
        rintro e w2 ⟨rfl, b2⟩
        go_wp2_with fail
        go_ret
        exact ⟨rfl, B1.trans (b2.mono (by omega))⟩
    · have hw' : fewB l = false := by simpa using hw
      rw [hw']
      clear hw hw'
      go_wp2_with fail
      refine (awake_any _).mono ?_
      rintro e w2 ⟨rfl, b2⟩
      go_wp2_with fail
      go_ret
      exact ⟨rfl, B1.trans (b2.mono (by omega))⟩
  · have hs' : smallB a b = false := by simpa using hs
    rw [hs']
    clear hs hs'
    go_wp2_with fail
    refine (awake_any _).mono ?_
    rintro e w2 ⟨rfl, b2⟩
    go_wp2_with fail
    go_ret
    exact ⟨rfl, B1.trans (b2.mono (by omega))⟩
end Go.Proofs.Ytbbjeoepoocofaa
