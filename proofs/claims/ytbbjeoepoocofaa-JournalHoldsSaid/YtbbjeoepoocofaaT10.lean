import Derived.Test.YtbbjeoepoocofaaU3
namespace Go.Proofs.Ytbbjeoepoocofaa
open Go.RowKit Go.Shelf
attribute [local go_sem] Oper.semAt_some

/-- The argument's box, and that of the answer. -/
structure Bx (w : World) (lv : Value) (W : World) : Prop where
  l : W.heap[w.heap.size]? = some (.cells #[lv] 50)
  r : W.heap[w.heap.size + 1]? = some (.cells #[.bool false] 4)
  bel : Below w.heap.size w W
theorem Bx.below {w W W' : World} {lv : Value} {B : Nat} (h : Bx w lv W) (hb : Below B W W') (hB : w.heap.size + 2 ≤ B) : Bx w lv W' :=
  ⟨(hb.block _ (by omega)).trans h.l, (hb.block _ (by omega)).trans h.r, h.bel.trans (hb.mono (by omega))⟩
theorem Bx.new (w : World) (lv : Value) : Bx w lv ((w.alloc (.cells #[lv] 50)).alloc (.cells #[.bool false] 4)) := by
  refine ⟨?_, ?_, ((Below.refl _ w).alloc (Nat.le_refl _) _).alloc (by simp) _⟩
  · rw [Below.heap_alloc _ _ _ (by simp)]
    exact heap_alloc_new w _
  · have := heap_alloc_new (w.alloc (.cells #[lv] 50)) (.cells #[.bool false] 4)
    simpa using this
theorem Bx.c0 {w W : World} {lv : Value} (h : Bx w lv W) : W.cell? ⟨w.heap.size, 0, none⟩ = some lv := by rw [cell_of_row W _ 0 _ _ _ h.l]; rfl
theorem Bx.c1 {w W : World} {lv : Value} (h : Bx w lv W) : W.cell? ⟨w.heap.size + 1, 0, none⟩ = some (.bool false) := by rw [cell_of_row W _ 0 _ _ _ h.r]; rfl
theorem Bx.f1 {w W : World} {lv : Value} (h : Bx w lv W) : W.frozen? ⟨w.heap.size + 1, 0, none⟩ = false := frozen_of_row W _ 0 _ _ h.r
/-- The answer is stored. -/
theorem Bx.done {w W : World} {lv : Value} (h : Bx w lv W) : (W.setCell ⟨w.heap.size + 1, 0, none⟩ (.bool true)).cell? ⟨w.heap.size + 1, 0, none⟩ = some (.bool true) ∧ Below w.heap.size w (W.setCell ⟨w.heap.size + 1, 0, none⟩ (.bool true)) :=
  ⟨by rw [cell_of_row _ _ 0 _ _ _ (heap_setCell_same W (w.heap.size + 1) 0 _ _ (.bool true) h.r)]; rfl, h.bel.setCell (p := ⟨w.heap.size + 1, 0, none⟩) (by show w.heap.size ≤ w.heap.size + 1; omega) _⟩

/-- The answer is stored, and what the rounds have deferred is taken. -/
theorem Bx.last {w W : World} {lv : Value} (h : Bx w lv W) {D : Nat} (hD : W.heap[D]? = some (.deferred (some []))) (hw : w.heap.size ≤ D) :
    (W.setCell ⟨w.heap.size + 1, 0, none⟩ (.bool true)).heap[D]? = some (.deferred (some [])) ∧ ((W.setCell ⟨w.heap.size + 1, 0, none⟩ (.bool true)).putObj D (.deferred none)).cell? ⟨w.heap.size + 1, 0, none⟩ = some (.bool true) ∧
      Below w.heap.size w ((W.setCell ⟨w.heap.size + 1, 0, none⟩ (.bool true)).putObj D (.deferred none)) := by
  have k8 := (KeepsOthers.setCell W ⟨w.heap.size + 1, 0, none⟩ (.bool true)).same D _ hD rfl
  have q8 := heap_setCell_same W (w.heap.size + 1) 0 _ _ (.bool true) h.r
  have b8 : Below w.heap.size w (W.setCell ⟨w.heap.size + 1, 0, none⟩ (.bool true)) := h.bel.setCell (p := ⟨w.heap.size + 1, 0, none⟩) (by show w.heap.size ≤ w.heap.size + 1; omega) _
  generalize W.setCell ⟨w.heap.size + 1, 0, none⟩ (.bool true) = W8 at *
  have q9 : (W8.putObj D (.deferred none)).heap[w.heap.size + 1]? = some (.cells #[.bool true] 4) := by
    rw [World.putObj_heap_other (fun e => by rw [← e, q8] at k8; simp at k8)]
    exact q8
  exact ⟨k8, by rw [cell_of_row _ _ 0 _ _ _ q9]; rfl, b8.grown (grownBy_putObj' W8 D (.deferred none)) b8.size (fun k e => by cases e; exact hw)⟩

set_option maxRecDepth 100000 in
set_option maxHeartbeats 16000000 in
theorem Holds_law (w : World) (lv : Value) (ls : List (List Int)) (hl : Bb w lv ls) (hlB : ∀ r ∈ ls, isB r) :
    Calls Try.prog 11 #[lv] w fun e w' => e = .returned (.bool true) ∧ Below w.heap.size w w' := by
  obtain ⟨lp, lc, rfl, hlm⟩ := hl.form
  unfold maxLen at hlm
  have HL := Lib.hid hl
  have HLB := Lib.hid hlB
  clear hl hlB
  obtain ⟨i0, hi5, hz0, hz1, hz2⟩ := info_parts info5
  obtain ⟨i3, hi30, hy0, hy1, hy2⟩ := info_parts info30
  have X0 : Hid (Bx w (.slice lp ls.length lc) ((w.alloc (.cells #[.slice lp ls.length lc] 50)).alloc (.cells #[.bool false] 4))) := Bx.new w _
  have Z0 : ((w.alloc (.cells #[.slice lp ls.length lc] 50)).alloc (.cells #[.bool false] 4)).heap.size = w.heap.size + 2 := by simp
  refine (callsIn_wide (n := 5)).1 ?_
  refine callsIn_of_wp_marks Try.func11 rfl trivial (wpIn_wide.2 ?_) rfl
  simp only [Try.ntmps11, List.size_toArray, List.length_cons, List.length_nil, Nat.reduceAdd, Nat.reduceSub, Array.replicate_succ, Array.replicate_zero, List.push_toArray, List.append_toArray, List.nil_append, List.cons_append]
  go_wp2_with fail
  generalize (w.alloc (.cells #[.slice lp ls.length lc] 50)).alloc (.cells #[.bool false] 4) = w0 at *
  refine (New_ok w0 40 40 (by omega) (by omega) (by omega) (by omega)).mono ?_
  rintro e w1 ⟨d, M, S, rfl, hd, hS, b1⟩
  have HD : Hid (DiskAt w1 d (newDk 40 40) M S) := hd
  have HS := Lib.hid hS
  have B1 := Lib.hid b1
  have X1 : Hid (Bx w (.slice lp ls.length lc) w1) := X0.out.below b1 (by omega)
  have z1 := b1.size
  clear hd hS b1 X0
  go_wp2_with fail
  refine (Open_new w1 d 40 40 ⟨M, S⟩ HD.out (by omega) (by omega)).mono ?_
  rintro e w2 ⟨j, a, rfl, hj, u2⟩
  have s1 : Sits w1 w0.heap.size ⟨M, S⟩ := ⟨HD.out.sub, HD.out.lt, fun k hk => HS.out k (HD.out.sub k hk)⟩
  have b2 := u2.below s1 z1
  have H2 : Hid (HI w0 w0.heap.size j d [] w2 a) := { jj := hj, s1 := u2.fit s1 z1 hj.sub hj.lt, sB := fun k hk => (u2.s k hk).elim (HS.out k) (fun e => by omega), bel := B1.out.trans b2, size := Nat.le_refl _ }
  have X2 : Hid (Bx w (.slice lp ls.length lc) w2) := X1.out.below b2 (by omega)
  have c0 := X2.out.c0
  have c1 := X2.out.c1
  have f1 := X2.out.f1
  clear hj u2 s1 b2 HD HS B1 X1
  by_cases h10 : ls.length ≤ 10
  · have HZ := H2.out.bel.size
    clear c0 c1 f1
    have c0 := X2.out.c0
    have hd : decide ((10 : Int) < (ls.length : Int)) = false := by simp; omega
    go_wp2_with fail
    go_loopw [7] (fun iv wr => ∃ (k : Nat) (a : Foot), iv = .int .i64 k ∧ k ≤ ls.length ∧ Hid (HI w0 w0.heap.size j d (ls.take k) wr a) ∧ Hid (∀ r ∈ ls.take k, r.length ≤ 30) ∧ Hid (Bx w (.slice lp ls.length lc) wr)) (fun iv _ => ls.length - (intOf iv).toNat)
    case atStart => exact ⟨0, a, rfl, Nat.zero_le _, H2, fun r hr => by simp at hr, X2⟩
    case round =>
      obtain ⟨wa, hwa⟩ : ∃ x, x = wr := ⟨_, rfl⟩
      subst hwa
      obtain ⟨k, a3, rfl, hk, hH, hR, hX⟩ := hrel
      have c2 := hX.out.c0
      have HR := Lib.hid hR.out
      clear hR
      by_cases hlt : k < ls.length
      · obtain ⟨b1, o1, cp1, va1, vc1, e1, q1, r1⟩ := (HL.out.below' hX.out.bel).at hlt
        simp only [Value.slice.injEq, true_and] at e1
        obtain ⟨rfl, rfl⟩ := e1
        have HR1 : Hid (Rb wa (.slice va1 ls[k].length vc1) ls[k]) := r1
        have HTK : Hid (ls.take (k + 1) = ls.take k ++ [ls[k]]) := by unfold Hid; rw [List.take_add_one, List.getElem?_eq_getElem hlt]; rfl
        have HRB : Hid (isB ls[k]) := HLB.out _ (List.getElem_mem hlt)
        have HTL : Hid ((ls.take k).length ≤ 10) := by unfold Hid; rw [List.length_take]; omega
        have HS1 : Hid (ls[k].length ≤ 30 → ∀ r ∈ ls.take (k + 1), r.length ≤ 30) := fun h r hr => by
          rw [HTK.out, List.mem_append] at hr
          rcases hr with hr | hr
          · exact HR.out r hr
          · simp at hr; rw [hr]; exact h
        clear r1
        generalize ls[k] = r at *
        by_cases h30 : r.length ≤ 30
        · go_wp2_with ((at_builtin; refine wpList_append_rd rfl _ _ 30 rfl wa.heap.size 5 i0 (.int .u8 0) 1 1 Try.underlying30 hi5 hz0 hz1 hz2 rfl (by decide) (.slice none 0 0) 0 [] rfl (World.ownsRow_nil _ _ _ _) _ r.length (bts r) rfl HR1.out bts_one (by unfold maxLen; omega) (by omega) (Nat.le_refl _) ?_))
          rintro v4 w4 hown4 hg4 -
          have O4 : Hid (w4.ownsRow wa.heap.size 5 1 v4 r.length (bts r)) := by unfold Hid; simpa using hown4
          obtain ⟨va4, vc4, rfl⟩ := own_slice O4.out
          have za : w0.heap.size ≤ wa.heap.size := hH.out.sz
          have b4 : Below wa.heap.size wa w4 := (Below.refl _ _).grown hg4 (Nat.le_refl _) (fun k e => by simp [Value.ownBlock] at e)
          have H4 := Lib.hid (hH.out.below b4)
          have X4 := Lib.hid (hX.out.below b4 (by have := hH.out.sz; omega))
          have z4 := b4.size
          have NM4 : Hid (∀ i, (Value.slice va4 r.length vc4).ownBlock = some i → ¬ a3.s i) := fun i e hs => by have := (own_lt O4.out i e).1; have := hH.out.jj.lt i hs; omega
          clear hown4 hg4 b4 c2 q1 hH hX c0
          go_wp2_with fail
          refine (H4.out.append _ r (Rd.of_own O4.out) HRB.out (fun i e _ hm => NM4.out i e (H4.out.jj.sub i hm)) (by omega) (fit_small _ HR.out HTL.out _ h30)).mono ?_
          rintro e w5 ⟨rfl, a5, h5, u5⟩
          have O5 : Hid (w5.ownsRow wa.heap.size 5 1 (.slice va4 r.length vc4) r.length (bts r)) := own_keep O4.out u5.keeps (fun i e hm => NM4.out i e (H4.out.jj.sub i hm))
          have NM5 : Hid (∀ i, (Value.slice va4 r.length vc4).ownBlock = some i → ¬ a5.s i) := fun i e hs => (u5.s i hs).elim (NM4.out i e) (fun e2 => by have := (own_lt O4.out i e).2; omega)
          have H5 := Lib.hid h5
          have b5 := u5.below H4.out.s1 H4.out.sz
          have X5 := Lib.hid (X4.out.below b5 (by omega))
          have z5 := b5.size
          clear h5 u5 b5 O4 NM4 H4 X4
          go_wp2_with fail
          go_loopw [9] (fun kv wq => ∃ (q : Nat) (zs : List Int), kv = .int .i64 q ∧ q ≤ r.length ∧ zs.length = r.length ∧ wq.ownsRow wa.heap.size 5 1 (.slice va4 r.length vc4) r.length (bts zs) ∧ Keeps (fun i => (Value.slice va4 r.length vc4).ownBlock = some i) w5 wq) (fun kv _ => r.length - (intOf kv).toNat)
          case atStart => exact ⟨0, r, rfl, Nat.zero_le _, rfl, O5.out, Keeps.refl _ _⟩
          case round =>
            obtain ⟨q, zs, rfl, hq, hzs, hrow, hK⟩ := hrel
            have HROW := Lib.hid hrow
            have HK := Lib.hid hK
            clear hrow hK
            by_cases hql : q < r.length
            · obtain ⟨g, gc, e, -, -⟩ := HROW.out.form (by omega)
              simp only [Value.slice.injEq, true_and] at e
              obtain ⟨rfl, rfl⟩ := e
              have hcell : wr.cell? ⟨g, q, none⟩ = some (.int .u8 (zs.getD q 0)) := by rw [HROW.out.cellAt q (by omega), bts_get (by omega)]
              have hfz : wr.frozen? ⟨g, q, none⟩ = false := HROW.out.frozenAt q
              have HST := Lib.hid (fun y => own_set HROW.out q y)
              generalize zs.getD q 0 = z at *
              go_wp2_with fail
              go_roundw
              case rel => exact (HST.out _).elim fun ys h => ⟨q + 1, ys, rfl, by omega, h.1.trans hzs, h.2, HK.out.setCell (a := ⟨g, q, none⟩) (.inl rfl) _⟩
              case measure => simp [intOf]; omega
            · have HE : Hid (HI w0 w0.heap.size j d (ls.take (k + 1)) wr a5) := by
                unfold Hid
                rw [HTK.out]
                exact H5.out.keep HK.out (fun i h1 h2 => NM5.out i h2 h1) (fun i h2 => by have := (own_lt O5.out i h2).1; omega)
              have XE := Lib.hid (X5.out.below (HK.out.below (B := wa.heap.size) (by omega) (fun i h2 => (own_lt O5.out i h2).1)) (by omega))
              have HSE := Lib.hid (HS1.out h30)
              go_wp2_with fail
              go_roundw
              case rel => exact ⟨k + 1, a5, by simp, by omega, HE, HSE, XE⟩
              case measure => simp [intOf]; omega
        · go_wp2_with fail
          refine (awake18_any _).mono ?_
          rintro e wz ⟨rfl, bz⟩
          have X3 : Hid (Bx w _ wz) := hX.out.below bz (by have := hH.out.bel.size; omega)
          have d1 := X3.out.c1
          have g1 := X3.out.f1
          clear c0 c2 q1
          go_wp2_with fail
          obtain ⟨hc, hb⟩ := X3.out.done
          exact ⟨.bool true, by simp [results, Try.results11, go_sem, hc], rfl, hb⟩
      · obtain rfl : k = ls.length := by omega
        have HH : Hid (HI w0 w0.heap.size j d ls wa a3) := by
          have := hH.out
          rw [List.take_length] at this
          exact this
        have HR' : Hid (∀ r ∈ ls, r.length ≤ 30) := by
          have := HR.out
          rw [List.take_length] at this
          exact this
        clear HR hH c0
        go_wp2_with fail
        refine (All_JJ wa j d 40 40 ls 0 a3 HH.out.jj).mono ?_
        rintro e w3 ⟨B, rv, vs, rfl, hc, hs, hBl, hBm, hrm, hvm, b3⟩
        have qF := eql_func_nil w3 (.func 64) #[] #[.pointer (some ⟨B, 0, none⟩)]
        have H3 := Lib.hid (HH.out.below b3)
        have H3' : Hid (∀ o, HI w0 w0.heap.size j d ls (w3.alloc o) a3) := fun o => H3.out.below ((Below.refl _ _).alloc (Nat.le_refl _) o)
        have X3 := Lib.hid (hX.out.below b3 (by have := HH.out.sz; omega))
        have HC3 := Lib.hid hc
        have HS3 := Lib.hid hs
        have HBM := Lib.hid hBm
        have HRM := Lib.hid hrm
        have HVM := Lib.hid hvm
        have z3 := b3.size
        clear hc hs hBm hrm hvm b3 HH hX c2
        go_wp2_with fail
        refine ((H3'.out _).append _ [1] (rd_new w3 (bts [1]) 1 rfl (by decide) _) (fun x hx => by simp at hx; omega) (fun k e _ hk => by have := H3.out.jj.lt k (H3.out.jj.sub k hk); simp [Value.ownBlock] at e; omega) (by decide) (fit_small ls HR'.out h10 1 (by omega))).mono ?_
        rintro e w4 ⟨rfl, a4, h4, u4⟩
        have K4 : Keeps a3.m w3 w4 := ((Keeps.refl a3.m w3).alloc _).trans u4.keeps (fun i hi => .inl hi)
        have z4 := K4.size
        have S4 : Hid (Src w4 w4.heap.size rv ls vs) := (HS3.out.keep K4 HRM.out HVM.out).high z4
        have C4 : Hid (w4.cell? ⟨B, 0, none⟩ = some rv) := K4.cell HBM.out HC3.out
        have H4 := Lib.hid h4
        have X4 := Lib.hid (X3.out.below (K4.below H3.out.sz H3.out.s1.base) (by omega))
        have hB4 : B < w4.heap.size := by omega
        clear h4 u4 K4 H3 H3' X3 HC3 HS3 HBM HRM HVM qF
        go_wp2_with fail
        have bA : Below w4.heap.size w4 (w4.alloc (.cells #[.int .i64 0] 3)) := (Below.refl _ _).alloc (Nat.le_refl _) _
        have hcnt : Cnt w4 w4.heap.size [] (w4.alloc (.cells #[.int .i64 0] 3)) := ⟨heap_alloc_new w4 _, bA⟩
        have c5 : (w4.alloc (.cells #[.int .i64 0] 3)).cell? ⟨B, 0, none⟩ = some rv := (bA.cell (p := ⟨B, 0, none⟩) hB4).trans C4.out
        have S5 : Src (w4.alloc (.cells #[.int .i64 0] 3)) w4.heap.size rv ls vs := S4.out.below bA
        have z5 : (w4.alloc (.cells #[.int .i64 0] 3)).heap.size = w4.heap.size + 1 := by simp
        have z04 := H4.out.sz
        have HSM : ∀ r ∈ ls, r.length ≤ 1000000 := fun r hr => by have := HR'.out r hr; omega
        generalize w4.alloc (.cells #[.int .i64 0] 3) = w5 at *
        refine (wpIn_wide (n := 5)).1 ?_
        refine hand_range rfl (by omega) (gf := 64) (lb := #[.pointer (some ⟨B, 0, none⟩)]) rfl trivial (enters_of Try.func64 (by kernel_rfl) rfl)
          (all1_hands (5 - 1) (by omega) w5 B w4.heap.size rv ls vs hB4 (by omega) c5 S5 HSM) belowK_t (belowK_b (by omega)) (fun _ => rfl)
          (Cnt w4 w4.heap.size) (Cnt.own _ _ _ (Nat.le_refl _) (by omega)) (fun pre => Handed.own _ _ _ _) hcnt ?a1 ?assign ?body ?done
        case assign =>
          intro l x W K hK
          gi_wp2
          exact hK
        case body =>
          rintro l pre ⟨i, xv⟩ W hI hH
          obtain ⟨he, r, hg, ho⟩ := hH
          simp only at he ho
          subst he
          have hlt2 : pre.length < ls.length := (List.getElem?_eq_some_iff.1 hg).1
          obtain ⟨xa, xc, rfl⟩ := own_slice ho
          have hI1 := hI.cell
          have XW : Hid (Bx w (.slice lp ls.length lc) W) := X4.out.below hI.below (by omega)
          have cl := XW.out.c0
          obtain ⟨b1, o1, cp1, va1, vc1, e1, q1, r1⟩ := (HL.out.below' XW.out.bel).at hlt2
          rw [show ls[pre.length] = r from by rw [List.getElem?_eq_getElem hlt2] at hg; simpa using hg] at q1 r1
          simp only [Value.slice.injEq, true_and] at e1
          obtain ⟨rfl, rfl⟩ := e1
          have hr30 : r.length ≤ 30 := HR'.out r (List.mem_of_getElem? hg)
          have HI1 := Lib.hid hI
          have HO1 := Lib.hid ho
          have HR1 := Lib.hid r1
          clear hI ho r1 hg hcnt c5 S5
          gi_wp2_with (first
            | (refine ⟨trivial, ?_⟩; gi_at_call 21; refine (callsIn_wide.2 (Bytes_any W _ _ r r (Rd.of_own HO1.out) HR1.out)).mono ?_; rw [decide_eq_true rfl]; rintro e w6 ⟨rfl, n6, hw6⟩)
            | fail)
          have O6 : Hid ((W.drewN n6).ownsRow w5.heap.size 5 1 (.slice xa r.length xc) r.length (bts r)) := own_keep HO1.out ((Keeps.refl (fun _ => False) W).drewN _) (fun _ _ f => f)
          have K6 : Hid (Keeps (fun i => (Value.slice xa r.length xc).ownBlock = some i) W (W.drewN n6)) := (Keeps.refl _ W).drewN _
          have KO6 : Hid (KeepsOthers W (W.drewN n6)) := KeepsOthers.drewN W n6
          have HXB : Hid (∀ i, (Value.slice xa r.length xc).ownBlock = some i → w4.heap.size < i) := fun i e => by have := (own_lt HO1.out i e).1; omega
          clear hw6 cl q1 hI1
          gi_loopw [14] (fun kv wq => ∃ (q : Nat) (zs : List Int), kv = .int .i64 q ∧ q ≤ r.length ∧ zs.length = r.length ∧ wq.ownsRow w5.heap.size 5 1 (.slice xa r.length xc) r.length (bts zs) ∧ Keeps (fun i => (Value.slice xa r.length xc).ownBlock = some i) W wq ∧ KeepsOthers W wq) (fun kv _ => r.length - (intOf kv).toNat)
          case atStart => exact ⟨0, r, rfl, Nat.zero_le _, rfl, O6.out, K6.out, KO6.out⟩
          case round =>
            obtain ⟨q, zs, rfl, hq, hzs, hrow, hK, hKO⟩ := hrel
            have HROW := Lib.hid hrow
            have HK := Lib.hid hK
            have HKO := Lib.hid hKO
            clear hrow hK hKO
            by_cases hql : q < r.length
            · obtain ⟨g, gc, e, -, -⟩ := HROW.out.form (by omega)
              simp only [Value.slice.injEq, true_and] at e
              obtain ⟨rfl, rfl⟩ := e
              have hcell : wr.cell? ⟨g, q, none⟩ = some (.int .u8 (zs.getD q 0)) := by rw [HROW.out.cellAt q (by omega), bts_get (by omega)]
              have hfz : wr.frozen? ⟨g, q, none⟩ = false := HROW.out.frozenAt q
              have HST := Lib.hid (fun y => own_set HROW.out q y)
              generalize zs.getD q 0 = z at *
              gi_wp2
              go_roundw
              case rel => exact (HST.out _).elim fun ys h => ⟨q + 1, ys, rfl, by omega, h.1.trans hzs, h.2, HK.out.setCell (a := ⟨g, q, none⟩) (.inl rfl) _, HKO.out.trans (KeepsOthers.setCell _ _ _)⟩
              case measure => simp [intOf]; omega
            · have HN2 : Hid (Cnt w4 w4.heap.size pre wr) := HI1.out.kept HK.out HXB.out (Nat.le_refl _)
              have n1 := HN2.out.cell
              have n2 := HN2.out.free
              have HM := Lib.hid (HN2.out.more ((pre.length, .slice xa r.length xc) : Nat × Value))
              have HBW : Hid (Below w4.heap.size W wr) := HK.out.below (by have := HI1.out.below.size; omega) (fun i h => Nat.le_of_lt (HXB.out i h))
              gi_wp2
              exact ⟨HKO.out.trans (KeepsOthers.setCell _ _ _), HBW.out.setCell (p := ⟨w4.heap.size, 0, none⟩) (Nat.le_refl _) _, HM.out⟩
        case done =>
          rintro D xs W hD hS hI hK
          have hn := hI.cell
          rw [show xs.length = ls.length from hS] at hn
          have XW := Lib.hid (X4.out.below hI.below (by omega))
          have HW := Lib.hid (H4.out.below hI.below)
          have cl := XW.out.c0
          have HK := Lib.hid hK
          clear hK hI hcnt c5 S5 bA
          go_wp2_with fail
          refine (OpenJ_nil W).mono ?_
          rintro e w6 ⟨rfl, rfl⟩
          obtain ⟨cs, hmk⟩ : ∃ cs, ∀ w, (Instr.makeSlice 30 (.int .i64 1025) (.int .i64 1025)).run Try.prog w = .ok (.slice (some ⟨w.heap.size, 0, none⟩) 1025 1025) (w.alloc (.cells cs 5)) := by
            refine ⟨madeCells #[.int .u8 0] 1025, fun w => ?_⟩
            have := run_make (P := Try.prog) w 30 5 i0 (.int .u8 0) Try.underlying30 hi5 hz0 .i64 .i64 1025 1025 (by omega) (Int.le_refl _) (by rw [hz2]; omega) (by omega)
            rw [hz1] at this
            exact this
          go_wp2_with fail
          refine (Append_long _ j _ 1025 1025 (by decide) (by decide)).mono ?_
          rintro e w7 ⟨rfl, b7⟩
          have B7 : Below W.heap.size W w7 := Below.trans ((Below.refl _ _).alloc (Nat.le_refl _) _) (b7.mono (by simp))
          have X7 := Lib.hid (XW.out.below B7 (by have := HW.out.sz; omega))
          have H7 : Hid (HI w0 w0.heap.size j d (ls ++ [[1]]) w7 a4) := HW.out.below B7
          have HK7 : Hid (w7.heap[D]? = some (.deferred (some []))) := (B7.block D (Array.getElem?_eq_some_iff.1 HK.out).1).trans HK.out
          have hzW : w4.heap.size < W.heap.size := by
            have := World.block_lt_of_cell? W _ hn
            exact this
          have HL7 : Hid (Bb w7 (.slice lp ls.length lc) ls) := HL.out.below' X7.out.bel
          have n7 : w7.cell? ⟨w4.heap.size, 0, none⟩ = some (.int .i64 ls.length) := (B7.cell (p := ⟨w4.heap.size, 0, none⟩) hzW).trans hn
          have l7 := X7.out.c0
          have z7 := B7.size
          have hx0 : Below w7.heap.size w7 w7 := Below.refl _ _
          have hkb : Hid (∀ w', Below w7.heap.size w7 w' → w'.cell? ⟨w4.heap.size, 0, none⟩ = some (.int .i64 ls.length) ∧ w'.cell? ⟨w.heap.size, 0, none⟩ = some (.slice lp ls.length lc)) := fun w' h =>
            ⟨(h.cell (p := ⟨w4.heap.size, 0, none⟩) (by show w4.heap.size < w7.heap.size; omega)).trans n7, (h.cell (p := ⟨w.heap.size, 0, none⟩) (by show w.heap.size < w7.heap.size; omega)).trans l7⟩
          have hst : Hid (∀ (w' : World) (v : Value), (w'.cell? ⟨w4.heap.size, 0, none⟩ = some (.int .i64 ls.length) ∧ w'.cell? ⟨w.heap.size, 0, none⟩ = some (.slice lp ls.length lc)) → ((w'.setCell ⟨w.heap.size + 1, 0, none⟩ v).cell? ⟨w4.heap.size, 0, none⟩ = some (.int .i64 ls.length) ∧ (w'.setCell ⟨w.heap.size + 1, 0, none⟩ v).cell? ⟨w.heap.size, 0, none⟩ = some (.slice lp ls.length lc))) := fun w' v h => by
            have k : Keeps (fun k => k = w.heap.size + 1) w' (w'.setCell ⟨w.heap.size + 1, 0, none⟩ v) := Keeps.setCell (X := fun k => k = w.heap.size + 1) (a := ⟨w.heap.size + 1, 0, none⟩) (Keeps.refl _ w') (.inl rfl) _
            exact ⟨k.cell (a := ⟨w4.heap.size, 0, none⟩) (by show ¬ w4.heap.size = w.heap.size + 1; omega) h.1, k.cell (a := ⟨w.heap.size, 0, none⟩) (by show ¬ w.heap.size = w.heap.size + 1; omega) h.2⟩
          have k43 : Hid (∀ w', Below w7.heap.size w7 w' → Calls Try.prog 43 #[.pointer (some ⟨j, 0, none⟩)] w' fun e w'' => e = .returned (.int .i64 ((ls.length : Int) + 1)) ∧ w' = w'') := fun w' h => by
            have := Len_JJ w' j d 40 40 _ 0 a4 (H7.out.jj.below h)
            rw [List.length_append] at this
            exact this
          have k29 : Hid (∀ w', Below w7.heap.size w7 w' → Calls Try.prog 29 #[.pointer (some ⟨j, 0, none⟩)] w' fun e w'' => (∃ v, e = .returned v ∧ Hid (Bb w'' v (ls ++ [[1]]))) ∧ Below w7.heap.size w7 w'') := fun w' h => by
            refine (Recs_JJ w' j d 40 40 _ 0 a4 (H7.out.jj.below h) (by rw [List.length_append]; simp; omega)).mono ?_
            rintro e w'' ⟨v, rfl, ht, hb⟩
            exact ⟨⟨v, rfl, tbl_bb ht⟩, h.trans (hb.mono h.size)⟩
          have k31 : Hid (∀ w' v, Below w7.heap.size w7 w' → Hid (Bb w' v (ls ++ [[1]])) → Calls Try.prog 31 #[.slice lp ls.length lc, v, .int .i64 (ls.length : Int)] w' fun e w'' => e = .returned (.bool true) ∧ Below w7.heap.size w7 w'') := fun w' v h hv => by
            refine (first_yes w' _ v ls (ls ++ [[1]]) ls.length (HL7.out.below' h) hv.out (Int.le_refl _) (by simp) (by simp)).mono ?_
            rintro e w'' ⟨rfl, n, rfl⟩
            exact ⟨rfl, Below.drewN h n⟩
          have k46 : Hid (∀ w', Below w7.heap.size w7 w' → Calls Try.prog 46 #[.pointer none, .slice none 0 0] w' fun e w'' => e = .returned (.int .i64 2) ∧ Below w7.heap.size w7 w'') := fun w' h => by
            refine (Append_nil w' none 0 0).mono ?_
            rintro e w'' ⟨rfl, hb⟩
            exact ⟨rfl, h.trans (hb.mono h.size)⟩
          have k47 : Hid (∀ w', Below w7.heap.size w7 w' → Calls Try.prog 47 #[.pointer none] w' fun e w'' => (∃ B, e = .returned (.func (.func 64) #[] #[.pointer (some ⟨B, 0, none⟩)])) ∧ Below w7.heap.size w7 w'') := fun w' h => by
            refine (All_nil w').mono ?_
            rintro e w'' ⟨B, rfl, -, -, -, hb⟩
            exact ⟨⟨B, rfl⟩, h.trans (hb.mono h.size)⟩
          have k29n : Hid (∀ w', Below w7.heap.size w7 w' → Calls Try.prog 29 #[.pointer none] w' fun e w'' => (∃ p c, e = .returned (.slice p 0 c)) ∧ Below w7.heap.size w7 w'') := fun w' h => by
            refine (Records_nil w').mono ?_
            rintro e w'' ⟨v, rfl, ht, hb⟩
            obtain ⟨p, c, rfl, -⟩ := (tbl_bb ht).form
            exact ⟨⟨p, c, rfl⟩, h.trans (hb.mono h.size)⟩
          have k25 : Hid (∀ w', Below w7.heap.size w7 w' → Calls Try.prog 25 #[] w' fun e w'' => e = .returned (.bool true) ∧ Below w7.heap.size w7 w'') := fun w' h => by
            refine (awake18_any w').mono ?_
            rintro e w'' ⟨rfl, hb⟩
            exact ⟨rfl, h.trans (hb.mono h.size)⟩
          have qN : ∀ (w : World) (B : Nat), (binOp .neq 78 (.func (.func 64) #[] #[.pointer (some ⟨B, 0, none⟩)]) .nilFunc).run Try.prog w = .ok (.bool true) w := fun w B => neq_func_nil w _ _ _
          have hw1 : IntKind.i64.wrap ((ls.length : Int) + 1) = (ls.length : Int) + 1 := by rw [IntKind.wrap_i64]; omega
          clear hn cl hmk B7 b7 XW HW HK
          go_wp2_with fail
          go_region_held3 (fun w' => w'.cell? ⟨w4.heap.size, 0, none⟩ = some (.int .i64 ls.length) ∧ w'.cell? ⟨w.heap.size, 0, none⟩ = some (.slice lp ls.length lc))
            (first
              | assumption
              | exact hkb.out _ (by assumption)
              | exact hkb.out _ (Below.drew (by assumption))
              | exact hst.out _ _ (by assumption)
              | fail)
            (first
              | (go_at_call 43; with_reducible refine (k43.out _ (by first | assumption | exact Below.drew (by assumption))).mono ?_; rintro e x1 ⟨rfl, rfl⟩)
              | (go_at_call 29; with_reducible refine (k29.out _ (by first | assumption | exact Below.drew (by assumption))).mono ?_; rintro e x2 ⟨⟨xv, rfl, hxv⟩, hx2⟩)
              | (go_at_call 31; with_reducible refine (k31.out _ _ (by first | assumption | exact Below.drew (by assumption)) hxv).mono ?_; rintro e x3 ⟨rfl, hx3⟩)
              | (go_at_call 46; with_reducible refine (k46.out _ (by first | assumption | exact Below.drew (by assumption))).mono ?_; rintro e x4 ⟨rfl, hx4⟩)
              | (go_at_call 48; with_reducible refine (Jsync_nil _).mono ?_; rintro e x5 ⟨rfl, rfl⟩)
              | (go_at_call 47; with_reducible refine (k47.out _ (by first | assumption | exact Below.drew (by assumption))).mono ?_; rintro e x6 ⟨⟨B6, rfl⟩, hx6⟩)
              | (go_at_call 29; with_reducible refine (k29n.out _ (by first | assumption | exact Below.drew (by assumption))).mono ?_; rintro e x7 ⟨⟨p7, c7, rfl⟩, hx7⟩)
              | (go_at_call 43; with_reducible refine (Len_nil _).mono ?_; rintro e x8 ⟨rfl, rfl⟩)
              | (go_at_call 44; with_reducible refine (Room_nil _).mono ?_; rintro e x9 ⟨rfl, rfl⟩)
              | (go_at_call 25; with_reducible refine (k25.out _ (by first | assumption | exact Below.drew (by assumption))).mono ?_; rintro e x10 ⟨rfl, hx10⟩; have X10 := Lib.hid (X7.out.below hx10 (by omega)); have cx := X10.out.c1; have fx := X10.out.f1)
              | fail)
          have XE : Bx w (.slice lp ls.length lc) x10 := X10.out
          have hDE : x10.heap[D]? = some (.deferred (some [])) := (hx10.block D (Array.getElem?_eq_some_iff.1 HK7.out).1).trans HK7.out
          have HE := Lib.hid (XE.last hDE (by omega))
          clear hxv hx2 hx3 hx4 hx6 hx7 hx10 XE hDE cx fx
          go_wp2_with fail
          obtain ⟨e1, e2, e3⟩ := HE.out
          refine ⟨by simp, .inl ⟨_, _, rfl, run_takeDeferred e1, ?_⟩⟩
          exact ⟨.bool true, by simp [results, Try.results11, go_sem, e2], rfl, e3⟩
  · go_wp2_with fail
    refine (awake18_any _).mono ?_
    rintro e wz ⟨rfl, bz⟩
    have X3 : Hid (Bx w (.slice lp ls.length lc) wz) := X2.out.below bz (by have := H2.out.bel.size; omega)
    have d1 := X3.out.c1
    have g1 := X3.out.f1
    clear c0 c1 f1
    go_wp2_with fail
    obtain ⟨hc, hb⟩ := X3.out.done
    exact ⟨.bool true, by simp [results, Try.results11, go_sem, hc], rfl, hb⟩
end Go.Proofs.Ytbbjeoepoocofaa
