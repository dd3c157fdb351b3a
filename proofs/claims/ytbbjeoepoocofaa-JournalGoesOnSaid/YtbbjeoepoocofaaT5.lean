import Derived.Test.YtbbjeoepoocofaaS5
namespace Go.Proofs.Ytbbjeoepoocofaa
open Go.RowKit

theorem small18_nat {a b : Int} (h : small18 a b = true) : ∃ m n : Nat, a = m ∧ b = n ∧ 1 ≤ m ∧ m ≤ 20 ∧ 1 ≤ n ∧ n ≤ 40 := by
  obtain ⟨h1, h2, h3, h4⟩ := of_decide_eq_true h
  exact ⟨a.toNat, b.toNat, by omega, by omega, by omega, by omega, by omega, by omega⟩

theorem clr_clr {L : List Int} {f : Nat} (h : f ≤ L.length) : clr (clr L f) f = clr L f :=
  clr_same (by rw [clr_length h]; exact h) fun p hp => by rw [clr_getD h, if_neg (by omega)]
theorem Jp.sits {w : World} {B j d : Nat} {D : Dk} {L : List Int} {fin : Nat} {rs : List (List Int)} {nf : Nat} {p q : Foot} (h : Jp w j d D L fin rs nf p q) (hp : ∀ k, p.s k → B ≤ k) : Sits w B p := ⟨h.jr.sub, h.jr.lt, fun k hk => hp k (h.jr.sub k hk)⟩
theorem Jp.sitsq {w w' : World} {B j d : Nat} {D : Dk} {L : List Int} {fin : Nat} {rs : List (List Int)} {nf : Nat} {p q q0 : Foot} (h : Jp w' j d D L fin rs nf p q) (u : Upd q0 q w w') (hq : Sits w B q0) (hB : B ≤ w.heap.size) : Sits w' B q := u.fit hq hB h.dk.sub h.dk.lt

theorem Tbl.bb {w : World} {base : Nat} {v : Value} {ls : List (List Int)} (h : Tbl w base v ls) : Bb w v ls := by
  obtain ⟨vs, h, -⟩ := h
  exact h.tb.bb
theorem below_of_drew {w w' : World} {n : Nat} (h : w' = w.drewN n) : Below w.heap.size w w' := by rw [h]; exact Below.drewN (Below.refl _ _) n

set_option maxRecDepth 100000 in
set_option maxHeartbeats 8000000 in
theorem Lasts18_law (w : World) (a b : Int) (lv fv : Value) (l : List Jop) (fs : List Int) (hl : JAt w w.heap.size lv l) (hf : Rd w 1 fv fs.length (its fs)) :
    Calls Try.prog 7 #[.agg #[.int .i64 a, .int .i64 b], lv, fv] w fun e w' => e = .returned (.bool true) ∧ Below w.heap.size w w' := by
  obtain ⟨lp, lc, rfl, hlm⟩ := hl.form
  obtain ⟨fp, fc, rfl, -⟩ := hf.form
  have hfm := hf.len
  unfold maxLen at hlm hfm
  have HL := Lib.hid hl
  have HF := Lib.hid hf
  have HFL : Hid (∀ k, (Value.slice fp fs.length fc).ownBlock = some k → 0 < fs.length → k < w.heap.size) := hf.lt (by decide)
  clear hl hf
  go_enter Try.func7, Try.ntmps7
  go_wp2_with fail
  refine (small18_any _ a b).mono ?_
  rintro e w1 ⟨rfl, b1⟩
  have A0 : Below w.heap.size w (w.alloc (.cells #[.int .i64 a, .int .i64 b] 22)) := (Below.refl _ _).alloc (Nat.le_refl _) _
  have B1 : Hid (Below w.heap.size w w1) := A0.trans (b1.mono (by simp))
  have S1 : w.heap.size + 1 ≤ w1.heap.size := by have := b1.size; simpa using this
  have X1 : Box w1 w.heap.size a b := (Box.new w a b 22).below b1 (by simp)
  have L1 : Hid (JAt w1 w.heap.size (.slice lp l.length lc) l) := HL.out.below B1.out
  have F1 : Hid (Rd w1 1 (.slice fp fs.length fc) fs.length (its fs)) := HF.out.keep (X := fun _ => False) (Keeps.of_below B1.out) (fun _ _ _ f => f)
  clear A0 b1 HL HF
  by_cases hs : small18 a b = true
  · rw [hs]
    obtain ⟨m, n, rfl, rfl, m1, m2, n1, n2⟩ := small18_nat hs
    clear hs
    obtain ⟨x0, x1⟩ := X1
    go_wp2_with fail
    refine (few18_any w1 _ _ l L1.out).mono ?_
    rintro e w2 ⟨rfl, rfl⟩
    by_cases hw : few18 l = true
    · rw [hw]
      obtain ⟨l1, l2⟩ := of_decide_eq_true hw
      have HL2 := Lib.hid l2
      clear hw l2
      by_cases hn : fs.length ≤ 40
      · go_wp2_with fail
        refine (New_yes w1 m n m1 (by omega) n1 (by omega)).mono ?_
        rintro e w2 ⟨d, M, S, rfl, hd, hS, b2⟩
        have HD : Hid (DiskAt w2 d (newDk m n) M S) := hd
        have HS : Hid (∀ k, S k → w1.heap.size ≤ k) := hS
        have B2 : Hid (Below w.heap.size w w2) := B1.out.trans (b2.mono (by omega))
        have z2 := b2.size
        have L2 : Hid (JAt w2 w.heap.size (.slice lp l.length lc) l) := L1.out.below (b2.mono (by omega))
        have F2 : Hid (Rd w2 1 (.slice fp fs.length fc) fs.length (its fs)) := F1.out.keep (X := fun _ => False) (Keeps.of_below b2) (fun _ _ _ f => f)
        clear hd hS b2 x0 x1 L1 F1 B1
        go_wp2_with fail
        refine (Open_new w2 d m n ⟨M, S⟩ HD.out (by omega) (by omega)).mono ?_
        rintro e w3 ⟨j, a3, rfl, hj, u3⟩
        have s2 : Sits w2 w.heap.size ⟨M, S⟩ := ⟨HD.out.sub, HD.out.lt, fun k hk => by have := HS.out k (HD.out.sub k hk); omega⟩
        have b3 := u3.below s2 (by omega)
        have J3 := Lib.hid hj
        have T3 : Hid (Sits w3 w.heap.size a3) := u3.fit s2 (by omega) hj.sub hj.lt
        have B3 : Hid (Below w.heap.size w w3) := B2.out.trans b3
        have z3 := b3.size
        have L3 : Hid (JAt w3 w.heap.size (.slice lp l.length lc) l) := L2.out.below b3
        have F3 : Hid (Rd w3 1 (.slice fp fs.length fc) fs.length (its fs)) := F2.out.below b3 HFL.out
        clear hj u3 s2 b3 HD HS L2 B2 F2
        go_wp2_with fail
        refine (does_any w3 w.heap.size j d m n [] a3 J3.out T3.out (by omega) _ l L3.out (by omega) (fun o ho => by have := HL2.out o ho; omega)).mono ?_
        rintro e w4 ⟨ov, out, fm, a4, o4, rfl, hD⟩
        obtain ⟨us, -, hus, -⟩ := hD.tab.row
        obtain ⟨oa, oc, rfl⟩ := own_slice hus
        have J4 : Hid (JJ w4 j d m n out fm a4) := by
          have := hD.jj
          rw [List.nil_append, show ([] : List (List Int)).length + fm = fm from Nat.zero_add fm] at this
          exact this
        have b4 := hD.upd.below T3.out (by omega)
        have B4 : Hid (Below w.heap.size w w4) := B3.out.trans b4
        have z4 := b4.size
        have TO4 : Hid (Tab w4 (.slice oa out.length oc) out o4) := hD.tab
        have SO4 : Hid (Sits w4 w.heap.size o4) := ⟨hD.tab.sub, hD.tab.lt, fun k hk => by have := hD.om k hk; omega⟩
        have F4 : Hid (Rd w4 1 (.slice fp fs.length fc) fs.length (its fs)) := F3.out.below b4 HFL.out
        have hol : out.length ≤ 20 := by have := hD.len; omega
        clear hus hD b4 J3 T3 B3 L3 F3
        go_wp2_with fail
        refine (Crash_JJ w4 j d m n out fm a4 J4.out _ fs F4.out).mono ?_
        rintro e w5 (⟨c, Dc, qc, rfl, hC, hqc, b5⟩ | ⟨rfl, b5⟩)
        · have HC := Lib.hid hC
          have HQ := Lib.hid hqc
          have TO5 : Hid (Tab w5 (.slice oa out.length oc) out o4) := TO4.out.below b5
          have SO5 : Hid (Sits w5 w.heap.size o4) := SO4.out.mono b5.size
          have B5 : Hid (Below w.heap.size w w5) := B4.out.trans (b5.mono (by omega))
          have z5 := b5.size
          have AP5 : Hid (Apart qc o4) := SO4.out.fresh (fun k hk => HQ.out k (HC.out.dk.sub k hk)) (fun k hk => .inl (HQ.out k hk))
          have SC5 : Hid (Sits w5 w.heap.size qc) := ⟨HC.out.dk.sub, HC.out.dk.lt, fun k hk => by have := HQ.out k (HC.out.dk.sub k hk); omega⟩
          clear hC hqc b5 J4 TO4 SO4 F4 B4
          go_wp2_with fail
          refine (Copy_yes w5 c Dc qc.m qc.s HC.out.dk).mono ?_
          rintro e w6 ⟨t, Mt, St, rfl, hdt, hMt, hSt, b6⟩
          have HT : Hid (DiskAt w6 t Dc Mt St) := hdt
          have AT6 : Hid (Apart qc ⟨Mt, St⟩) := ⟨fun k hk h2 => (hSt k h2).elim (fun e => e.2 hk) (fun e => by have := SC5.out.lt k (SC5.out.sub k hk); omega), fun k hk h2 => by have := hMt k hk; have := SC5.out.lt k h2; omega⟩
          have AO6 : Hid (Apart ⟨Mt, St⟩ o4) := ⟨fun k hk h2 => by have := hMt k hk; have := SO5.out.lt k h2; omega, fun k hk h2 => (hSt k h2).elim (fun e => AP5.out.2 k hk e.1) (fun e => by have := SO5.out.lt k (SO5.out.sub k hk); omega)⟩
          have ST6 : Hid (Sits w6 w.heap.size ⟨Mt, St⟩) := ⟨HT.out.sub, HT.out.lt, fun k hk => by have := hMt k hk; omega⟩
          have HC6 : Hid (CrDisk w6 c Dc qc m n out fm) := HC.out.below b6
          have SC6 : Hid (Sits w6 w.heap.size qc) := SC5.out.mono b6.size
          have TO6 : Hid (Tab w6 (.slice oa out.length oc) out o4) := TO5.out.below b6
          have SO6 : Hid (Sits w6 w.heap.size o4) := SO5.out.mono b6.size
          have B6 : Hid (Below w.heap.size w w6) := B5.out.trans (b6.mono (by omega))
          have z6 := b6.size
          clear hdt hMt hSt b6 HC HQ TO5 SO5 B5 SC5
          have hbl : Dc.blocks ≤ 40 := by rw [HC6.out.bl]; omega
          have hsz : Dc.size ≤ 40 := by rw [HC6.out.sz]; omega
          have hop : Dc.open_.length ≤ 800000 := by rw [HC6.out.opn]; simp
          go_wp2_with fail
          refine (Open_JJ w6 c Dc qc HC6.out.dk HC6.out.isb hbl hsz hop).mono ?_
          rintro e w7 ⟨j1, rs1, f1, p1, q1, rfl, hr1, hj1, hp1, u1⟩
          obtain ⟨g1, g2, g3⟩ := HC6.out.recs rs1 f1 hr1
          have G1 := Lib.hid g1
          have hr1l : rs1.length ≤ 20 := by omega
          have HR1 := Lib.hid hr1
          have HJ1 : Hid (Jr w7 j1 c (clr Dc.now f1) f1 rs1 p1.m p1.s) := hj1.jr
          have HD1 : Hid (DiskAt w7 c (Dc.reset (clr Dc.now f1)) q1.m q1.s) := hj1.dk
          have HSM : Hid (∀ r ∈ rs1, r.length ≤ 1000000) := fun r hr => by have := hj1.ji.small r hr; omega
          have HF1 : Hid (f1 ≤ Dc.now.length) := hr1.1.le
          have A1 : Hid (Apart q1 p1) := hj1.ap.symm
          have SP1 : Hid (Sits w7 w.heap.size p1) := hj1.sits (fun k hk => by have := hp1 k hk; omega)
          have SQ1 : Hid (Sits w7 w.heap.size q1) := hj1.sitsq u1 SC6.out (by omega)
          have HT7 : Hid (DiskAt w7 t Dc Mt St) := HT.out.keep u1.keeps (u1.off AT6.out)
          have TO7 : Hid (Tab w7 (.slice oa out.length oc) out o4) := TO6.out.keep u1.keeps (u1.off AP5.out)
          have AT7 : Hid (Apart q1 ⟨Mt, St⟩) := u1.apart ST6.out AT6.out
          have AP7 : Hid (Apart q1 o4) := u1.apart SO6.out AP5.out
          have APT7 : Hid (Apart p1 ⟨Mt, St⟩) := ST6.out.fresh (fun k hk => hp1 k (hj1.jr.sub k hk)) (fun k hk => .inl (hp1 k hk))
          have b7 := u1.below SC6.out (by omega)
          have ST7 : Hid (Sits w7 w.heap.size ⟨Mt, St⟩) := ST6.out.mono b7.size
          have SO7 : Hid (Sits w7 w.heap.size o4) := SO6.out.mono b7.size
          have B7 : Hid (Below w.heap.size w w7) := B6.out.trans b7
          have z7 := b7.size
          have HISB : Hid (isB Dc.now) := HC6.out.isb
          clear g1 hr1 hj1 hp1 u1 b7 HC6 SC6 HT TO6 AT6 AP5 ST6 SO6 B6
          go_wp2_with fail
          refine (Open_JJ w7 t Dc ⟨Mt, St⟩ HT7.out HISB.out hbl hsz hop).mono ?_
          rintro e w8 ⟨j2, rs2, f2, p2, q2, rfl, hr2, hj2, hp2, u2⟩
          obtain ⟨rfl, rfl⟩ := hr2.uniq HR1.out
          have HJ2 : Hid (Jr w8 j2 t (clr Dc.now f2) f2 rs2 p2.m p2.s) := hj2.jr
          have HD2 : Hid (DiskAt w8 t (Dc.reset (clr Dc.now f2)) q2.m q2.s) := hj2.dk
          have A2 : Hid (Apart q2 p2) := hj2.ap.symm
          have HJ1' : Hid (Jr w8 j1 c (clr Dc.now f2) f2 rs2 p1.m p1.s) := HJ1.out.keep u2.keeps (u2.off APT7.out.symm)
          have HD1' : Hid (DiskAt w8 c (Dc.reset (clr Dc.now f2)) q1.m q1.s) := HD1.out.keep u2.keeps (u2.off AT7.out.symm)
          have TO8 : Hid (Tab w8 (.slice oa out.length oc) out o4) := TO7.out.keep u2.keeps (u2.off AO6.out)
          have A12 : Hid (Apart q1 q2) := (u2.apart SQ1.out AT7.out.symm).symm
          have AP2 : Hid (Apart q1 p2) := (SQ1.out.fresh (fun k hk => hp2 k (hj2.jr.sub k hk)) (fun k hk => .inl (hp2 k hk)) : Apart p2 q1).symm
          have b8 := u2.below ST7.out (by omega)
          have SQ8 : Hid (Sits w8 w.heap.size q1) := SQ1.out.mono b8.size
          have B8 : Hid (Below w.heap.size w w8) := B7.out.trans b8
          have z8 := b8.size
          clear hr2 hj2 hp2 u2 b8 HJ1 HD1 SP1 SQ1 HT7 TO7 AT7 APT7 ST7 SO7 B7
          go_wp2_with fail
          refine (Open_JJ w8 c (Dc.reset (clr Dc.now f2)) q1 HD1'.out (isB_clr HISB.out f2) hbl hsz (by simp [Dk.reset])).mono ?_
          rintro e w9 ⟨j3, rs3, f3, p3, q3, rfl, hr3, hj3, hp3, u3⟩
          obtain ⟨rfl, rfl⟩ := hr3.uniq HR1.out.clr
          have HJ3 : Hid (Jr w9 j3 c (clr (Dc.reset (clr Dc.now f3)).now f3) f3 rs3 p3.m p3.s) := hj3.jr
          have HJ2' : Hid (Jr w9 j2 t (clr Dc.now f3) f3 rs3 p2.m p2.s) := HJ2.out.keep u3.keeps (u3.off AP2.out)
          have HJ1 : Hid (Jr w9 j1 c (clr Dc.now f3) f3 rs3 p1.m p1.s) := HJ1'.out.keep u3.keeps (u3.off A1.out)
          have HD3 : Hid (DiskAt w9 c ((Dc.reset (clr Dc.now f3)).reset (clr (Dc.reset (clr Dc.now f3)).now f3)) q3.m q3.s) := hj3.dk
          have HD2' : Hid (DiskAt w9 t (Dc.reset (clr Dc.now f3)) q2.m q2.s) := HD2.out.keep u3.keeps (u3.off A12.out)
          have TO9 : Hid (Tab w9 (.slice oa out.length oc) out o4) := TO8.out.keep u3.keeps (u3.off AP7.out)
          have b9 := u3.below SQ8.out (by omega)
          have B9 : Hid (Below w.heap.size w w9) := B8.out.trans b9
          have z9 := b9.size
          clear hr3 hj3 hp3 u3 b9 HJ2 HJ1' HD1' HD2 TO8 SQ8 B8 A1 A2 A12 AP2 AP7 AO6 HISB
          have HB3 : Hid ((Dc.reset (clr Dc.now f3)).blocks ≤ 64) := Nat.le_trans hbl (by decide)
          have HCC : Hid (((Dc.reset (clr Dc.now f3)).reset (clr (Dc.reset (clr Dc.now f3)).now f3)).now = (Dc.reset (clr Dc.now f3)).now) := clr_clr HF1.out
          go_wp2_with fail
          refine (Records_any w9 j1 c _ f3 rs3 p1.m p1.s HJ1.out (by omega) HSM.out).mono ?_
          rintro e w10 ⟨xv, rfl, hx, b10⟩
          have X10 : Hid (Bb w10 xv rs3) := hx.bb
          have O10 : Hid (Bb w10 (.slice oa out.length oc) out) := TO9.out.bb.below' b10
          have J210 := Lib.hid (HJ2'.out.below b10)
          have J310 := Lib.hid (HJ3.out.below b10)
          have D310 := Lib.hid (HD3.out.below b10)
          have D210 := Lib.hid (HD2'.out.below b10)
          have B10 : Hid (Below w.heap.size w w10) := B9.out.trans (b10.mono B9.out.size)
          obtain ⟨xp, xc, rfl, -⟩ := hx.bb.form
          clear hx b10 HJ1 HJ2' HJ3 HD3 HD2' TO9 B9
          go_wp2_with fail
          refine (first_yes w10 _ _ rs3 out fm X10.out O10.out (by omega) g2 G1.out).mono ?_
          rintro e w11 ⟨rfl, n11, hw11⟩
          have b11 := below_of_drew hw11
          have X11 : Hid (Bb w11 (.slice xp rs3.length xc) rs3) := X10.out.below' b11
          have J211 := Lib.hid (J210.out.below b11)
          have J311 := Lib.hid (J310.out.below b11)
          have D311 := Lib.hid (D310.out.below b11)
          have D211 := Lib.hid (D210.out.below b11)
          have B11 : Hid (Below w.heap.size w w11) := B10.out.trans (b11.mono B10.out.size)
          clear hw11 b11 X10 O10 J210 J310 D310 D210 B10
          go_wp2_with fail
          refine (Records_any w11 j2 t _ f3 rs3 p2.m p2.s J211.out (by omega) HSM.out).mono ?_
          rintro e w12 ⟨yv, rfl, hy, b12⟩
          have Y12 : Hid (Bb w12 yv rs3) := hy.bb
          have X12 : Hid (Bb w12 (.slice xp rs3.length xc) rs3) := X11.out.below' b12
          have J312 := Lib.hid (J311.out.below b12)
          have D312 := Lib.hid (D311.out.below b12)
          have D212 := Lib.hid (D211.out.below b12)
          have B12 : Hid (Below w.heap.size w w12) := B11.out.trans (b12.mono B11.out.size)
          obtain ⟨yp, yc, rfl, -⟩ := hy.bb.form
          clear hy b12 X11 J211 J311 D311 D211 B11
          go_wp2_with fail
          refine (Same_any w12 _ _ rs3 rs3 X12.out Y12.out).mono ?_
          rw [decide_eq_true rfl]
          rintro e w13 ⟨rfl, n13, hw13⟩
          have b13 := below_of_drew hw13
          have X13 : Hid (Bb w13 (.slice xp rs3.length xc) rs3) := X12.out.below' b13
          have J313 := Lib.hid (J312.out.below b13)
          have D313 := Lib.hid (D312.out.below b13)
          have D213 := Lib.hid (D212.out.below b13)
          have B13 : Hid (Below w.heap.size w w13) := B12.out.trans (b13.mono B12.out.size)
          clear hw13 b13 X12 Y12 J312 D312 D212 B12
          go_wp2_with fail
          refine (Records_any w13 j3 c _ f3 rs3 p3.m p3.s J313.out (by omega) HSM.out).mono ?_
          rintro e w14 ⟨yv, rfl, hy, b14⟩
          have Y14 : Hid (Bb w14 yv rs3) := hy.bb
          have X14 : Hid (Bb w14 (.slice xp rs3.length xc) rs3) := X13.out.below' b14
          have D314 := Lib.hid (D313.out.below b14)
          have D214 := Lib.hid (D213.out.below b14)
          have B14 : Hid (Below w.heap.size w w14) := B13.out.trans (b14.mono B13.out.size)
          obtain ⟨zp, zc, rfl, -⟩ := hy.bb.form
          clear hy b14 X13 J313 D313 D213 B13
          go_wp2_with fail
          refine (Same_any w14 _ _ rs3 rs3 X14.out Y14.out).mono ?_
          rw [decide_eq_true rfl]
          rintro e w15 ⟨rfl, n15, hw15⟩
          have b15 := below_of_drew hw15
          have D315 := Lib.hid (D314.out.below b15)
          have D215 := Lib.hid (D214.out.below b15)
          have B15 : Hid (Below w.heap.size w w15) := B14.out.trans (b15.mono B14.out.size)
          clear hw15 b15 X14 Y14 D314 D214 B14
          go_wp2_with fail
          refine (bytes_any w15 c _ q3.m q3.s D315.out HB3.out).mono ?_
          rw [HCC.out]
          rintro e w16 ⟨v16, rfl, h16, b16⟩
          have R16 : Hid (Rb w16 v16 (Dc.reset (clr Dc.now f3)).now) := Rd.of_own h16
          have D216 := Lib.hid (D215.out.below b16)
          have B16 : Hid (Below w.heap.size w w16) := B15.out.trans (b16.mono B15.out.size)
          obtain ⟨p16, c16, rfl⟩ := own_slice h16
          clear h16 b16 D315 D215 B15
          go_wp2_with fail
          refine (bytes_any w16 t _ q2.m q2.s D216.out HB3.out).mono ?_
          rintro e w17 ⟨v17, rfl, h17, b17⟩
          have R17 : Hid (Rb w17 v17 (Dc.reset (clr Dc.now f3)).now) := Rd.of_own h17
          have R16' : Hid (Rb w17 (.slice p16 (Dc.reset (clr Dc.now f3)).now.length c16) (Dc.reset (clr Dc.now f3)).now) := R16.out.below' b17
          have B17 : Hid (Below w.heap.size w w17) := B16.out.trans (b17.mono B16.out.size)
          obtain ⟨p17, c17, rfl⟩ := own_slice h17
          clear h17 b17 D216 B16 R16
          go_wp2_with fail
          refine (Bytes_any w17 _ _ _ _ R16'.out R17.out).mono ?_
          rw [decide_eq_true rfl]
          rintro e w18 ⟨rfl, n18, hw18⟩
          have b18 := below_of_drew hw18
          have B18 : Hid (Below w.heap.size w w18) := B17.out.trans (b18.mono B17.out.size)
          clear hw18 b18 R16' R17 B17
          go_wp2_with fail
          refine (awake18_any _).mono ?_
          rintro e w19 ⟨rfl, b19⟩
          go_wp2_with fail
          go_ret
          exact ⟨rfl, B18.out.trans (b19.mono B18.out.size)⟩
        · have B5 : Hid (Below w.heap.size w w5) := B4.out.trans (b5.mono (by omega))
          clear b5 J4 TO4 SO4 F4
          go_wp2_with fail
          refine (awake18_any _).mono ?_
          rintro e w6 ⟨rfl, b6⟩
          go_wp2_with fail
          go_ret
          exact ⟨rfl, B5.out.trans (b6.mono B5.out.size)⟩
      · go_wp2_with fail
        refine (awake18_any _).mono ?_
        rintro e w2 ⟨rfl, b2⟩
        go_wp2_with fail
        go_ret
        exact ⟨rfl, B1.out.trans (b2.mono (by omega))⟩
    · have hw' : few18 l = false := by simpa using hw
      rw [hw']
      clear hw hw'
      go_wp2_with fail
      refine (awake18_any _).mono ?_
      rintro e w2 ⟨rfl, b2⟩
      go_wp2_with fail
      go_ret
      exact ⟨rfl, B1.out.trans (b2.mono (by omega))⟩
  · have hs' : small18 a b = false := by simpa using hs
    rw [hs']
    clear hs hs'
    go_wp2_with fail
    refine (awake18_any _).mono ?_
    rintro e w2 ⟨rfl, b2⟩
    go_wp2_with fail
    go_ret
    exact ⟨rfl, B1.out.trans (b2.mono (by omega))⟩
end Go.Proofs.Ytbbjeoepoocofaa
