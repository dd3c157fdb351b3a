import Derived.Test.YtbbjeoepoocofaaT5
namespace Go.Proofs.Ytbbjeoepoocofaa
open Go.RowKit

/-- Three boxes of two cells each, one behind the other. -/
structure Three (w : World) (q : Nat) (a b : Int) (u0 u1 v0 v1 : Value) : Prop where
  x0 : w.cell? ⟨q, 0, none⟩ = some (.int .i64 a)
  x1 : w.cell? ⟨q, 1, none⟩ = some (.int .i64 b)
  y0 : w.cell? ⟨q + 1, 0, none⟩ = some u0
  y1 : w.cell? ⟨q + 1, 1, none⟩ = some u1
  z0 : w.cell? ⟨q + 1 + 1, 0, none⟩ = some v0
  z1 : w.cell? ⟨q + 1 + 1, 1, none⟩ = some v1
theorem Three.below {w w' : World} {q B : Nat} {a b : Int} {u0 u1 v0 v1 : Value} (h : Three w q a b u0 u1 v0 v1) (hb : Below B w w') (hq : q + 2 < B) : Three w' q a b u0 u1 v0 v1 :=
  ⟨(hb.cell (p := ⟨q, 0, none⟩) (by show q < B; omega)).trans h.x0, (hb.cell (p := ⟨q, 1, none⟩) (by show q < B; omega)).trans h.x1, (hb.cell (p := ⟨q + 1, 0, none⟩) (by show q + 1 < B; omega)).trans h.y0,
    (hb.cell (p := ⟨q + 1, 1, none⟩) (by show q + 1 < B; omega)).trans h.y1, (hb.cell (p := ⟨q + 1 + 1, 0, none⟩) (by show q + 1 + 1 < B; omega)).trans h.z0, (hb.cell (p := ⟨q + 1 + 1, 1, none⟩) (by show q + 1 + 1 < B; omega)).trans h.z1⟩
theorem Three.new (w : World) (a b : Int) (u0 u1 v0 v1 : Value) : Three (((w.alloc (.cells #[.int .i64 a, .int .i64 b] 22)).alloc (.cells #[u0, u1] 43)).alloc (.cells #[v0, v1] 44)) w.heap.size a b u0 u1 v0 v1 := by
  have h0 : (((w.alloc (.cells #[.int .i64 a, .int .i64 b] 22)).alloc (.cells #[u0, u1] 43)).alloc (.cells #[v0, v1] 44)).heap[w.heap.size]? = some (.cells #[.int .i64 a, .int .i64 b] 22) := by
    rw [Below.heap_alloc _ _ _ (by simp; omega), Below.heap_alloc _ _ _ (by simp)]
    exact heap_alloc_new w _
  have h1 : (((w.alloc (.cells #[.int .i64 a, .int .i64 b] 22)).alloc (.cells #[u0, u1] 43)).alloc (.cells #[v0, v1] 44)).heap[w.heap.size + 1]? = some (.cells #[u0, u1] 43) := by
    rw [Below.heap_alloc _ _ _ (by simp)]
    have := heap_alloc_new (w.alloc (.cells #[.int .i64 a, .int .i64 b] 22)) (.cells #[u0, u1] 43)
    simpa using this
  have h2 : (((w.alloc (.cells #[.int .i64 a, .int .i64 b] 22)).alloc (.cells #[u0, u1] 43)).alloc (.cells #[v0, v1] 44)).heap[w.heap.size + 1 + 1]? = some (.cells #[v0, v1] 44) := by
    have := heap_alloc_new ((w.alloc (.cells #[.int .i64 a, .int .i64 b] 22)).alloc (.cells #[u0, u1] 43)) (.cells #[v0, v1] 44)
    simpa using this
  exact ⟨by rw [cell_of_row _ _ 0 _ _ _ h0]; rfl, by rw [cell_of_row _ _ 1 _ _ _ h0]; rfl, by rw [cell_of_row _ _ 0 _ _ _ h1]; rfl, by rw [cell_of_row _ _ 1 _ _ _ h1]; rfl, by rw [cell_of_row _ _ 0 _ _ _ h2]; rfl, by rw [cell_of_row _ _ 1 _ _ _ h2]; rfl⟩

/-- Two rows, one behind the other, in a row of new memory. -/
theorem Bb.join {w w' : World} {v : Value} {ax bx : List (List Int)} {us vs : List Value} {base n : Nat} (hu : us.length = ax.length) (hui : ∀ (i : Nat) (x : List Int) (u : Value), ax[i]? = some x → us[i]? = some u → Rb w u x)
    (hv : vs.length = bx.length) (hvi : ∀ (i : Nat) (x : List Int) (u : Value), bx[i]? = some x → vs[i]? = some u → Rb w u x) (hb : Below w.heap.size w w') (hr : w'.ownsRow base 30 1 v n (us ++ vs)) (hn : n = (ax ++ bx).length) : Bb w' v (ax ++ bx) := by
  subst hn
  refine ⟨us ++ vs, by simp [hu, hv], Rd.of_own hr, fun i x u hx hu' => ?_⟩
  rw [List.getElem?_append] at hx hu'
  rw [hu] at hu'
  split at hx
  · rename_i hi
    rw [if_pos hi] at hu'
    exact (hui i x u hx hu').below' hb
  · rename_i hi
    rw [if_neg hi] at hu'
    exact (hvi _ x u hx hu').below' hb
theorem Bb.open {w : World} {v : Value} {ls : List (List Int)} (h : Bb w v ls) : ∃ vs : List Value, vs.length = ls.length ∧ Rd w 1 v ls.length vs ∧ (∀ (i : Nat) (x : List Int) (u : Value), ls[i]? = some x → vs[i]? = some u → Rb w u x) ∧ ∀ u ∈ vs, u.oneCell' = true := by
  obtain ⟨vs, h1, h2, h3⟩ := h
  refine ⟨vs, h1, h2, h3, fun u hu => ?_⟩
  obtain ⟨i, hi, rfl⟩ := List.getElem_of_mem hu
  obtain ⟨sp, sc, hv, -⟩ := (h3 i ls[i] vs[i] (List.getElem?_eq_getElem (by omega)) (List.getElem?_eq_getElem hi)).form
  rw [hv]
  rfl

set_option maxRecDepth 100000 in
set_option maxHeartbeats 8000000 in
theorem GoesOn_law (w : World) (a b : Int) (u0 u1 v0 v1 : Value) (l k : List Jop) (fs gs : List Int) (hl : JAt w w.heap.size u0 l) (hm : JAt w w.heap.size u1 k) (hf : Rd w 1 v0 fs.length (its fs)) (hg : Rd w 1 v1 gs.length (its gs)) :
    Calls Try.prog 5 #[.agg #[.int .i64 a, .int .i64 b], .agg #[u0, u1], .agg #[v0, v1]] w fun e w' => e = .returned (.bool true) ∧ Below w.heap.size w w' := by
  obtain ⟨lp, lc, rfl, hlm⟩ := hl.form
  obtain ⟨kp, kc, rfl, hmm⟩ := hm.form
  obtain ⟨fp, fc, rfl, -⟩ := hf.form
  obtain ⟨gp, gc, rfl, -⟩ := hg.form
  have hfm := hf.len
  have hgm := hg.len
  unfold maxLen at hlm hmm hfm hgm
  have HL := Lib.hid hl
  have HM := Lib.hid hm
  have HF := Lib.hid hf
  have HG := Lib.hid hg
  have HFL : Hid (∀ k, (Value.slice fp fs.length fc).ownBlock = some k → 0 < fs.length → k < w.heap.size) := hf.lt (by decide)
  have HGL : Hid (∀ k, (Value.slice gp gs.length gc).ownBlock = some k → 0 < gs.length → k < w.heap.size) := hg.lt (by decide)
  have T0 := Three.new w a b (.slice lp l.length lc) (.slice kp k.length kc) (.slice fp fs.length fc) (.slice gp gs.length gc)
  have B0 : Below w.heap.size w (((w.alloc (.cells #[.int .i64 a, .int .i64 b] 22)).alloc (.cells #[.slice lp l.length lc, .slice kp k.length kc] 43)).alloc (.cells #[.slice fp fs.length fc, .slice gp gs.length gc] 44)) :=
    (((Below.refl _ w).alloc (Nat.le_refl _) _).alloc (by simp) _).alloc (by simp; omega) _
  have Z0 : (((w.alloc (.cells #[.int .i64 a, .int .i64 b] 22)).alloc (.cells #[.slice lp l.length lc, .slice kp k.length kc] 43)).alloc (.cells #[.slice fp fs.length fc, .slice gp gs.length gc] 44)).heap.size = w.heap.size + 3 := by simp
  have HT0 := Lib.hid T0
  obtain ⟨x0, x1, y0, y1, z0, z1⟩ := T0
  clear hl hm hf hg
  go_enter Try.func5, Try.ntmps5
  go_wp2_with fail
  generalize ((w.alloc (.cells #[.int .i64 a, .int .i64 b] 22)).alloc (.cells #[.slice lp l.length lc, .slice kp k.length kc] 43)).alloc (.cells #[.slice fp fs.length fc, .slice gp gs.length gc] 44) = w0 at *
  refine (small18_any _ a b).mono ?_
  rintro e w1 ⟨rfl, b1⟩
  have B1 : Hid (Below w.heap.size w w1) := B0.trans (b1.mono (by omega))
  have BX1 : Hid (Three w1 w.heap.size a b (.slice lp l.length lc) (.slice kp k.length kc) (.slice fp fs.length fc) (.slice gp gs.length gc)) := HT0.out.below b1 (by omega)
  have S1 : w.heap.size + 3 ≤ w1.heap.size := by have := b1.size; omega
  have L1 : Hid (JAt w1 w.heap.size (.slice lp l.length lc) l) := HL.out.below B1.out
  have K1 : Hid (JAt w1 w.heap.size (.slice kp k.length kc) k) := HM.out.below B1.out
  have F1 : Hid (Rd w1 1 (.slice fp fs.length fc) fs.length (its fs)) := HF.out.below B1.out HFL.out
  have G1 : Hid (Rd w1 1 (.slice gp gs.length gc) gs.length (its gs)) := HG.out.below B1.out HGL.out
  clear b1 B0 HT0 HL HM HF HG x0 x1 y0 y1 z0 z1 Z0
  by_cases hs : small18 a b = true
  · rw [hs]
    obtain ⟨m, n, rfl, rfl, m1, m2, n1, n2⟩ := small18_nat hs
    clear hs
    obtain ⟨x0, x1, y0, y1, z0, z1⟩ := BX1.out
    go_wp2_with fail
    refine (few18_any w1 _ _ l L1.out).mono ?_
    rintro e w2 ⟨rfl, rfl⟩
    by_cases hw : few18 l = true
    · rw [hw]
      obtain ⟨l1, l2⟩ := of_decide_eq_true hw
      have HL2 := Lib.hid l2
      clear hw l2
      go_wp2_with fail
      refine (few18_any w1 _ _ k K1.out).mono ?_
      rintro e w2 ⟨rfl, rfl⟩
      by_cases hw : few18 k = true
      · rw [hw]
        obtain ⟨k1, k2⟩ := of_decide_eq_true hw
        have HK2 := Lib.hid k2
        clear hw k2
        by_cases hn : fs.length ≤ 40
        · by_cases hn2 : gs.length ≤ 40
          · go_wp2_with fail
            refine (New_yes w1 m n m1 (by omega) n1 (by omega)).mono ?_
            rintro e w2 ⟨d, M, S, rfl, hd, hS, b2⟩
            have HD : Hid (DiskAt w2 d (newDk m n) M S) := hd
            have HS : Hid (∀ k, S k → w1.heap.size ≤ k) := hS
            have B2 : Hid (Below w.heap.size w w2) := B1.out.trans (b2.mono (by omega))
            have z2 := b2.size
            have b2' : Hid (Below w1.heap.size w1 w2) := b2
            clear hd hS b2 x0 x1 y0 y1 z0 z1 B1
            go_wp2_with fail
            refine (Open_new w2 d m n ⟨M, S⟩ HD.out (by omega) (by omega)).mono ?_
            rintro e w3 ⟨j, a3, rfl, hj, u3⟩
            have s2 : Sits w2 w1.heap.size ⟨M, S⟩ := ⟨HD.out.sub, HD.out.lt, fun k hk => HS.out k (HD.out.sub k hk)⟩
            have b3 : Below w1.heap.size w1 w3 := b2'.out.trans (u3.below s2 z2)
            have J3 := Lib.hid hj
            have T3 : Hid (Sits w3 w1.heap.size a3) := u3.fit s2 z2 hj.sub hj.lt
            have B3 : Hid (Below w.heap.size w w3) := B2.out.trans ((u3.below s2 z2).mono (by omega))
            have BX3 : Hid (Three w3 w.heap.size m n (.slice lp l.length lc) (.slice kp k.length kc) (.slice fp fs.length fc) (.slice gp gs.length gc)) := BX1.out.below b3 (by omega)
            have z3 := b3.size
            have L3 : Hid (JAt w3 w.heap.size (.slice lp l.length lc) l) := L1.out.below (b3.mono (by omega))
            have K3 : Hid (JAt w3 w.heap.size (.slice kp k.length kc) k) := K1.out.below (b3.mono (by omega))
            have F3 : Hid (Rd w3 1 (.slice fp fs.length fc) fs.length (its fs)) := F1.out.below (b3.mono (by omega)) HFL.out
            have G3 : Hid (Rd w3 1 (.slice gp gs.length gc) gs.length (its gs)) := G1.out.below (b3.mono (by omega)) HGL.out
            have T3' : Hid (Sits w3 w.heap.size a3) := ⟨T3.out.sub, T3.out.lt, fun k hk => by have := T3.out.base k hk; omega⟩
            obtain ⟨-, -, y0, -, -, -⟩ := BX3.out
            clear hj u3 s2 b3 HD HS b2' L1 K1 F1 G1 BX1 B2
            go_wp2_with fail
            refine (does_any w3 w.heap.size j d m n [] a3 J3.out T3'.out (by omega) _ l L3.out (by omega) (fun o ho => by have := HL2.out o ho; omega)).mono ?_
            rintro e w4 ⟨ov, out, fm, a4, o4, rfl, hD⟩
            have J4 : Hid (JJ w4 j d m n out fm a4) := by
              have := hD.jj
              rw [List.nil_append, show ([] : List (List Int)).length + fm = fm from Nat.zero_add fm] at this
              exact this
            have b4 : Below w1.heap.size w3 w4 := hD.upd.below T3.out z3
            have B4 : Hid (Below w.heap.size w w4) := B3.out.trans (b4.mono (by omega))
            have BX4 : Hid (Three w4 w.heap.size m n (.slice lp l.length lc) (.slice kp k.length kc) (.slice fp fs.length fc) (.slice gp gs.length gc)) := BX3.out.below b4 (by omega)
            have z4 := b4.size
            have K4 : Hid (JAt w4 w.heap.size (.slice kp k.length kc) k) := K3.out.below (b4.mono (by omega))
            have F4 : Hid (Rd w4 1 (.slice fp fs.length fc) fs.length (its fs)) := F3.out.below (b4.mono (by omega)) HFL.out
            have G4 : Hid (Rd w4 1 (.slice gp gs.length gc) gs.length (its gs)) := G3.out.below (b4.mono (by omega)) HGL.out
            have hol : out.length ≤ 20 := by have := hD.len; omega
            obtain ⟨-, -, -, -, z0, -⟩ := BX4.out
            clear hD b4 J3 T3 T3' B3 L3 K3 F3 G3 BX3 y0
            go_wp2_with fail
            refine (Crash_JJ w4 j d m n out fm a4 J4.out _ fs F4.out).mono ?_
            rintro e w5 (⟨c, Dc, qc, rfl, hC, hqc, b5⟩ | ⟨rfl, b5⟩)
            · have HC := Lib.hid hC
              have HQ := Lib.hid hqc
              have B5 : Hid (Below w.heap.size w w5) := B4.out.trans (b5.mono (by omega))
              have BX5 : Hid (Three w5 w.heap.size m n (.slice lp l.length lc) (.slice kp k.length kc) (.slice fp fs.length fc) (.slice gp gs.length gc)) := BX4.out.below b5 (by omega)
              have z5 := b5.size
              have K5 : Hid (JAt w5 w.heap.size (.slice kp k.length kc) k) := K4.out.below (b5.mono (by omega))
              have G5 : Hid (Rd w5 1 (.slice gp gs.length gc) gs.length (its gs)) := G4.out.below (b5.mono (by omega)) HGL.out
              have SC5 : Hid (Sits w5 w4.heap.size qc) := ⟨HC.out.dk.sub, HC.out.dk.lt, fun k hk => HQ.out k (HC.out.dk.sub k hk)⟩
              have hbl : Dc.blocks = m := HC.out.bl
              have hsz : Dc.size = n := HC.out.sz
              have HBL := Lib.hid hbl
              have HSZ := Lib.hid hsz
              clear hC hqc b5 J4 F4 B4 BX4 K4 G4 z0 hbl hsz
              go_wp2_with fail
              refine (Open_JJ w5 c Dc qc HC.out.dk HC.out.isb (by rw [HBL.out]; omega) (by rw [HSZ.out]; omega) (by rw [HC.out.opn]; simp)).mono ?_
              rintro e w6 ⟨j1, rs1, f1, p1, q1, rfl, hr1, hj1, hp1, u1⟩
              obtain ⟨-, g2, -⟩ := HC.out.recs rs1 f1 hr1
              have J6 : Hid (JJ w6 j1 c m n rs1 rs1.length ⟨fun k => p1.m k ∨ q1.m k, fun k => p1.s k ∨ q1.s k⟩) := by
                have := hj1.jj (by show Dc.blocks ≤ 40; rw [HBL.out]; omega) (by show Dc.size ≤ 40; rw [HSZ.out]; omega)
                rw [show (Dc.reset (clr Dc.now f1)).blocks = m from HBL.out, show (Dc.reset (clr Dc.now f1)).size = n from HSZ.out] at this
                exact this
              have U6 : Upd qc ⟨fun k => p1.m k ∨ q1.m k, fun k => p1.s k ∨ q1.s k⟩ w5 w6 := ⟨u1.keeps, fun k hk => hk.elim (fun h => .inr (hp1 k (hj1.jr.sub k h))) (u1.m k), fun k hk => hk.elim (fun h => .inr (hp1 k h)) (u1.s k)⟩
              have S6 : Hid (Sits w6 w4.heap.size ⟨fun k => p1.m k ∨ q1.m k, fun k => p1.s k ∨ q1.s k⟩) := U6.fit SC5.out z5 J6.out.sub J6.out.lt
              have b6 : Below w4.heap.size w5 w6 := U6.below SC5.out z5
              have B6 : Hid (Below w.heap.size w w6) := B5.out.trans (b6.mono (by omega))
              have BX6 : Hid (Three w6 w.heap.size m n (.slice lp l.length lc) (.slice kp k.length kc) (.slice fp fs.length fc) (.slice gp gs.length gc)) := BX5.out.below b6 (by omega)
              have z6 := b6.size
              have K6 : Hid (JAt w6 w.heap.size (.slice kp k.length kc) k) := K5.out.below (b6.mono (by omega))
              have G6 : Hid (Rd w6 1 (.slice gp gs.length gc) gs.length (its gs)) := G5.out.below (b6.mono (by omega)) HGL.out
              generalize (⟨fun k => p1.m k ∨ q1.m k, fun k => p1.s k ∨ q1.s k⟩ : Foot) = a6 at *
              clear hr1 hj1 hp1 u1 U6 b6 HC HQ B5 BX5 K5 G5 SC5 HBL HSZ
              go_wp2_with fail
              refine (Recs_JJ w6 j1 c m n rs1 rs1.length a6 J6.out (by omega)).mono ?_
              rintro e w7 ⟨lv, rfl, hlv, b7⟩
              obtain ⟨oL, hoL, hoS⟩ := Tab.of_tbl hlv
              obtain ⟨us7, -, hus7, -⟩ := hoL.row
              obtain ⟨lva, lvc, rfl⟩ := own_slice hus7
              have TL7 := Lib.hid hoL
              have APL : Hid (∀ k, oL.s k → ¬ a6.m k) := fun k h1 h2 => by have := hoS k h1; have := S6.out.lt k (S6.out.sub k h2); omega
              have J7 := Lib.hid (J6.out.below b7)
              have S7 : Hid (Sits w7 w4.heap.size a6) := S6.out.mono b7.size
              have S7' : Hid (Sits w7 w.heap.size a6) := ⟨S7.out.sub, S7.out.lt, fun k hk => by have := S7.out.base k hk; omega⟩
              have B7 : Hid (Below w.heap.size w w7) := B6.out.trans (b7.mono (by omega))
              have BX7 : Hid (Three w7 w.heap.size m n (.slice lp l.length lc) (.slice kp k.length kc) (.slice fp fs.length fc) (.slice gp gs.length gc)) := BX6.out.below b7 (by omega)
              have z7 := b7.size
              have K7 : Hid (JAt w7 w.heap.size (.slice kp k.length kc) k) := K6.out.below (b7.mono (by omega))
              have G7 : Hid (Rd w7 1 (.slice gp gs.length gc) gs.length (its gs)) := G6.out.below (b7.mono (by omega)) HGL.out
              obtain ⟨-, -, -, y1, -, -⟩ := BX7.out
              clear hlv hoL hoS hus7 b7 J6 S6 B6 BX6 K6 G6
              go_wp2_with fail
              refine (does_any w7 w.heap.size j1 c m n rs1 a6 J7.out S7'.out (by omega) _ k K7.out (by omega) (fun o ho => by have := HK2.out o ho; omega)).mono ?_
              rintro e w8 ⟨mv, more, fm2, a8, o8, rfl, hD⟩
              obtain ⟨us8, -, hus8, -⟩ := hD.tab.row
              obtain ⟨mva, mvc, rfl⟩ := own_slice hus8
              have J8 : Hid (JJ w8 j1 c m n (rs1 ++ more) (rs1.length + fm2) a8) := hD.jj
              have BM8 := hD.tab.bb
              have BL8 := (TL7.out.keep hD.upd.keeps APL.out).bb
              have b8 : Below w4.heap.size w7 w8 := hD.upd.below S7.out (by omega)
              have B8 : Hid (Below w.heap.size w w8) := B7.out.trans (b8.mono (by omega))
              have BX8 : Hid (Three w8 w.heap.size m n (.slice lp l.length lc) (.slice kp k.length kc) (.slice fp fs.length fc) (.slice gp gs.length gc)) := BX7.out.below b8 (by omega)
              have z8 := b8.size
              have G8 : Hid (Rd w8 1 (.slice gp gs.length gc) gs.length (its gs)) := G7.out.below (b8.mono (by omega)) HGL.out
              have hml : more.length ≤ 20 := by have := hD.len; omega
              obtain ⟨usL, hL1, hL2, hL3, hL4⟩ := BL8.open
              obtain ⟨usM, hM1, hM2, hM3, hM4⟩ := BM8.open
              have QL1 := Lib.hid hL1
              have QL2 := Lib.hid hL2
              have QL3 := Lib.hid hL3
              have QL4 := Lib.hid hL4
              have QM1 := Lib.hid hM1
              have QM2 := Lib.hid hM2
              have QM3 := Lib.hid hM3
              have QM4 := Lib.hid hM4
              obtain ⟨i3, hi30, hy0, hy1, hy2⟩ := info_parts info30
              clear hD hus8 b8 BM8 BL8 hL1 hL2 hL3 hL4 hM1 hM2 hM3 hM4 TL7 APL J7 S7 S7' B7 BX7 K7 G7 y1
              go_wp2_with (first
                | (at_builtin; refine wpList_append_rd rfl _ _ 50 rfl w8.heap.size 30 i3 (.slice none 0 0) 1 24 Try.underlying50 hi30 hy0 hy1 hy2 rfl (by decide) (.slice v9a rs1.length v9c) rs1.length usL rfl O9.out (.slice mva more.length mvc) more.length usM rfl (QM2.out.keep (X := fun _ => False) (Keeps.of_below B9.out) (fun _ _ _ f => f)) QM4.out (by unfold maxLen; omega) (by omega) B9.out.size ?_; rintro v10 w10 hown10 hg10 -; have B10 : Hid (Below w8.heap.size w8 w10) := B9.out.grown hg10 B9.out.size (fun k e => (own_lt O9.out k e).1); have O10 := Lib.hid hown10; obtain ⟨v10a, v10c, rfl⟩ := own_slice hown10; clear hown10 hg10)
                | (at_builtin; refine wpList_append_rd rfl _ _ 50 rfl w8.heap.size 30 i3 (.slice none 0 0) 1 24 Try.underlying50 hi30 hy0 hy1 hy2 rfl (by decide) (.slice none 0 0) 0 [] rfl (World.ownsRow_nil _ _ _ _) (.slice lva rs1.length lvc) rs1.length usL rfl QL2.out QL4.out (by unfold maxLen; omega) (by omega) (Nat.le_refl _) ?_; rintro v9 w9 hown9 hg9 -; rw [Nat.zero_add, List.nil_append] at hown9; have B9 : Hid (Below w8.heap.size w8 w9) := (Below.refl _ w8).grown hg9 (Nat.le_refl _) (fun k e => by simp [Value.ownBlock] at e); have O9 := Lib.hid hown9; obtain ⟨v9a, v9c, rfl⟩ := own_slice hown9; clear hown9 hg9)
                | fail)
              have BA10 : Hid (Bb w10 (.slice v10a (rs1.length + more.length) v10c) (rs1 ++ more)) := Bb.join QL1.out QL3.out QM1.out QM3.out B10.out O10.out (by rw [List.length_append])
              have J10 : Hid (JJ w10 j1 c m n (rs1 ++ more) (rs1.length + fm2) a8) := J8.out.below B10.out
              have B10w : Hid (Below w.heap.size w w10) := B8.out.trans (B10.out.mono (by omega))
              have BX10 : Hid (Three w10 w.heap.size m n (.slice lp l.length lc) (.slice kp k.length kc) (.slice fp fs.length fc) (.slice gp gs.length gc)) := BX8.out.below B10.out (by omega)
              have G10 : Hid (Rd w10 1 (.slice gp gs.length gc) gs.length (its gs)) := G8.out.below (B10.out.mono (by omega)) HGL.out
              have z10 := B10.out.size
              have hRS : Hid ((rs1 ++ more).length = rs1.length + more.length) := List.length_append
              clear QL1 QL2 QL3 QL4 QM1 QM2 QM3 QM4 O9 O10 B9 B10 B8 BX8 G8 J8
              generalize rs1 ++ more = RS at *
              refine (Recs_JJ w10 j1 c m n RS (rs1.length + fm2) a8 J10.out (by rw [hRS.out]; omega)).mono ?_
              rintro e w11 ⟨tv, rfl, ht, b11⟩
              have T11 : Hid (Bb w11 tv RS) := ht.bb
              obtain ⟨tp, tc, rfl, -⟩ := ht.bb.form
              have BA11 : Hid (Bb w11 (.slice v10a (rs1.length + more.length) v10c) RS) := BA10.out.below' b11
              have J11 := Lib.hid (J10.out.below b11)
              have B11 : Hid (Below w.heap.size w w11) := B10w.out.trans (b11.mono (by omega))
              have BX11 : Hid (Three w11 w.heap.size m n (.slice lp l.length lc) (.slice kp k.length kc) (.slice fp fs.length fc) (.slice gp gs.length gc)) := BX10.out.below b11 (by omega)
              have G11 : Hid (Rd w11 1 (.slice gp gs.length gc) gs.length (its gs)) := G10.out.below (b11.mono (by omega)) HGL.out
              have z11 := b11.size
              clear ht b11 BA10 J10 B10w BX10 G10
              go_wp2_with fail
              refine (Same_any w11 _ _ RS RS T11.out BA11.out).mono ?_
              rw [decide_eq_true rfl]
              rintro e w12 ⟨rfl, n12, hw12⟩
              have b12 := below_of_drew hw12
              have BA12 : Hid (Bb w12 (.slice v10a (rs1.length + more.length) v10c) RS) := BA11.out.below' b12
              have J12 := Lib.hid (J11.out.below b12)
              have B12 : Hid (Below w.heap.size w w12) := B11.out.trans (b12.mono (by omega))
              have BX12 : Hid (Three w12 w.heap.size m n (.slice lp l.length lc) (.slice kp k.length kc) (.slice fp fs.length fc) (.slice gp gs.length gc)) := BX11.out.below b12 (by omega)
              have G12 : Hid (Rd w12 1 (.slice gp gs.length gc) gs.length (its gs)) := G11.out.below (b12.mono (by omega)) HGL.out
              have z12 := b12.size
              obtain ⟨-, -, -, -, -, z1⟩ := BX12.out
              clear hw12 b12 T11 BA11 J11 B11 BX11 G11
              go_wp2_with fail
              refine (Crash_JJ w12 j1 c m n RS (rs1.length + fm2) a8 J12.out _ gs G12.out).mono ?_
              rintro e w13 (⟨x, Dx, qx, rfl, hC, hqx, b13⟩ | ⟨rfl, b13⟩)
              · have HC := Lib.hid hC
                have HQ := Lib.hid hqx
                have B13 : Hid (Below w.heap.size w w13) := B12.out.trans (b13.mono (by omega))
                have BA13 : Hid (Bb w13 (.slice v10a (rs1.length + more.length) v10c) RS) := BA12.out.below' b13
                have b13' : Hid (Below w12.heap.size w12 w13) := b13
                have z13 := b13.size
                have SCx : Hid (Sits w13 w12.heap.size qx) := ⟨HC.out.dk.sub, HC.out.dk.lt, fun k hk => HQ.out k (HC.out.dk.sub k hk)⟩
                clear hC hqx b13 J12 G12 z1
                go_wp2_with fail
                refine (Open_JJ w13 x Dx qx HC.out.dk HC.out.isb (by rw [HC.out.bl]; omega) (by rw [HC.out.sz]; omega) (by rw [HC.out.opn]; simp)).mono ?_
                rintro e w14 ⟨j2, rs2, f2, p2, q2, rfl, hr2, hj2, hp2, u2⟩
                obtain ⟨h1, h2, h3⟩ := HC.out.recs rs2 f2 hr2
                have H1 := Lib.hid h1
                have b14 : Below w12.heap.size w13 w14 := u2.below SCx.out z13
                have BA14 : Hid (Bb w14 (.slice v10a (rs1.length + more.length) v10c) RS) := BA12.out.below' (b13'.out.trans b14)
                have J14 : Hid (Jr w14 j2 x (clr Dx.now f2) f2 rs2 p2.m p2.s) := hj2.jr
                have HSM : Hid (∀ r ∈ rs2, r.length ≤ 1000000) := fun r hr => by have := hj2.ji.small r hr; omega
                have B14 : Hid (Below w.heap.size w w14) := B13.out.trans (b14.mono (by omega))
                have z14 := b14.size
                have hr4 : rs2.length ≤ 40 := by have := hRS.out; omega
                clear h1 hr2 hj2 hp2 u2 b14 HC HQ B13 BA13 BA12 b13' SCx B12 BX12
                go_wp2_with fail
                refine (Records_any w14 j2 x _ f2 rs2 p2.m p2.s J14.out (by omega) HSM.out).mono ?_
                rintro e w15 ⟨yv, rfl, hy, b15⟩
                have Y15 : Hid (Bb w15 yv rs2) := hy.bb
                obtain ⟨yp, yc, rfl, -⟩ := hy.bb.form
                have BA15 : Hid (Bb w15 (.slice v10a (rs1.length + more.length) v10c) RS) := BA14.out.below' b15
                have B15 : Hid (Below w.heap.size w w15) := B14.out.trans (b15.mono (by omega))
                clear hy b15 BA14 J14 B14
                go_wp2_with fail
                refine (first_yes w15 _ _ rs2 RS ((rs1.length : Int) + (fm2 : Int)) Y15.out BA15.out (by omega) h2 H1.out).mono ?_
                rintro e w16 ⟨rfl, n16, hw16⟩
                have b16 := below_of_drew hw16
                have B16 : Hid (Below w.heap.size w w16) := B15.out.trans (b16.mono B15.out.size)
                clear hw16 b16 Y15 BA15 B15
                go_wp2_with fail
                refine (awake18_any _).mono ?_
                rintro e wz ⟨rfl, bz⟩
                go_wp2_with fail
                go_ret
                exact ⟨rfl, B16.out.trans (bz.mono B16.out.size)⟩
              · have B13 : Hid (Below w.heap.size w w13) := B12.out.trans (b13.mono (by omega))
                clear b13 J12 G12 z1 BA12 B12 BX12
                go_wp2_with fail
                refine (awake18_any _).mono ?_
                rintro e wz ⟨rfl, bz⟩
                go_wp2_with fail
                go_ret
                exact ⟨rfl, B13.out.trans (bz.mono B13.out.size)⟩
            · have B5 : Hid (Below w.heap.size w w5) := B4.out.trans (b5.mono (by omega))
              clear b5 J4 F4 B4 z0
              go_wp2_with fail
              refine (awake18_any _).mono ?_
              rintro e wz ⟨rfl, bz⟩
              go_wp2_with fail
              go_ret
              exact ⟨rfl, B5.out.trans (bz.mono B5.out.size)⟩
          · clear x0 x1 y0 y1
            go_wp2_with fail
            refine (awake18_any _).mono ?_
            rintro e wz ⟨rfl, bz⟩
            go_wp2_with fail
            go_ret
            exact ⟨rfl, B1.out.trans (bz.mono B1.out.size)⟩
        · clear x0 x1 y0 y1
          go_wp2_with fail
          refine (awake18_any _).mono ?_
          rintro e wz ⟨rfl, bz⟩
          go_wp2_with fail
          go_ret
          exact ⟨rfl, B1.out.trans (bz.mono B1.out.size)⟩
      · have hw' : few18 k = false := by simpa using hw
        rw [hw']
        clear hw hw'
        go_wp2_with fail
        refine (awake18_any _).mono ?_
        rintro e wz ⟨rfl, bz⟩
        go_wp2_with fail
        go_ret
        exact ⟨rfl, B1.out.trans (bz.mono B1.out.size)⟩
    · have hw' : few18 l = false := by simpa using hw
      rw [hw']
      clear hw hw'
      go_wp2_with fail
      refine (awake18_any _).mono ?_
      rintro e wz ⟨rfl, bz⟩
      go_wp2_with fail
      go_ret
      exact ⟨rfl, B1.out.trans (bz.mono B1.out.size)⟩
  · have hs' : small18 a b = false := by simpa using hs
    rw [hs']
    clear hs hs'
    obtain ⟨x0, x1, y0, y1, z0, z1⟩ := BX1.out
    go_wp2_with fail
    refine (awake18_any _).mono ?_
    rintro e wz ⟨rfl, bz⟩
    go_wp2_with fail
    go_ret
    exact ⟨rfl, B1.out.trans (bz.mono B1.out.size)⟩
end Go.Proofs.Ytbbjeoepoocofaa
