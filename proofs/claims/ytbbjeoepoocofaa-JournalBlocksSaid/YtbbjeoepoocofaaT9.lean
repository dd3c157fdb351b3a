import Derived.Test.YtbbjeoepoocofaaU1
import Derived.Test.YtbbjeoepoocofaaT1
namespace Go.Proofs.Ytbbjeoepoocofaa
open Go.RowKit

theorem below_drew2 {w : World} {n : Nat} {w' : World} (h : w' = w.drewN n) : Below w.heap.size w w' := by rw [h]; exact Below.drewN (Below.refl _ _) n

/-- Two new disks, one behind the other, and a journal on each. -/
theorem Duo.start {w2 w3 w4 w5 : World} {d c j k m n B : Nat} {M S M2 S2 : Nat → Prop} {a a2 : Foot} (hd : DiskAt w2 d (newDk m n) M S) (hS : ∀ k, S k → B ≤ k) (b2 : B ≤ w2.heap.size)
    (hc : DiskAt w3 c (newDk n m) M2 S2) (hS2 : ∀ k, S2 k → w2.heap.size ≤ k) (b3 : Below w2.heap.size w2 w3) (hj : JJ w4 j d m n [] 0 a) (u4 : Upd ⟨M, S⟩ a w3 w4) (hk : JJ w5 k c n m [] 0 a2) (u5 : Upd ⟨M2, S2⟩ a2 w4 w5) :
    Duo w3 B j d k c m n [] 0 [] 0 w5 a a2 := by
  have z3 := b3.size
  have z4 := u4.keeps.size
  have s3 : Sits w3 B ⟨M, S⟩ := ⟨hd.sub, fun k h => by have := hd.lt k h; omega, fun k h => hS k (hd.sub k h)⟩
  have t3 : Sits w3 B ⟨M2, S2⟩ := ⟨hc.sub, hc.lt, fun k h => by have := hS2 k (hc.sub k h); omega⟩
  have a3 : Apart ⟨M, S⟩ ⟨M2, S2⟩ := ⟨fun k h1 h2 => by have := hd.lt k (hd.sub k h1); have := hS2 k h2; omega, fun k h1 h2 => by have := hd.lt k h2; have := hS2 k (hc.sub k h1); omega⟩
  have s4 : Sits w4 B a := u4.fit s3 (by omega) hj.sub hj.lt
  have t4 : Sits w4 B ⟨M2, S2⟩ := t3.mono z4
  have a4 : Apart a ⟨M2, S2⟩ := u4.apart t3 a3
  exact { one := hj.keep u5.keeps (u5.off a4.symm)
          two := hk
          ap := (u5.apart s4 a4.symm).symm
          s1 := s4.mono u5.keeps.size
          s2 := u5.fit t4 (by omega) hk.sub hk.lt
          bel := (u4.below s3 (by omega)).trans (u5.below t4 (by omega))
          size := by omega }

set_option maxRecDepth 100000 in
set_option maxHeartbeats 8000000 in
theorem Blocks_law (w : World) (a b : Int) (lv : Value) (l : List Jop) (hl : JAt w w.heap.size lv l) :
    Calls Try.prog 12 #[.agg #[.int .i64 a, .int .i64 b], lv] w fun e w' => e = .returned (.bool true) ∧ Below w.heap.size w w' := by
  obtain ⟨lp, lc, rfl, hlm⟩ := hl.form
  unfold maxLen at hlm
  have HL := Lib.hid hl
  clear hl
  go_enter Try.func12, Try.ntmps12
  go_wp2_with fail
  refine (small18_any _ a b).mono ?_
  rintro e w1 ⟨rfl, b1⟩
  have A0 : Below w.heap.size w (w.alloc (.cells #[.int .i64 a, .int .i64 b] 22)) := (Below.refl _ _).alloc (Nat.le_refl _) _
  have B1 : Hid (Below w.heap.size w w1) := A0.trans (b1.mono (by simp))
  have S1 : w.heap.size + 1 ≤ w1.heap.size := by have := b1.size; simpa using this
  have X1 : Box w1 w.heap.size a b := (Box.new w a b 22).below b1 (by simp)
  have L1 : Hid (JAt w1 w.heap.size (.slice lp l.length lc) l) := HL.out.below B1.out
  clear A0 b1 HL
  by_cases hs : small18 a b = true
  · rw [hs]
    obtain ⟨m, n, rfl, rfl, m1, m2, n1, n2⟩ := small18_num hs
    clear hs
    have HX1 : Hid (Box w1 w.heap.size m n) := X1
    obtain ⟨x0, x1⟩ := X1
    go_wp2_with fail
    refine (few18_any w1 _ _ l L1.out).mono ?_
    rintro e w2 ⟨rfl, rfl⟩
    by_cases hw : few18 l = true
    · rw [hw]
      obtain ⟨l1, l2⟩ := of_decide_eq_true hw
      have HL2 := Lib.hid l2
      clear hw l2
      go_wp2_with fail
      refine (New_yes w1 m n m1 (by omega) n1 (by omega)).mono ?_
      rintro e w2 ⟨d, M, S, rfl, hd, hS, b2⟩
      have HD : Hid (DiskAt w2 d (newDk m n) M S) := hd
      have HS : Hid (∀ k, S k → w1.heap.size ≤ k) := hS
      have B2 : Hid (Below w1.heap.size w1 w2) := b2
      have z2 := b2.size
      obtain ⟨y0, y1⟩ := HX1.out.below b2 (by omega)
      clear hd hS b2 x0 x1
      go_wp2_with fail
      refine (New_yes w2 n m n1 (by omega) m1 (by omega)).mono ?_
      rintro e w3 ⟨c, M2, S2, rfl, hc, hS2, b3⟩
      have HC : Hid (DiskAt w3 c (newDk n m) M2 S2) := hc
      have HS2 : Hid (∀ k, S2 k → w2.heap.size ≤ k) := hS2
      have HD3 : Hid (DiskAt w3 d (newDk m n) M S) := HD.out.below b3
      have B3 : Hid (Below w2.heap.size w2 w3) := b3
      have z3 := b3.size
      clear hc hS2 b3 y0 y1
      go_wp2_with fail
      refine (Open_new w3 d m n ⟨M, S⟩ HD3.out (by omega) (by omega)).mono ?_
      rintro e w4 ⟨j, a4, rfl, hj, u4⟩
      have J4 := Lib.hid hj
      have U4 := Lib.hid u4
      have HC4 : Hid (DiskAt w4 c (newDk n m) M2 S2) := HC.out.keep u4.keeps (fun k h1 h2 => by have := HS2.out k h1; have := HD.out.lt k (HD.out.sub k h2); omega)
      clear hj u4
      go_wp2_with fail
      refine (Open_new w4 c n m ⟨M2, S2⟩ HC4.out (by omega) (by omega)).mono ?_
      rintro e w5 ⟨k0, a5, rfl, hk, u5⟩
      have E5 : Duo w3 w1.heap.size j d k0 c m n [] 0 [] 0 w5 a4 a5 := Duo.start HD.out HS.out z2 HC.out HS2.out B3.out J4.out U4.out hk u5
      have E5 : Hid (Duo w1 w1.heap.size j d k0 c m n [] 0 [] 0 w5 a4 a5) := { one := E5.one, two := E5.two, ap := E5.ap, s1 := E5.s1, s2 := E5.s2, bel := (B2.out.trans (B3.out.mono z2)).trans E5.bel, size := Nat.le_refl _ }
      clear hk u5 U4 J4 HC4 HC HD HD3 HS HS2 B2 B3
      go_wp2_with fail
      go_loopw [13] (fun iv wr => ∃ (k nf : Nat) (rs : List (List Int)) (a a2 : Foot), iv = .int .i64 k ∧ k ≤ l.length ∧ rs.length ≤ k ∧ Hid (Duo w1 w1.heap.size j d k0 c m n rs nf rs nf wr a a2)) (fun iv _ => l.length - (intOf iv).toNat)
      case atStart => exact ⟨0, 0, [], a4, a5, rfl, Nat.zero_le _, Nat.le_refl _, E5⟩
      case round =>
        obtain ⟨k, nf, rs, a6, a7, rfl, hk, hrl, hE⟩ := hrel
        have bW : Hid (Below w1.heap.size w1 wr) := hE.out.bel
        by_cases hlt : k < l.length
        · obtain ⟨b1, off, cap, va, vc, e1, -, -, q0, q2, hb, hbB⟩ := (L1.out.below (bW.out.mono (by omega))).at hlt
          simp only [Value.slice.injEq, true_and] at e1
          obtain ⟨rfl, rfl⟩ := e1
          have HB := Lib.hid hb
          have HBB := Lib.hid hbB
          have hr1 : l[k].r.length ≤ 60 := HL2.out _ (List.getElem_mem hlt)
          have HIB : Hid (isB l[k].r) := L1.out.isb _ (List.getElem_mem hlt)
          have hsz := bW.out.size
          have hb1 : b1 < w.heap.size := L1.out.lt b1 rfl (by omega)
          clear hb hbB
          cases hsy : l[k].sync
          · rw [hsy] at q0
            clear hsy
            generalize l[k].r = r at *
            obtain ⟨cd, hcd⟩ : ∃ cd, codeV (m * n) rs r = cd := ⟨_, rfl⟩
            have HCD := Lib.hid hcd
            obtain ⟨rq, hrq⟩ : ∃ rq, nextR (m * n) rs r = rq := ⟨_, rfl⟩
            have HRQ := Lib.hid hrq
            obtain ⟨rv, hrv⟩ : ∃ rv, roomV (m * n) (frms rq).length = rv := ⟨_, rfl⟩
            have HRV := Lib.hid hrv
            have hql : rq.length ≤ k + 1 := by have := nextR_len (m * n) rs r; rw [hrq] at this; omega
            clear hcd hrq hrv
            have hcell : Hid (∀ w' w'', w'.cell? ⟨b1, off + k * 2 + 1, none⟩ = some (.slice va r.length vc) → Below w1.heap.size w' w'' → w''.cell? ⟨b1, off + k * 2 + 1, none⟩ = some (.slice va r.length vc)) := fun w' w'' h1 h2 => (h2.cell (p := ⟨b1, off + k * 2 + 1, none⟩) (by show b1 < w1.heap.size; omega)).trans h1
            have k1 : Hid (∀ w', Below wr.heap.size wr w' → Calls Try.prog 46 #[.pointer (some ⟨j, 0, none⟩), .slice va r.length vc] w' fun e w'' => e = .returned (.int .i64 cd) ∧ Below w1.heap.size w' w'' ∧ Hid (Rb w'' (.slice va r.length vc) r) ∧ ∃ a', Hid (Duo w1 w1.heap.size j d k0 c m n rq nf rs nf w'' a' a7)) := fun w' hb => by
              have hB' := HB.out.below' hb
              have hlo : ∀ i, (Value.slice va r.length vc).ownBlock = some i → 0 < r.length → i < w1.heap.size := fun i h1 h2 => by have := HBB.out i h1 h2; omega
              refine ((hE.out.below hb).app1 _ r hB' HIB.out hlo (by omega)).mono ?_
              rintro e w'' ⟨rfl, h2, a', h3⟩
              rw [HRQ.out] at h3
              rw [HCD.out]
              exact ⟨rfl, h2, hB'.below h2 hlo, a', h3⟩
            have k2 : Hid (∀ w4 a4 w', Hid (Duo w1 w1.heap.size j d k0 c m n rq nf rs nf w4 a4 a7) → Hid (Rb w4 (.slice va r.length vc) r) → Below w4.heap.size w4 w' → Calls Try.prog 46 #[.pointer (some ⟨k0, 0, none⟩), .slice va r.length vc] w' fun e w'' => e = .returned (.int .i64 cd) ∧ Below w1.heap.size w' w'' ∧ ∃ a', Hid (Duo w1 w1.heap.size j d k0 c m n rq nf rq nf w'' a4 a')) := fun w4 a4 w' hD hR hb => by
              refine ((hD.out.below hb).app2 _ r (hR.out.below' hb) HIB.out (fun i h1 h2 => by have := HBB.out i h1 h2; omega) (by omega)).mono ?_
              rintro e w'' ⟨rfl, h2, a', h3⟩
              rw [HRQ.out] at h3
              rw [HCD.out]
              exact ⟨rfl, h2, a', h3⟩
            have k3 : Hid (∀ w4 a4 a5 w', Hid (Duo w1 w1.heap.size j d k0 c m n rq nf rq nf w4 a4 a5) → Below w4.heap.size w4 w' → Calls Try.prog 44 #[.pointer (some ⟨j, 0, none⟩)] w' fun e w'' => e = .returned (.int .i64 rv) ∧ Below w1.heap.size w' w'' ∧ Hid (Duo w1 w1.heap.size j d k0 c m n rq nf rq nf w'' a4 a5)) := fun w4 a4 a5 w' hD hb => by
              refine (hD.out.below hb).room1.mono ?_
              rintro e w'' ⟨rfl, h2, h3⟩
              rw [HRV.out]
              exact ⟨rfl, h3, h2⟩
            have k4 : Hid (∀ w4 a4 a5 w', Hid (Duo w1 w1.heap.size j d k0 c m n rq nf rq nf w4 a4 a5) → Below w4.heap.size w4 w' → Calls Try.prog 44 #[.pointer (some ⟨k0, 0, none⟩)] w' fun e w'' => e = .returned (.int .i64 rv) ∧ Below w1.heap.size w' w'' ∧ Hid (Duo w1 w1.heap.size j d k0 c m n rq nf rq nf w'' a4 a5)) := fun w4 a4 a5 w' hD hb => by
              refine (hD.out.below hb).room2.mono ?_
              rintro e w'' ⟨rfl, h2, h3⟩
              rw [HRV.out]
              exact ⟨rfl, h3, h2⟩
            clear hE bW
            go_wp2_with fail
            go_region_held3 (fun w' => w'.cell? ⟨b1, off + k * 2 + 1, none⟩ = some (.slice va r.length vc))
              (first
                | assumption
                | exact hcell.out _ _ (by assumption) (by assumption)
                | fail)
              (first
                | (go_at_call 46; with_reducible refine (k1.out _ (by first | exact Below.refl _ _ | exact (Below.refl _ _).drew)).mono ?_; rintro e y1 ⟨rfl, by1, ry1, ay1, dy1⟩)
                | (go_at_call 46; with_reducible refine (k2.out _ _ _ dy1 ry1 (by first | exact Below.refl _ _ | exact (Below.refl _ _).drew)).mono ?_; rintro e y2 ⟨rfl, by2, ay2, dy2⟩)
                | (go_at_call 44; with_reducible refine (k3.out _ _ _ _ dy2 (by first | exact Below.refl _ _ | exact (Below.refl _ _).drew)).mono ?_; rintro e y3 ⟨rfl, by3, dy3⟩)
                | (go_at_call 44; with_reducible refine (k4.out _ _ _ _ dy3 (by first | exact Below.refl _ _ | exact (Below.refl _ _).drew)).mono ?_; rintro e y4 ⟨rfl, by4, dy4⟩)
                | fail)
            clear by1 ry1 dy1 by2 dy2 by3 dy3 by4 q0 q2
            go_wp2_with fail
            go_roundw
            case rel => exact ⟨k + 1, nf, rq, _, _, by simp, by omega, by omega, dy4⟩
            case measure => simp [intOf]; omega
          · rw [hsy] at q0
            clear hsy
            go_wp2_with fail
            refine (hE.out.sync1).mono ?_
            rintro e w6 ⟨rfl, a8, h6⟩
            have E6 := Lib.hid h6
            clear h6 q0 q2
            go_wp2_with fail
            refine (E6.out.sync2).mono ?_
            rintro e w7 ⟨rfl, a9, h7⟩
            have E7 := Lib.hid h7
            clear h7
            go_wp2_with fail
            go_roundw
            case rel => exact ⟨k + 1, rs.length, rs, _, _, by simp, by omega, by omega, E7⟩
            case measure => simp [intOf]; omega
        · obtain rfl : k = l.length := by omega
          obtain ⟨x0, x1⟩ := HX1.out.below bW.out (by omega)
          have hmn : m * n ≤ 20 * 40 := Nat.mul_le_mul m2 n2
          have hmw : IntKind.i64.wrap ((m : Int) * (n : Int)) = ((m * n : Nat) : Int) := by rw [IntKind.wrap_i64]; push_cast; omega
          have hil : (image (m * n) rs).length = m * n := hE.out.one.image_len
          have HIL := Lib.hid hil
          have hrl2 : rs.length ≤ 200 := by omega
          clear hil
          go_wp2_with fail
          refine (bytes_JJ wr j d m n rs nf a6 hE.out.one).mono ?_
          rintro e w6 ⟨v6, rfl, h6, b6⟩
          rw [HIL.out] at h6
          obtain ⟨p6, c6, rfl⟩ := own_slice h6
          have E6 := Lib.hid (hE.out.below b6)
          have O6 := Lib.hid h6
          have BX6 : Hid (Box w6 w.heap.size m n) := (show Box wr w.heap.size m n from ⟨x0, x1⟩).below b6 (by have := bW.out.size; omega)
          clear h6 b6 x0 x1 hE
          go_wp2_with fail
          refine (bytes_JJ w6 k0 c n m rs nf a7 E6.out.two).mono ?_
          rw [Nat.mul_comm n m]
          rintro e w7 ⟨v7, rfl, h7, b7⟩
          rw [HIL.out] at h7
          obtain ⟨p7, c7, rfl⟩ := own_slice h7
          have E7 := Lib.hid (E6.out.below b7)
          have R6 : Hid (Rb w7 (.slice p6 (m * n) c6) (image (m * n) rs)) := by
            have := Rd.of_own (own_same O6.out b7)
            unfold Hid Rb
            rw [HIL.out]
            exact this
          have R7 : Hid (Rb w7 (.slice p7 (m * n) c7) (image (m * n) rs)) := by
            have := Rd.of_own h7
            unfold Hid Rb
            rw [HIL.out]
            exact this
          obtain ⟨x0, x1⟩ := BX6.out.below b7 (by have := E6.out.sz; omega)
          clear h7 b7 E6 O6 BX6
          go_wp2_with fail
          refine (Bytes_any w7 _ _ _ _ R6.out R7.out).mono ?_
          rw [decide_eq_true rfl]
          rintro e w8 ⟨rfl, n8, hw8⟩
          have E8 := Lib.hid (E7.out.below (below_drew2 hw8))
          clear hw8 R6 R7 E7 x0 x1
          go_wp2_with fail
          refine (Recs_JJ w8 j d m n rs nf a6 E8.out.one hrl2).mono ?_
          rintro e w9 ⟨v9, rfl, h9, b9⟩
          have T9 : Hid (Bb w9 v9 rs) := h9.reads
          obtain ⟨p9, c9, rfl, -⟩ := h9.reads.form
          have E9 := Lib.hid (E8.out.below b9)
          clear h9 b9 E8
          go_wp2_with fail
          refine (Recs_JJ w9 k0 c n m rs nf a7 E9.out.two hrl2).mono ?_
          rintro e w10 ⟨v10, rfl, h10, b10⟩
          have T10 : Hid (Bb w10 v10 rs) := h10.reads
          obtain ⟨p10, c10, rfl, -⟩ := h10.reads.form
          have T9' : Hid (Bb w10 (.slice p9 rs.length c9) rs) := T9.out.below' b10
          have E10 := Lib.hid (E9.out.below b10)
          clear h10 b10 E9 T9
          go_wp2_with fail
          refine (Same_any w10 _ _ rs rs T9'.out T10.out).mono ?_
          rw [decide_eq_true rfl]
          rintro e w11 ⟨rfl, n11, hw11⟩
          have E11 := Lib.hid (E10.out.below (below_drew2 hw11))
          clear hw11 T9' T10 E10
          go_wp2_with fail
          refine (Len_JJ w11 j d m n rs nf a6 E11.out.one).mono ?_
          rintro e w12 ⟨rfl, rfl⟩
          go_wp2_with fail
          refine (Len_JJ w11 k0 c n m rs nf a7 E11.out.two).mono ?_
          rintro e w12 ⟨rfl, rfl⟩
          go_wp2_with fail
          refine (awake18_any _).mono ?_
          rintro e wz ⟨rfl, bz⟩
          go_wp2_with fail
          go_ret
          have B11 : Below w.heap.size w w11 := B1.out.trans (E11.out.bel.mono (by omega))
          exact ⟨rfl, B11.trans (bz.mono B11.size)⟩
    · have hw' : few18 l = false := by simpa using hw
      rw [hw']
      clear hw hw'
      go_wp2_with fail
      refine (awake18_any _).mono ?_
      rintro e w2 ⟨rfl, b2⟩
      go_wp2_with fail
      go_ret
      exact ⟨rfl, B1.out.trans (b2.mono (by omega))⟩
  · have hs' : small18 a b = false := by simpa using hs
    rw [hs']
    clear hs hs'
    go_wp2_with fail
    refine (awake18_any _).mono ?_
    rintro e w2 ⟨rfl, b2⟩
    go_wp2_with fail
    go_ret
    exact ⟨rfl, B1.out.trans (b2.mono (by omega))⟩
end Go.Proofs.Ytbbjeoepoocofaa
