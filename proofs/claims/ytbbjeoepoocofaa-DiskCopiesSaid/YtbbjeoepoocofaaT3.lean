import Derived.Test.YtbbjeoepoocofaaT1
import Derived.Test.YtbbjeoepoocofaaG1
namespace Go.Proofs.Ytbbjeoepoocofaa
open Go.RowKit

theorem Under.copy {hi : Nat} {w : World} {d : Nat} {D : Dk} (h : Under hi w d D) :
    Calls Try.prog 32 #[.pointer (some ⟨d, 0, none⟩)] w fun e w' => ∃ c M S, e = .returned (.pointer (some ⟨c, 0, none⟩)) ∧ DiskAt w' c D M S ∧ (∀ k, M k → w.heap.size ≤ k) ∧ Below w.heap.size w w' := by
  obtain ⟨M, S, h1, -⟩ := h
  refine (Copy_yes w d D M S h1).mono ?_
  rintro e w' ⟨c, M', S', rfl, h2, h3, -, h5⟩
  exact ⟨c, M', S', rfl, h2, h3, h5⟩

theorem Under.crash_nil {hi : Nat} {w : World} {d : Nat} {D : Dk} (h : Under hi w d D) :
    Calls Try.prog 19 #[.pointer (some ⟨d, 0, none⟩), .slice none 0 0] w fun e w' => ∃ x, e = .returned (.tuple #[.pointer (some ⟨x, 0, none⟩), .int .i64 0]) ∧ Own w.heap.size w' x (D.crash []) ∧ Below w.heap.size w w' := by
  obtain ⟨M, S, h1, -⟩ := h
  refine (Crash_good w d D M S h1 (.slice none 0 0) [] ⟨rfl, .inl ⟨.inl rfl, rfl⟩⟩ (by simp) (by simp)).mono ?_
  rintro e w' ⟨x, M', S', rfl, h3, h4, h5⟩
  exact ⟨x, rfl, ⟨M', S', h3, h4⟩, h5⟩

theorem Two.start {base : Nat} {w4 w5 : World} {c x : Nat} {C X : Dk} {M S : Nat → Prop} (h : DiskAt w4 c C M S) (hM : ∀ k, M k → base ≤ k) (hx : Own w4.heap.size w5 x X) (hb : Below w4.heap.size w4 w5) (hB : base ≤ w4.heap.size) :
    Two base (fun _ => False) w5 c x C X := by
  obtain ⟨M', S', h2, h3⟩ := hx
  exact ⟨⟨M, S, M', S', h.below hb, h2, hM, fun k hk => Nat.le_trans hB (h3 k (h2.sub k hk)), fun _ _ f => f, fun _ _ f => f, fun k hk hs => by have := h.lt k (h.sub k hk); have := h3 k hs; omega, fun k hk hs => by have := h.lt k hs; have := h3 k (h2.sub k hk); omega⟩, fun _ f => f.elim⟩

/-- The row of an own slice that is not empty. -/
theorem own_some {w : World} {base : Nat} {e : TypeId} {size : Nat} {va : Option Addr} {n m vc : Nat} {xs : List Value} (h : w.ownsRow base e size (.slice va n vc) m xs) (hm : 0 < m) : ∃ g, va = some ⟨g, 0, none⟩ ∧ n = m ∧ base ≤ g := by
  rcases h.2 with ⟨_, h0⟩ | ⟨g, cap, cur, hv, hb, _⟩
  · omega
  · simp only [Value.slice.injEq] at hv
    exact ⟨g, hv.1, hv.2.1, hb⟩

set_option maxRecDepth 100000 in
set_option maxHeartbeats 4000000 in
theorem Copies_law (w : World) (a b : Int) (lv mv : Value) (l m : List Opv) (hl : OpsAt w w.heap.size lv l) (hm : OpsAt w w.heap.size mv m) :
    Calls Try.prog 6 #[.agg #[.int .i64 a, .int .i64 b], lv, mv] w fun e w' => e = .returned (.bool true) ∧ Below w.heap.size w w' := by
  obtain ⟨lp, lc, rfl, hlm⟩ := hl.form
  obtain ⟨mp, mc, rfl, hmm⟩ := hm.form
  unfold maxLen at hlm hmm
  have HL := Lib.hid hl
  have HM := Lib.hid hm
  clear hl hm
  go_enter Try.func6, Try.ntmps6
  go_wp2_with fail
  refine (small_any _ a b).mono ?_
  rintro e w1 ⟨rfl, b1⟩
  have A0 : Below w.heap.size w (w.alloc (.cells #[.int .i64 a, .int .i64 b] 22)) := (Below.refl _ _).alloc (Nat.le_refl _) _
  have B1 : Below w.heap.size w w1 := A0.trans (b1.mono (by simp))
  have S1 : w.heap.size + 1 ≤ w1.heap.size := by have := b1.size; simpa using this
  have X1 : Hid (Box w1 w.heap.size a b) := (Box.new w a b 22).below b1 (by simp)
  have L1 : Hid (OpsAt w1 w.heap.size (.slice lp l.length lc) l) := HL.out.below B1
  have M1 : Hid (OpsAt w1 w.heap.size (.slice mp m.length mc) m) := HM.out.below B1
  clear A0 b1 HL HM
  by_cases hs : smallB a b = true
  · rw [hs]
    obtain ⟨s1, s2, s3, s4⟩ := of_decide_eq_true hs
    clear hs
    go_wp2_with fail
    refine (few_any w1 _ _ l L1.out).mono ?_
    rintro e w2 ⟨rfl, rfl⟩
    by_cases hw : fewB l = true
    · rw [hw]
      obtain ⟨l1, l2⟩ := of_decide_eq_true hw
      clear hw l2
      go_wp2_with fail
      refine (few_any w1 _ _ m M1.out).mono ?_
      rintro e w2 ⟨rfl, rfl⟩
      by_cases hv : fewB m = true
      · rw [hv]
        obtain ⟨m1, m2⟩ := of_decide_eq_true hv
        have HM2 := Lib.hid m2
        clear hv m2
        obtain ⟨x0, x1⟩ := X1.out
        go_wp2_with fail
        refine (made_any w1 a b s1 (by omega) s3 (by omega) w.heap.size (by omega) _ l L1.out (by omega)).mono ?_
        rintro e w2 ⟨d, rfl, O2, b2⟩
        have O2' := Lib.hid O2
        have HB2 := Lib.hid b2
        have C2 : Below w.heap.size w1 w2 := b2.mono (by omega)
        obtain ⟨y0, y1⟩ := X1.out.below (B := w1.heap.size) b2 (by omega)
        have L2 : Hid (OpsAt w2 w.heap.size (.slice lp l.length lc) l) := L1.out.below C2
        have S2 := b2.size
        clear O2 b2 x0 x1
        go_wp2_with fail
        refine (made_any w2 a b s1 (by omega) s3 (by omega) w.heap.size (by omega) _ l L2.out (by omega)).mono ?_
        rintro e w3 ⟨ed, rfl, O3, b3⟩
        have O3' := Lib.hid O3
        have C3 : Below w.heap.size w1 w3 := C2.trans (b3.mono (by omega))
        have C3' : Below (w.heap.size + 1) w1 w3 := (HB2.out.mono (by omega)).trans (b3.mono (by omega))
        have S3 := b3.size
        obtain ⟨D, hD⟩ : ∃ D, (newDk a.toNat b.toNat).runs l = D := ⟨_, rfl⟩
        have HD := Lib.hid hD
        have hDb : Hid (D.blocks = a.toNat ∧ D.size = b.toNat ∧ D.open_.length ≤ 30) := by
          have h1 := (newDk a.toNat b.toNat).runs_blocks l
          have h2 := (newDk a.toNat b.toNat).runs_open l
          have h3 : (newDk a.toNat b.toNat).open_.length = 0 := rfl
          rw [hD] at h1 h2
          exact ⟨h1.1, h1.2, by omega⟩
        have D3 : Hid (Under w2.heap.size w3 d D) := by rw [← hD]; exact O2'.out.under.below b3
        have E3 : Hid (Own w2.heap.size w3 ed D) := by rw [← hD]; exact O3'.out
        clear O2' O3' O3 b3 hD y0 y1 L2 C2
        go_wp2_with fail
        refine (D3.out.copy).mono ?_
        rintro e w4 ⟨c, Mc, Sc, rfl, hc, hMc, b4⟩
        have D4 : Hid (Under w2.heap.size w4 d D) := D3.out.below (b4.mono S3)
        have S4 := b4.size
        have HC := Lib.hid hc
        have HMC := Lib.hid hMc
        have B4 := Lib.hid b4
        clear hc hMc b4
        go_wp2_with fail
        refine (D4.out.crash_nil).mono ?_
        rintro e w5 ⟨x, rfl, O5, b5⟩
        have T5 : Hid (Two w3.heap.size (fun _ => False) w5 c x D (D.crash [])) := Two.start HC.out HMC.out O5 b5 S4
        have B5 : Below w3.heap.size w3 w5 := B4.out.trans (b5.mono S4)
        have S5 := B5.size
        have D5 : Hid (Under w3.heap.size w3 d D) := by
          obtain ⟨M, S, h1, h2⟩ := D3.out
          exact ⟨M, S, h1, h1.lt⟩
        have E5 : Hid (Under w3.heap.size w3 ed D) := E3.out.under
        have hX0 : Hid ((D.crash []).open_.length = 0) := rfl
        generalize D.crash [] = X0 at *
        clear O5 b5 HC HMC B4 D4 D3 E3
        go_wp2_with fail
        refine (T5.out.opens).mono ?_
        rintro e w6 ⟨rfl, rfl⟩
        go_wp2_with fail
        refine ((D5.out.below B5).opens).mono ?_
        rintro e w6 ⟨rfl, rfl⟩
        obtain ⟨i0, hi5, hz0, hz1, hz2⟩ := info_parts info5
        obtain ⟨i2, hi32, hy0, hy1, hy2⟩ := info_parts info32
        go_wp2_with fail
        go_loopw [12] (fun iv wr => ∃ (k : Nat) (X : Dk), iv = .int .i64 k ∧ k ≤ m.length ∧ (∃ F, Two w3.heap.size F wr c x (D.runs (m.take k)) X) ∧ X.open_.length ≤ k ∧ Below w3.heap.size w3 wr) (fun iv _ => m.length - (intOf iv).toNat)
        case atStart => exact ⟨0, X0, rfl, Nat.zero_le _, ⟨_, by simpa [Dk.runs] using T5.out⟩, by rw [hX0.out]; exact Nat.le_refl _, B5⟩
        case round =>
          obtain ⟨wa, hwa⟩ : ∃ wa, wa = wr := ⟨_, rfl⟩
          subst hwa
          obtain ⟨k, X, rfl, hk, ⟨F, hT⟩, hX, hB⟩ := hrel
          have HT := Lib.hid hT
          have zr := hB.size
          clear hT
          by_cases hlt : k < m.length
          · have MR : OpsAt wa w.heap.size (.slice mp m.length mc) m := M1.out.below (C3.trans (hB.mono (by omega)))
            obtain ⟨lb, lo, cap, va, vc, e1, -, -, q0, q1, q2, hb6, hbB⟩ := MR.at hlt
            simp only [Value.slice.injEq, true_and] at e1
            obtain ⟨rfl, rfl⟩ := e1
            have HB6 := Lib.hid hb6
            have HBB := Lib.hid hbB
            have hlb : lb < w.heap.size := MR.lt lb rfl (by omega)
            have hx40 : m[k].b.length ≤ 40 := HM2.out _ (List.getElem_mem hlt)
            have hstep : Hid (D.runs (m.take (k + 1)) = (D.runs (m.take k)).op m[k]) := by
              have := runs_take_succ D m k hlt
              have e : m.getD k ⟨false, 0, []⟩ = m[k] := by simp [List.getD, List.getElem?_eq_getElem hlt]
              rw [e] at this
              exact this
            have hCo : (D.runs (m.take k)).open_.length < 1000000 := by
              have h1 := D.runs_open (m.take k)
              have h2 := hDb.out.2.2
              rw [List.length_take] at h1
              omega
            clear hb6 hbB MR
            generalize D.runs (m.take k) = C at *
            generalize m[k] = o at *
            obtain ⟨os, ob, xs⟩ := o
            simp only at *
            cases os
            · have T0 : Hid (D.runs (m.take (k + 1)) = C.put ob xs) := hstep.out
              go_wp2_with ((at_builtin; refine wpList_append_rd rfl _ _ 30 rfl wa.heap.size 5 i0 (.int .u8 0) 1 1 Try.underlying30 hi5 hz0 hz1 hz2 rfl (by decide) (.slice none 0 0) 0 [] rfl (World.ownsRow_nil _ _ _ _) _ xs.length (bts xs) rfl HB6.out bts_one (by unfold maxLen; omega) (by omega) (Nat.le_refl _) ?_))
              rintro v6 w6 hown6 hg6 -
              have HO6 : Hid (w6.ownsRow wa.heap.size 5 1 v6 xs.length (bts xs)) := hown6
              have b6 : Below wa.heap.size wa w6 := (Below.refl _ _).grown hg6 (Nat.le_refl _) (fun j hj => by simp [Value.ownBlock] at hj)
              obtain ⟨va6, vc6, rfl⟩ := own_slice HO6.out
              have z6 := b6.size
              have T6 : Hid (Two w3.heap.size (fun j => wa.heap.size ≤ j ∧ j < w6.heap.size) w6 c x C X) := HT.out.fresh b6
              have t1 : w6.cell? ⟨lb, lo + k * 3 + 1, none⟩ = some (.int .i64 ob) := (b6.cell (p := ⟨lb, lo + k * 3 + 1, none⟩) (by show lb < wa.heap.size; omega)).trans q1
              have t2 : w6.cell? ⟨lb, lo + k * 3 + 2, none⟩ = some (.slice va xs.length vc) := (b6.cell (p := ⟨lb, lo + k * 3 + 2, none⟩) (by show lb < wa.heap.size; omega)).trans q2
              have B6 : Below w3.heap.size w3 w6 := hB.trans (b6.mono zr)
              have HB6' := Lib.hid b6
              clear hown6 hg6 b6 q1 q2
              go_wp2_with fail
              refine (T6.out.write (by omega) ob _ xs (Rd.of_own HO6.out) (fun j hj _ => .inr (own_lt HO6.out j hj)) hCo).mono ?_
              rintro e w7 ⟨rfl, T7, K7⟩
              have T7' := Lib.hid T7
              have HO7 : Hid (w7.ownsRow wa.heap.size 5 1 (.slice va6 xs.length vc6) xs.length (bts xs)) := own_keep HO6.out K7 (fun j hj h => h.2 (own_lt HO6.out j hj))
              have k7 : Below w3.heap.size w6 w7 := K7.below (by omega) (fun j hj => hj.1)
              have B7 : Below w3.heap.size w3 w7 := B6.trans k7
              have t3 : w7.cell? ⟨lb, lo + k * 3 + 1, none⟩ = some (.int .i64 ob) := (k7.cell (p := ⟨lb, lo + k * 3 + 1, none⟩) (by show lb < w3.heap.size; omega)).trans t1
              have t4 : w7.cell? ⟨lb, lo + k * 3 + 2, none⟩ = some (.slice va xs.length vc) := (k7.cell (p := ⟨lb, lo + k * 3 + 2, none⟩) (by show lb < w3.heap.size; omega)).trans t2
              have HB7 : Hid (Rb w7 (.slice va xs.length vc) xs) := HB6.out.below (((HB6'.out.mono zr).trans k7).mono (by omega : w.heap.size ≤ w3.heap.size)) HBB.out
              have hXo : X.open_.length < 1000000 := by omega
              have z7 := k7.size
              clear T7 K7 k7 t1 t2
              go_wp2_with fail
              go_region_law (first
                | (go_simp; go_at_call 22; refine ((T7'.out.swap.keep (X := fun _ => False) ((Keeps.refl _ _).drew) (fun _ _ f => f.elim)).write (by show w3.heap.size ≤ w7.heap.size; omega) ob _ xs (HB7.out.below' ⟨rfl, rfl, rfl, Nat.le_refl _, fun _ _ => rfl⟩) (fun j hj hp => .inl (Nat.lt_of_lt_of_le (HBB.out j hj hp) (by omega))) hXo).mono ?_; rintro e w8 ⟨rfl, T8, K8⟩)
                | fail)
              all_goals
                have T8' : Hid (Two w3.heap.size (fun j => wa.heap.size ≤ j ∧ j < w6.heap.size) w8 c x (C.put ob xs) (X.put ob xs)) := T8.swap
                have K8' : Keeps (fun j => w3.heap.size ≤ j ∧ ¬ (wa.heap.size ≤ j ∧ j < w6.heap.size)) w7 w8 := ⟨K8.os, K8.tape, K8.output, K8.size, K8.block⟩
                have HO8 : Hid (w8.ownsRow wa.heap.size 5 1 (.slice va6 xs.length vc6) xs.length (bts xs)) := own_keep HO7.out K8' (fun j hj h => h.2 (own_lt HO6.out j hj))
                have B8 : Below w3.heap.size w3 w8 := B7.trans (K8'.below (by omega) (fun j hj => hj.1))
                have hXp := X.put_open ob xs
                have z8 := B8.size
                clear T8 K8 K8' T7' HO7 HB7 t3 t4 hCo
                generalize C.put ob xs = C' at *
                generalize X.put ob xs = X' at *
                go_wp2_with fail
                go_loopw [14] (fun kv wq => ∃ (q : Nat) (zs : List Int), kv = .int .i64 q ∧ q ≤ xs.length ∧ zs.length = xs.length ∧ wq.ownsRow wa.heap.size 5 1 (.slice va6 xs.length vc6) xs.length (bts zs) ∧ Keeps (fun j => wa.heap.size ≤ j ∧ j < w6.heap.size) w8 wq) (fun kv _ => xs.length - (intOf kv).toNat)
                case atStart => exact ⟨0, xs, rfl, Nat.zero_le _, rfl, HO8.out, Keeps.refl _ _⟩
                case round =>
                  obtain ⟨q, zs, rfl, hq, hzs, hrow, hK⟩ := hrel
                  have HROW := Lib.hid hrow
                  have HK := Lib.hid hK
                  clear hrow hK
                  by_cases hql : q < xs.length
                  · obtain ⟨g, rfl, -, -⟩ := own_some HROW.out (by omega)
                    have hcell : wr.cell? ⟨g, q, none⟩ = some (.int .u8 (zs.getD q 0)) := by rw [HROW.out.cellAt q (by omega), bts_get (by omega)]
                    have hfz : wr.frozen? ⟨g, q, none⟩ = false := HROW.out.frozenAt q
                    have HST := Lib.hid (fun y => own_set HROW.out q y)
                    have HG := Lib.hid (own_lt HO6.out g rfl)
                    generalize zs.getD q 0 = z at *
                    go_wp2_with fail
                    go_roundw
                    case rel => exact (HST.out _).elim fun ys h => ⟨q + 1, ys, rfl, by omega, h.1.trans hzs, h.2, HK.out.setCell (.inl HG.out) _⟩
                    case measure => simp [intOf]; omega
                  · go_wp2_with fail
                    go_roundw
                    case rel => exact ⟨k + 1, X', rfl, by omega, ⟨_, by rw [T0.out]; exact T8'.out.keep HK.out (fun j _ h => h)⟩, by omega, B8.trans (HK.out.below z8 (fun j hj => by omega))⟩
                    case measure => simp [intOf]; omega
            · have T0 : Hid (D.runs (m.take (k + 1)) = C.sync) := hstep.out
              go_wp2_with fail
              refine (HT.out.sync zr).mono ?_
              rintro e w6 ⟨rfl, T6, K6⟩
              have T6' := Lib.hid T6
              have B6 : Below w3.heap.size wa w6 := K6.below zr (fun j hj => hj.1)
              have S6 := B6.size
              clear T6 K6
              go_wp2_with fail
              refine (T6'.out.swap.sync (by omega)).mono ?_
              rintro e w7 ⟨rfl, T7, K7⟩
              have T7' := Lib.hid T7.swap
              have B7 : Below w3.heap.size w6 w7 := K7.below (by omega) (fun j hj => hj.1)
              clear T7 K7
              go_wp2_with fail
              go_roundw
              case rel => exact ⟨k + 1, X.sync, rfl, by omega, ⟨F, by rw [T0.out]; exact T7'.out⟩, Nat.zero_le _, (hB.trans B6).trans B7⟩
              case measure => simp [intOf]; omega
          · obtain rfl : k = m.length := by omega
            have hTm : Hid (Two w3.heap.size F wa c x (D.runs m) X) := by have := HT.out; rw [List.take_length] at this; exact this
            have CA : Below w.heap.size w1 wa := C3.trans (hB.mono (by omega))
            obtain ⟨vs, hvs, hrl⟩ := (L1.out.below CA).in
            obtain ⟨us, hus, hrm⟩ := (M1.out.below CA).in
            have HVS := Lib.hid hvs
            have HUS := Lib.hid hus
            have HRL := Lib.hid hrl
            have HRM := Lib.hid hrm
            clear hvs hus hrl hrm HT
            go_wp2_with ((at_builtin; refine wpList_append_rd rfl _ _ 23 rfl wa.heap.size 32 i2 (.agg #[.bool false, .int .i64 0, .slice none 0 0]) 3 40 Try.underlying23 hi32 hy0 hy1 hy2 rfl (by decide) (.slice none 0 0) 0 [] rfl (World.ownsRow_nil _ _ _ _) _ l.length (ocells (l.zip vs)) rfl HRL.out HVS.out.one (by unfold maxLen; omega) (by omega) (Nat.le_refl _) ?_))
            rintro v6 w6 hown6 hg6 -
            have HO6 : Hid (w6.ownsRow wa.heap.size 32 3 v6 l.length (ocells (l.zip vs))) := hown6
            have b6 : Below wa.heap.size wa w6 := (Below.refl _ _).grown hg6 (Nat.le_refl _) (fun j hj => by simp [Value.ownBlock] at hj)
            obtain ⟨va6, vc6, rfl⟩ := own_slice HO6.out
            have z6 := b6.size
            have HRM6 : Hid (Rd w6 3 (.slice mp m.length mc) m.length (ocells (m.zip us))) := HRM.out.below b6 (HRM.out.lt (by decide))
            have HB6 := Lib.hid b6
            clear hown6 hg6 b6
            go_wp2_with ((at_builtin; refine wpList_append_rd rfl _ _ 23 rfl wa.heap.size 32 i2 (.agg #[.bool false, .int .i64 0, .slice none 0 0]) 3 40 Try.underlying23 hi32 hy0 hy1 hy2 rfl (by decide) (.slice va6 l.length vc6) l.length (ocells (l.zip vs)) rfl HO6.out _ m.length (ocells (m.zip us)) rfl HRM6.out HUS.out.one (by unfold maxLen; omega) (by omega) z6 ?_))
            rintro v7 w7 hown7 hg7 -
            have b7 : Below wa.heap.size wa w7 := HB6.out.grown hg7 z6 (fun j hj => (own_lt HO6.out j hj).1)
            obtain ⟨va7, vc7, rfl⟩ := own_slice hown7
            have z7 := b7.size
            have HA7 : Hid (OpsAt w7 w7.heap.size (.slice va7 (l.length + m.length) vc7) (l ++ m)) := by
              refine OpsAt.of_own ((HVS.out.below (b7.mono (by omega))).append (HUS.out.below (b7.mono (by omega)))) (base := wa.heap.size) ?_ (by omega) (Nat.le_refl _)
              rw [List.length_append, List.zip_append HVS.out.1.symm, ocells_append]
              exact hown7
            have T7 : Hid (Two w3.heap.size F w7 c x (D.runs m) X) := hTm.out.below b7
            have B7 : Below w3.heap.size w3 w7 := hB.trans (b7.mono zr)
            obtain ⟨x0, x1⟩ := X1.out.below (B := w.heap.size + 1) (C3'.trans (B7.mono (by omega))) (by omega)
            clear hown7 hg7 b7 HB6 HRM6 HO6 HRL HRM hTm
            go_wp2_with fail
            refine (made_any w7 a b s1 (by omega) s3 (by omega) w7.heap.size (Nat.le_refl _) _ (l ++ m) HA7.out (by rw [List.length_append]; omega)).mono ?_
            rintro e w8 ⟨wd, rfl, O8, b8⟩
            have O8' : Hid (Own w7.heap.size w8 wd (D.runs m)) := by
              have := O8
              rw [Dk.runs_append, HD.out] at this
              exact this
            have T8 : Hid (Two w3.heap.size F w8 c x (D.runs m) X) := T7.out.below b8
            have B8 : Below w3.heap.size w3 w8 := B7.trans (b8.mono (by omega))
            have D8 : Hid (Under w3.heap.size w8 d D) := D5.out.below B8
            have E8 : Hid (Under w3.heap.size w8 ed D) := E5.out.below B8
            have hEb : Hid ((D.runs m).blocks = a.toNat) := by unfold Hid; rw [(D.runs_blocks m).1]; exact hDb.out.1
            have z8 := B8.size
            generalize D.runs m = E at *
            clear O8 b8 T7 HA7 x0 x1
            go_wp2_with fail
            refine (D8.out.opens).mono ?_
            rintro e w9 ⟨rfl, rfl⟩
            go_wp2_with fail
            refine (E8.out.opens).mono ?_
            rintro e w9 ⟨rfl, rfl⟩
            go_wp2_with fail
            refine (T8.out.opens).mono ?_
            rintro e w9 ⟨rfl, rfl⟩
            go_wp2_with fail
            refine (O8'.out.under.opens).mono ?_
            rintro e w9 ⟨rfl, rfl⟩
            go_wp2_with fail
            have B0 : Below w.heap.size w w8 := B1.trans ((C3.trans (B8.mono (by omega))))
            have X8 : Hid (Box w8 w.heap.size a b) := X1.out.below (B := w.heap.size + 1) (C3'.trans (B8.mono (by omega))) (by omega)
            have z9 : w3.heap.size ≤ w8.heap.size := z8
            go_loopw [17] (fun jv wq => ∃ j : Nat, jv = .int .i64 j ∧ j ≤ a.toNat ∧ Below w8.heap.size w8 wq) (fun jv _ => a.toNat - (intOf jv).toNat)
            case atStart => exact ⟨0, rfl, Nat.zero_le _, Below.refl _ _⟩
            case round =>
              obtain ⟨wb, hwb⟩ : ∃ wb, wb = wr := ⟨_, rfl⟩
              subst hwb
              obtain ⟨j, rfl, hj, hQ⟩ := hrel
              obtain ⟨v0, v1⟩ := X8.out.below hQ (by omega)
              have zq := hQ.size
              by_cases hjl : j < a.toNat
              · have hjl' : (j : Int) < a := by omega
                go_wp2_with fail
                refine ((D8.out.below (hQ.mono z8)).read j (by omega) (by rw [hDb.out.1]; omega)).mono ?_
                rintro e w11 ⟨vv1, rfl, h1, b11⟩
                obtain ⟨va1, vc1, rfl⟩ := own_slice h1
                have R1 := Lib.hid h1
                have z11 := b11.size
                have Q11 := hQ.trans (b11.mono zq)
                clear h1 b11
                go_wp2_with fail
                refine ((E8.out.below (Q11.mono z8)).read j (by omega) (by rw [hDb.out.1]; omega)).mono ?_
                rintro e w12 ⟨vv2, rfl, h2, b12⟩
                obtain ⟨va2, vc2, rfl⟩ := own_slice h2
                have R2 := Lib.hid h2
                have z12 := b12.size
                have R1b := Lib.hid (own_keep R1.out (X := fun _ => False) (Keeps.of_below b12) (fun _ _ f => f))
                have Q12 := Q11.trans (b12.mono Q11.size)
                clear h2 b12
                go_wp2_with fail
                refine ((T8.out.below (Q12.mono (Nat.le_refl _))).read j (by omega) (by rw [hEb.out]; omega)).mono ?_
                rintro e w13 ⟨vv3, rfl, h3, b13⟩
                obtain ⟨va3, vc3, rfl⟩ := own_slice h3
                have R3 := Lib.hid h3
                have R1c := Lib.hid (own_keep R1b.out (X := fun _ => False) (Keeps.of_below b13) (fun _ _ f => f))
                have R2c := Lib.hid (own_keep R2.out (X := fun _ => False) (Keeps.of_below b13) (fun _ _ f => f))
                have Q13 := Q12.trans (b13.mono Q12.size)
                clear h3 b13 R1b R2
                go_wp2_with fail
                refine ((O8'.out.below Q13).read j (by omega) (by rw [hEb.out]; omega)).mono ?_
                rintro e w14 ⟨vv4, rfl, h4, b14⟩
                obtain ⟨va4, vc4, rfl⟩ := own_slice h4
                have R4 := Lib.hid h4
                have R1d := Lib.hid (own_keep R1c.out (X := fun _ => False) (Keeps.of_below b14) (fun _ _ f => f))
                have R2d := Lib.hid (own_keep R2c.out (X := fun _ => False) (Keeps.of_below b14) (fun _ _ f => f))
                have R3d := Lib.hid (own_keep R3.out (X := fun _ => False) (Keeps.of_below b14) (fun _ _ f => f))
                have Q14 := Q13.trans (b14.mono Q13.size)
                clear h4 b14 R1c R2c R3
                have hlD : (D.block j).length = b.toNat := by rw [D8.out.len j (by rw [hDb.out.1]; omega), hDb.out.2.1]
                have HLD := Lib.hid hlD
                have hlE : ((E.block j).length : Int) ≤ 4096 := by
                  have h := (O8'.out.under).len j (by rw [hEb.out]; omega)
                  obtain ⟨M, S, ⟨_, _, _, _, _, _, li⟩, _⟩ := O8'.out
                  have := li.pos.2.2.2
                  omega
                clear hlD
                simp only [Int.toNat_natCast] at *
                generalize hXD : D.block j = XD at *
                generalize E.block j = XE at *
                have HXD := Lib.hid hXD
                clear hXD
                go_wp2_with fail
                refine (Bytes_any _ _ _ XD XD (Rd.of_own R1d.out) (Rd.of_own R2d.out)).mono ?_
                rintro e w15 ⟨rfl, n15, hw15⟩
                rw [decide_eq_true (rfl : XD = XD)]
                have b15 : Below w14.heap.size w14 w15 := by rw [hw15]; exact Below.drewN (Below.refl _ _) n15
                have R1e := Lib.hid (own_keep R1d.out (X := fun _ => False) (Keeps.of_below b15) (fun _ _ f => f))
                have R2e := Lib.hid (own_keep R2d.out (X := fun _ => False) (Keeps.of_below b15) (fun _ _ f => f))
                have R3e := Lib.hid (own_keep R3d.out (X := fun _ => False) (Keeps.of_below b15) (fun _ _ f => f))
                have R4e := Lib.hid (own_keep R4.out (X := fun _ => False) (Keeps.of_below b15) (fun _ _ f => f))
                have Q15 := Q14.trans (b15.mono Q14.size)
                clear hw15 b15 R1d R2d R3d R4
                go_wp2_with fail
                refine (Bytes_any _ _ _ XE XE (Rd.of_own R3e.out) (Rd.of_own R4e.out)).mono ?_
                rintro e w16 ⟨rfl, n16, hw16⟩
                rw [decide_eq_true (rfl : XE = XE)]
                have b16 : Below w15.heap.size w15 w16 := by rw [hw16]; exact Below.drewN (Below.refl _ _) n16
                have R1f := Lib.hid (own_keep R1e.out (X := fun _ => False) (Keeps.of_below b16) (fun _ _ f => f))
                have R2f := Lib.hid (own_keep R2e.out (X := fun _ => False) (Keeps.of_below b16) (fun _ _ f => f))
                have Q16 := Q15.trans (b16.mono Q15.size)
                clear hw16 b16 R1e R2e R3e R4e
                have hlen : ((XD.length : Int) != b) = false := by rw [HLD.out]; simp; omega
                obtain ⟨u0, u1⟩ := X8.out.below Q16 (by omega)
                have z16 := Q16.size
                have hXD : XD.length ≤ 40 := by rw [HLD.out]; omega
                go_wp2_with fail
                go_loopw [26] (fun kv wk => ∃ (q : Nat) (zs : List Int), kv = .int .i64 q ∧ q ≤ XD.length ∧ zs.length = XD.length ∧ wk.ownsRow wb.heap.size 5 1 (.slice va1 XD.length vc1) XD.length (bts zs) ∧ Keeps (fun i => wb.heap.size ≤ i ∧ i < w11.heap.size) w16 wk) (fun kv _ => XD.length - (intOf kv).toNat)
                case atStart => exact ⟨0, XD, rfl, Nat.zero_le _, rfl, R1f.out, Keeps.refl _ _⟩
                case round =>
                  obtain ⟨q, zs, rfl, hq, hzs, hrow, hK⟩ := hrel
                  have HROW := Lib.hid hrow
                  have HK := Lib.hid hK
                  clear hrow hK
                  by_cases hql : q < XD.length
                  · obtain ⟨g, rfl, -, -⟩ := own_some HROW.out (by omega)
                    have hcell : wr.cell? ⟨g, q, none⟩ = some (.int .u8 (zs.getD q 0)) := by rw [HROW.out.cellAt q (by omega), bts_get (by omega)]
                    have hfz : wr.frozen? ⟨g, q, none⟩ = false := HROW.out.frozenAt q
                    have HST := Lib.hid (fun y => own_set HROW.out q y)
                    have HG := Lib.hid (own_lt R1.out g rfl)
                    generalize zs.getD q 0 = z at *
                    go_wp2_with fail
                    go_roundw
                    case rel => exact (HST.out _).elim fun ys h => ⟨q + 1, ys, rfl, by omega, h.1.trans hzs, h.2, HK.out.setCell (.inl HG.out) _⟩
                    case measure => simp [intOf]; omega
                  · have QR : Below w8.heap.size w8 wr := Q16.trans (HK.out.below z16 (fun i hi => by omega))
                    have R2g : Hid (wr.ownsRow w11.heap.size 5 1 (.slice va2 XD.length vc2) XD.length (bts XD)) := own_keep R2f.out HK.out (fun i hi h => by have := (own_lt R2f.out i hi).1; omega)
                    have DR : Hid (Under w3.heap.size wr d D) := D8.out.below (QR.mono z9)
                    have zr2 := QR.size
                    obtain ⟨c0, c1⟩ := X8.out.below QR (by omega)
                    clear u0 u1 v0 v1
                    go_wp2_with fail
                    refine (DR.out.read j (by omega) (by rw [hDb.out.1]; omega)).mono ?_
                    rintro e w17 ⟨vv5, rfl, h5, b17⟩
                    obtain ⟨va5, vc5, rfl⟩ := own_slice h5
                    simp only [Int.toNat_natCast] at h5 ⊢
                    rw [HXD.out] at h5 ⊢
                    have R5 := Lib.hid h5
                    have R2h : Hid (w17.ownsRow w11.heap.size 5 1 (.slice va2 XD.length vc2) XD.length (bts XD)) := own_keep R2g.out (X := fun _ => False) (Keeps.of_below b17) (fun _ _ f => f)
                    have Q17 := QR.trans (b17.mono zr2)
                    clear h5 b17
                    go_wp2_with fail
                    refine (Bytes_any _ _ _ XD XD (Rd.of_own R5.out) (Rd.of_own R2h.out)).mono ?_
                    rintro e w18 ⟨rfl, n18, hw18⟩
                    rw [decide_eq_true (rfl : XD = XD)]
                    have b18 : Below w17.heap.size w17 w18 := by rw [hw18]; exact Below.drewN (Below.refl _ _) n18
                    have Q18 := Q17.trans (b18.mono Q17.size)
                    clear hw18 b18
                    go_wp2_with fail
                    go_roundw
                    case rel => exact ⟨j + 1, rfl, by omega, Q18⟩
                    case measure => simp [intOf]; omega
              · have hjl' : ¬ (j : Int) < a := by omega
                go_wp2_with fail
                refine (awake_any _).mono ?_
                rintro e w9 ⟨rfl, b9⟩
                go_wp2_with fail
                go_ret
                exact ⟨rfl, B0.trans ((hQ.trans (b9.mono zq)).mono (by omega))⟩
      · have hv' : fewB m = false := by simpa using hv
        rw [hv']
        clear hv hv'
        go_wp2_with fail
        refine (awake_any _).mono ?_
        rintro e w2 ⟨rfl, b2⟩
        go_wp2_with fail
        go_ret
        exact ⟨rfl, B1.trans (b2.mono (by omega))⟩
    · have hw' : fewB l = false := by simpa using hw
      rw [hw']
      clear hw hw'
      go_wp2_with fail
      refine (awake_any _).mono ?_
      rintro e w2 ⟨rfl, b2⟩
      go_wp2_with fail
      go_ret
      exact ⟨rfl, B1.trans (b2.mono (by omega))⟩
  · have hs' : smallB a b = false := by simpa using hs
    rw [hs']
    clear hs hs'
    go_wp2_with fail
    refine (awake_any _).mono ?_
    rintro e w2 ⟨rfl, b2⟩
    go_wp2_with fail
    go_ret
    exact ⟨rfl, B1.trans (b2.mono (by omega))⟩
end Go.Proofs.Ytbbjeoepoocofaa
