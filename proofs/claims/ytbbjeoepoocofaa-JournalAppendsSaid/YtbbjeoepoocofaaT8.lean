import Derived.Test.YtbbjeoepoocofaaU2
import Derived.Test.YtbbjeoepoocofaaT1
namespace Go.Proofs.Ytbbjeoepoocofaa
open Go.RowKit

theorem over_image {N : Nat} {rs : List (List Int)} : over (List.replicate N 0) 0 (frms rs) = image N rs := by
  unfold over image
  rw [List.take_zero, List.nil_append, Nat.zero_add, List.drop_replicate]
theorem image_length {N : Nat} {rs : List (List Int)} (h : (frms rs).length ≤ N) : (image N rs).length = N := by
  unfold image
  rw [List.length_append, List.length_replicate]
  omega

set_option maxRecDepth 100000 in
set_option maxHeartbeats 8000000 in
theorem Appends_law (w : World) (a b : Int) (lv : Value) (l : List Jop) (hl : JAt w w.heap.size lv l) :
    Calls Try.prog 13 #[.agg #[.int .i64 a, .int .i64 b], lv] w fun e w' => e = .returned (.bool true) ∧ Below w.heap.size w w' := by
  obtain ⟨lp, lc, rfl, hlm⟩ := hl.form
  unfold maxLen at hlm
  have HL := Lib.hid hl
  clear hl
  obtain ⟨i0, hi5, hz0, hz1, hz2⟩ := info_parts info5
  obtain ⟨i3, hi30, hy0, hy1, hy2⟩ := info_parts info30
  go_enter Try.func13, Try.ntmps13
  go_wp2_with fail
  refine (small18_any _ a b).mono ?_
  rintro e w1 ⟨rfl, b1⟩
  have A0 : Below w.heap.size w (w.alloc (.cells #[.int .i64 a, .int .i64 b] 22)) := (Below.refl _ _).alloc (Nat.le_refl _) _
  have B1 : Hid (Below w.heap.size w w1) := A0.trans (b1.mono (by simp))
  have S1 : w.heap.size + 1 ≤ w1.heap.size := by have := b1.size; simpa using this
  have X1 : Box w1 w.heap.size a b := (Box.new w a b 22).below b1 (by simp)
  have L1 : Hid (JAt w1 w.heap.size (.slice lp l.length lc) l) := HL.out.below B1.out
  clear A0 b1 HL
  by_cases hs : small18 a b = true
  · rw [hs]
    obtain ⟨m, n, rfl, rfl, m1, m2, n1, n2⟩ := small18_num hs
    clear hs
    have HX1 : Hid (Box w1 w.heap.size m n) := X1
    obtain ⟨x0, x1⟩ := X1
    go_wp2_with fail
    refine (few18_any w1 _ _ l L1.out).mono ?_
    rintro e w2 ⟨rfl, rfl⟩
    by_cases hw : few18 l = true
    · rw [hw]
      obtain ⟨l1, l2⟩ := of_decide_eq_true hw
      have HL2 := Lib.hid l2
      clear hw l2
      obtain ⟨MN, hMN⟩ : ∃ MN, m * n = MN := ⟨_, rfl⟩
      have HMN := Lib.hid hMN
      have hmn : MN ≤ 800 := by have : m * n ≤ 20 * 40 := Nat.mul_le_mul m2 n2; omega
      have hmw : IntKind.i64.wrap ((m : Int) * (n : Int)) = (MN : Int) := by rw [IntKind.wrap_i64, ← hMN]; push_cast; omega
      clear hMN
      go_wp2_with fail
      refine (New_yes w1 m n m1 (by omega) n1 (by omega)).mono ?_
      rintro e w2 ⟨d, M, S, rfl, hd, hS, b2⟩
      have HD : Hid (DiskAt w2 d (newDk m n) M S) := hd
      have HS : Hid (∀ k, S k → w1.heap.size ≤ k) := hS
      have B2 : Hid (Below w1.heap.size w1 w2) := b2
      have z2 := b2.size
      clear hd hS b2 x0 x1
      go_wp2_with fail
      refine (Open_new w2 d m n ⟨M, S⟩ HD.out (by omega) (by omega)).mono ?_
      rintro e w4 ⟨j, a4, rfl, hj, u4⟩
      have s2 : Sits w2 w1.heap.size ⟨M, S⟩ := ⟨HD.out.sub, HD.out.lt, fun k h => HS.out k (HD.out.sub k h)⟩
      have E4 : Hid (AI w1 w1.heap.size j d m n [] 0 [] [] w4 a4 ⟨fun _ => False, fun _ => False⟩ (.slice none 0 0) (.slice none 0 0)) :=
        AI.start hj (u4.fit s2 z2 hj.sub hj.lt) (B2.out.trans (u4.below s2 z2)) (Nat.le_refl _)
      clear hj u4 s2 HD HS B2
      go_wp2_with fail
      refine (E4.out.len (Below.refl _ _)).mono ?_
      rintro e w5 ⟨rfl, rfl⟩
      rw [show (([] : List (List Int)).length : Int) = 0 from rfl]
      go_wp2_with fail
      go_loopw [9, 10, 11] (fun cv ov iv wr => ∃ (k nf : Nat) (rs : List (List Int)) (a o : Foot), iv = .int .i64 k ∧ k ≤ l.length ∧ rs.length ≤ k ∧ Hid (AI w1 w1.heap.size j d m n rs nf rs (frms rs) wr a o ov cv)) (fun _ _ iv _ => l.length - (intOf iv).toNat)
      case atStart => exact ⟨0, 0, [], a4, _, rfl, Nat.zero_le _, Nat.le_refl _, E4⟩
      case round =>
        obtain ⟨k, nf, rs, a6, o6, rfl, hk, hrl, hE⟩ := hrel
        have bW : Hid (Below w1.heap.size w1 wr) := hE.out.bel
        obtain ⟨us, hus1, hus2, hus3⟩ := hE.out.tab.row
        obtain ⟨oa, oc, rfl⟩ := own_slice hus2
        obtain ⟨ca, cc, rfl⟩ := own_slice hE.out.all
        have hfl := hE.out.jj.sizes
        rw [HMN.out] at hfl
        by_cases hlt : k < l.length
        · obtain ⟨b1, off, cap, va, vc, e1, -, -, q0, q2, hb, hbB⟩ := (L1.out.below (bW.out.mono (by omega))).at hlt
          simp only [Value.slice.injEq, true_and] at e1
          obtain ⟨rfl, rfl⟩ := e1
          have HB := Lib.hid hb
          have HBB := Lib.hid hbB
          have HU1 := Lib.hid hus1
          have HU2 := Lib.hid hus2
          have HU3 := Lib.hid hus3
          have hr1 : l[k].r.length ≤ 60 := HL2.out _ (List.getElem_mem hlt)
          have HIB : Hid (isB l[k].r) := L1.out.isb _ (List.getElem_mem hlt)
          have hsz := bW.out.size
          have hb1 : b1 < w.heap.size := L1.out.lt b1 rfl (by omega)
          clear hb hbB hus1 hus2 hus3
          cases hsy : l[k].sync
          · rw [hsy] at q0
            clear hsy
            obtain ⟨x0, x1⟩ := HX1.out.below bW.out (by omega)
            generalize l[k].r = r at *
            obtain ⟨rv, hrv⟩ : ∃ rv, roomV MN (frms rs).length = rv := ⟨_, rfl⟩
            have HRV := Lib.hid hrv
            go_wp2_with fail
            refine (Room18_any wr MN (frms rs).length (by omega) (by omega)).mono ?_
            rw [hrv]
            clear hrv
            rintro e w5 ⟨rfl, rfl⟩
            go_wp2_with fail
            refine (Append_JJ wr j d m n rs nf a6 hE.out.jj _ r HB.out HIB.out (fun i h1 h2 h3 => by have := HBB.out i h1 h2; have := hE.out.s1.base i h3; omega) (by omega)).mono ?_
            rw [HMN.out]
            cases hft : fitB MN rs r.length
            · rw [if_neg (by decide), if_neg (by decide)]
              have hgt : ¬ ((r.length : Int) ≤ rv) := by have := of_decide_eq_false hft; rw [HRV.out] at this; exact this
              rintro e w6 ⟨rfl, a8, h6, u6⟩
              have E6 : Hid (AI w1 w1.heap.size j d m n rs nf rs (frms rs) w6 a8 o6 (.slice oa rs.length oc) (.slice ca (frms rs).length cc)) := hE.out.upd h6 u6
              have b6 : Below w1.heap.size wr w6 := u6.below hE.out.s1 hE.out.sz
              obtain ⟨v0, v1⟩ := (show Box wr w.heap.size m n from ⟨x0, x1⟩).below b6 (by omega)
              have p2 : w6.cell? ⟨b1, off + k * 2 + 1, none⟩ = some (.slice va r.length vc) := (b6.cell (p := ⟨b1, off + k * 2 + 1, none⟩) (by show b1 < w1.heap.size; omega)).trans q2
              have z6 := E6.out.sz
              clear hft h6 u6 b6 x0 x1 hE
              have k44 : Hid (∀ w', (w'.cell? ⟨w.heap.size, 0, none⟩ = some (.int .i64 m) ∧ w'.cell? ⟨w.heap.size, 1, none⟩ = some (.int .i64 n) ∧ Below w6.heap.size w6 w') → Calls Try.prog 44 #[.pointer (some ⟨j, 0, none⟩)] w' fun e w'' => e = .returned (.int .i64 rv) ∧ Below w'.heap.size w' w'') := fun w' h => by
                have := E6.out.room h.2.2
                rw [HMN.out] at this
                rw [HRV.out] at this
                exact this
              have k45 : Hid (∀ w', Calls Try.prog 45 #[.int .i64 ((MN : Nat) : Int), .int .i64 (((frms rs).length : Nat) : Int)] w' fun e w'' => e = .returned (.int .i64 rv) ∧ w' = w'') := fun w' => by
                have := Room18_any w' MN ((frms rs).length) (by omega) (by omega)
                rw [HRV.out] at this
                exact this
              have k43 : Hid (∀ w', (w'.cell? ⟨w.heap.size, 0, none⟩ = some (.int .i64 m) ∧ w'.cell? ⟨w.heap.size, 1, none⟩ = some (.int .i64 n) ∧ Below w6.heap.size w6 w') → Calls Try.prog 43 #[.pointer (some ⟨j, 0, none⟩)] w' fun e w'' => e = .returned (.int .i64 ((rs.length : Nat) : Int)) ∧ w' = w'') := fun w' h => by
                have := E6.out.len h.2.2
                exact this
              have k29 : Hid (∀ w', (w'.cell? ⟨w.heap.size, 0, none⟩ = some (.int .i64 m) ∧ w'.cell? ⟨w.heap.size, 1, none⟩ = some (.int .i64 n) ∧ Below w6.heap.size w6 w') → Calls Try.prog 29 #[.pointer (some ⟨j, 0, none⟩)] w' fun e w'' => (∃ v, e = .returned v ∧ Bb w'' v (rs)) ∧ Below w'.heap.size w' w'') := fun w' h => E6.out.recs (by omega) h.2.2
              have k30 : Hid (∀ w' v, (w'.cell? ⟨w.heap.size, 0, none⟩ = some (.int .i64 m) ∧ w'.cell? ⟨w.heap.size, 1, none⟩ = some (.int .i64 n) ∧ Below w6.heap.size w6 w') → Bb w' v (rs) → Calls Try.prog 30 #[v, (.slice oa rs.length oc)] w' fun e w'' => e = .returned (.bool true) ∧ Below w'.heap.size w' w'') := fun w' v h hv => E6.out.same h.2.2 v hv
              have hkeep : Hid (∀ w' wx, (w'.cell? ⟨w.heap.size, 0, none⟩ = some (.int .i64 m) ∧ w'.cell? ⟨w.heap.size, 1, none⟩ = some (.int .i64 n) ∧ Below w6.heap.size w6 w') → Below w'.heap.size w' wx → wx.cell? ⟨w.heap.size, 0, none⟩ = some (.int .i64 m) ∧ wx.cell? ⟨w.heap.size, 1, none⟩ = some (.int .i64 n) ∧ Below w6.heap.size w6 wx) := fun w' wx h0 h2 => by
                have h1 := h0.2.2
                have h := h1.trans (h2.mono h1.size)
                exact ⟨(h.cell (p := ⟨w.heap.size, 0, none⟩) (by show w.heap.size < w6.heap.size; omega)).trans v0, (h.cell (p := ⟨w.heap.size, 1, none⟩) (by show w.heap.size < w6.heap.size; omega)).trans v1, h⟩
              clear HU1 HU2 HU3 q0 q2 hsz
              go_wp2_with fail
              go_region_held3 (fun w' => w'.cell? ⟨w.heap.size, 0, none⟩ = some (.int .i64 m) ∧ w'.cell? ⟨w.heap.size, 1, none⟩ = some (.int .i64 n) ∧ Below w6.heap.size w6 w')
                (first
                  | assumption
                  | exact ⟨v0, v1, Below.refl _ _⟩
                  | exact ⟨v0, v1, (Below.refl _ _).drew⟩
                  | exact hkeep.out _ _ (by assumption) (by assumption)
                  | fail)
                (first
                  | (go_at_call 44; with_reducible refine (k44.out _ (by assumption)).mono ?_; rintro e x1 ⟨rfl, hx1⟩)
                  | (go_at_call 45; with_reducible refine (k45.out _).mono ?_; rintro e x2 ⟨rfl, rfl⟩)
                  | (go_at_call 43; with_reducible refine (k43.out _ (by assumption)).mono ?_; rintro e x3 ⟨rfl, rfl⟩)
                  | (go_at_call 29; with_reducible refine (k29.out _ (by assumption)).mono ?_; rintro e x4 ⟨⟨xv, rfl, hxv⟩, hx4⟩)
                  | (go_at_call 30; with_reducible refine (k30.out _ _ (by assumption) hxv).mono ?_; rintro e x5 ⟨rfl, hx5⟩)
                  | fail)
              have BX : Hid (Below w6.heap.size w6 x5) := (by assumption : x5.cell? ⟨w.heap.size, 0, none⟩ = some (.int .i64 m) ∧ x5.cell? ⟨w.heap.size, 1, none⟩ = some (.int .i64 n) ∧ Below w6.heap.size w6 x5).2.2
              have EX := Lib.hid (E6.out.below BX.out)
              clear hx1 hx4 hx5 hxv
              go_wp2_with fail
              go_roundw
              case rel => exact ⟨k + 1, nf, rs, _, _, by simp, by omega, by omega, EX.out⟩
              case measure => simp [intOf]; omega
            · rw [if_pos rfl, if_pos rfl]
              have hle : (r.length : Int) ≤ rv := by have := of_decide_eq_true hft; rw [HRV.out] at this; exact this
              rintro e w6 ⟨rfl, a8, h6, u6⟩
              have E6 : Hid (AI w1 w1.heap.size j d m n (rs ++ [r]) nf rs (frms rs) w6 a8 o6 (.slice oa rs.length oc) (.slice ca (frms rs).length cc)) := hE.out.upd h6 u6
              have b6 : Below w1.heap.size wr w6 := u6.below hE.out.s1 hE.out.sz
              have BX6 : Hid (Box w6 w.heap.size m n) := (show Box wr w.heap.size m n from ⟨x0, x1⟩).below b6 (by omega)
              have p2 : w6.cell? ⟨b1, off + k * 2 + 1, none⟩ = some (.slice va r.length vc) := (b6.cell (p := ⟨b1, off + k * 2 + 1, none⟩) (by show b1 < w1.heap.size; omega)).trans q2
              have HB6 : Hid (Rb w6 (.slice va r.length vc) r) := HB.out.below b6 (fun i h1 h2 => by have := HBB.out i h1 h2; omega)
              have z6 := E6.out.sz
              clear hft h6 u6 b6 x0 x1 hE
              go_wp2_with fail
              refine (Frame_any w6 _ r HB6.out HIB.out (by omega)).mono ?_
              rintro e w7 ⟨fv, rfl, hf, b7⟩
              obtain ⟨F, hF⟩ : ∃ F, (frm r).length = F := ⟨_, rfl⟩
              have HFL := Lib.hid hF
              have hF1 : 4 ≤ F ∧ F ≤ 124 := by have := frm_length r; omega
              rw [hF] at hf
              obtain ⟨fg, fc, rfl, -, -⟩ := hf.form (by omega)
              clear hF
              have E7 := Lib.hid (E6.out.below b7)
              have BX7 : Hid (Box w7 w.heap.size m n) := BX6.out.below b7 (by omega)
              have p7 : w7.cell? ⟨b1, off + k * 2 + 1, none⟩ = some (.slice va r.length vc) := (b7.cell (p := ⟨b1, off + k * 2 + 1, none⟩) (by show b1 < w6.heap.size; omega)).trans p2
              have HB7 : Hid (Rb w7 (.slice va r.length vc) r) := HB6.out.below' b7
              have HF7 : Hid (Rd w7 1 (.slice (some ⟨fg, 0, none⟩) F fc) F (bts (frm r))) := Rd.of_own hf
              have z7 := E7.out.sz
              obtain ⟨N, hN⟩ : ∃ N, (frms rs).length + F = N := ⟨_, rfl⟩
              have HNS : Hid (N = (frms (rs ++ [r])).length) := by unfold Hid; rw [frms_snoc, List.length_append, HFL.out, hN]
              have HN4 : N ≤ 1000 := by omega
              obtain ⟨rz, hrz⟩ : ∃ rz, roomV MN (frms (rs ++ [r])).length = rz := ⟨_, rfl⟩
              have HRW := Lib.hid hrz
              have HRW3 : Hid (roomV MN N = rz) := by unfold Hid; rw [HNS.out, hrz]
              have HKS : Hid ((rs ++ [r]).length = rs.length + 1) := by simp [Hid]
              have HN := Lib.hid hN
              have HHBB : Hid (∀ k, (Value.slice va r.length vc).ownBlock = some k → 0 < r.length → k < w1.heap.size) := fun i h1 h2 => by have := HBB.out i h1 h2; omega
              clear hf b7 p2 hrz hN E6 BX6 HB6
              go_wp2_with (first
                | (at_builtin; refine wpList_append_lies _ rfl _ _ 30 rfl w1.heap.size 5 i0 (.int .u8 0) 1 1 Try.underlying30 hi5 hz0 hz1 hz2 rfl (by decide) (.slice ca (frms rs).length cc) (frms rs).length (bts (frms rs)) rfl E7.out.all ⟨fg, 0, none⟩ F fc (bts (frm r)) rfl (by rw [bts_length, Nat.mul_one, HFL.out]) (HF7.out.adds) bts_one (by omega) (by unfold maxLen; omega) (by omega) z7 w7.heap.size rfl ?_; rintro g8 cap8 w8 hown8 hg8 hat8 -; rw [HN.out, ← (show bts (frms (rs ++ [r])) = bts (frms rs) ++ bts (frm r) from by rw [frms_snoc]; simp [bts])] at hown8; rw [HN.out]; have b8 : Below w1.heap.size w7 w8 := (Below.refl _ w7).grown hg8 z7 (fun k e => (own_lt E7.out.all k e).1); have E8 := Lib.hid (E7.out.grow' HNS.out hown8 hg8 hat8); have BX8 : Hid (Box w8 w.heap.size m n) := BX7.out.below b8 (by omega); have p8 : w8.cell? ⟨b1, off + k * 2 + 1, none⟩ = some (.slice va r.length vc) := (b8.cell (p := ⟨b1, off + k * 2 + 1, none⟩) (by show b1 < w1.heap.size; omega)).trans p7; have n8 : ∀ ob, (w8.alloc ob).cell? ⟨b1, off + k * 2 + 1, none⟩ = some (.slice va r.length vc) := (fun ob => ((Keeps.refl (fun _ => False) w8).alloc ob).cell (fun f => f) p8); have HB8 : Hid (Rb w8 (.slice va r.length vc) r) := HB7.out.below b8 HHBB.out; have z8 := E8.out.sz; obtain ⟨us8, hv1, hv2, hv3⟩ := E8.out.tab.row; have V1 := Lib.hid hv1; have V2 := Lib.hid hv2; have V3 := Lib.hid hv3; have hut : Hid (∀ i, (Value.slice va r.length vc).ownBlock = some i → 0 < r.length → i < w8.heap.size ∧ ¬ o6.m i) := (fun i h1 h2 => by (have h3 := HBB.out i h1 h2; exact ⟨by omega, fun h4 => by (have := E8.out.om i h4; omega)⟩)); clear hown8 hg8 hat8 b8 hv1 hv2 hv3 p7 HB7 HF7 E7 BX7)
                | (at_builtin; refine wpList_append_lies _ rfl _ _ 50 rfl 0 30 i3 (.slice none 0 0) 1 24 Try.underlying50 hi30 hy0 hy1 hy2 rfl (by decide) (.slice oa rs.length oc) rs.length us8 rfl (own_keep V2.out ((Keeps.refl (fun _ => False) w8).alloc _) (fun _ _ f => f)) ⟨w8.heap.size, 0, none⟩ 1 1 [.slice va r.length vc] rfl rfl (World.news_of_block (heap_alloc_new w8 _)) (by simp [Value.oneCell']) (by decide) (by unfold maxLen; omega) (by omega) (Nat.zero_le _) (w8.heap.size + 1) (by simp) ?_; rintro g9 cap9 w9 hown9 hg9 hat9 -; have HT9 := Lib.hid (Tab.snoc E8.out.tab HB8.out hut.out rfl V1.out V3.out hown9 hg9 hat9); clear hown9 hg9 hat9)
                | fail)
              obtain ⟨o9, t9, k9, m9, s9⟩ := HT9.out
              have E9 := Lib.hid (E8.out.snoc HHBB.out t9 k9 m9 s9)
              have b9 : Below w1.heap.size w8 w9 := k9.below z8 E8.out.om
              obtain ⟨v0, v1⟩ := BX8.out.below b9 (by omega)
              have z9 := E9.out.sz
              clear t9 k9 m9 s9 b9 HT9 V1 V2 V3 HB8 hut E8 BX8 p8 n8
              have k44 : Hid (∀ w', (w'.cell? ⟨w.heap.size, 0, none⟩ = some (.int .i64 m) ∧ w'.cell? ⟨w.heap.size, 1, none⟩ = some (.int .i64 n) ∧ Below w9.heap.size w9 w') → Calls Try.prog 44 #[.pointer (some ⟨j, 0, none⟩)] w' fun e w'' => e = .returned (.int .i64 rz) ∧ Below w'.heap.size w' w'') := fun w' h => by
                have := E9.out.room h.2.2
                rw [HMN.out] at this
                rw [HRW.out] at this
                exact this
              have k45 : Hid (∀ w', Calls Try.prog 45 #[.int .i64 ((MN : Nat) : Int), .int .i64 ((N : Nat) : Int)] w' fun e w'' => e = .returned (.int .i64 rz) ∧ w' = w'') := fun w' => by
                have := Room18_any w' MN (N) (by omega) (by omega)
                rw [HRW3.out] at this
                exact this
              have k43 : Hid (∀ w', (w'.cell? ⟨w.heap.size, 0, none⟩ = some (.int .i64 m) ∧ w'.cell? ⟨w.heap.size, 1, none⟩ = some (.int .i64 n) ∧ Below w9.heap.size w9 w') → Calls Try.prog 43 #[.pointer (some ⟨j, 0, none⟩)] w' fun e w'' => e = .returned (.int .i64 ((rs.length + 1 : Nat) : Int)) ∧ w' = w'') := fun w' h => by
                have := E9.out.len h.2.2
                rw [HKS.out] at this
                exact this
              have k29 : Hid (∀ w', (w'.cell? ⟨w.heap.size, 0, none⟩ = some (.int .i64 m) ∧ w'.cell? ⟨w.heap.size, 1, none⟩ = some (.int .i64 n) ∧ Below w9.heap.size w9 w') → Calls Try.prog 29 #[.pointer (some ⟨j, 0, none⟩)] w' fun e w'' => (∃ v, e = .returned v ∧ Bb w'' v ((rs ++ [r]))) ∧ Below w'.heap.size w' w'') := fun w' h => E9.out.recs (by rw [HKS.out]; omega) h.2.2
              have k30 : Hid (∀ w' v, (w'.cell? ⟨w.heap.size, 0, none⟩ = some (.int .i64 m) ∧ w'.cell? ⟨w.heap.size, 1, none⟩ = some (.int .i64 n) ∧ Below w9.heap.size w9 w') → Bb w' v ((rs ++ [r])) → Calls Try.prog 30 #[v, (.slice (some ⟨g9, 0, none⟩) (rs.length + 1) cap9)] w' fun e w'' => e = .returned (.bool true) ∧ Below w'.heap.size w' w'') := fun w' v h hv => E9.out.same h.2.2 v hv
              have hkeep : Hid (∀ w' wx, (w'.cell? ⟨w.heap.size, 0, none⟩ = some (.int .i64 m) ∧ w'.cell? ⟨w.heap.size, 1, none⟩ = some (.int .i64 n) ∧ Below w9.heap.size w9 w') → Below w'.heap.size w' wx → wx.cell? ⟨w.heap.size, 0, none⟩ = some (.int .i64 m) ∧ wx.cell? ⟨w.heap.size, 1, none⟩ = some (.int .i64 n) ∧ Below w9.heap.size w9 wx) := fun w' wx h0 h2 => by
                have h1 := h0.2.2
                have h := h1.trans (h2.mono h1.size)
                exact ⟨(h.cell (p := ⟨w.heap.size, 0, none⟩) (by show w.heap.size < w9.heap.size; omega)).trans v0, (h.cell (p := ⟨w.heap.size, 1, none⟩) (by show w.heap.size < w9.heap.size; omega)).trans v1, h⟩
              clear HU1 HU2 HU3 q0 q2 hsz
              skip
              go_region_held3 (fun w' => w'.cell? ⟨w.heap.size, 0, none⟩ = some (.int .i64 m) ∧ w'.cell? ⟨w.heap.size, 1, none⟩ = some (.int .i64 n) ∧ Below w9.heap.size w9 w')
                (first
                  | assumption
                  | exact ⟨v0, v1, Below.refl _ _⟩
                  | exact ⟨v0, v1, (Below.refl _ _).drew⟩
                  | exact hkeep.out _ _ (by assumption) (by assumption)
                  | fail)
                (first
                  | (go_at_call 44; with_reducible refine (k44.out _ (by assumption)).mono ?_; rintro e x1 ⟨rfl, hx1⟩)
                  | (go_at_call 45; with_reducible refine (k45.out _).mono ?_; rintro e x2 ⟨rfl, rfl⟩)
                  | (go_at_call 43; with_reducible refine (k43.out _ (by assumption)).mono ?_; rintro e x3 ⟨rfl, rfl⟩)
                  | (go_at_call 29; with_reducible refine (k29.out _ (by assumption)).mono ?_; rintro e x4 ⟨⟨xv, rfl, hxv⟩, hx4⟩)
                  | (go_at_call 30; with_reducible refine (k30.out _ _ (by assumption) hxv).mono ?_; rintro e x5 ⟨rfl, hx5⟩)
                  | fail)
              have BX : Hid (Below w9.heap.size w9 x5) := (by assumption : x5.cell? ⟨w.heap.size, 0, none⟩ = some (.int .i64 m) ∧ x5.cell? ⟨w.heap.size, 1, none⟩ = some (.int .i64 n) ∧ Below w9.heap.size w9 x5).2.2
              have EX := Lib.hid (E9.out.below BX.out)
              clear hx1 hx4 hx5 hxv
              go_wp2_with fail
              go_roundw
              case rel => exact ⟨k + 1, nf, (rs ++ [r]), _, _, by simp, by omega, by rw [HKS.out]; omega, EX.out⟩
              case measure => simp [intOf]; omega
          · rw [hsy] at q0
            clear hsy
            go_wp2_with fail
            refine (Sync_open wr j d m n rs nf a6 hE.out.jj).mono ?_
            rintro e w6 ⟨rfl, ⟨a8, h6, u6⟩, hO⟩
            have E6 := Lib.hid (hE.out.upd h6 u6)
            have HO := Lib.hid hO
            clear h6 u6 hO q0 q2
            go_wp2_with fail
            refine HO.out.mono ?_
            rintro e w7 ⟨rfl, rfl⟩
            go_wp2_with fail
            go_roundw
            case rel => exact ⟨k + 1, rs.length, rs, _, _, by simp, by omega, by omega, E6⟩
            case measure => simp [intOf]; omega
        · obtain rfl : k = l.length := by omega
          obtain ⟨x0, x1⟩ := HX1.out.below bW.out (by omega)
          have hmk : ∀ w, (Instr.makeSlice 30 (.int .i64 MN) (.int .i64 MN)).run Try.prog w = .ok (.slice (some ⟨w.heap.size, 0, none⟩) MN MN) (w.alloc (.cells (madeCells #[.int .u8 0] MN) 5)) := by
            intro w
            have := run_make (P := Try.prog) w 30 5 i0 (.int .u8 0) Try.underlying30 hi5 hz0 .i64 .i64 MN MN (by omega) (Int.le_refl _) (by rw [hz2]; omega) (by omega)
            rw [hz1] at this
            simpa [Value.cells] using this
          have W10 : Hid ((wr.alloc (.cells (madeCells #[.int .u8 0] MN) 5)).heap[wr.heap.size]? = some (.cells (madeCells #[.int .u8 0] MN).toList.toArray 5)) := by
            unfold Hid
            rw [Array.toArray_toList]
            exact heap_alloc_new wr _
          have B10 : Hid (Below wr.heap.size wr (wr.alloc (.cells (madeCells #[.int .u8 0] MN) 5))) := (Below.refl _ _).alloc (Nat.le_refl _) _
          have hcur : Hid ((madeCells #[.int .u8 0] MN).toList = bts (List.replicate MN 0)) := by
            unfold Hid
            rw [toList_madeCells_one]
            simp [bts]
          have hcl : Hid ((madeCells #[.int .u8 0] MN).toList.length = MN) := by
            unfold Hid
            rw [hcur.out, bts_length, List.length_replicate]
          have HNL : Hid ((bts (frms rs)).length = Nat.min (frms rs).length MN) := by unfold Hid; rw [bts_length]; show (frms rs).length = min (frms rs).length MN; omega
          have HPOS : Hid (0 < (bts (frms rs)).length → ∃ ad, ca = some ad ∧ ∀ j v, (bts (frms rs))[j]? = some v → (wr.alloc (.cells (madeCells #[.int .u8 0] MN) 5)).cell? (ad.add j) = some v) := fun h0 => by
            rcases ((Rd.of_own hE.out.all).keep (X := fun _ => False) (Keeps.of_below B10.out) (fun _ _ _ f => f)).two with ⟨-, h'⟩ | ⟨ad, cap, h', -, -, hc⟩
            · rw [bts_length] at h0
              omega
            · simp only [Value.slice.injEq] at h'
              exact ⟨ad, h'.1, hc⟩
          have HFIT : Hid (0 + (bts (frms rs)).length ≤ (madeCells #[.int .u8 0] MN).toList.length) := by unfold Hid; rw [bts_length, hcl.out]; omega
          clear hus1 hus2 hus3
          go_wp2_with ((with_reducible refine wpList_copy_keep (o := ⟨some 151, _, _, _, _, _⟩) ?_ (.tmp 149) (.tmp 150) 30 30 ?_ 5 Try.underlying30 info5s ca MN MN (frms rs).length cc wr.heap.size 0 ?_ ?_ (madeCells #[.int .u8 0] MN).toList 5 W10.out (bts (frms rs)) HNL.out HPOS.out HFIT.out bts_one ?_); rfl; rfl; rfl; rfl; intro w11 hco)
          have N11 : Hid (w11.ownsRow 0 5 1 (.slice (some ⟨wr.heap.size, 0, none⟩) MN MN) MN (bts (image MN rs))) := by
            unfold Hid
            rw [← over_image]
            refine copy_own (L := List.replicate MN 0) ?_ (Nat.le_refl _) (by unfold maxLen; omega) hcl.out (by omega) hco
            rw [List.take_of_length_le (by rw [hcl.out]; exact Nat.le_refl _)]
            exact hcur.out
          have b11 : Below wr.heap.size wr w11 := B10.out.trans (hco.keeps.below (by simp) (fun k hk => by omega))
          have E11 := Lib.hid (hE.out.below b11)
          have HIL : Hid ((image MN rs).length = MN) := image_length hfl
          clear hco b11 W10 B10 hcur hcl HNL HPOS HFIT hmk hE x0 x1
          go_wp2_with fail
          refine (bytes_JJ w11 j d m n rs nf a6 E11.out.jj).mono ?_
          rw [HMN.out]
          rintro e w12 ⟨v12, rfl, h12, b12⟩
          rw [HIL.out] at h12
          obtain ⟨p12, c12, rfl⟩ := own_slice h12
          have R12 : Hid (Rb w12 (.slice p12 MN c12) (image MN rs)) := by
            have := Rd.of_own h12
            unfold Hid Rb
            rw [HIL.out]
            exact this
          have N12 : Hid (Rb w12 (.slice (some ⟨wr.heap.size, 0, none⟩) MN MN) (image MN rs)) := by
            have := Rd.of_own (own_same N11.out b12)
            unfold Hid Rb
            rw [HIL.out]
            exact this
          have E12 := Lib.hid (E11.out.below b12)
          clear h12 b12 N11 E11
          go_wp2_with fail
          refine (Bytes_any w12 _ _ _ _ R12.out N12.out).mono ?_
          rw [decide_eq_true rfl]
          rintro e w13 ⟨rfl, n13, hw13⟩
          have B13 : Hid (Below w.heap.size w w13) := B1.out.trans ((E12.out.below (by rw [hw13]; exact Below.drewN (Below.refl _ _) n13)).bel.mono (by omega))
          clear hw13 R12 N12 E12
          go_wp2_with fail
          refine (awake18_any _).mono ?_
          rintro e wz ⟨rfl, bz⟩
          go_wp2_with fail
          go_ret
          exact ⟨rfl, B13.out.trans (bz.mono B13.out.size)⟩
    · have hw' : few18 l = false := by simpa using hw
      rw [hw']
      clear hw hw'
      go_wp2_with fail
      refine (awake18_any _).mono ?_
      rintro e w2 ⟨rfl, b2⟩
      go_wp2_with fail
      go_ret
      exact ⟨rfl, B1.out.trans (b2.mono (by omega))⟩
  · have hs' : small18 a b = false := by simpa using hs
    rw [hs']
    clear hs hs'
    go_wp2_with fail
    refine (awake18_any _).mono ?_
    rintro e w2 ⟨rfl, b2⟩
    go_wp2_with fail
    go_ret
    exact ⟨rfl, B1.out.trans (b2.mono (by omega))⟩
end Go.Proofs.Ytbbjeoepoocofaa
