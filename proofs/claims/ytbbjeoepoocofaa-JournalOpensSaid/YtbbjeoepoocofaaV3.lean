/- The document's records of bytes. -/
import Derived.Test.YtbbjeoepoocofaaV1
namespace Go.Proofs.Ytbbjeoepoocofaa
open Go.RowKit

/-- While records are read. -/
structure RI (w : World) (L : List Int) (rs : List (List Int)) (e : Nat) (ov : Value) (us : List Value) (wr : World) : Prop where
  tab : Tbv wr w.heap.size ov rs us
  inner : ∀ u ∈ us, ∀ k, u.ownBlock = some k → w.heap.size ≤ k
  chain : Chain L rs e
  below : Below w.heap.size w wr

/-- The records, and where they end. -/
def RefRecs (L : List Int) (w : World) (e : Ending) (w' : World) : Prop := ∃ ov rs f, e = .returned (.tuple #[ov, .int .i64 ((f : Nat) : Int)]) ∧ Recs L rs f ∧ Tbl w' w.heap.size ov rs ∧ Below w.heap.size w w'

theorem RI.end {w : World} {L : List Int} {rs : List (List Int)} {e : Nat} {ov : Value} {us : List Value} {wr w' : World} (h : RI w L rs e ov us wr) (hb : Below wr.heap.size wr w') (hn : ¬ ∃ x, Nxt L e x) : RefRecs L w (.returned (.tuple #[ov, .int .i64 (e : Int)])) w' :=
  ⟨ov, rs, e, rfl, ⟨h.chain, hn⟩, ⟨us, h.tab.below' hb, h.inner⟩, h.below.trans (hb.mono h.below.size)⟩
theorem RI.next {w : World} {L : List Int} {rs : List (List Int)} {e : Nat} {ov v7 u : Value} {us : List Value} {wr w4 w7 : World} {x : List Int} {o : Obj} (h : RI w L rs e ov us wr) (hb : Below wr.heap.size wr w4) (hx : Nxt L e x) (hu : w4.ownsRow wr.heap.size 5 1 u x.length (bts x))
    (hown : w7.ownsRow w.heap.size 30 1 v7 (rs.length + 1) (us ++ [u])) (hg : (w4.alloc o).grownBy w7 ov.ownBlock) : RI w L (rs ++ [x]) (e + (4 + 2 * x.length)) v7 (us ++ [u]) w7 where
  tab := (h.tab.below' hb).snoc (own_mono hu (Nat.zero_le _)) hown hg
  inner := fun s hs k e => by
    rw [List.mem_append] at hs
    rcases hs with hs | hs
    · exact h.inner s hs k e
    · simp at hs
      subst hs
      have := (own_lt hu k e).1
      have := h.below.size
      omega
  chain := h.chain.snoc hx
  below := by
    have h4 : Below w.heap.size w w4 := h.below.trans (hb.mono h.below.size)
    exact (h4.alloc h4.size o).grown hg (by have := h4.size; simp; omega) (fun k e => (own_lt h.tab.row k e).1)

theorem below_of_drew' {w w' : World} {n : Nat} (h : w' = w.drewN n) : Below w.heap.size w w' := by rw [h]; exact Below.drewN (Below.refl _ _) n
theorem pv_neg {o : Option Int} (h : o = none) : pv o = -1 := by rw [h]; rfl
theorem pv_some {o : Option Int} {x : Int} (h : o = some x) : pv o = x := by rw [h]; rfl
theorem bAt_bytes {L : List Int} (hB : isB L) {e i : Nat} {x : Int} (h : bAt L e i = some x) : 0 ≤ x ∧ x ≤ 255 := by
  have := isB_getD hB (e + 2 * i)
  rw [(bAt_some.1 h).2.1] at this
  exact this

set_option maxRecDepth 100000 in
set_option maxHeartbeats 8000000 in
theorem RefRecords_any (w : World) (g bc : Nat) (L : List Int) (hb : w.ownsRow 0 5 1 (.slice (some ⟨g, 0, none⟩) L.length bc) L.length (bts L)) (hB : isB L) (hl : L.length ≤ 100000) :
    Calls Try.prog 42 #[.slice (some ⟨g, 0, none⟩) L.length bc] w (RefRecs L w) := by
  have hcc := (Rd.of_own hb).capOk.2
  have hc1 : L.length ≤ bc := hcc.1
  have hc2 : bc ≤ 9223372036854775807 := hcc.2
  have HBB := Lib.hid hB
  have HB := Lib.hid hb
  have RI0 : Hid (RI w L [] 0 (.slice none 0 0) [] w) := ⟨Tbv.nil _ _, fun u hu => by simp at hu, Chain.nil L, Below.refl _ _⟩
  clear hcc hB hb
  obtain ⟨i0, hi5, hz0, hz1, hz2⟩ := info_parts info5
  obtain ⟨i3, hi30, hy0, hy1, hy2⟩ := info_parts info30
  go_enter Try.func42, Try.ntmps42
  go_wp2_with fail
  go_loopw [4, 5] (fun ov ev wr => ∃ (rs : List (List Int)) (e : Nat) (us : List Value), ev = .int .i64 e ∧ Hid (RI w L rs e ov us wr)) (fun _ ev _ => L.length - (intOf ev).toNat)
  case atStart => exact ⟨[], 0, [], rfl, RI0⟩
  case round =>
    obtain ⟨wa, hwa⟩ : ∃ wa, wa = wr := ⟨_, rfl⟩
    subst hwa
    obtain ⟨rs, e, us, rfl, hI⟩ := hrel
    obtain ⟨oa, oc, rfl⟩ := own_slice hI.out.tab.row
    have hel : e ≤ L.length := hI.out.chain.le
    have hrl : rs.length ≤ 100000 := by have := frms_len4 rs; have := hI.out.chain.fin; omega
    have hec : e ≤ bc := by omega
    have HBr : Hid (wa.ownsRow 0 5 1 (.slice (some ⟨g, 0, none⟩) L.length bc) L.length (bts L)) := own_same HB.out hI.out.below
    by_cases hne : bc = e
    · have hle : Hid (L.length = e) := by unfold Hid; omega
      have hn0 : Hid (∀ i, bAt L e i = none) := fun i => by
        have := hle.out
        unfold bAt
        rw [if_neg (fun h => by omega)]
      have hno : Hid (¬ ∃ x, Nxt L e x) := fun ⟨x, hx⟩ => by
        have := hx.2.1
        rw [hn0.out] at this
        cases this
      have R0 : Hid (Rb wa (.slice (some ⟨g, 0, none⟩) (L.length - e) 0) (part L e L.length)) := by
        have hp := part_len (L := L) (lo := e) (hi := L.length) (Nat.le_refl _)
        have h0 := hle.out
        exact ⟨by rw [bts_length]; omega, .inl ⟨.inr ⟨⟨g, 0, none⟩, 0, by rw [show L.length - e = 0 by omega], Nat.zero_le _⟩, by omega⟩⟩
      go_wp2_with fail
      refine (pair_part wa _ L e hel R0.out HBB.out 0 (by omega) (by omega)).mono ?_
      rw [pv_neg (hn0.out _)]
      rintro r w2 ⟨rfl, n2, hw2⟩
      have b2 := below_of_drew' hw2
      have R2 : Hid (Rb w2 (.slice (some ⟨g, 0, none⟩) (L.length - e) 0) (part L e L.length)) := R0.out.below' b2
      have HB2 := Lib.hid b2
      clear hw2 b2
      go_wp2_with fail
      refine (pair_part w2 _ L e hel R2.out HBB.out 1 (by omega) (by omega)).mono ?_
      rw [pv_neg (hn0.out _)]
      rintro r w3 ⟨rfl, n3, hw3⟩
      have b3 := below_of_drew' hw3
      have HB3 : Hid (Below wa.heap.size wa w3) := HB2.out.trans (b3.mono HB2.out.size)
      clear hw3 b3 hne
      go_wp2_with fail
      go_ret2
      exact hI.out.end HB3.out hno.out
    · have R0 : Hid (Rb wa (.slice (some ⟨g, e, none⟩) (L.length - e) (bc - e)) (part L e L.length)) := (show Rb wa (.slice (some ⟨g, 0, none⟩) L.length bc) L from Rd.of_own HBr.out).part hel (Nat.le_refl _)
      go_wp2_with fail
      refine (pair_part wa _ L e hel R0.out HBB.out 0 (by omega) (by omega)).mono ?_
      rw [show (0 : Int).toNat = 0 from rfl]
      rintro r w2 ⟨rfl, n2, hw2⟩
      have b2 := below_of_drew' hw2
      have R2 : Hid (Rb w2 (.slice (some ⟨g, e, none⟩) (L.length - e) (bc - e)) (part L e L.length)) := R0.out.below' b2
      have HB2 := Lib.hid b2
      clear hw2 b2
      go_wp2_with fail
      refine (pair_part w2 _ L e hel R2.out HBB.out 1 (by omega) (by omega)).mono ?_
      rw [show (1 : Int).toNat = 1 from rfl]
      rintro r w3 ⟨rfl, n3, hw3⟩
      have b3 := below_of_drew' hw3
      have R3 : Hid (Rb w3 (.slice (some ⟨g, e, none⟩) (L.length - e) (bc - e)) (part L e L.length)) := R2.out.below' b3
      have HB3 : Hid (Below wa.heap.size wa w3) := HB2.out.trans (b3.mono HB2.out.size)
      clear hw3 b3 HB2 R0 R2
      cases h0 : bAt L e 0 with
      | none =>
        rw [pv_neg rfl]
        have hno : Hid (¬ ∃ x, Nxt L e x) := fun ⟨x, hx⟩ => by
          have := hx.2.1
          rw [h0] at this
          cases this
        obtain ⟨y, hy⟩ : ∃ y, pv (bAt L e 1) = y := ⟨_, rfl⟩
        have hyb : -1 ≤ y ∧ y ≤ 255 := by
          rw [← hy]
          cases h1 : bAt L e 1 with
          | none => exact ⟨by decide, by decide⟩
          | some z => have := bAt_bytes HBB.out h1; exact ⟨by show -1 ≤ z; omega, this.2⟩
        obtain ⟨hy1', hy2'⟩ := hyb
        rw [hy]
        clear hy h0 hne R3
        go_wp2_with fail
        go_ret2
        exact hI.out.end HB3.out hno.out
      | some hv =>
        rw [pv_some rfl]
        obtain ⟨b0, b1⟩ := bAt_bytes HBB.out h0
        have H0 := Lib.hid h0
        clear h0
        cases h1 : bAt L e 1 with
        | none =>
          rw [pv_neg rfl]
          have hno : Hid (¬ ∃ x, Nxt L e x) := fun ⟨x, hx⟩ => by
            have := hx.2.2.1
            rw [h1] at this
            cases this
          clear h1 hne R3
          go_wp2_with fail
          go_ret2
          exact hI.out.end HB3.out hno.out
        | some lv =>
          rw [pv_some rfl]
          obtain ⟨l0, l1⟩ := bAt_bytes HBB.out h1
          have H1 := Lib.hid h1
          clear h1
          obtain ⟨n, hn⟩ : ∃ n : Nat, 256 * hv + lv = n := ⟨(256 * hv + lv).toNat, by omega⟩
          have HN : Hid (hv * 256 + lv = n) := by unfold Hid; omega
          have hnb : n ≤ 65535 := by omega
          by_cases hn4 : n ≤ 1024
          · go_wp2_with fail
            have HNE := Lib.hid hne
            clear hn hne
            have S3 := HB3.out.size
            go_loopw [9, 10] (fun rv iv wr => ∃ k : Nat, iv = .int .i64 k ∧ k ≤ n ∧ wr.ownsRow wa.heap.size 5 1 rv k (bts (bl L e k)) ∧ Hid (∀ i, i < k → bAt L e (2 + i) ≠ none) ∧ Below wa.heap.size wa wr) (fun _ iv _ => n - (intOf iv).toNat)
            case atStart => exact ⟨0, rfl, Nat.zero_le _, World.ownsRow_nil _ _ _ _, fun i hi => by omega, HB3.out⟩
            case round =>
              obtain ⟨k, rfl, hk, hown, hall, hB⟩ := hrel
              obtain ⟨ra, rc, rfl⟩ := own_slice hown
              have HOW := Lib.hid hown
              have HALL := Lib.hid hall.out
              have HBs := Lib.hid hB
              clear hown hall hB
              by_cases hkn : k < n
              · have hne := HNE.out
                have R4 : Hid (Rb wr (.slice (some ⟨g, e, none⟩) (L.length - e) (bc - e)) (part L e L.length)) := (show Rb wr (.slice (some ⟨g, 0, none⟩) L.length bc) L from Rd.of_own (own_same HBr.out HBs.out)).part hel (Nat.le_refl _)
                have ht : Hid ((2 + (k : Int)).toNat = 2 + k) := by unfold Hid; omega
                go_wp2_with fail
                refine (pair_part wr _ L e hel R4.out HBB.out (2 + (k : Int)) (by omega) (by omega)).mono ?_
                rw [ht.out]
                rintro r w4 ⟨rfl, n4, hw4⟩
                have b4 := below_of_drew' hw4
                have HB4 : Hid (Below wa.heap.size wa w4) := HBs.out.trans (b4.mono HBs.out.size)
                have HO4 : Hid (w4.ownsRow wa.heap.size 5 1 (.slice ra k rc) k (bts (bl L e k))) := own_same HOW.out b4
                have z4 := HB4.out.size
                clear hw4 b4 R4 hne
                cases h2 : bAt L e (2 + k) with
                | none =>
                  rw [pv_neg rfl]
                  have hno : Hid (¬ ∃ x, Nxt L e x) := fun ⟨x, hx⟩ => by
                    have e1 := nxt_len H0.out H1.out hx
                    have e2 := hx.2.2.2 k (by have := HN.out; omega)
                    rw [h2] at e2
                    cases e2
                  clear h2
                  go_wp2_with fail
                  go_ret2
                  exact hI.out.end HB4.out hno.out
                | some y =>
                  rw [pv_some rfl]
                  obtain ⟨y0, y1⟩ := bAt_bytes HBB.out h2
                  have hwy : IntKind.u8.wrap y = y := by rw [wrap_u8]; omega
                  have hsn : Hid (bl L e (k + 1) = bl L e k ++ [y]) := by unfold Hid; rw [bl_snoc, (bAt_some.1 h2).2.1]
                  have hall' : Hid (∀ i, i < k + 1 → bAt L e (2 + i) ≠ none) := fun i hi => by
                    by_cases ei : i = k
                    · rw [ei, h2]; simp
                    · exact HALL.out i (by omega)
                  clear h2
                  go_wp2_with ((at_builtin; refine wpList_append_own _ rfl _ _ 30 rfl wa.heap.size 5 i0 (.int .u8 0) 1 1 Try.underlying30 hi5 hz0 hz1 hz2 rfl (by decide) (.slice ra k rc) k (bts (bl L e k)) rfl (own_keep HO4.out ((Keeps.refl (fun _ => False) w4).alloc _) (fun _ _ f => f)) ⟨w4.heap.size, 0, none⟩ 1 1 [.int .u8 y] rfl rfl (World.news_of_block (heap_alloc_new w4 _)) (by simp [Value.oneCell']) (by unfold maxLen; omega) (by omega) (by simp; omega) ?_; rintro v7 w7 hown7 hg7 -; have B7 : Hid (Below wa.heap.size wa w7) := (HB4.out.alloc z4 _).grown hg7 (by simp; omega) (fun j hj => (own_lt HO4.out j hj).1); have O7 : Hid (w7.ownsRow wa.heap.size 5 1 v7 (k + 1) (bts (bl L e (k + 1)))) := (by unfold Hid; rw [hsn.out, show bts (bl L e k ++ [y]) = bts (bl L e k) ++ [.int .u8 y] by simp [bts]]; exact hown7); clear hown7 hg7))
                  go_roundw
                  case rel => exact ⟨k + 1, rfl, by omega, O7.out, hall', B7.out⟩
                  case measure => simp [intOf]; omega
              · obtain rfl : k = n := by omega
                have hyes : Nxt L e (bl L e k) := nxt_bl l0 l1 HN.out hn4 H0.out H1.out HALL.out
                have HY := Lib.hid hyes
                have HR : Hid (wr.ownsRow wa.heap.size 5 1 (.slice ra k rc) (bl L e k).length (bts (bl L e k))) := by unfold Hid; rw [bl_length]; exact HOW.out
                have hxl : e + (4 + 2 * k) ≤ L.length := by have := (hI.out.chain.snoc hyes).le; rw [bl_length] at this; exact this
                have T4 : Hid (wr.ownsRow w.heap.size 30 1 (.slice oa rs.length oc) rs.length us) := own_same hI.out.tab.row HBs.out
                clear hyes
                have S4 := HBs.out.size
                have SA := hI.out.below.size
                go_wp2_with ((at_builtin; refine wpList_append_lies _ rfl _ _ 50 rfl w.heap.size 30 i3 (.slice none 0 0) 1 24 Try.underlying50 hi30 hy0 hy1 hy2 rfl (by decide) (.slice oa rs.length oc) rs.length us rfl (own_keep T4.out ((Keeps.refl (fun _ => False) wr).alloc _) (fun _ _ f => f)) ⟨wr.heap.size, 0, none⟩ 1 1 [.slice ra k rc] rfl rfl (World.news_of_block (heap_alloc_new wr _)) (by simp [Value.oneCell']) (by decide) (by unfold maxLen; omega) (by omega) (by simp; omega) (wr.heap.size + 1) (by simp) ?_; rintro g7 cap w7 hown7 hg7 - -; have HNX := Lib.hid (RI.next hI.out HBs.out HY.out HR.out hown7 hg7); rw [bl_length] at HNX; clear hown7 hg7))
                go_roundw
                case rel => exact ⟨_, e + (4 + 2 * k), _, by simp; omega, HNX⟩
                case measure => simp [intOf]; omega
          · have hno : Hid (¬ ∃ x, Nxt L e x) := fun ⟨x, hx⟩ => by
              have := nxt_len H0.out H1.out hx
              have := hx.1
              have := HN.out
              omega
            go_wp2_with fail
            clear hn hne
            go_ret2
            exact hI.out.end HB3.out hno.out
end Go.Proofs.Ytbbjeoepoocofaa
