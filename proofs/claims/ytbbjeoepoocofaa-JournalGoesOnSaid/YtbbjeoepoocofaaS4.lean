/- Calls done one after the other: what was appended, and how many ahead of the last Sync. -/
import Derived.Test.YtbbjeoepoocofaaS3
namespace Go.Proofs.Ytbbjeoepoocofaa
open Go.RowKit

/-- One call more, behind these records: what was appended so far, and how many ahead of the last Sync. -/
def dstep (N : Nat) (rs : List (List Int)) (st : List (List Int) × Nat) (o : Jop) : List (List Int) × Nat :=
  if o.sync then (st.1, st.1.length) else if fitB N (rs ++ st.1) o.r.length then (st.1 ++ [o.r], st.2) else st
def doesN (N : Nat) (rs : List (List Int)) (l : List Jop) : List (List Int) × Nat := l.foldl (dstep N rs) ([], 0)
theorem doesN_snoc (N : Nat) (rs : List (List Int)) (l : List Jop) (k : Nat) (h : k < l.length) : doesN N rs (l.take (k + 1)) = dstep N rs (doesN N rs (l.take k)) l[k] := by
  unfold doesN
  rw [List.take_add_one, List.getElem?_eq_getElem h, List.foldl_append]
  rfl

/-- Between two calls. -/
structure DI (w : World) (B j d b s : Nat) (rs : List (List Int)) (l : List Jop) (a : Foot) (k : Nat) (ov : Value) (out : List (List Int)) (fm : Nat) (wr : World) (a' o : Foot) : Prop where
  jj : JJ wr j d b s (rs ++ out) (rs.length + fm) a'
  tab : Tab wr ov out o
  upd : Upd a a' w wr
  ap : Apart a' o
  om : ∀ k, o.m k → w.heap.size ≤ k
  os : ∀ k, o.s k → w.heap.size ≤ k ∨ k < B
  eq : doesN (b * s) rs (l.take k) = (out, fm)
  len : out.length ≤ k

theorem DI.off {w : World} {B j d b s : Nat} {rs : List (List Int)} {l : List Jop} {a : Foot} {k : Nat} {ov : Value} {out : List (List Int)} {fm : Nat} {wr : World} {a' o : Foot} (h : DI w B j d b s rs l a k ov out fm wr a' o) : ∀ k, a'.s k → ¬ o.m k := fun k h1 h2 => h.ap.2 k h2 h1

/-- A Sync. -/
theorem DI.synced {w : World} {B j d b s : Nat} {rs : List (List Int)} {l : List Jop} {a : Foot} {k : Nat} {ov : Value} {out : List (List Int)} {fm : Nat} {wr w4 : World} {a' o a4 : Foot} (h : DI w B j d b s rs l a k ov out fm wr a' o) (hB : B ≤ w.heap.size) (hk : k < l.length) (hs : l[k].sync = true)
    (hj : JJ w4 j d b s (rs ++ out) (rs ++ out).length a4) (u : Upd a' a4 wr w4) : DI w B j d b s rs l a (k + 1) ov out out.length w4 a4 o := by
  have hz := h.upd.keeps.size
  have so : Sits wr B o := ⟨h.tab.sub, h.tab.lt, fun i hi => by have := h.om i hi; omega⟩
  exact { jj := by rw [← List.length_append]; exact hj
          tab := h.tab.keep u.keeps (u.off h.ap)
          upd := h.upd.trans u
          ap := u.apart so h.ap
          om := h.om
          os := h.os
          eq := by rw [doesN_snoc _ _ _ _ hk, h.eq]; unfold dstep; rw [hs]; rfl
          len := by have := h.len; omega }
/-- A record for which there is no room. -/
theorem DI.refused {w : World} {B j d b s : Nat} {rs : List (List Int)} {l : List Jop} {a : Foot} {k : Nat} {ov : Value} {out : List (List Int)} {fm : Nat} {wr w4 : World} {a' o a4 : Foot} (h : DI w B j d b s rs l a k ov out fm wr a' o) (hB : B ≤ w.heap.size) (hk : k < l.length) (hs : l[k].sync = false) (hft : fitB (b * s) (rs ++ out) l[k].r.length = false)
    (hj : JJ w4 j d b s (rs ++ out) (rs.length + fm) a4) (u : Upd a' a4 wr w4) : DI w B j d b s rs l a (k + 1) ov out fm w4 a4 o := by
  have hz := h.upd.keeps.size
  have so : Sits wr B o := ⟨h.tab.sub, h.tab.lt, fun i hi => by have := h.om i hi; omega⟩
  exact { jj := hj
          tab := h.tab.keep u.keeps (u.off h.ap)
          upd := h.upd.trans u
          ap := u.apart so h.ap
          om := h.om
          os := h.os
          eq := by rw [doesN_snoc _ _ _ _ hk, h.eq]; unfold dstep; rw [hs, hft]; rfl
          len := by have := h.len; omega }
/-- A record that was taken: the journal has it (w4), and then the row (w7). -/
theorem DI.taken {w : World} {B j d b s : Nat} {rs : List (List Int)} {l : List Jop} {a : Foot} {k : Nat} {ov ov7 : Value} {out : List (List Int)} {fm : Nat} {wr w4 w7 : World} {a' o a4 o7 : Foot} (h : DI w B j d b s rs l a k ov out fm wr a' o) (hB : B ≤ w.heap.size) (hf : Sits w B a) (hk : k < l.length) (hs : l[k].sync = false) (hft : fitB (b * s) (rs ++ out) l[k].r.length = true)
    (hj : JJ w4 j d b s (rs ++ out ++ [l[k].r]) (rs.length + fm) a4) (u : Upd a' a4 wr w4) (ht : Tab w7 ov7 (out ++ [l[k].r]) o7) (kt : Keeps o.m w4 w7) (m7 : ∀ k, o7.m k → o.m k ∨ w4.heap.size ≤ k) (s7 : ∀ i, o7.s i → o.s i ∨ w4.heap.size ≤ i ∨ i < B) : DI w B j d b s rs l a (k + 1) ov7 (out ++ [l[k].r]) fm w7 a4 o7 := by
  have hz := h.upd.keeps.size
  have hz4 := u.keeps.size
  have so : Sits wr B o := ⟨h.tab.sub, h.tab.lt, fun i hi => by have := h.om i hi; omega⟩
  have ap4 : Apart a4 o := u.apart so h.ap
  have up4 := h.upd.trans u
  have sa4 : Sits w4 B a4 := up4.fit hf hB hj.sub hj.lt
  exact { jj := by rw [← List.append_assoc]; exact hj.keep kt (fun i h1 h2 => ap4.2 i h2 h1)
          tab := ht
          upd := ⟨up4.keeps.trans kt (fun i hi => .inr (h.om i hi)), up4.m, up4.s⟩
          ap := ⟨fun i h1 h2 => by
              rcases s7 i h2 with e | e | e
              · exact ap4.1 i h1 e
              · have := sa4.lt i (sa4.sub i h1); omega
              · have := sa4.base i h1; omega, fun i h1 h2 => by
              rcases m7 i h1 with e | e
              · exact ap4.2 i e h2
              · have := sa4.lt i h2; omega⟩
          om := fun i hi => (m7 i hi).elim (h.om i) (fun e => by omega)
          os := fun i hi => (s7 i hi).elim (h.os i) (fun e => e.elim (fun e => .inl (by omega)) .inr)
          eq := by rw [doesN_snoc _ _ _ _ hk, h.eq]; unfold dstep; rw [hs, hft]; rfl
          len := by rw [List.length_append]; have := h.len; simp; omega }

theorem DI.start (w : World) (B j d b s : Nat) (rs : List (List Int)) (l : List Jop) (a : Foot) (h : JJ w j d b s rs rs.length a) : DI w B j d b s rs l a 0 (.slice none 0 0) [] 0 w a ⟨fun _ => False, fun _ => False⟩ where
  jj := by rw [List.append_nil]; exact h
  tab := Tab.nil w
  upd := Upd.refl a w
  ap := ⟨fun _ _ f => f, fun _ f => f.elim⟩
  om := fun _ f => f.elim
  os := fun _ f => f.elim
  eq := rfl
  len := Nat.le_refl _

set_option maxRecDepth 100000 in
set_option maxHeartbeats 4000000 in
theorem does_any (w : World) (B j d b s : Nat) (rs : List (List Int)) (a : Foot) (h : JJ w j d b s rs rs.length a) (hf : Sits w B a) (hB : B ≤ w.heap.size) (v : Value) (l : List Jop) (hl : JAt w B v l) (hn : l.length ≤ 1000) (hr : ∀ o ∈ l, o.r.length ≤ 1024) :
    Calls Try.prog 28 #[.pointer (some ⟨j, 0, none⟩), v] w fun e w' => ∃ ov out fm a' o, e = .returned (.tuple #[ov, .int .i64 ((fm : Nat) : Int)]) ∧ DI w B j d b s rs l a l.length ov out fm w' a' o := by
  obtain ⟨lp, lc, rfl, hlm⟩ := hl.form
  unfold maxLen at hlm
  have HL := Lib.hid hl
  have HF := Lib.hid hf
  have HR := Lib.hid hr
  have D0 : Hid (DI w B j d b s rs l a 0 (.slice none 0 0) [] 0 w a ⟨fun _ => False, fun _ => False⟩) := DI.start w B j d b s rs l a h
  clear h hl hf hr
  obtain ⟨i3, hi30, hy0, hy1, hy2⟩ := info_parts info30
  go_enter Try.func28, Try.ntmps28
  go_wp2_with fail
  go_loopw [6, 7, 8] (fun ov fv iv wr => ∃ (k : Nat) (out : List (List Int)) (fm : Nat) (a' o : Foot), iv = .int .i64 k ∧ fv = .int .i64 fm ∧ k ≤ l.length ∧ Hid (DI w B j d b s rs l a k ov out fm wr a' o)) (fun _ _ iv _ => l.length - (intOf iv).toNat)
  case atStart => exact ⟨0, [], 0, _, _, rfl, rfl, Nat.zero_le _, D0⟩
  case round =>
    obtain ⟨k, out, fm, a', o, rfl, rfl, hk, hD⟩ := hrel
    obtain ⟨us, hus1, hus2, hus3⟩ := hD.out.tab.row
    obtain ⟨oa, oc, rfl⟩ := own_slice hus2
    have hol := hD.out.len
    by_cases hlt : k < l.length
    · have HU1 := Lib.hid hus1
      have HU2 := Lib.hid hus2
      have HU3 := Lib.hid hus3
      clear hus1 hus2 hus3
      have bW : Hid (Below B w wr) := hD.out.upd.below HF.out hB
      obtain ⟨b1, off, cap, va, vc, e1, -, -, q0, q2, hb, hbB⟩ := (HL.out.below bW.out).at hlt
      simp only [Value.slice.injEq, true_and] at e1
      obtain ⟨rfl, rfl⟩ := e1
      have HB := Lib.hid hb
      have HBB := Lib.hid hbB
      have hr1 : l[k].r.length ≤ 1024 := HR.out _ (List.getElem_mem hlt)
      have HIB : Hid (isB l[k].r) := HL.out.isb _ (List.getElem_mem hlt)
      have hsz := hD.out.upd.keeps.size
      clear hb hbB
      cases hsy : l[k].sync
      · have HSY := Lib.hid hsy
        have HD : Hid (∀ (ov7 : Value) (w4 w7 : World) (a4 o7 : Foot), fitB (b * s) (rs ++ out) l[k].r.length = true → JJ w4 j d b s (rs ++ out ++ [l[k].r]) (rs.length + fm) a4 → Upd a' a4 wr w4 → Tab w7 ov7 (out ++ [l[k].r]) o7 → Keeps o.m w4 w7 → (∀ k, o7.m k → o.m k ∨ w4.heap.size ≤ k) → (∀ i, o7.s i → o.s i ∨ w4.heap.size ≤ i ∨ i < B) → DI w B j d b s rs l a (k + 1) ov7 (out ++ [l[k].r]) fm w7 a4 o7) :=
          fun ov7 w4 w7 a4 o7 h1 h2 h3 h4 h5 h6 h7 => hD.out.taken hB HF.out hlt HSY.out h1 h2 h3 h4 h5 h6 h7
        have HE : Hid (∀ (w4 : World) (a4 : Foot), fitB (b * s) (rs ++ out) l[k].r.length = false → JJ w4 j d b s (rs ++ out) (rs.length + fm) a4 → Upd a' a4 wr w4 → DI w B j d b s rs l a (k + 1) (.slice oa out.length oc) out fm w4 a4 o) :=
          fun w4 a4 h1 h2 h3 => hD.out.refused hB hlt HSY.out h1 h2 h3
        rw [hsy] at q0
        clear hsy
        generalize l[k].r = r at *
        have sa' : Hid (Sits wr B a') := hD.out.upd.fit HF.out hB hD.out.jj.sub hD.out.jj.lt
        go_wp2_with fail
        refine (Append_JJ wr j d b s (rs ++ out) (rs.length + fm) a' hD.out.jj _ r HB.out HIB.out (fun i h1 h2 h3 => by have := HBB.out i h1 h2; have := sa'.out.base i h3; omega) hr1).mono ?_
        cases hft : fitB (b * s) (rs ++ out) r.length
        · rw [if_neg (by decide), if_neg (by decide)]
          rintro e w4 ⟨rfl, a4, h4, u4⟩
          have HN := Lib.hid (HE.out w4 a4 hft h4 u4)
          clear hft h4 u4 q0 q2
          go_wp2_with fail
          go_roundw
          case rel => exact ⟨k + 1, out, fm, _, _, by simp, by simp, by omega, HN⟩
          case measure => simp [intOf]; omega
        · rw [if_pos rfl, if_pos rfl]
          rintro e w4 ⟨rfl, a4, h4, u4⟩
          have HFT := Lib.hid hft
          have H4 := Lib.hid h4
          have U4 := Lib.hid u4
          have T4 : Hid (Tab w4 (.slice oa out.length oc) out o) := hD.out.tab.keep u4.keeps (u4.off hD.out.ap)
          have b4 : Below B wr w4 := u4.below sa'.out (by omega)
          have z4 := b4.size
          clear hft h4 u4
          obtain ⟨us4, hu1, hu2, hu3⟩ := T4.out.row
          have V1 := Lib.hid hu1
          have V2 := Lib.hid hu2
          have V3 := Lib.hid hu3
          clear hu1 hu2 hu3
          have hb1 : b1 < B := HL.out.lt b1 rfl (by omega)
          have p2 : w4.cell? ⟨b1, off + k * 2 + 1, none⟩ = some (.slice va r.length vc) := (b4.cell (p := ⟨b1, off + k * 2 + 1, none⟩) hb1).trans q2
          have n2 : ∀ ob, (w4.alloc ob).cell? ⟨b1, off + k * 2 + 1, none⟩ = some (.slice va r.length vc) := fun ob => ((Keeps.refl (fun _ => False) w4).alloc ob).cell (fun f => f) p2
          have HB4 : Hid (Rb w4 (.slice va r.length vc) r) := HB.out.below b4 HBB.out
          have hut : Hid (∀ i, (Value.slice va r.length vc).ownBlock = some i → 0 < r.length → i < w4.heap.size ∧ ¬ o.m i) := fun i h1 h2 => by
            have h3 := HBB.out i h1 h2
            exact ⟨by omega, fun h4 => by have := hD.out.om i h4; omega⟩
          clear q0 q2 b4
          go_wp2_with ((at_builtin; refine wpList_append_lies _ rfl _ _ 50 rfl 0 30 i3 (.slice none 0 0) 1 24 Try.underlying50 hi30 hy0 hy1 hy2 rfl (by decide) (.slice oa out.length oc) out.length us4 rfl (own_keep V2.out ((Keeps.refl (fun _ => False) w4).alloc _) (fun _ _ f => f)) ⟨w4.heap.size, 0, none⟩ 1 1 [.slice va r.length vc] rfl rfl (World.news_of_block (heap_alloc_new w4 _)) (by simp [Value.oneCell']) (by decide) (by unfold maxLen; omega) (by omega) (Nat.zero_le _) (w4.heap.size + 1) (by simp) ?_; rintro g cap w7 hown7 hg7 hat7 -; have HT7 := Lib.hid (Tab.snoc T4.out HB4.out hut.out rfl V1.out V3.out hown7 hg7 hat7); clear hown7 hg7 hat7))
          obtain ⟨o7, t7, k7, m7, s7⟩ := HT7.out
          have HN := Lib.hid (HD.out _ w4 w7 a4 o7 HFT.out H4.out U4.out t7 k7 m7 (fun i hi => (s7 i hi).imp id (fun e => e.imp id (fun e => HBB.out i e.1 e.2))))
          clear t7 k7 m7 s7
          go_roundw
          case rel => exact ⟨k + 1, out ++ [r], fm, _, _, by simp, by simp, by omega, HN⟩
          case measure => simp [intOf]; omega
      · have HSY := Lib.hid hsy
        rw [hsy] at q0
        clear hsy
        go_wp2_with fail
        refine (Sync_JJ wr j d b s (rs ++ out) (rs.length + fm) a' hD.out.jj).mono ?_
        rintro e w4 ⟨rfl, a4, h4, u4⟩
        have HN := Lib.hid (hD.out.synced hB hlt HSY.out h4 u4)
        clear h4 u4 q0 q2
        go_wp2_with fail
        go_roundw
        case rel => exact ⟨k + 1, out, out.length, _, _, by simp, by simp, by omega, HN⟩
        case measure => simp [intOf]; omega
    · obtain rfl : k = l.length := by omega
      go_wp2_with fail
      go_ret2
      exact ⟨_, _, _, _, _, rfl, hD.out⟩
end Go.Proofs.Ytbbjeoepoocofaa
