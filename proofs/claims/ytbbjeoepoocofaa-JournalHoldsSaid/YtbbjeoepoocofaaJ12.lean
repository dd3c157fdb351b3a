/- A journal is opened. -/
import Derived.Test.YtbbjeoepoocofaaJ11
namespace Go.Proofs.Ytbbjeoepoocofaa
open Go.RowKit

/-- While the image is read: so many blocks of it. -/
structure Op0 (w : World) (d : Nat) (D : Dk) (k : Nat) (bv : Value) (wr : World) : Prop where
  head : wr.heap[w.heap.size]? = some (.cells #[bv, .int .i64 0, .pointer (some ⟨d, 0, none⟩), .slice none 0 0] 97)
  img : wr.ownsRow w.heap.size 5 1 bv (k * D.size) (bts (D.now.take (k * D.size)))
  below : Below w.heap.size w wr

theorem Op0.next {w w3 w4 : World} {d : Nat} {D : Dk} {k a bc vc : Nat} {ba va : Option Addr} {X : List Int} (B3 : Below w.heap.size w w3)
    (hs : (k + 1) * D.size = a + D.size) (hX : bts (D.now.take a) ++ bts X = bts (D.now.take ((k + 1) * D.size)))
    (I3 : w3.ownsRow w.heap.size 5 1 (.slice ba a bc) a (bts (D.now.take a))) (H4 : w4.heap[w.heap.size]? = some (.cells #[.slice ba a bc, .int .i64 0, .pointer (some ⟨d, 0, none⟩), .slice none 0 0] 97))
    (K4 : Keeps (fun k => (Value.slice ba a bc).ownBlock = some k) w3 w4) (O4 : w4.ownsRow w.heap.size 5 1 (.slice va (a + D.size) vc) (a + D.size) (bts (D.now.take a) ++ bts X)) :
    Op0 w d D (k + 1) (.slice va (a + D.size) vc) (w4.setCell ⟨w.heap.size, 0, none⟩ (.slice va (a + D.size) vc)) where
  head := by
    rw [heap_setCell_same w4 w.heap.size 0 _ _ _ H4]
    rfl
  img := by
    rw [hs, ← hs, ← hX, hs]
    exact own_keep O4 (Keeps.setCell (X := fun k => k = w.heap.size) (a := ⟨w.heap.size, 0, none⟩) (Keeps.refl _ w4) (.inl rfl) _) (fun k e e2 => own_off O4 H4 (by decide) (by rw [e, e2]))
  below := (B3.trans (K4.below B3.size (fun k e => (own_lt I3 k e).1))).setCell (p := ⟨w.heap.size, 0, none⟩) (Nat.le_refl _) _

theorem frms_len4 (rs : List (List Int)) : 4 * rs.length ≤ (frms rs).length := by
  induction rs with
  | nil => exact Nat.le_refl _
  | cons r rs ih => simp only [frms, List.length_append, List.length_cons, frm_length]; omega

/-- While the records are read. -/
def Op1 (w : World) (d : Nat) (D : Dk) (rs : List (List Int)) (fin : Nat) (M S : Nat → Prop) (ib ic : Nat) (rv : Value) (vs : List Value) (wr : World) : Prop :=
  JL wr w.heap.size d D.now fin rs M S ib ic rv vs ∧ Chain D.now rs fin ∧ Below w.heap.size w wr ∧ ∀ k, S k → w.heap.size ≤ k

theorem Op0.one {w wr : World} {d : Nat} {D : Dk} {bv : Value} (h : Op0 w d D D.blocks bv wr) (hl : D.now.length = D.blocks * D.size) (hp : 0 < D.blocks * D.size) (hB : isB D.now) (hsz : D.blocks * D.size ≤ 100000) :
    ∃ M S ib ic rv vs, Op1 w d D [] 0 M S ib ic rv vs wr := by
  have hI := h.img
  rw [← hl, List.take_length] at hI
  obtain ⟨g, q, rfl, g1, g2⟩ := hI.form (by omega)
  have hz := h.below.size
  have hj := (Array.getElem?_eq_some_iff.1 h.head).1
  refine ⟨fun k => k = w.heap.size ∨ k = g, fun k => w.heap.size ≤ k ∧ k < wr.heap.size, g, q, .slice none 0 0, [], { head := h.head, img := own_mono hI (Nat.zero_le _), recs := Tbv.nil _ _, inner := fun u hu => by simp at hu, mj := .inl rfl, mi := .inr rfl, mr := fun k e => by simp [Value.ownBlock] at e, sub := ?_, lt := fun k hk => hk.2, bytes := hB, finle := Nat.zero_le _, lenle := by omega, rslen := by simp }, Chain.nil _, h.below, fun k hk => hk.1⟩
  rintro k (rfl | rfl)
  · exact ⟨Nat.le_refl _, hj⟩
  · exact ⟨g1, g2⟩

/-- The end is moved. -/
theorem JL.moved {w : World} {j d : Nat} {L : List Int} {fin : Nat} {rs : List (List Int)} {M S : Nat → Prop} {ib ic : Nat} {rv : Value} {vs : List Value} (h : JL w j d L fin rs M S ib ic rv vs) (f : Nat) (hf : f ≤ L.length) :
    JL (w.setCell ⟨j, 1, none⟩ (.int .i64 f)) j d L f rs M S ib ic rv vs := by
  have k : Keeps (fun k => k = j) w (w.setCell ⟨j, 1, none⟩ (.int .i64 f)) := Keeps.setCell (X := fun k => k = j) (a := ⟨j, 1, none⟩) (Keeps.refl _ w) (.inl rfl) _
  have hji : ib ≠ j := fun e => by
    have h1 := own_off h.img h.head (by decide)
    simp [Value.ownBlock, e] at h1
  exact { head := (by
            rw [heap_setCell_same w j 1 _ _ _ h.head]
            rfl)
          img := own_keep h.img k (fun i e e2 => by
            simp [Value.ownBlock] at e
            exact hji (e.trans e2))
          recs := h.recs.off h.head (by decide) (by decide) k
          inner := h.inner
          mj := h.mj
          mi := h.mi
          mr := h.mr
          sub := h.sub
          lt := fun i hi => Nat.lt_of_lt_of_le (h.lt i hi) k.size
          bytes := h.bytes
          finle := hf
          lenle := h.lenle
          rslen := h.rslen }

theorem Op1.next {w wr w8 : World} {d : Nat} {D : Dk} {rs : List (List Int)} {fin : Nat} {M S : Nat → Prop} {ib ic : Nat} {rv rv' : Value} {vs vs' : List Value} {x : List Int} {u : Value} {g f : Nat} (h : Op1 w d D rs fin M S ib ic rv vs wr) (hx : Nxt D.now fin x) (hf : 4 + 2 * x.length = f)
    (HF : JL w8 w.heap.size d D.now fin (rs ++ [x]) (fun k => M k ∨ k = g) (fun k => S k ∨ k = g ∨ u.ownBlock = some k) ib ic rv' vs' ∧ Keeps (fun k => k = w.heap.size ∨ rv.ownBlock = some k) wr w8 ∧ (∀ k, k = g → M k ∨ wr.heap.size ≤ k) ∧ (∀ k, u.ownBlock = some k → wr.heap.size ≤ k)) :
    Op1 w d D (rs ++ [x]) (fin + f) (fun k => M k ∨ k = g) (fun k => S k ∨ k = g ∨ u.ownBlock = some k) ib ic rv' vs' (w8.setCell ⟨w.heap.size, 1, none⟩ (.int .i64 ((fin : Int) + (f : Int)))).drew := by
  obtain ⟨h1, h2, h3, h4⟩ := h
  obtain ⟨k1, k2, k3, k4⟩ := HF
  have hs := h2.snoc hx
  rw [hf] at hs
  have hz := h3.size
  have e : (fin : Int) + (f : Int) = ((fin + f : Nat) : Int) := by omega
  rw [e]
  refine ⟨(k1.moved (fin + f) hs.le).keep (X := fun _ => False) ((Keeps.refl _ _).drew) (fun _ _ f => f), hs, Below.drew ((h3.trans (k2.below hz ?_)).setCell (p := ⟨w.heap.size, 1, none⟩) (Nat.le_refl _) _), ?_⟩
  · rintro k (rfl | hk)
    · exact Nat.le_refl _
    · exact h4 k (h1.sub k (h1.mr k hk))
  · rintro k (hk | hk | hk)
    · exact h4 k hk
    · rcases k3 k hk with h | h
      · exact h4 k (h1.sub k h)
      · omega
    · have := k4 k hk; omega
theorem meas1 {W wr : World} {j N fin f : Nat} (h : wr.cell? ⟨j, 1, none⟩ = some (.int .i64 fin)) (h2 : W.cell? ⟨j, 1, none⟩ = some (.int .i64 ((fin : Int) + (f : Int)))) (hf : 0 < f) (hl : fin + f ≤ N) :
    N - (intOf ((W.cell? ⟨j, 1, none⟩).getD undef)).toNat < N - (intOf ((wr.cell? ⟨j, 1, none⟩).getD undef)).toNat := by
  rw [h, h2]
  simp [intOf]
  omega

theorem part_zero {L : List Int} {fin : Nat} (h : ∀ i, i < (part L fin L.length).length → (part L fin L.length).getD i 0 = 0) : ∀ p, fin ≤ p → L.getD p 0 = 0 := by
  intro p hp
  have hl := part_len (L := L) (lo := fin) (hi := L.length) (Nat.le_refl _)
  by_cases hlt : p < L.length
  · have := h (p - fin) (by omega)
    rw [part_at (by omega), show fin + (p - fin) = p by omega] at this
    exact this
  · simp only [List.getD]
    rw [List.getElem?_eq_none (by omega)]
    rfl
theorem clear_run {w : World} {j d : Nat} {L : List Int} {fin : Nat} {rs : List (List Int)} {M S : Nat → Prop} {ib ic : Nat} {rv : Value} {vs : List Value} (h : JL w j d L fin rs M S ib ic rv vs) (hf : fin < L.length) (ty : TypeId) (c : Nat) :
    (Builtin.clear_ #[30] ty #[.slice (some ⟨ib, fin, none⟩) (L.length - fin) c]).run Try.prog w = .ok (.tuple #[]) (w.setCells ib fin (List.replicate (L.length - fin) (.int .u8 0))) :=
  Lib.run_clear_slice w 30 5 ty (.int .u8 0) Try.underlying30 Try.zeroValue5 rfl rfl ib fin (L.length - fin) c (by omega) (fun i hi => by
    rw [h.img.cellAt (fin + i) (by omega), bts_get (by omega)]; rfl) (fun i _ => h.img.frozenAt (fin + i))

/-- Behind an Open: the journal, in new memory; its disk, written through and synced. -/
def Opened (d : Nat) (D : Dk) (Md Sd : Nat → Prop) (w : World) (e : Ending) (w' : World) : Prop :=
  ∃ j rs fin M' S' Md' Sd', e = .returned (.tuple #[.pointer (some ⟨j, 0, none⟩), .int .i64 0]) ∧ Recs D.now rs fin ∧ Jr w' j d (clr D.now fin) fin rs M' S' ∧
    DiskAt w' d (D.reset (clr D.now fin)) Md' Sd' ∧ Keeps Md w w' ∧ (∀ k, S' k → w.heap.size ≤ k) ∧ (∀ k, Md' k → Md k ∨ w.heap.size ≤ k) ∧ (∀ k, Sd' k → Sd k ∨ w.heap.size ≤ k) ∧ (∀ k, S' k → ¬ Md' k) ∧ (∀ k, M' k → ¬ Sd' k)

theorem Opened.end {w w5 w6 : World} {d : Nat} {D D5 : Dk} {Md Sd Md5 Sd5 : Nat → Prop} {rs : List (List Int)} {fin : Nat} {M S : Nat → Prop} {ib ic : Nat} {rv : Value} {vs : List Value}
    (HR : Recs D.now rs fin) (J5 : JL w5 w.heap.size d (clr D.now fin) fin rs M S ib ic rv vs) (K5 : Keeps Md w w5) (HS : ∀ k, S k → w.heap.size ≤ k) (hD : D5.sync = D.reset (clr D.now fin))
    (m5 : ∀ k, Md5 k → Md k ∨ w.heap.size ≤ k) (s5 : ∀ k, Sd5 k → Sd k ∨ w.heap.size ≤ k) (a5 : ∀ k, S k → ¬ Md5 k) (b5 : ∀ k, M k → ¬ Sd5 k)
    (hW : ∃ M' S', DiskAt w6 d D5.sync M' S' ∧ Keeps Md5 w5 w6 ∧ (∀ k, M' k → Md5 k ∨ w5.heap.size ≤ k) ∧ (∀ k, S' k → Sd5 k ∨ w5.heap.size ≤ k)) :
    Opened d D Md Sd w (.returned (.tuple #[.pointer (some ⟨w.heap.size, 0, none⟩), .int .i64 0])) w6 := by
  obtain ⟨M', S', h1, h2, h3, h4⟩ := hW
  have hz := K5.size
  rw [hD] at h1
  refine ⟨w.heap.size, rs, fin, M, S, M', S', rfl, HR, ⟨_, _, _, _, J5.keep h2 a5⟩, h1, K5.trans h2 m5, HS, fun k hk => (h3 k hk).elim (m5 k) (fun h => .inr (by omega)), fun k hk => (h4 k hk).elim (s5 k) (fun h => .inr (by omega)), fun k hk hm => ?_, fun k hk hs => ?_⟩
  · have := J5.lt k hk
    exact (h3 k hm).elim (a5 k hk) (fun h => by omega)
  · have := J5.lt k (J5.sub k hk)
    exact (h4 k hs).elim (b5 k hk) (fun h => by omega)

set_option maxRecDepth 100000 in
set_option maxHeartbeats 4000000 in
theorem Open_walk (w : World) (d : Nat) (D : Dk) (Md Sd : Nat → Prop) (hd : DiskAt w d D Md Sd) (hB : isB D.now) (hsz : D.blocks * D.size ≤ 100000) (ho : D.open_.length ≤ 800000) :
    Calls Try.prog 27 #[.pointer (some ⟨d, 0, none⟩)] w (Opened d D Md Sd w) := by
  have HD := Lib.hid hd
  have HBB := Lib.hid hB
  obtain ⟨p1, p2, p3, p4⟩ : 1 ≤ D.blocks ∧ D.blocks ≤ 1024 ∧ 1 ≤ D.size ∧ D.size ≤ 4096 := by obtain ⟨_, _, _, _, _, _, li⟩ := hd; exact li.pos
  have HNL : Hid (D.now.length = D.blocks * D.size) := by obtain ⟨_, _, _, _, _, _, li⟩ := hd; exact li.nowLen
  clear hd hB
  obtain ⟨i0, hi5, hz0, hz1, hz2⟩ := info_parts info5
  go_enter Try.func27, Try.ntmps27
  go_wp2_with fail
  have B0 : Below w.heap.size w (w.alloc (.cells #[.slice none 0 0, .int .i64 0, .pointer (some ⟨d, 0, none⟩), .slice none 0 0] 97)) := (Below.refl _ _).alloc (Nat.le_refl _) _
  have O0 : Hid (Op0 w d D 0 (.slice none 0 0) (w.alloc (.cells #[.slice none 0 0, .int .i64 0, .pointer (some ⟨d, 0, none⟩), .slice none 0 0] 97))) :=
    ⟨heap_alloc_new w _, by rw [Nat.zero_mul, List.take_zero]; exact World.ownsRow_nil _ _ _ _, B0⟩
  generalize w.alloc (.cells #[.slice none 0 0, .int .i64 0, .pointer (some ⟨d, 0, none⟩), .slice none 0 0] 97) = w0 at *
  refine (Blocks_any w0 d D Md Sd (HD.out.below B0)).mono ?_
  rintro e w1 ⟨rfl, rfl⟩
  clear B0
  go_wp2_with fail
  go_loopw [18] (fun iv wr => ∃ k : Nat, iv = .int .i64 k ∧ k ≤ D.blocks ∧ ∃ bv, Hid (Op0 w d D k bv wr)) (fun iv _ => D.blocks - (intOf iv).toNat)
  case atStart => exact ⟨0, rfl, Nat.zero_le _, _, O0⟩
  case round =>
    obtain ⟨k, rfl, hk, bv, hO⟩ := hrel
    by_cases hlt : k < D.blocks
    · obtain ⟨ba, bc, rfl⟩ := own_slice hO.out.img
      obtain ⟨s1, s2, s3⟩ := size_facts p2 p4 hlt
      have hbl : Hid ((D.block k).length = D.size) := block_length HNL.out p2 p4 hlt
      have hsn : Hid (bts (D.now.take (k * D.size)) ++ bts (D.block k) = bts (D.now.take ((k + 1) * D.size))) := by
        unfold Hid
        rw [← block_snoc k]
        simp [bts]
      have HS3 := Lib.hid s3
      clear s3
      go_wp2_with fail
      refine (Read_yes wr d D Md Sd k hlt (HD.out.below hO.out.below)).mono ?_
      rintro e w3 ⟨v, rfl, hown3, b3⟩
      rw [hbl.out] at hown3
      obtain ⟨va, vc, rfl⟩ := own_slice hown3
      have h3 := (b3.block w.heap.size (Array.getElem?_eq_some_iff.1 hO.out.head).1).trans hO.out.head
      have I3 : Hid (w3.ownsRow w.heap.size 5 1 (.slice ba (k * D.size) bc) (k * D.size) (bts (D.now.take (k * D.size)))) := own_same hO.out.img b3
      have X3 : Hid (Rd w3 1 (.slice va D.size vc) D.size (bts (D.block k))) := Rd.of_own hown3
      have B3 : Below w.heap.size w w3 := hO.out.below.trans (b3.mono hO.out.below.size)
      have c0 : w3.cell? ⟨w.heap.size, 0, none⟩ = some (.slice ba (k * D.size) bc) := by rw [cell_of_row w3 w.heap.size 0 _ _ _ h3]; rfl
      have f0 : w3.frozen? ⟨w.heap.size, 0, none⟩ = false := frozen_of_row w3 w.heap.size 0 _ _ h3
      have H3 := Lib.hid h3
      have z3 := B3.size
      clear hown3 b3 h3
      generalize D.block k = X at *
      generalize k * D.size = a at *
      go_wp2_with ((at_builtin; refine wpList_append_rd rfl _ _ 30 rfl w.heap.size 5 i0 (.int .u8 0) 1 1 Try.underlying30 hi5 hz0 hz1 hz2 rfl (by decide) (.slice ba a bc) a _ rfl I3.out (.slice va D.size vc) D.size (bts X) rfl X3.out bts_one (by unfold maxLen; omega) (by omega) z3 ?_; rintro v4 w4 hown4 hg4 -; obtain ⟨va4, vc4, rfl⟩ := own_slice hown4; have k4 : Keeps (fun k => (Value.slice ba a bc).ownBlock = some k) w3 w4 := Keeps.of_grown hg4 (fun _ e => e); have h4 := (k4.block w.heap.size (Array.getElem?_eq_some_iff.1 H3.out).1 (own_off I3.out H3.out (by decide))).trans H3.out; have f4 := frozen_of_row w4 w.heap.size 0 _ _ h4; have c4 : w4.cell? ⟨w.heap.size, 0, none⟩ = some (.slice ba a bc) := (by rw [cell_of_row w4 w.heap.size 0 _ _ _ h4]; rfl); have H4 := Lib.hid h4; have K4 := Lib.hid k4; have O4 := Lib.hid hown4; clear hg4 hown4 h4 k4))
      go_roundw
      case rel => exact ⟨k + 1, rfl, hlt, _, Op0.next B3 HS3.out hsn.out I3.out H4.out K4.out O4.out⟩
      case measure => simp [intOf]; omega
    · obtain rfl : k = D.blocks := by omega
      have hpos : 0 < D.blocks * D.size := Nat.mul_pos p1 p3
      obtain ⟨M, S, ib, ic, rv, vs, h1⟩ := hO.out.one HNL.out hpos HBB.out hsz
      have H1 : Hid (Op1 w d D [] 0 M S ib ic rv vs wr) := h1
      clear h1 hO O0
      go_wp2_with fail
      go_loopw [8] (fun _ wr => ∃ (rs : List (List Int)) (fin : Nat) (M S : Nat → Prop) (ib ic : Nat) (rv : Value) (vs : List Value), Hid (Op1 w d D rs fin M S ib ic rv vs wr)) (fun _ wr => D.now.length - (intOf ((wr.cell? ⟨w.heap.size, 1, none⟩).getD undef)).toNat)
      case atStart => exact ⟨_, _, _, _, _, _, _, _, H1⟩
      case round =>
        obtain ⟨rs, fin, M, S, ib, ic, rv, vs, hO⟩ := hrel
        obtain ⟨c0, c1, c2, c3⟩ := hO.out.1.cells
        have hfl := hO.out.1.finle
        have hll := hO.out.1.lenle
        obtain ⟨rp, rc, rfl⟩ := own_slice hO.out.1.recs.row
        go_wp2_with fail
        refine (next_any wr _ D.now hO.out.1.rb HBB.out fin (by omega)).mono ?_
        rintro e w2 ⟨b2, (⟨x, v, hx, rfl, hown⟩ | ⟨hno, v, rfl⟩)⟩
        · obtain ⟨va, vc, rfl⟩ := own_slice hown
          obtain ⟨i3, hi30, hy0, hy1, hy2⟩ := info_parts info30
          have J2 : Hid (JL w2 w.heap.size d D.now fin rs M S ib ic (.slice rp rs.length rc) vs) := hO.out.1.keep (X := fun _ => False) (Keeps.of_below b2) (fun _ _ f => f)
          have u3 := J2.out.cells.2.2.2
          have n3 : ∀ o, (w2.alloc o).cell? ⟨w.heap.size, 3, none⟩ = some (.slice rp rs.length rc) := fun o => ((Keeps.refl (fun _ => False) w2).alloc o).cell (fun f => f) u3
          have HX := Lib.hid hx
          have HOW := Lib.hid hown
          have HB2 := Lib.hid b2
          have hxl : fin + (4 + 2 * x.length) ≤ D.now.length := (hO.out.2.1.snoc hx).le
          have hrl : rs.length < 1000000 := by
            have := frms_len4 rs
            have := hO.out.2.1.fin
            omega
          clear hx hown b2 c0 c1 c2 c3
          go_wp2_with ((at_builtin; refine wpList_append_lies _ rfl _ _ 50 rfl 0 30 i3 (.slice none 0 0) 1 24 Try.underlying50 hi30 hy0 hy1 hy2 rfl (by decide) (.slice rp rs.length rc) rs.length vs rfl (own_keep J2.out.recs.row ((Keeps.refl (fun _ => False) w2).alloc _) (fun _ _ f => f)) ⟨w2.heap.size, 0, none⟩ 1 1 [.slice va x.length vc] rfl rfl (World.news_of_block (heap_alloc_new w2 _)) (by simp [Value.oneCell']) (by decide) (by unfold maxLen; omega) (by omega) (Nat.zero_le _) (w2.heap.size + 1) (by simp) ?_; rintro g cap w7 hown7 hg7 hat7 hlt7; have k7 : Keeps (fun k => (Value.slice rp rs.length rc).ownBlock = some k) w2 w7 := ((Keeps.refl _ w2).alloc _).trans (Keeps.of_grown (X := fun k => (Value.slice rp rs.length rc).ownBlock = some k) hg7 (fun _ e => e)) (fun _ e => .inl e); have t7 := (k7.block w.heap.size (J2.out.lt _ (J2.out.sub _ J2.out.mj)) (own_off J2.out.recs.row J2.out.head (by decide))).trans J2.out.head; have u73 : w7.cell? ⟨w.heap.size, 3, none⟩ = some (.slice rp rs.length rc) := (by rw [cell_of_row w7 _ 3 _ _ _ t7]; rfl); have u74 : w7.frozen? ⟨w.heap.size, 3, none⟩ = false := frozen_of_row w7 _ 3 _ _ t7; have HF := Lib.hid (JL.more hO.out.1 hrl (Keeps.of_below HB2.out) HOW.out hown7 hg7 hat7); clear hown7 hg7 hat7 hlt7 k7 t7))
          generalize w7.setCell ⟨w.heap.size, 3, none⟩ (.slice (some ⟨g, 0, none⟩) (rs.length + 1) cap) = w8 at *
          have m1 := HF.out.1.cells.2.1
          have m2 := HF.out.1.free 1
          clear u73 u74 u3 n3
          obtain ⟨f, hf⟩ : ∃ f, 4 + 2 * x.length = f := ⟨_, rfl⟩
          have FR : ∀ w, Calls Try.prog 54 #[.int .i64 x.length] w fun r w' => r = .returned (.int .i64 (f : Int)) ∧ w = w' := fun w => by
            have := frame_any w x.length (by omega)
            rw [hf] at this
            exact this
          have HFR := Lib.hid FR
          rw [hf] at hxl
          have HFF := Lib.hid hf
          have hw : IntKind.i64.wrap ((fin : Int) + (f : Int)) = (fin : Int) + (f : Int) := by rw [IntKind.wrap_i64]; omega
          clear FR hf
          go_region_law (first
            | (go_simp; go_at_call 54; refine (HFR.out _).mono ?_; rintro r w9 ⟨rfl, rfl⟩)
            | fail)
          all_goals
            have HN := Lib.hid (Op1.next hO.out HX.out HFF.out HF.out)
            have hf0 : 0 < f := by have := HFF.out; omega
            clear hw m1 m2
            go_wp2_with fail
            go_roundw
            case rel => exact ⟨_, _, _, _, _, _, _, _, HN⟩
            case measure => exact meas1 hO.out.1.cells.2.1 (by have := HN.out.1.cells.2.1; simpa using this) hf0 hxl
        · have J2 : Hid (JL w2 w.heap.size d D.now fin rs M S ib ic (.slice rp rs.length rc) vs) := hO.out.1.keep (X := fun _ => False) (Keeps.of_below b2) (fun _ _ f => f)
          have B2 : Hid (Below w.heap.size w w2) := hO.out.2.2.1.trans (b2.mono hO.out.2.2.1.size)
          obtain ⟨u0, u1, u2, u3⟩ := J2.out.cells
          have HR : Hid (Recs D.now rs fin) := ⟨hO.out.2.1, hno⟩
          have HS : Hid (∀ k, S k → w.heap.size ≤ k) := hO.out.2.2.2
          clear hno b2 c0 c1 c2 c3
          go_wp2_with fail
          have hDB : Hid (DiskAt w2 d D Md Sd) := HD.out.below B2.out
          have hdl : Hid (∀ k, Sd k → k < w.heap.size) := HD.out.lt
          have hds : Hid (∀ k, Md k → Sd k) := HD.out.sub
          have hicc := J2.out.rb.capOk.2
          have hic1 : D.now.length ≤ ic := hicc.1
          have hic2 : ic ≤ 9223372036854775807 := hicc.2
          have hfic : fin ≤ ic := by omega
          clear hicc hO H1 u3 u2
          by_cases hne : ic = fin
          · go_quiet (fail)
            go_wp2_with fail
            have hL3 := (Keeps.refl (fun _ => False) w2).drewN nq
            have J3 : Hid (JL (w2.drewN nq) w.heap.size d D.now fin rs M S ib ic (.slice rp rs.length rc) vs) := J2.out.keep hL3 (fun _ _ f => f)
            have DB3 : Hid (DiskAt (w2.drewN nq) d D Md Sd) := hDB.out.keep hL3 (fun _ _ f => f)
            have B3 : Hid (Below w.heap.size w (w2.drewN nq)) := Below.drewN B2.out nq
            have hll2 : Hid (D.now.length = fin) := by unfold Hid; omega
            clear hL3 J2 hDB B2 u0 u1 hne
            generalize w2.drewN nq = w3 at *
            have R3 : Hid (Rb w3 (.slice (some ⟨ib, 0, none⟩) (D.now.length - fin) 0) (part D.now fin D.now.length)) := by
              have hp := part_len (L := D.now) (lo := fin) (hi := D.now.length) (Nat.le_refl _)
              have h0 := hll2.out
              exact ⟨by rw [bts_length]; omega, .inl ⟨.inr ⟨⟨ib, 0, none⟩, 0, by rw [show D.now.length - fin = 0 by omega], Nat.zero_le _⟩, by omega⟩⟩
            refine (contains_any w3 _ _ R3.out).mono ?_
            rintro e w4 ⟨rfl, (⟨rfl, hz⟩ | ⟨rfl, hk⟩)⟩
            · have HZ := Lib.hid (part_zero hz)
              clear hz
              go_wp2_with fail
              refine (Sync_yes w3 d D Md Sd DB3.out).mono ?_
              rintro e w6 ⟨rfl, hW⟩
              have HW := Lib.hid hW
              clear hW
              go_wp2_with fail
              go_ret2
              refine Opened.end HR.out (D5 := D) (Md5 := Md) (Sd5 := Sd) (by rw [clr_same hfl HZ.out]; exact J3.out) (Keeps.of_below B3.out) HS.out (reset_same hfl HZ.out) (fun k hk => .inl hk) (fun k hk => .inl hk) (fun k hk hm => ?_) (fun k hk hs => ?_) HW.out
              · have := HS.out k hk; have := hdl.out k (hds.out k hm); omega
              · have := HS.out k (J3.out.sub k hk); have := hdl.out k hs; omega
            · obtain ⟨i, hi, -⟩ := hk
              rw [part_len (Nat.le_refl _)] at hi
              have := hll2.out
              omega
          · go_quiet (fail)
            go_wp2_with fail
            have hL3 := (Keeps.refl (fun _ => False) w2).drewN nq
            have J3 : Hid (JL (w2.drewN nq) w.heap.size d D.now fin rs M S ib ic (.slice rp rs.length rc) vs) := J2.out.keep hL3 (fun _ _ f => f)
            have DB3 : Hid (DiskAt (w2.drewN nq) d D Md Sd) := hDB.out.keep hL3 (fun _ _ f => f)
            have B3 : Hid (Below w.heap.size w (w2.drewN nq)) := Below.drewN B2.out nq
            clear hL3 J2 hDB B2 u0 u1
            generalize w2.drewN nq = w3 at *
            have R3 : Hid (Rb w3 (.slice (some ⟨ib, fin, none⟩) (D.now.length - fin) (ic - fin)) (part D.now fin D.now.length)) := J3.out.rb.part hfl (Nat.le_refl _)
            refine (contains_any w3 _ _ R3.out).mono ?_
            rintro e w4 ⟨rfl, (⟨rfl, hz⟩ | ⟨rfl, hk⟩)⟩
            · have HZ := Lib.hid (part_zero hz)
              clear hz
              go_wp2_with fail
              refine (Sync_yes w3 d D Md Sd DB3.out).mono ?_
              rintro e w6 ⟨rfl, hW⟩
              have HW := Lib.hid hW
              clear hW
              go_wp2_with fail
              go_ret2
              refine Opened.end HR.out (D5 := D) (Md5 := Md) (Sd5 := Sd) (by rw [clr_same hfl HZ.out]; exact J3.out) (Keeps.of_below B3.out) HS.out (reset_same hfl HZ.out) (fun k hk => .inl hk) (fun k hk => .inl hk) (fun k hk hm => ?_) (fun k hk hs => ?_) HW.out
              · have := HS.out k hk; have := hdl.out k (hds.out k hm); omega
              · have := HS.out k (J3.out.sub k hk); have := hdl.out k hs; omega
            · have hlt : fin < D.now.length := by
                obtain ⟨i, hi, -⟩ := hk
                rw [part_len (Nat.le_refl _)] at hi
                omega
              have hcl := fun ty => clear_run J3.out hlt ty (ic - fin)
              clear hk
              go_wp2_with fail
              have hMs : Hid (∀ k, M k → ¬ Sd k) := fun k hk hs => by
                have := HS.out k (J3.out.sub k hk)
                have := hdl.out k hs
                omega
              have hMd : Hid (∀ k, Md k → ¬ S k) := fun k hm hk => by
                have := HS.out k hk
                have := hdl.out k (hds.out k hm)
                omega
              have hCl : Hid ((clr D.now fin).length = D.now.length) := clr_length hfl
              have J5 : Hid (JL (w3.setCells ib fin (List.replicate (D.now.length - fin) (.int .u8 0))) w.heap.size d (clr D.now fin) fin rs M S ib ic (.slice rp rs.length rc) vs) := J3.out.cleared.1
              have K5 : Hid (Keeps M w3 (w3.setCells ib fin (List.replicate (D.now.length - fin) (.int .u8 0)))) := J3.out.cleared.2
              have DB5 : Hid (DiskAt (w3.setCells ib fin (List.replicate (D.now.length - fin) (.int .u8 0))) d D Md Sd) := DB3.out.keep K5.out (fun k hs hm => hMs.out k hm hs)
              have B5 : Hid (Below w.heap.size w (w3.setCells ib fin (List.replicate (D.now.length - fin) (.int .u8 0)))) := B3.out.trans (K5.out.below B3.out.size (fun k hk => HS.out k (J3.out.sub k hk)))
              clear hcl J3 K5 DB3 B3 R3
              generalize w3.setCells ib fin (List.replicate (D.now.length - fin) (.int .u8 0)) = w5 at *
              have u0 : w5.cell? ⟨w.heap.size, 0, none⟩ = some (.slice (some ⟨ib, 0, none⟩) D.now.length ic) := by rw [J5.out.cells.1, hCl.out]
              have u1 := J5.out.cells.2.1
              have z5 := B5.out.size
              have hkq : Hid (∀ w6, Keeps Md w5 w6 → w6.cell? ⟨w.heap.size, 0, none⟩ = some (.slice (some ⟨ib, 0, none⟩) D.now.length ic) ∧ w6.cell? ⟨w.heap.size, 1, none⟩ = some (.int .i64 fin)) := fun w6 k6 =>
                ⟨k6.cell (a := ⟨w.heap.size, 0, none⟩) (fun h => hMd.out _ h (J5.out.sub _ J5.out.mj)) u0, k6.cell (a := ⟨w.heap.size, 1, none⟩) (fun h => hMd.out _ h (J5.out.sub _ J5.out.mj)) u1⟩
              go_region_held3 (fun w' => w'.cell? ⟨w.heap.size, 0, none⟩ = some (.slice (some ⟨ib, 0, none⟩) D.now.length ic) ∧ w'.cell? ⟨w.heap.size, 1, none⟩ = some (.int .i64 fin))
                (first
                  | assumption
                  | exact ⟨u0, u1⟩
                  | exact hkq.out _ (by assumption)
                  | fail)
                (first
                  | (go_at_call 57; refine (write_any w5.drew w.heap.size d D (clr D.now fin) fin rs M S Md Sd ⟨_, _, _, _, J5.out.keep (X := fun _ => False) ((Keeps.refl _ _).drew) (fun _ _ f => f)⟩ (DB5.out.keep (X := fun _ => False) ((Keeps.refl _ _).drew) (fun _ _ f => f)) hMd.out fin D.now.length (by rw [hCl.out]; exact Nat.le_refl _) (by omega) (by rw [hCl.out]; exact HNL.out) (by omega)).mono ?_; rintro e w6 ⟨rfl, n, Md6, Sd6, hd6, hall, hend, k6, m6, s6⟩; have k6' : Keeps Md w5 w6 := ⟨k6.os, k6.tape, k6.output, k6.size, k6.block⟩)
                  | fail)
              all_goals
                have K6 : Hid (Keeps Md w5 w6) := k6'
                have HD6 := Lib.hid hd6
                have HALL := Lib.hid hall
                have HEND := Lib.hid hend
                have HM6 := Lib.hid m6
                have HS6 := Lib.hid s6
                clear hd6 hall hend m6 s6 k6 k6' u0 u1 hkq
                go_wp2_with fail
                refine (Sync_yes w6 d _ Md6 Sd6 HD6.out).mono ?_
                rintro e w7 ⟨rfl, hW⟩
                have HW := Lib.hid hW
                clear hW
                go_wp2_with fail
                go_ret2
                have J6 := J5.out.keep K6.out (fun k hk hm => hMd.out k hm hk)
                have z56 : w5.heap.size ≤ w6.heap.size := K6.out.size
                refine Opened.end HR.out J6 ((Keeps.of_below B5.out).trans K6.out (fun _ h => .inl h)) HS.out (reset_wrote HNL.out hfl HALL.out HEND.out) (fun k hk => (HM6.out k hk).imp id (fun (h : w5.heap.size ≤ k) => by omega)) (fun k hk => (HS6.out k hk).imp id (fun (h : w5.heap.size ≤ k) => by omega)) (fun k hk hm => ?_) (fun k hk hs => ?_) HW.out
                · have := J5.out.lt k hk
                  rcases HM6.out k hm with h | (h : w5.heap.size ≤ k)
                  · exact hMd.out k h hk
                  · omega
                · have := J5.out.lt k (J5.out.sub k hk)
                  rcases HS6.out k hs with h | (h : w5.heap.size ≤ k)
                  · exact hMs.out k hk h
                  · omega
end Go.Proofs.Ytbbjeoepoocofaa
