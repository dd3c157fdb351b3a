/- The document's answer for disks: a new one, the blocks as they are read, what is wrong with a write; and whether a disk has these blocks. -/
import Derived.Test.YtbbjeoepoocofaaK4
import Derived.Test.YtbbjeoepoocofaaT1
namespace Go.Proofs.Ytbbjeoepoocofaa
open Go.RowKit

set_option maxHeartbeats 1000000 in
theorem Now_any (w : World) (lv ov : Value) (ls : List (List Int)) (A : List (Nat × List Int)) (hl : Tb w lv ls) (ho : Wb w ov A) (hls : ls.length ≤ 100000) (hx : ∀ x ∈ ls, x.length ≤ 100000) (hA : A.length ≤ 100000) :
    Calls Try.prog 36 #[.agg #[lv, ov]] w fun e w' => (∃ v', e = .returned v' ∧ Tb w' v' (behR ls A (List.replicate A.length (-1)) A.length)) ∧ Below w.heap.size w w' := by
  obtain ⟨lp, lc, rfl, -⟩ := hl.form
  obtain ⟨op, oc, rfl, -⟩ := ho.form
  have B0 : Below w.heap.size w (w.alloc (.cells #[.slice lp ls.length lc, .slice op A.length oc] 64)) := (Below.refl _ _).alloc (Nat.le_refl _) _
  have L0 : Hid (Tb (w.alloc (.cells #[.slice lp ls.length lc, .slice op A.length oc] 64)) (.slice lp ls.length lc) ls) := hl.below' B0
  have W0 : Hid (Wb (w.alloc (.cells #[.slice lp ls.length lc, .slice op A.length oc] 64)) (.slice op A.length oc) A) := ho.below' B0
  have x0 : (w.alloc (.cells #[.slice lp ls.length lc, .slice op A.length oc] 64)).cell? ⟨w.heap.size, 0, none⟩ = some (.slice lp ls.length lc) := by rw [cell_of_row _ _ 0 _ _ _ (heap_alloc_new w _)]; rfl
  have x1 : (w.alloc (.cells #[.slice lp ls.length lc, .slice op A.length oc] 64)).cell? ⟨w.heap.size, 1, none⟩ = some (.slice op A.length oc) := by rw [cell_of_row _ _ 1 _ _ _ (heap_alloc_new w _)]; rfl
  have z0 : (w.alloc (.cells #[.slice lp ls.length lc, .slice op A.length oc] 64)).heap.size = w.heap.size + 1 := by simp
  have HX := Lib.hid hx
  clear hl ho hx
  obtain ⟨i0, hi3, hz0, hz1, hz2⟩ := info_parts info3
  go_enter Try.func36, Try.ntmps36
  go_wp2_with fail
  generalize w.alloc (.cells #[.slice lp ls.length lc, .slice op A.length oc] 64) = w0 at *
  have hw0 : w.heap.size < w0.heap.size := by omega
  clear z0
  go_loopw [3, 4] (fun v iv wr => ∃ k : Nat, iv = .int .i64 k ∧ k ≤ A.length ∧ wr.ownsRow w0.heap.size 3 1 v k (its (List.replicate k (-1))) ∧ Below w0.heap.size w0 wr) (fun _ i _ => A.length - (intOf i).toNat)
  case atStart => exact ⟨0, rfl, Nat.zero_le _, World.ownsRow_nil _ _ _ _, Below.refl _ _⟩
  case round =>
    obtain ⟨k, rfl, hk, hown, hB⟩ := hrel
    obtain ⟨va, vc, rfl⟩ := own_slice hown
    have HOW := Lib.hid hown
    have c0 : wr.cell? ⟨w.heap.size, 0, none⟩ = some (.slice lp ls.length lc) := (hB.cell (p := ⟨w.heap.size, 0, none⟩) (by show w.heap.size < w0.heap.size; omega)).trans x0
    have c1 : wr.cell? ⟨w.heap.size, 1, none⟩ = some (.slice op A.length oc) := (hB.cell (p := ⟨w.heap.size, 1, none⟩) (by show w.heap.size < w0.heap.size; omega)).trans x1
    have zr := hB.size
    clear hown
    by_cases hlt : k < A.length
    · go_wp2_with ((at_builtin; refine wpList_append_own _ rfl _ _ 24 rfl w0.heap.size 3 i0 (.int .i64 0) 1 8 Try.underlying24 hi3 hz0 hz1 hz2 rfl (by decide) _ k (its (List.replicate k (-1))) rfl (own_keep HOW.out ((Keeps.refl (fun _ => False) wr).alloc _) (fun _ _ f => f)) ⟨wr.heap.size, 0, none⟩ 1 1 [.int .i64 (-1)] rfl rfl (World.news_of_block (heap_alloc_new wr _)) (by simp [Value.oneCell']) (by unfold maxLen; omega) (by omega) (by simp; omega) ?_))
      rintro v' w6 hown6 hg6 -
      have HO6 : Hid (w6.ownsRow w0.heap.size 3 1 v' (k + 1) (its (List.replicate (k + 1) (-1)))) := by
        have := hown6
        rw [show its (List.replicate k (-1)) ++ [.int .i64 (-1)] = its (List.replicate (k + 1) (-1)) by simp [its, List.replicate_succ']] at this
        exact this
      have B6 : Below w0.heap.size w0 w6 := (hB.alloc hB.size _).grown hg6 (by simp; omega) (fun j hj => (own_lt HOW.out j hj).1)
      clear hown6 hg6
      go_wp2_with fail
      go_roundw
      case rel => exact ⟨k + 1, rfl, by omega, HO6.out, B6⟩
      case measure => simp [intOf]; omega
    · obtain rfl : k = A.length := by omega
      have HF : Hid (Rd wr 1 (.slice va A.length vc) (List.replicate A.length (-1 : Int)).length (its (List.replicate A.length (-1)))) := by unfold Hid; rw [List.length_replicate]; exact Rd.of_own HOW.out
      have HL : Hid (Tb wr (.slice lp ls.length lc) ls) := L0.out.below' hB
      have HW : Hid (Wb wr (.slice op A.length oc) A) := W0.out.below' hB
      go_wp2_with fail
      refine (Behind_any _ _ _ _ ls A (List.replicate A.length (-1)) HL.out HW.out HF.out hls HX.out hA).mono ?_
      rintro e w7 ⟨⟨v', rfl, hv⟩, b7⟩
      have HV := Lib.hid hv
      have hb7 := Lib.hid b7
      clear hv b7
      go_wp2_with fail
      go_ret
      exact ⟨⟨_, rfl, HV.out⟩, B0.trans ((hB.trans (hb7.out.mono zr)).mono (by omega))⟩

/-- A disk has just these blocks. -/
theorem same_yes (w : World) (d : Nat) (D : Dk) (M S : Nat → Prop) (h : DiskAt w d D M S) (lv : Value) (hl : Tb w lv (blks D.blocks D.size D.now)) :
    Calls Try.prog 39 #[.pointer (some ⟨d, 0, none⟩), lv] w fun e w' => e = .returned (.bool true) ∧ Below w.heap.size w w' := by
  obtain ⟨lp, lc, rfl, -⟩ := hl.form
  rw [blks_length] at *
  have HD := Lib.hid h
  have HL := Lib.hid hl
  have hp : D.blocks ≤ 1024 := by obtain ⟨_, _, _, _, _, _, l⟩ := h; exact l.pos.2.1
  clear h hl
  go_enter Try.func39, Try.ntmps39
  go_wp2_with fail
  refine (Blocks_any w d D M S HD.out).mono ?_
  rintro e w1 ⟨rfl, rfl⟩
  go_wp2_with fail
  go_loopw [5] (fun iv wr => ∃ i : Nat, iv = .int .i64 i ∧ i ≤ D.blocks ∧ Below w.heap.size w wr) (fun iv _ => D.blocks - (intOf iv).toNat)
  case atStart => exact ⟨0, rfl, Nat.zero_le _, Below.refl _ _⟩
  case round =>
    obtain ⟨i, rfl, hi, hB⟩ := hrel
    have zr := hB.size
    by_cases hlt : i < D.blocks
    · go_wp2_with fail
      refine (Read_ok _ d D M S i (by omega) (by omega) (HD.out.below hB)).mono ?_
      rintro e w2 ⟨v2, rfl, h2, b2⟩
      obtain ⟨va2, vc2, rfl⟩ := own_slice h2
      simp only [Int.toNat_natCast] at h2 ⊢
      have R2 : Hid (Rb w2 (.slice va2 (D.block i).length vc2) (D.block i)) := Rd.of_own h2
      have B2 := hB.trans (b2.mono zr)
      obtain ⟨lb, lo, lcap, ua, uc, e1, q1, hr⟩ := (HL.out.below' B2).at (i := i) (by rw [blks_length]; exact hlt)
      rw [blks_length] at e1
      rw [blks_get] at q1 hr
      simp only [Value.slice.injEq, true_and] at e1
      obtain ⟨rfl, rfl⟩ := e1
      have HR : Hid (Rb w2 (.slice ua (D.block i).length uc) (D.block i)) := Rd.of_own hr
      have q2 : w2.cell? ⟨lb, lo + i, none⟩ = some (.slice ua (D.block i).length uc) := q1
      clear h2 b2 hr q1
      generalize D.block i = X at *
      go_wp2_with fail
      refine (Bytes_any _ _ _ X X R2.out HR.out).mono ?_
      rintro e w3 ⟨rfl, n3, hw3⟩
      rw [decide_eq_true (rfl : X = X)]
      have b3 : Below w2.heap.size w2 w3 := by rw [hw3]; exact Below.drewN (Below.refl _ _) n3
      have B3 := B2.trans (b3.mono B2.size)
      clear hw3 b3
      go_wp2_with fail
      go_roundw
      case rel => exact ⟨i + 1, rfl, by omega, B3⟩
      case measure => simp [intOf]; omega
    · go_wp2_with fail
      go_ret
      exact ⟨rfl, hB⟩

/-- What is wrong with a write. -/
theorem Wrong_any (w : World) (lv ov bv : Value) (ls : List (List Int)) (size : Nat) (b : Int) (n : Nat) (hl : Tb w lv ls) (h0 : 0 < ls.length) (_ : ls.length ≤ 100000) (hs : ∀ x ∈ ls, x.length = size) (hb : ∃ p c, bv = .slice p n c) (_ : (n : Int) ≤ 9223372036854775807) (hov : ∃ p m c, ov = .slice p m c) :
    Calls Try.prog 37 #[.agg #[lv, ov], .agg #[.int .i64 b, bv]] w fun e w' => e = .returned (.int .i64 (if b < 0 then 10 else if (ls.length : Int) ≤ b then 21 else if size < n then 1 else 0)) ∧ Below w.heap.size w w' := by
  obtain ⟨lp, lc, rfl, -⟩ := hl.form
  obtain ⟨bp, bc, rfl⟩ := hb
  obtain ⟨op, om, oc, rfl⟩ := hov
  have B0 : Below w.heap.size w ((w.alloc (.cells #[.slice lp ls.length lc, .slice op om oc] 64)).alloc (.cells #[.int .i64 b, .slice bp n bc] 68)) := ((Below.refl _ _).alloc (Nat.le_refl _) _).alloc (by simp) _
  have L0 := hl.below' B0
  obtain ⟨lb, lo, lcap, ua, uc, e1, q1, -⟩ := L0.at h0
  simp only [Value.slice.injEq, true_and] at e1
  obtain ⟨rfl, rfl⟩ := e1
  rw [hs _ (List.getElem_mem h0), Nat.add_zero] at q1
  have z1 : (w.alloc (.cells #[.slice (some ⟨lb, lo, none⟩) ls.length lc, .slice op om oc] 64)).heap.size = w.heap.size + 1 := by simp
  have x0 : ((w.alloc (.cells #[.slice (some ⟨lb, lo, none⟩) ls.length lc, .slice op om oc] 64)).alloc (.cells #[.int .i64 b, .slice bp n bc] 68)).cell? ⟨w.heap.size, 0, none⟩ = some (.slice (some ⟨lb, lo, none⟩) ls.length lc) :=
    (((Below.refl (w.heap.size + 1) (w.alloc (.cells #[.slice (some ⟨lb, lo, none⟩) ls.length lc, .slice op om oc] 64))).alloc (by simp) _).cell (p := ⟨w.heap.size, 0, none⟩) (by simp)).trans (by rw [cell_of_row _ _ 0 _ _ _ (heap_alloc_new w _)]; rfl)
  have y0 : ((w.alloc (.cells #[.slice (some ⟨lb, lo, none⟩) ls.length lc, .slice op om oc] 64)).alloc (.cells #[.int .i64 b, .slice bp n bc] 68)).cell? ⟨w.heap.size + 1, 0, none⟩ = some (.int .i64 b) := by rw [← z1, cell_of_row _ _ 0 _ _ _ (heap_alloc_new _ _)]; rfl
  have y1 : ((w.alloc (.cells #[.slice (some ⟨lb, lo, none⟩) ls.length lc, .slice op om oc] 64)).alloc (.cells #[.int .i64 b, .slice bp n bc] 68)).cell? ⟨w.heap.size + 1, 1, none⟩ = some (.slice bp n bc) := by rw [← z1, cell_of_row _ _ 1 _ _ _ (heap_alloc_new _ _)]; rfl
  clear hl hs L0 z1
  by_cases c1 : b < 0
  · rw [if_pos c1]
    go_enter Try.func37, Try.ntmps37
    go_wp2_with fail
    go_ret
    exact ⟨rfl, B0⟩
  · rw [if_neg c1]
    by_cases c2 : (ls.length : Int) ≤ b
    · rw [if_pos c2]
      go_enter Try.func37, Try.ntmps37
      go_wp2_with fail
      go_ret
      exact ⟨rfl, B0⟩
    · rw [if_neg c2]
      by_cases c3 : size < n
      · rw [if_pos c3]
        go_enter Try.func37, Try.ntmps37
        go_wp2_with fail
        generalize (w.alloc (.cells #[.slice (some ⟨lb, lo, none⟩) ls.length lc, .slice op om oc] 64)).alloc (.cells #[.int .i64 b, .slice bp n bc] 68) = w0 at *
        go_quiet (fail)
        go_wp2_with fail
        go_ret
        exact ⟨rfl, Below.drewN B0 _⟩
      · rw [if_neg c3]
        go_enter Try.func37, Try.ntmps37
        go_wp2_with fail
        generalize (w.alloc (.cells #[.slice (some ⟨lb, lo, none⟩) ls.length lc, .slice op om oc] 64)).alloc (.cells #[.int .i64 b, .slice bp n bc] 68) = w0 at *
        go_quiet (fail)
        go_wp2_with fail
        go_ret
        exact ⟨rfl, Below.drewN B0 _⟩

theorem rb_made {w : World} {g s : Nat} (hs : s ≤ 5000) (h : w.heap[g]? = some (.cells (madeCells #[.int .u8 0] s) 5)) : w.ownsRow 0 5 1 (.slice (some ⟨g, 0, none⟩) s s) (List.replicate s (0 : Int)).length (bts (List.replicate s 0)) := by
  have hb : bts (List.replicate s 0) = List.replicate s (.int .u8 0) := by simp [bts]
  rw [hb, List.length_replicate]
  exact ⟨by simp, .inr ⟨g, s, _, rfl, Nat.zero_le _, h, Nat.le_refl _, by unfold maxLen; omega, by rw [size_madeCells, Nat.mul_one], by rw [toList_madeCells_one, Nat.mul_one, List.take_replicate, Nat.min_self]⟩⟩

set_option maxRecDepth 100000 in
set_option maxHeartbeats 2000000 in
/-- The document's answer for a new disk. -/
theorem RefNew_any (w : World) (b s : Nat) (hb : b ≤ 1000) (hs : s ≤ 5000) :
    Calls Try.prog 35 #[.int .i64 b, .int .i64 s] w fun e w' => (∃ v', e = .returned (.agg #[v', .slice none 0 0]) ∧ Tb w' v' (List.replicate b (List.replicate s 0))) ∧ Below w.heap.size w w' := by
  obtain ⟨i5, hi5, hz0, hz1, hz2⟩ := info_parts info5
  obtain ⟨i3, hi30, hy0, hy1, hy2⟩ := info_parts info30
  have hmk : ∀ w, (Instr.makeSlice 30 (.int .i64 s) (.int .i64 s)).run Try.prog w = .ok (.slice (some ⟨w.heap.size, 0, none⟩) s s) (w.alloc (.cells (madeCells #[.int .u8 0] s) 5)) := by
    intro w
    have := run_make (P := Try.prog) w 30 5 i5 (.int .u8 0) Try.underlying30 hi5 hz0 .i64 .i64 s s (by omega) (Int.le_refl _) (by rw [hz2]; omega) (by omega)
    rw [hz1] at this
    simpa [Value.cells] using this
  have z1 : (w.alloc (.cells #[.slice none 0 0, .slice none 0 0] 64)).heap.size = w.heap.size + 1 := by simp
  have z2 : ((w.alloc (.cells #[.slice none 0 0, .slice none 0 0] 64)).alloc (.cells #[.slice none 0 0, .slice none 0 0] 64)).heap.size = w.heap.size + 2 := by simp
  have B0 : Below w.heap.size w ((w.alloc (.cells #[.slice none 0 0, .slice none 0 0] 64)).alloc (.cells #[.slice none 0 0, .slice none 0 0] 64)) := ((Below.refl _ _).alloc (Nat.le_refl _) _).alloc (by simp) _
  have h1 : ((w.alloc (.cells #[.slice none 0 0, .slice none 0 0] 64)).alloc (.cells #[.slice none 0 0, .slice none 0 0] 64)).heap[w.heap.size + 1]? = some (.cells #[.slice none 0 0, .slice none 0 0] 64) := by rw [← z1]; exact heap_alloc_new _ _
  have h0 : ((w.alloc (.cells #[.slice none 0 0, .slice none 0 0] 64)).alloc (.cells #[.slice none 0 0, .slice none 0 0] 64)).heap[w.heap.size]? = some (.cells #[.slice none 0 0, .slice none 0 0] 64) := by
    rw [((Below.refl (w.heap.size + 1) (w.alloc (.cells #[.slice none 0 0, .slice none 0 0] 64))).alloc (by simp) _).block w.heap.size (by omega)]
    exact heap_alloc_new _ _
  go_enter Try.func35, Try.ntmps35
  go_wp2_with fail
  generalize (w.alloc (.cells #[.slice none 0 0, .slice none 0 0] 64)).alloc (.cells #[.slice none 0 0, .slice none 0 0] 64) = w0 at *
  obtain ⟨T, hT⟩ : ∃ T, T = w.heap.size + 1 := ⟨_, rfl⟩
  rw [← hT] at h1 ⊢
  have HT := Lib.hid hT
  have HZ2 := Lib.hid z2
  clear z1 z2 hT
  go_loopw [6] (fun iv wr => ∃ (i : Nat) (v : Value) (vs : List Value), iv = .int .i64 i ∧ i ≤ b ∧ wr.heap[T]? = some (.cells #[v, .slice none 0 0] 64) ∧ Tbv wr w0.heap.size v (List.replicate i (List.replicate s 0)) vs ∧ wr.heap[w.heap.size]? = some (.cells #[.slice none 0 0, .slice none 0 0] 64) ∧ Below w.heap.size w wr ∧ w0.heap.size ≤ wr.heap.size) (fun iv _ => b - (intOf iv).toNat)
  case atStart => exact ⟨0, _, [], rfl, Nat.zero_le _, h1, Tbv.nil _ _, h0, B0, Nat.le_refl _⟩
  case round =>
    obtain ⟨wa, hwa⟩ : ∃ wa, wa = wr := ⟨_, rfl⟩
    subst hwa
    obtain ⟨i, v, vs, rfl, hi, t1, hO, t0, hB, hz⟩ := hrel
    have hrow := hO.row
    rw [List.length_replicate] at hrow
    obtain ⟨va, vc, rfl⟩ := own_slice hrow
    have HO := Lib.hid hO
    have HROW := Lib.hid hrow
    have HT1 := Lib.hid t1
    have HT0 := Lib.hid t0
    clear hO hrow
    have hTl : T < w0.heap.size := by have := HT.out; have := HZ2.out; omega
    have q0 : wa.cell? ⟨T, 0, none⟩ = some (.slice va i vc) := by rw [cell_of_row wa T 0 _ _ _ t1]; rfl
    have q1 : wa.cell? ⟨T, 1, none⟩ = some (.slice none 0 0) := by rw [cell_of_row wa T 1 _ _ _ t1]; rfl
    clear t1 t0
    by_cases hlt : i < b
    · have n1 : ∀ o, (wa.alloc o).cell? ⟨T, 0, none⟩ = some (.slice va i vc) := fun o => ((Keeps.refl (fun _ => False) wa).alloc o).cell (fun f => f) q0
      have n2 : ∀ o o', ((wa.alloc o).alloc o').cell? ⟨T, 0, none⟩ = some (.slice va i vc) := fun o o' => (((Keeps.refl (fun _ => False) wa).alloc o).alloc o').cell (fun f => f) q0
      have HNT : Hid (¬ (Value.slice va i vc).ownBlock = some T) := fun e => by have := (own_lt HROW.out T e).1; omega
      go_wp2_with fail
      go_region_law (first
        | (refine step_append_lies _ (by rfl) _ _ _ (by rfl) w0.heap.size 30 i3 _ 1 24 Try.underlying50 hi30 hy0 hy1 hy2 (by rfl) (by decide) (.slice va i vc) i vs (by rfl) (own_keep HROW.out ((((Keeps.refl (fun _ => False) wa).alloc _).alloc _).drew) (fun _ _ f => f)) ⟨wa.heap.size + 1, 0, none⟩ 1 1 [.slice (some ⟨wa.heap.size, 0, none⟩) s s] (by rfl) (by rfl) (World.news_of_block (B := wa.heap.size + 1) (cs := #[.slice (some ⟨wa.heap.size, 0, none⟩) s s]) (t := 30) (fr := (0, 0)) (by have h := heap_alloc_new (wa.alloc (.cells (madeCells #[.int .u8 0] s) 5)) (.cells #[.slice (some ⟨wa.heap.size, 0, none⟩) s s] 30); rw [World.size_alloc] at h; exact h)) (by simp [Value.oneCell']) (by decide) (by unfold maxLen; omega) (by omega) (by simp; omega) (wa.heap.size + 1 + 1) (by simp) ?_; intro g cap w5 hown5 hgrow hat hlt5; have k5 : Keeps (fun k => (Value.slice va i vc).ownBlock = some k) wa w5 := ((((Keeps.refl _ wa).alloc _).alloc _).drew).trans (Keeps.of_grown (X := fun k => (Value.slice va i vc).ownBlock = some k) hgrow (fun _ e => e)) (fun _ e => .inl e); have t5 := (k5.block T (by omega) HNT.out).trans HT1.out; have q5 : w5.cell? ⟨T, 0, none⟩ = some (.slice va i vc) := (by rw [cell_of_row w5 T 0 _ _ _ t5]; rfl); have f5 : w5.frozen? ⟨T, 0, none⟩ = false := frozen_of_row w5 T 0 _ _ t5)
        | fail)
      all_goals
        have HT5 := Lib.hid t5
        have HK5 := Lib.hid k5
        have hmade : Hid (w5.heap[wa.heap.size]? = some (.cells (madeCells #[.int .u8 0] s) 5)) := by
          unfold Hid
          rw [hgrow.block wa.heap.size (by simp only [World.size_drew, World.size_alloc]; omega) (fun e => by have := own_lt HROW.out wa.heap.size e.symm; omega)]
          show ((wa.alloc _).alloc _).heap[wa.heap.size]? = _
          rw [((Below.refl (wa.heap.size + 1) (wa.alloc (.cells (madeCells #[.int .u8 0] s) 5))).alloc (by simp) _).block wa.heap.size (by omega)]
          exact heap_alloc_new _ _
        have hO5 : Hid (Tbv w5 w0.heap.size (.slice (some ⟨g, 0, none⟩) (i + 1) cap) (List.replicate (i + 1) (List.replicate s 0)) (vs ++ [.slice (some ⟨wa.heap.size, 0, none⟩) s s])) := by
          have h := (HO.out.below' ((Below.refl wa.heap.size wa).alloc (Nat.le_refl _) (.cells (madeCells #[.int .u8 0] s) 5))).snoc (w' := w5) (v' := .slice (some ⟨g, 0, none⟩) (i + 1) cap) (u := .slice (some ⟨wa.heap.size, 0, none⟩) s s) (x := List.replicate s 0) (o := .cells #[.slice (some ⟨wa.heap.size, 0, none⟩) s s] 30) (rb_made hs (heap_alloc_new _ _)) (by rw [List.length_replicate]; exact hown5) ⟨hgrow.os, hgrow.tape, hgrow.output, hgrow.size, hgrow.block⟩
          unfold Hid
          rw [List.replicate_succ']
          exact h
        clear k5 t5 q5 f5
        go_wp2_with fail
        go_roundw
        case rel =>
          have hS : Keeps (fun k => k = T) w5 (w5.setCell ⟨T, 0, none⟩ (.slice (some ⟨g, 0, none⟩) (i + 1) cap)) := Keeps.setCell (X := fun k => k = T) (a := ⟨T, 0, none⟩) (Keeps.refl _ w5) (.inl rfl) _
          have hd0 : w.heap.size ≠ T := by have := HT.out; omega
          refine ⟨i + 1, _, _, rfl, by omega, heap_setCell_same w5 T 0 _ _ _ HT5.out, hO5.out.off HT5.out (by decide) (by decide) hS, ?_, ?_, ?_⟩
          · rw [hS.block w.heap.size (by have := HK5.out.size; have := HT.out; omega) hd0, HK5.out.block w.heap.size (by have := HT.out; omega) (fun e => by have := (own_lt HROW.out _ e).1; have := HZ2.out; omega)]
            exact HT0.out
          · have hb5 : Below w.heap.size w w5 := hB.trans (HK5.out.below (by have := hB.size; omega) (fun k hk => by have := (own_lt HROW.out k hk).1; have := HZ2.out; omega))
            exact hb5.trans (hS.below (by have := hb5.size; omega) (fun k hk => by have := HT.out; omega))
          · have := hS.size; have := HK5.out.size; omega
        case measure => simp [intOf]; omega
    · obtain rfl : i = b := by omega
      have r0 : wa.cell? ⟨w.heap.size, 0, none⟩ = some (.slice none 0 0) := by rw [cell_of_row wa _ 0 _ _ _ HT0.out]; rfl
      have r1 : wa.cell? ⟨w.heap.size, 1, none⟩ = some (.slice none 0 0) := by rw [cell_of_row wa _ 1 _ _ _ HT0.out]; rfl
      have f0 : wa.frozen? ⟨w.heap.size, 0, none⟩ = false := frozen_of_row wa _ 0 _ _ HT0.out
      have f1 : wa.frozen? ⟨w.heap.size, 1, none⟩ = false := frozen_of_row wa _ 1 _ _ HT0.out
      go_wp2_with fail
      (try simp only [Exit.inBlock, Exit.then])
      refine bodyPost_ret (v := .agg #[.slice va i vc, .slice none 0 0]) (by simp [results, Try.results35]; go_simp) rfl ?_
      have hS : Keeps (fun k => k = w.heap.size) wa ((wa.setCell ⟨w.heap.size, 0, none⟩ (.slice va i vc)).setCell ⟨w.heap.size, 1, none⟩ (.slice none 0 0)) :=
        Keeps.setCell (X := fun k => k = w.heap.size) (a := ⟨w.heap.size, 1, none⟩) (Keeps.setCell (X := fun k => k = w.heap.size) (a := ⟨w.heap.size, 0, none⟩) (Keeps.refl _ wa) (.inl rfl) _) (.inl rfl) _
      exact ⟨⟨_, rfl, (HO.out.off HT0.out (by decide) (by decide) hS).tb⟩, hB.trans (hS.below hB.size (fun k hk => by omega))⟩
end Go.Proofs.Ytbbjeoepoocofaa
