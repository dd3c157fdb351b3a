/- The document's answer for disks: a write over one of the blocks. -/
import Derived.Test.YtbbjeoepoocofaaK1
import Derived.Test.YtbbjeoepoocofaaK2
namespace Go.Proofs.Ytbbjeoepoocofaa
open Go.RowKit

theorem take_snoc {α : Type} {l : List α} {i : Nat} (h : i < l.length) : l.take (i + 1) = l.take i ++ [l[i]] := by
  rw [List.take_add_one, List.getElem?_eq_getElem h]
  rfl
theorem bts_snoc (xs : List Int) (x : Int) : bts xs ++ [.int .u8 x] = bts (xs ++ [x]) := by simp [bts]
theorem lay_length (x xs : List Int) (n : Nat) : (lay x xs n).length = x.length := by simp [lay]
theorem lay_get {x xs : List Int} {n k : Nat} (hk : k < (lay x xs n).length) : (lay x xs n)[k] = if k < n ∧ k < xs.length then xs.getD k 0 else x.getD k 0 := by simp [lay]
theorem putR_get {ls : List (List Int)} {b : Nat} {xs : List Int} {n i : Nat} (hi : i < (putR ls b xs n).length) : (putR ls b xs n)[i] = if i = b then lay (ls.getD i []) xs n else ls.getD i [] := by simp [putR]

set_option maxRecDepth 100000 in
set_option maxHeartbeats 2000000 in
theorem put_any (w : World) (lv : Value) (ls : List (List Int)) (hl : Tb w lv ls) (b : Nat) (bv : Value) (xs : List Int) (hb : Rb w bv xs) (n : Nat) (hls : ls.length ≤ 100000) (hx : ∀ x ∈ ls, x.length ≤ 100000) :
    Calls Try.prog 59 #[lv, .agg #[.int .i64 b, bv], .int .i64 n] w fun e w' => (∃ v' vs, e = .returned v' ∧ Tbv w' w.heap.size v' (putR ls b xs n) vs) ∧ Below w.heap.size w w' := by
  obtain ⟨lp, lc, rfl, -⟩ := hl.form
  obtain ⟨bp, bc, rfl, -⟩ := hb.form
  have B0 : Below w.heap.size w (w.alloc (.cells #[.int .i64 b, .slice bp xs.length bc] 68)) := (Below.refl _ _).alloc (Nat.le_refl _) _
  have L0 : Hid (Tb (w.alloc (.cells #[.int .i64 b, .slice bp xs.length bc] 68)) (.slice lp ls.length lc) ls) := hl.below' B0
  have R0 : Hid (Rb (w.alloc (.cells #[.int .i64 b, .slice bp xs.length bc] 68)) (.slice bp xs.length bc) xs) := hb.below' B0
  have x0 : (w.alloc (.cells #[.int .i64 b, .slice bp xs.length bc] 68)).cell? ⟨w.heap.size, 0, none⟩ = some (.int .i64 b) := by rw [cell_of_row _ _ 0 _ _ _ (heap_alloc_new w _)]; rfl
  have x1 : (w.alloc (.cells #[.int .i64 b, .slice bp xs.length bc] 68)).cell? ⟨w.heap.size, 1, none⟩ = some (.slice bp xs.length bc) := by rw [cell_of_row _ _ 1 _ _ _ (heap_alloc_new w _)]; rfl
  have z0 : (w.alloc (.cells #[.int .i64 b, .slice bp xs.length bc] 68)).heap.size = w.heap.size + 1 := by simp
  have HX := Lib.hid hx
  clear hl hb hx
  obtain ⟨i0, hi5, hz0, hz1, hz2⟩ := info_parts info5
  obtain ⟨i3, hi30, hy0, hy1, hy2⟩ := info_parts info30
  go_enter Try.func59, Try.ntmps59
  go_wp2_with fail
  generalize w.alloc (.cells #[.int .i64 b, .slice bp xs.length bc] 68) = w0 at *
  have hw0 : w.heap.size < w0.heap.size := by omega
  clear z0
  go_loopw [7, 8] (fun ov iv wr => ∃ (i : Nat) (vs : List Value), iv = .int .i64 i ∧ i ≤ ls.length ∧ Tbv wr w0.heap.size ov ((putR ls b xs n).take i) vs ∧ Below w0.heap.size w0 wr) (fun _ iv _ => ls.length - (intOf iv).toNat)
  case atStart => exact ⟨0, [], rfl, Nat.zero_le _, by rw [List.take_zero]; exact Tbv.nil _ _, Below.refl _ _⟩
  case round =>
    obtain ⟨wa, hwa⟩ : ∃ wa, wa = wr := ⟨_, rfl⟩
    subst hwa
    obtain ⟨i, vs, rfl, hi, hO, hB⟩ := hrel
    have hlen : ((putR ls b xs n).take i).length = i := by rw [List.length_take, putR_length]; omega
    have HO := Lib.hid hO
    have hrow := hO.row
    rw [hlen] at hrow
    obtain ⟨va, vc, rfl⟩ := own_slice hrow
    have HROW := Lib.hid hrow
    have zr := hB.size
    clear hO hrow
    by_cases hlt : i < ls.length
    · have c0 : wa.cell? ⟨w.heap.size, 0, none⟩ = some (.int .i64 b) := (hB.cell (p := ⟨w.heap.size, 0, none⟩) (by show w.heap.size < w0.heap.size; omega)).trans x0
      have c1 : wa.cell? ⟨w.heap.size, 1, none⟩ = some (.slice bp xs.length bc) := (hB.cell (p := ⟨w.heap.size, 1, none⟩) (by show w.heap.size < w0.heap.size; omega)).trans x1
      obtain ⟨lb, lo, lcap, ua, uc, e1, q0, hr⟩ := L0.out.at hlt
      simp only [Value.slice.injEq, true_and] at e1
      obtain ⟨rfl, rfl⟩ := e1
      have q1 : wa.cell? ⟨lb, lo + i, none⟩ = some (.slice ua ls[i].length uc) := (hB.cell (p := ⟨lb, lo + i, none⟩) (World.block_lt_of_cell? w0 _ q0)).trans q0
      have HRO : Hid (wa.ownsRow 0 5 1 (.slice ua ls[i].length uc) ls[i].length (bts ls[i])) := own_same hr hB
      have HR : Hid (Rb wa (.slice ua ls[i].length uc) ls[i]) := Rd.of_own HRO.out
      have hget : Hid (ls.getD i [] = ls[i]) := by unfold Hid; simp [List.getD, List.getElem?_eq_getElem hlt]
      have hxl : ls[i].length ≤ 100000 := HX.out _ (List.getElem_mem hlt)
      have hsn : Hid ((putR ls b xs n).take (i + 1) = (putR ls b xs n).take i ++ [if i = b then lay ls[i] xs n else ls[i]]) := by
        unfold Hid
        rw [take_snoc (by rw [putR_length]; exact hlt), putR_get, hget.out]
      clear hr hget q0
      generalize ls[i] = x at *
      by_cases hib : i = b
      · have hne : ((i : Int) != (b : Int)) = false := by simp [hib]
        rw [if_pos hib] at hsn
        clear hib
        go_wp2_with fail
        go_loopw [9, 10] (fun bv kv wr => ∃ k : Nat, kv = .int .i64 k ∧ k ≤ x.length ∧ wr.ownsRow wa.heap.size 5 1 bv k (bts ((lay x xs n).take k)) ∧ Below wa.heap.size wa wr) (fun _ kv _ => x.length - (intOf kv).toNat)
        case atStart => exact ⟨0, rfl, Nat.zero_le _, by rw [List.take_zero]; exact World.ownsRow_nil _ _ _ _, Below.refl _ _⟩
        case round =>
          obtain ⟨k, rfl, hk, hown, hK⟩ := hrel
          obtain ⟨ba, bbc, rfl⟩ := own_slice hown
          have HOW := Lib.hid hown
          have zk := hK.size
          have d0 : wr.cell? ⟨w.heap.size, 0, none⟩ = some (.int .i64 b) := (hK.cell (p := ⟨w.heap.size, 0, none⟩) (by show w.heap.size < wa.heap.size; omega)).trans c0
          have d1 : wr.cell? ⟨w.heap.size, 1, none⟩ = some (.slice bp xs.length bc) := (hK.cell (p := ⟨w.heap.size, 1, none⟩) (by show w.heap.size < wa.heap.size; omega)).trans c1
          have q2 : wr.cell? ⟨lb, lo + i, none⟩ = some (.slice ua x.length uc) := (hK.cell (p := ⟨lb, lo + i, none⟩) (World.block_lt_of_cell? wa _ q1)).trans q1
          clear hown
          by_cases hkl : k < x.length
          · obtain ⟨xb, xo, xc, ex, -, -, qx⟩ := (HR.out.below' hK).cell hkl
            simp only [Value.slice.injEq, true_and] at ex
            obtain ⟨rfl, rfl⟩ := ex
            have px : wr.cell? ⟨xb, xo + k, none⟩ = some (.int .u8 (x.getD k 0)) := qx k hkl
            have hsk : Hid ((lay x xs n).take (k + 1) = (lay x xs n).take k ++ [if k < n ∧ k < xs.length then xs.getD k 0 else x.getD k 0]) := by
              unfold Hid
              rw [take_snoc (by rw [lay_length]; exact hkl), lay_get]
            clear qx
            by_cases g : k < n ∧ k < xs.length
            · obtain ⟨g1, g2⟩ := g
              obtain ⟨yb, yo, yc, ey, -, -, qy⟩ := ((R0.out.below' hB).below' hK).cell g2
              simp only [Value.slice.injEq, true_and] at ey
              obtain ⟨rfl, rfl⟩ := ey
              have py : wr.cell? ⟨yb, yo + k, none⟩ = some (.int .u8 (xs.getD k 0)) := qy k g2
              rw [if_pos ⟨g1, g2⟩] at hsk
              clear qy
              generalize xs.getD k 0 = y at *
              go_wp2_with ((at_builtin; refine wpList_append_own _ rfl _ _ 30 rfl wa.heap.size 5 i0 (.int .u8 0) 1 1 Try.underlying30 hi5 hz0 hz1 hz2 rfl (by decide) _ k (bts ((lay x xs n).take k)) rfl (own_keep HOW.out ((Keeps.refl (fun _ => False) wr).alloc _) (fun _ _ f => f)) ⟨wr.heap.size, 0, none⟩ 1 1 [.int .u8 y] rfl rfl (World.news_of_block (heap_alloc_new wr _)) (by simp [Value.oneCell']) (by unfold maxLen; omega) (by omega) (by simp; omega) ?_))
              rintro v7 w7 hown7 hg7 -
              have HO7 : Hid (w7.ownsRow wa.heap.size 5 1 v7 (k + 1) (bts ((lay x xs n).take (k + 1)))) := by
                unfold Hid
                rw [hsk.out, ← bts_snoc]
                exact hown7
              have B7 : Below wa.heap.size wa w7 := (hK.alloc hK.size _).grown hg7 (by simp; omega) (fun j hj => (own_lt HOW.out j hj).1)
              clear hown7 hg7
              go_wp2_with fail
              go_roundw
              case rel => exact ⟨k + 1, rfl, by omega, HO7.out, B7⟩
              case measure => simp [intOf]; omega
            · rw [if_neg g] at hsk
              generalize x.getD k 0 = y at *
              by_cases g1 : k < n
              · have g2 : ¬ k < xs.length := fun h => g ⟨g1, h⟩
                clear g
                go_wp2_with ((at_builtin; refine wpList_append_own _ rfl _ _ 30 rfl wa.heap.size 5 i0 (.int .u8 0) 1 1 Try.underlying30 hi5 hz0 hz1 hz2 rfl (by decide) _ k (bts ((lay x xs n).take k)) rfl (own_keep HOW.out ((Keeps.refl (fun _ => False) wr).alloc _) (fun _ _ f => f)) ⟨wr.heap.size, 0, none⟩ 1 1 [.int .u8 y] rfl rfl (World.news_of_block (heap_alloc_new wr _)) (by simp [Value.oneCell']) (by unfold maxLen; omega) (by omega) (by simp; omega) ?_))
                rintro v7 w7 hown7 hg7 -
                have HO7 : Hid (w7.ownsRow wa.heap.size 5 1 v7 (k + 1) (bts ((lay x xs n).take (k + 1)))) := by
                  unfold Hid
                  rw [hsk.out, ← bts_snoc]
                  exact hown7
                have B7 : Below wa.heap.size wa w7 := (hK.alloc hK.size _).grown hg7 (by simp; omega) (fun j hj => (own_lt HOW.out j hj).1)
                clear hown7 hg7
                go_wp2_with fail
                go_roundw
                case rel => exact ⟨k + 1, rfl, by omega, HO7.out, B7⟩
                case measure => simp [intOf]; omega
              · have g3 : decide ((k : Int) < (n : Int)) = false := by simp; omega
                clear g
                go_wp2_with ((at_builtin; refine wpList_append_own _ rfl _ _ 30 rfl wa.heap.size 5 i0 (.int .u8 0) 1 1 Try.underlying30 hi5 hz0 hz1 hz2 rfl (by decide) _ k (bts ((lay x xs n).take k)) rfl (own_keep HOW.out ((Keeps.refl (fun _ => False) wr).alloc _) (fun _ _ f => f)) ⟨wr.heap.size, 0, none⟩ 1 1 [.int .u8 y] rfl rfl (World.news_of_block (heap_alloc_new wr _)) (by simp [Value.oneCell']) (by unfold maxLen; omega) (by omega) (by simp; omega) ?_))
                rintro v7 w7 hown7 hg7 -
                have HO7 : Hid (w7.ownsRow wa.heap.size 5 1 v7 (k + 1) (bts ((lay x xs n).take (k + 1)))) := by
                  unfold Hid
                  rw [hsk.out, ← bts_snoc]
                  exact hown7
                have B7 : Below wa.heap.size wa w7 := (hK.alloc hK.size _).grown hg7 (by simp; omega) (fun j hj => (own_lt HOW.out j hj).1)
                clear hown7 hg7
                go_wp2_with fail
                go_roundw
                case rel => exact ⟨k + 1, rfl, by omega, HO7.out, B7⟩
                case measure => simp [intOf]; omega
          · obtain rfl : k = x.length := by omega
            have HRL : Hid (wr.ownsRow 0 5 1 (.slice ba x.length bbc) (lay x xs n).length (bts (lay x xs n))) := by
              have h := HOW.out
              rw [List.take_of_length_le (by rw [lay_length]; exact Nat.le_refl _)] at h
              unfold Hid
              rw [lay_length]
              exact own_mono h (Nat.zero_le _)
            have HROW2 : Hid (wr.ownsRow w0.heap.size 30 1 (.slice va i vc) i vs) := own_keep HROW.out (X := fun _ => False) (Keeps.of_below hK) (fun _ _ f => f)
            have HO2 : Hid (Tbv wr w0.heap.size (.slice va i vc) ((putR ls b xs n).take i) vs) := HO.out.below' hK
            have hB2 : Below w0.heap.size w0 wr := hB.trans (hK.mono zr)
            have zz := hB2.size
            clear HR HRO
            go_wp2_with ((at_builtin; refine wpList_append_own _ rfl _ _ 50 rfl w0.heap.size 30 i3 (.slice none 0 0) 1 24 Try.underlying50 hi30 hy0 hy1 hy2 rfl (by decide) _ i vs rfl (own_keep HROW2.out ((Keeps.refl (fun _ => False) wr).alloc _) (fun _ _ f => f)) ⟨wr.heap.size, 0, none⟩ 1 1 [.slice ba x.length bbc] rfl rfl (World.news_of_block (heap_alloc_new wr _)) (by simp [Value.oneCell']) (by unfold maxLen; omega) (by omega) (by simp; omega) ?_))
            intro v' w6 hown6 hg6 _
            have HB6 : Below w0.heap.size w0 w6 := (hB2.alloc hB2.size _).grown hg6 (by simp; omega) (fun j hj => (own_lt HROW2.out j hj).1)
            have HO6 : Hid (Tbv w6 w0.heap.size v' ((putR ls b xs n).take (i + 1)) (vs ++ [.slice ba x.length bbc])) := by
              unfold Hid
              rw [hsn.out]
              exact HO2.out.snoc HRL.out (by rw [hlen]; exact hown6) hg6
            clear hown6 hg6
            go_wp2_with fail
            go_roundw
            case rel => exact ⟨i + 1, _, rfl, by omega, HO6.out, HB6⟩
            case measure => simp [intOf]; omega
      · have hne : ((i : Int) != (b : Int)) = true := by simp; omega
        rw [if_neg hib] at hsn
        clear hib
        go_wp2_with ((at_builtin; refine wpList_append_own _ rfl _ _ 50 rfl w0.heap.size 30 i3 (.slice none 0 0) 1 24 Try.underlying50 hi30 hy0 hy1 hy2 rfl (by decide) _ i vs rfl (own_keep HROW.out ((Keeps.refl (fun _ => False) wa).alloc _) (fun _ _ f => f)) ⟨wa.heap.size, 0, none⟩ 1 1 [.slice ua x.length uc] rfl rfl (World.news_of_block (heap_alloc_new wa _)) (by simp [Value.oneCell']) (by unfold maxLen; omega) (by omega) (by simp; omega) ?_))
        intro v' w6 hown6 hg6 _
        have HB6 : Below w0.heap.size w0 w6 := (hB.alloc hB.size _).grown hg6 (by simp; omega) (fun j hj => (own_lt HROW.out j hj).1)
        have HO6 : Hid (Tbv w6 w0.heap.size v' ((putR ls b xs n).take (i + 1)) (vs ++ [.slice ua x.length uc])) := by
          unfold Hid
          rw [hsn.out]
          exact HO.out.snoc HRO.out (by rw [hlen]; exact hown6) hg6
        clear hown6 hg6
        go_wp2_with fail
        go_roundw
        case rel => exact ⟨i + 1, _, rfl, by omega, HO6.out, HB6⟩
        case measure => simp [intOf]; omega
    · obtain rfl : i = ls.length := by omega
      have HF : Hid (Tbv wa w0.heap.size (.slice va ls.length vc) (putR ls b xs n) vs) := by
        have := HO.out
        rw [List.take_of_length_le (by rw [putR_length]; exact Nat.le_refl _)] at this
        exact this
      go_wp2_with fail
      go_ret
      exact ⟨⟨_, _, rfl, ⟨HF.out.len, own_mono HF.out.row (by omega), HF.out.inner⟩⟩, B0.trans (hB.mono (by omega))⟩
end Go.Proofs.Ytbbjeoepoocofaa
