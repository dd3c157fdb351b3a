/- The record behind an end. -/
import Derived.Test.YtbbjeoepoocofaaJ2
namespace Go.Proofs.Ytbbjeoepoocofaa
open Go.RowKit

theorem ofInt64 (x : Nat) (h : x < 2 ^ 64) : (BitVec.ofInt 64 (x : Int)).toNat = x := by
  rw [BitVec.toNat_ofInt]
  omega
theorem or_join : ∀ h : Fin 256, ∀ l : Fin 256, (h.val * 256) ||| l.val = h.val * 256 + l.val := by decide +kernel
theorem or_i64 {h l : Int} (h1 : 0 ≤ h) (h2 : h ≤ 255) (l1 : 0 ≤ l) (l2 : l ≤ 255) : bits .or .i64 (h * 256) l = h * 256 + l := by
  obtain ⟨m, rfl⟩ : ∃ m : Nat, h = m := ⟨h.toNat, by omega⟩
  obtain ⟨n, rfl⟩ : ∃ n : Nat, l = n := ⟨l.toNat, by omega⟩
  have e := or_join ⟨m, by omega⟩ ⟨n, by omega⟩
  simp only at e
  have e2 : (m : Int) * 256 = ((m * 256 : Nat) : Int) := by simp
  rw [e2]
  show IntKind.i64.wrap ((BitVec.ofInt 64 ((m * 256 : Nat) : Int) ||| BitVec.ofInt 64 (n : Int)).toNat : Int) = _
  rw [BitVec.toNat_or, ofInt64 _ (by omega), ofInt64 _ (by omega), e]
  have := IntKind.wrap_i64 (((m * 256 + n : Nat)) : Int)
  rw [this]
  omega

theorem byteAt_int (w : World) (bv : Value) (L : List Int) (hb : Rb w bv L) (hL : isB L) (e : Nat) (i : Int) (he : e ≤ 100000000) (h0 : 0 ≤ i) (hi : i ≤ 100000) :
    Calls Try.prog 65 #[.agg #[bv, .int .i64 e], .int .i64 i] w fun r w' => Below w.heap.size w w' ∧ ((∃ x, bAt L e i.toNat = some x ∧ r = .returned (.tuple #[.int .u8 x, .bool true])) ∨ (bAt L e i.toNat = none ∧ r = .returned (.tuple #[.int .u8 0, .bool false]))) := by
  obtain ⟨n, rfl⟩ : ∃ n : Nat, i = n := ⟨i.toNat, by omega⟩
  exact byteAt_any w bv L hb hL e n he (by omega)

/-- The first bytes of a record. -/
def bl (L : List Int) (e k : Nat) : List Int := (List.range k).map fun i => L.getD (e + 2 * (2 + i)) 0
theorem bl_length (L : List Int) (e k : Nat) : (bl L e k).length = k := by simp [bl]
theorem bl_snoc (L : List Int) (e k : Nat) : bl L e (k + 1) = bl L e k ++ [L.getD (e + 2 * (2 + k)) 0] := by simp [bl, List.range_succ]
theorem bl_get {L : List Int} {e n i : Nat} (h : i < n) : (bl L e n).getD i 0 = L.getD (e + 2 * (2 + i)) 0 := by simp [bl, List.getD, h]
theorem nxt_bl {L : List Int} {e n : Nat} {h l : Int} (h0 : 0 ≤ l) (h255 : l ≤ 255) (hn : h * 256 + l = n) (hle : n ≤ 1024) (hh : bAt L e 0 = some h) (hl : bAt L e 1 = some l) (hb : ∀ i, i < n → bAt L e (2 + i) ≠ none) : Nxt L e (bl L e n) := by
  refine ⟨by rw [bl_length]; exact hle, by rw [bl_length, hh]; congr 1; omega, by rw [bl_length, hl]; congr 1; omega, fun i hi => ?_⟩
  rw [bl_length] at hi
  rw [bl_get hi]
  cases hx : bAt L e (2 + i) with
  | none => exact absurd hx (hb i hi)
  | some y => rw [(bAt_some.1 hx).2.1]
theorem nxt_len {L : List Int} {e : Nat} {h l : Int} (hh : bAt L e 0 = some h) (hl : bAt L e 1 = some l) {x : List Int} (hx : Nxt L e x) : h * 256 + l = x.length := by
  have h1 := hx.2.1
  have h2 := hx.2.2.1
  rw [hh] at h1
  rw [hl] at h2
  simp only [Option.some.injEq] at h1 h2
  omega

set_option maxRecDepth 100000 in
set_option maxHeartbeats 2000000 in
theorem next_any (w : World) (bv : Value) (L : List Int) (hb : Rb w bv L) (hL : isB L) (e : Nat) (he : e ≤ 10000000) :
    Calls Try.prog 53 #[.agg #[bv, .int .i64 e]] w fun r w' => Below w.heap.size w w' ∧ ((∃ x v, Nxt L e x ∧ r = .returned (.tuple #[v, .bool true]) ∧ w'.ownsRow w.heap.size 5 1 v x.length (bts x)) ∨ ((¬ ∃ x, Nxt L e x) ∧ ∃ v, r = .returned (.tuple #[v, .bool false]))) := by
  obtain ⟨bp, bc, rfl, -⟩ := hb.form
  have hlm := hb.len
  unfold maxLen at hlm
  have B0 : Below w.heap.size w (w.alloc (.cells #[.slice bp L.length bc, .int .i64 e] 95)) := (Below.refl _ _).alloc (Nat.le_refl _) _
  have R0 : Hid (Rb (w.alloc (.cells #[.slice bp L.length bc, .int .i64 e] 95)) (.slice bp L.length bc) L) := hb.below' B0
  have x0 : (w.alloc (.cells #[.slice bp L.length bc, .int .i64 e] 95)).cell? ⟨w.heap.size, 0, none⟩ = some (.slice bp L.length bc) := by rw [cell_of_row _ _ 0 _ _ _ (heap_alloc_new w _)]; rfl
  have x1 : (w.alloc (.cells #[.slice bp L.length bc, .int .i64 e] 95)).cell? ⟨w.heap.size, 1, none⟩ = some (.int .i64 e) := by rw [cell_of_row _ _ 1 _ _ _ (heap_alloc_new w _)]; rfl
  have z0 : (w.alloc (.cells #[.slice bp L.length bc, .int .i64 e] 95)).heap.size = w.heap.size + 1 := by simp
  have HL := Lib.hid hL
  clear hb hL
  obtain ⟨i0, hi5, hz0, hz1, hz2⟩ := info_parts info5
  go_enter Try.func53, Try.ntmps53
  go_wp2_with fail
  generalize w.alloc (.cells #[.slice bp L.length bc, .int .i64 e] 95) = w0 at *
  have hw0 : w.heap.size < w0.heap.size := by omega
  clear z0
  go_step3
  go_wp2_with fail
  refine (byteAt_any w0 _ L R0.out HL.out e 0 (by omega) (by omega)).mono ?_
  rintro r w1 ⟨b1, h1⟩
  have y0 : w1.cell? ⟨w.heap.size, 0, none⟩ = some (.slice bp L.length bc) := (b1.cell (p := ⟨w.heap.size, 0, none⟩) hw0).trans x0
  have y1 : w1.cell? ⟨w.heap.size, 1, none⟩ = some (.int .i64 e) := (b1.cell (p := ⟨w.heap.size, 1, none⟩) hw0).trans x1
  have R1 : Hid (Rb w1 (.slice bp L.length bc) L) := R0.out.below' b1
  have B1 := b1
  clear b1
  rcases h1 with ⟨h, hh, rfl⟩ | ⟨hn, rfl⟩
  · have HH := Lib.hid hh
    clear hh
    go_wp2_with fail
    refine (byteAt_any w1 _ L R1.out HL.out e 1 (by omega) (by omega)).mono ?_
    rintro r w2 ⟨b2, h2⟩
    have R2 : Hid (Rb w2 (.slice bp L.length bc) L) := R1.out.below' b2
    have B2 : Below w0.heap.size w0 w2 := B1.trans (b2.mono B1.size)
    have u0 : w2.cell? ⟨w.heap.size, 0, none⟩ = some (.slice bp L.length bc) := (B2.cell (p := ⟨w.heap.size, 0, none⟩) hw0).trans x0
    have u1 : w2.cell? ⟨w.heap.size, 1, none⟩ = some (.int .i64 e) := (B2.cell (p := ⟨w.heap.size, 1, none⟩) hw0).trans x1
    clear b2 y0 y1 R1
    rcases h2 with ⟨l, hl, rfl⟩ | ⟨hn, rfl⟩
    · have HLo := Lib.hid hl
      clear hl
      have hr1 : 0 ≤ h ∧ h ≤ 255 := by have := (bAt_some.1 HH.out).2.1; rw [← this]; exact isB_getD HL.out _
      have hr2 : 0 ≤ l ∧ l ≤ 255 := by have := (bAt_some.1 HLo.out).2.1; rw [← this]; exact isB_getD HL.out _
      obtain ⟨h0, h255⟩ := hr1
      obtain ⟨l0, l255⟩ := hr2
      have hor := or_i64 h0 h255 l0 l255
      obtain ⟨n, hn⟩ : ∃ n : Nat, h * 256 + l = n := ⟨(h * 256 + l).toNat, by omega⟩
      rw [hn] at hor
      have HN := Lib.hid hn
      clear hn
      by_cases hn4 : n ≤ 1024
      · go_wp2_with fail
        go_step3
        go_wp2_with fail
        have S2 := B2.size
        have hlit : (w2.alloc (.cells #[] 5)).ownsRow w2.heap.size 5 1 (.slice (some ⟨w2.heap.size, 0, none⟩) 0 0) 0 (bts (bl L e 0)) := World.ownsRow_lit w2 #[] 0 (Nat.le_refl _) (Nat.zero_le _) rfl
        have HLIT := Lib.hid hlit
        have BL : Below w2.heap.size w2 (w2.alloc (.cells #[] 5)) := (Below.refl _ _).alloc (Nat.le_refl _) _
        clear hlit
        go_loopw [9, 10, 42] (fun ov hv iv wr => ∃ k : Nat, hv = .bool true ∧ iv = .int .i64 k ∧ k ≤ n ∧ wr.ownsRow w2.heap.size 5 1 ov k (bts (bl L e k)) ∧ Hid (∀ i, i < k → bAt L e (2 + i) ≠ none) ∧ Below w2.heap.size w2 wr) (fun _ _ iv _ => n - (intOf iv).toNat)
        case atStart => exact ⟨0, rfl, rfl, Nat.zero_le _, HLIT.out, fun i hi => by omega, BL⟩
        case round =>
          obtain ⟨k, rfl, rfl, hk, hown, hall, hB⟩ := hrel
          obtain ⟨va, vc, rfl⟩ := own_slice hown
          have HOW := Lib.hid hown
          have HALL := Lib.hid hall.out
          have zr := hB.size
          have t0 : wr.cell? ⟨w.heap.size, 0, none⟩ = some (.slice bp L.length bc) := (hB.cell (p := ⟨w.heap.size, 0, none⟩) (by show w.heap.size < w2.heap.size; omega)).trans u0
          have t1 : wr.cell? ⟨w.heap.size, 1, none⟩ = some (.int .i64 e) := (hB.cell (p := ⟨w.heap.size, 1, none⟩) (by show w.heap.size < w2.heap.size; omega)).trans u1
          clear hown hall
          by_cases hkn : k < n
          · have R3 : Hid (Rb wr (.slice bp L.length bc) L) := R2.out.below' hB
            have ht : Hid ((2 + (k : Int)).toNat = 2 + k) := by unfold Hid; omega
            go_wp2_with fail
            refine (byteAt_int wr _ L R3.out HL.out e (2 + (k : Int)) (by omega) (by omega) (by omega)).mono ?_
            rw [ht.out]
            rintro r w3 ⟨b3, h3⟩
            have B3 : Below w2.heap.size w2 w3 := hB.trans (b3.mono zr)
            have HOW3 : Hid (w3.ownsRow w2.heap.size 5 1 (.slice va k vc) k (bts (bl L e k))) := own_same HOW.out b3
            have z3 := b3.size
            clear b3 t0 t1
            rcases h3 with ⟨y, hy, rfl⟩ | ⟨hn, rfl⟩
            · have hyv : L.getD (e + 2 * (2 + k)) 0 = y := (bAt_some.1 hy).2.1
              have hsn : Hid (bl L e (k + 1) = bl L e k ++ [y]) := by unfold Hid; rw [bl_snoc, hyv]
              have hall' : Hid (∀ i, i < k + 1 → bAt L e (2 + i) ≠ none) := fun i hi => by
                by_cases ei : i = k
                · rw [ei, hy]; simp
                · exact HALL.out i (by omega)
              clear hyv hy
              go_wp2_with ((at_builtin; refine wpList_append_own _ rfl _ _ 30 rfl w2.heap.size 5 i0 (.int .u8 0) 1 1 Try.underlying30 hi5 hz0 hz1 hz2 rfl (by decide) _ k (bts (bl L e k)) rfl (own_keep HOW3.out ((Keeps.refl (fun _ => False) w3).alloc _) (fun _ _ f => f)) ⟨w3.heap.size, 0, none⟩ 1 1 [.int .u8 y] rfl rfl (World.news_of_block (heap_alloc_new w3 _)) (by simp [Value.oneCell']) (by unfold maxLen; omega) (by omega) (by simp; omega) ?_))
              rintro v7 w7 hown7 hg7 -
              have HO7 : Hid (w7.ownsRow w2.heap.size 5 1 v7 (k + 1) (bts (bl L e (k + 1)))) := by
                unfold Hid
                rw [hsn.out, show bts (bl L e k ++ [y]) = bts (bl L e k) ++ [.int .u8 y] by simp [bts]]
                exact hown7
              have B7 : Below w2.heap.size w2 w7 := (B3.alloc B3.size _).grown hg7 (by simp; omega) (fun j hj => (own_lt HOW3.out j hj).1)
              clear hown7 hg7
              go_wp2_with fail
              go_roundw
              case rel => exact ⟨k + 1, rfl, rfl, by omega, HO7.out, hall', B7⟩
              case measure => simp [intOf]; omega
            · have hno : ¬ ∃ x, Nxt L e x := fun ⟨x, hx⟩ => by
                have h1 := nxt_len HH.out HLo.out hx
                have h2 := hx.2.2.2 k (by have := HN.out; omega)
                rw [hn] at h2
                cases h2
              have HNO := Lib.hid hno
              have HB3 := Lib.hid B3
              clear hno hn B3
              go_wp2_with fail
              (try rw [Exit.noGoto_ret])
              go_ret2
              exact ⟨B0.trans ((B2.trans (HB3.out.mono S2)).mono (by omega)), .inr ⟨HNO.out, _, rfl⟩⟩
          · obtain rfl : k = n := by omega
            have hyes := nxt_bl l0 l255 HN.out hn4 HH.out HLo.out HALL.out
            have HY := Lib.hid hyes
            have HB := Lib.hid hB
            clear hyes hB t0 t1
            go_wp2_with fail
            (try rw [Exit.noGoto_ret])
            go_ret2
            exact ⟨B0.trans ((B2.trans (HB.out.mono S2)).mono (by omega)), .inl ⟨_, _, HY.out, rfl, by rw [bl_length]; exact own_mono HOW.out (by omega)⟩⟩
      · have hno : ¬ ∃ x, Nxt L e x := fun ⟨x, hx⟩ => by
          have := nxt_len HH.out HLo.out hx
          have := hx.1
          have := HN.out
          omega
        have HNO := Lib.hid hno
        clear hno
        go_wp2_with fail
        (try rw [Exit.noGoto_ret])
        go_ret2
        exact ⟨B0.trans (B2.mono (by omega)), .inr ⟨HNO.out, _, rfl⟩⟩
    · have hno : ¬ ∃ x, Nxt L e x := fun ⟨x, hx⟩ => by
        have := hx.2.2.1
        rw [hn] at this
        cases this
      have HNO := Lib.hid hno
      clear hno hn
      go_wp2_with fail
      (try rw [Exit.noGoto_ret])
      go_ret2
      exact ⟨B0.trans (B2.mono (by omega)), .inr ⟨HNO.out, _, rfl⟩⟩
  · have hno : ¬ ∃ x, Nxt L e x := fun ⟨x, hx⟩ => by
      have := hx.2.1
      rw [hn] at this
      cases this
    have HNO := Lib.hid hno
    clear hno hn
    go_wp2_with fail
    refine (byteAt_any w1 _ L R1.out HL.out e 1 (by omega) (by omega)).mono ?_
    rintro r w2 ⟨b2, h2⟩
    have B2 : Below w0.heap.size w0 w2 := B1.trans (b2.mono B1.size)
    clear b2 y0 y1 R1
    rcases h2 with ⟨l, hl, rfl⟩ | ⟨hn, rfl⟩
    · clear hl
      go_wp2_with fail
      (try rw [Exit.noGoto_ret])
      go_ret2
      exact ⟨B0.trans (B2.mono (by omega)), .inr ⟨HNO.out, _, rfl⟩⟩
    · clear hn
      go_wp2_with fail
      (try rw [Exit.noGoto_ret])
      go_ret2
      exact ⟨B0.trans (B2.mono (by omega)), .inr ⟨HNO.out, _, rfl⟩⟩
end Go.Proofs.Ytbbjeoepoocofaa
