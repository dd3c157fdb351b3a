import Derived.Test.YtbbjeoepoocofaaE5
namespace Go.Proofs.Ytbbjeoepoocofaa
open Go.RowKit

theorem Own.lt {base : Nat} {w : World} {d : Nat} {D : Dk} (h : Own base w d D) : base ≤ d ∧ d < w.heap.size := by
  obtain ⟨M, S, ⟨_, _, _, _, _, _, l⟩, h2⟩ := h
  exact ⟨h2 d (l.sub d l.md), l.lt d (l.sub d l.md)⟩

theorem Own.write {base : Nat} {w : World} {d : Nat} {D : Dk} (h : Own base w d D) (hB : base ≤ w.heap.size) (i : Int) (bv : Value) (xs : List Int) (hb : Rb w bv xs) (hbM : ∀ k, bv.ownBlock = some k → 0 < xs.length → k < base) (hop : D.open_.length < 1000000) :
    Calls Try.prog 22 #[.pointer (some ⟨d, 0, none⟩), .int .i64 i, bv] w fun e w' => e = .returned (.int .i64 (D.err i xs.length)) ∧ Own base w' d (D.put i xs) ∧ Below base w w' := by
  obtain ⟨M, S, h1, h2⟩ := h
  refine (Write_any w d D M S i bv xs hb (fun k hk hp hM => by have := hbM k hk hp; have := h2 k (h1.sub k hM); omega) h1 hop).mono ?_
  rintro e w' ⟨rfl, M', S', h3, h4, h5, h6⟩
  exact ⟨rfl, ⟨M', S', h3, fun k hk => (h6 k hk).elim (h2 k) (fun h => by omega)⟩, h4.below hB fun k hk => h2 k (h1.sub k hk)⟩

theorem Own.sync {base : Nat} {w : World} {d : Nat} {D : Dk} (h : Own base w d D) (hB : base ≤ w.heap.size) :
    Calls Try.prog 33 #[.pointer (some ⟨d, 0, none⟩)] w fun e w' => e = .returned (.int .i64 0) ∧ Own base w' d D.sync ∧ Below base w w' := by
  obtain ⟨M, S, h1, h2⟩ := h
  refine (Sync_yes w d D M S h1).mono ?_
  rintro e w' ⟨rfl, M', S', h3, h4, h5, h6⟩
  exact ⟨rfl, ⟨M', S', h3, fun k hk => (h6 k hk).elim (h2 k) (fun h => by omega)⟩, h4.below hB fun k hk => h2 k (h1.sub k hk)⟩

theorem Own.draw {base : Nat} {w : World} {d : Nat} {D : Dk} (h : Own base w d D) : Own base w.drew d D := by
  obtain ⟨M, S, h1, h2⟩ := h
  exact ⟨M, S, h1.keep (X := fun _ => False) ((Keeps.refl _ _).drew) (fun _ _ f => f), h2⟩

set_option maxHeartbeats 1000000 in
theorem made_any (w : World) (a b : Int) (h1 : 1 ≤ a) (h2 : a ≤ 1024) (h3 : 1 ≤ b) (h4 : b ≤ 4096) (B : Nat) (hB : B ≤ w.heap.size) (v : Value) (l : List Opv) (h : OpsAt w B v l) (hl : l.length ≤ 1000) :
    Calls Try.prog 17 #[.agg #[.int .i64 a, .int .i64 b], v] w fun e w' => ∃ d, e = .returned (.pointer (some ⟨d, 0, none⟩)) ∧ Own w.heap.size w' d ((newDk a.toNat b.toNat).runs l) ∧ Below w.heap.size w w' := by
  obtain ⟨sp, sc, rfl, hm⟩ := h.form
  unfold maxLen at hm
  have HO := Lib.hid h
  clear h
  go_enter Try.func17, Try.ntmps17
  go_wp2_with fail
  refine (New_ok _ a b h1 h2 h3 h4).mono ?_
  rintro e w1 ⟨d, M, S, rfl, hd, hS, b1⟩
  have O1 : Hid (Own w.heap.size w1 d (newDk a.toNat b.toNat)) := ⟨M, S, hd, fun k hk => by have := hS k hk; simp at this; omega⟩
  have B1 : Below w.heap.size w w1 := Below.trans ((Below.refl _ _).alloc (Nat.le_refl _) _) (b1.mono (by simp))
  clear hd hS b1
  have hopen : (newDk a.toNat b.toNat).open_.length ≤ 100000 := by simp [newDk]
  generalize hD0 : newDk a.toNat b.toNat = D0 at *
  have HD0 := Lib.hid hD0
  clear hD0
  go_wp2_with fail
  go_loopw [7] (fun i wr => ∃ k : Nat, i = .int .i64 k ∧ k ≤ l.length ∧ Own w.heap.size wr d (D0.runs (l.take k)) ∧ Below w.heap.size w wr) (fun i _ => l.length - (intOf i).toNat)
  case atStart => exact ⟨0, rfl, Nat.zero_le _, O1.out, B1⟩
  case round =>
    obtain ⟨k, rfl, hk, hO, hW⟩ := hrel
    by_cases hlt : k < l.length
    · obtain ⟨b, off, cap, va, vc, e1, hc1, hc2, q0, q1, q2, hb, hbB⟩ := (HO.out.below (hW.mono hB)).at hlt
      simp only [Value.slice.injEq, true_and] at e1
      obtain ⟨rfl, rfl⟩ := e1
      have hrun : D0.runs (l.take (k + 1)) = (D0.runs (l.take k)).op l[k] := by
        rw [List.take_add_one, List.getElem?_eq_getElem hlt]
        exact D0.runs_snoc _ _
      have hop : (D0.runs (l.take k)).open_.length < 1000000 := by
        have := D0.runs_open (l.take k)
        rw [List.length_take] at this
        omega
      have HR := Lib.hid hrun
      have HOW := Lib.hid hO
      have HB := Lib.hid hb
      have HBB := Lib.hid hbB
      clear hrun hO hb hbB
      generalize D0.runs (l.take k) = D at *
      generalize l[k] = o at *
      obtain ⟨os, ob, oxs⟩ := o
      simp only at *
      cases os
      · go_wp2_with fail
        go_region_law (first
          | (go_simp; go_at_call 22; refine (HOW.out.draw.write hW.size ob _ oxs (HB.out.below' ⟨rfl, rfl, rfl, Nat.le_refl _, fun _ _ => rfl⟩) (fun k hk hp => Nat.lt_of_lt_of_le (HBB.out k hk hp) hB) hop).mono ?_; rintro e w4 ⟨rfl, h4, b4⟩)
          | fail)
        all_goals
          go_wp2_with fail
          go_roundw
          case rel => exact ⟨k + 1, rfl, by omega, by rw [HR.out]; exact h4, hW.trans ⟨b4.os, b4.tape, b4.output, b4.size, b4.block⟩⟩
          case measure => simp [intOf]; omega
      · go_wp2_with fail
        refine (HOW.out.sync hW.size).mono ?_
        rintro e w4 ⟨rfl, h4, b4⟩
        have H4 := Lib.hid h4
        clear h4
        go_wp2_with fail
        go_roundw
        case rel => exact ⟨k + 1, rfl, by omega, by rw [HR.out]; exact H4.out, hW.trans b4⟩
        case measure => simp [intOf]; omega
    · obtain rfl : k = l.length := by omega
      have hO2 : Hid (Own w.heap.size wr d (D0.runs l)) := by
        have := hO
        rw [List.take_length] at this
        exact this
      clear hO
      go_wp2_with fail
      go_ret
      exact ⟨d, rfl, by rw [HD0.out]; exact hO2.out, hW⟩
end Go.Proofs.Ytbbjeoepoocofaa
