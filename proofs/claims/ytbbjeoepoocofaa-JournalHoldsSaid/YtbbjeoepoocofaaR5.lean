/- All bytes of a disk; lists of records that are the same. -/
import Derived.Test.YtbbjeoepoocofaaR4
namespace Go.Proofs.Ytbbjeoepoocofaa
open Go.RowKit

set_option maxRecDepth 100000 in
set_option maxHeartbeats 1000000 in
theorem bytes_any (w : World) (d : Nat) (D : Dk) (Md Sd : Nat → Prop) (hd : DiskAt w d D Md Sd) (hb : D.blocks ≤ 64) :
    Calls Try.prog 34 #[.pointer (some ⟨d, 0, none⟩)] w fun e w' => ∃ v, e = .returned v ∧ w'.ownsRow w.heap.size 5 1 v D.now.length (bts D.now) ∧ Below w.heap.size w w' := by
  have HD := Lib.hid hd
  obtain ⟨p1, p2, p3, p4⟩ : 1 ≤ D.blocks ∧ D.blocks ≤ 1024 ∧ 1 ≤ D.size ∧ D.size ≤ 4096 := by obtain ⟨_, _, _, _, _, _, li⟩ := hd; exact li.pos
  have HNL : Hid (D.now.length = D.blocks * D.size) := by obtain ⟨_, _, _, _, _, _, li⟩ := hd; exact li.nowLen
  obtain ⟨-, s2, -⟩ := size_facts (i := 0) p2 p4 (by omega)
  clear hd
  obtain ⟨i0, hi5, hz0, hz1, hz2⟩ := info_parts info5
  go_enter Try.func34, Try.ntmps34
  go_wp2_with fail
  go_loopw [3, 4] (fun ov iv wr => ∃ k : Nat, iv = .int .i64 k ∧ k ≤ D.blocks ∧ wr.ownsRow w.heap.size 5 1 ov (k * D.size) (bts (D.now.take (k * D.size))) ∧ Below w.heap.size w wr) (fun _ iv _ => D.blocks - (intOf iv).toNat)
  case atStart => exact ⟨0, rfl, Nat.zero_le _, by rw [Nat.zero_mul, List.take_zero]; exact World.ownsRow_nil _ _ _ _, Below.refl _ _⟩
  case round =>
    obtain ⟨k, rfl, hk, hO, hW⟩ := hrel
    have HO := Lib.hid hO
    have HW := Lib.hid hW
    obtain ⟨ba, bc, rfl⟩ := own_slice hO
    clear hO hW
    by_cases hlt : k < D.blocks
    · obtain ⟨s1, -, s3⟩ := size_facts p2 p4 hlt
      have hbl : Hid ((D.block k).length = D.size) := block_length HNL.out p2 p4 hlt
      have hsn : Hid (bts (D.now.take (k * D.size)) ++ bts (D.block k) = bts (D.now.take ((k + 1) * D.size))) := by
        unfold Hid
        rw [← block_snoc k]
        simp [bts]
      have HS3 := Lib.hid s3
      clear s3
      go_wp2_with fail
      refine (Blocks_any wr d D Md Sd (HD.out.below HW.out)).mono ?_
      rintro e w1 ⟨rfl, rfl⟩
      go_wp2_with fail
      refine (Read_yes wr d D Md Sd k hlt (HD.out.below HW.out)).mono ?_
      rintro e w3 ⟨v, rfl, hown3, b3⟩
      rw [hbl.out] at hown3
      obtain ⟨va, vc, rfl⟩ := own_slice hown3
      have I3 : Hid (w3.ownsRow w.heap.size 5 1 (.slice ba (k * D.size) bc) (k * D.size) (bts (D.now.take (k * D.size)))) := own_same HO.out b3
      have X3 : Hid (Rd w3 1 (.slice va D.size vc) D.size (bts (D.block k))) := Rd.of_own hown3
      have B3 : Hid (Below w.heap.size w w3) := HW.out.trans (b3.mono HW.out.size)
      have z3 := B3.out.size
      clear hown3 b3
      generalize D.block k = X at *
      generalize k * D.size = a at *
      go_wp2_with ((at_builtin; refine wpList_append_rd rfl _ _ 30 rfl w.heap.size 5 i0 (.int .u8 0) 1 1 Try.underlying30 hi5 hz0 hz1 hz2 rfl (by decide) (.slice ba a bc) a _ rfl I3.out (.slice va D.size vc) D.size (bts X) rfl X3.out bts_one (by unfold maxLen; omega) (by omega) z3 ?_; rintro v4 w4 hown4 hg4 -; have B4 : Hid (Below w.heap.size w w4) := B3.out.grown hg4 z3 (fun k e => (own_lt I3.out k e).1); have O4 := Lib.hid hown4; clear hg4 hown4))
      go_roundw
      case rel => exact ⟨k + 1, rfl, hlt, by rw [HS3.out, ← HS3.out, ← hsn.out, HS3.out]; exact O4.out, B4.out⟩
      case measure => simp [intOf]; omega
    · obtain rfl : k = D.blocks := by omega
      go_wp2_with fail
      refine (Blocks_any wr d D Md Sd (HD.out.below HW.out)).mono ?_
      rintro e w1 ⟨rfl, rfl⟩
      have HF : Hid (wr.ownsRow w.heap.size 5 1 (.slice ba (D.blocks * D.size) bc) D.now.length (bts D.now)) := by
        have := HO.out
        rw [← HNL.out, List.take_length] at this
        rw [← HNL.out]
        exact this
      go_wp2_with fail
      go_ret
      exact ⟨_, rfl, HF.out, HW.out⟩

set_option maxRecDepth 100000 in
set_option maxHeartbeats 1000000 in
theorem Same_any (w : World) (a b : Value) (xs ys : List (List Int)) (ha : Bb w a xs) (hb : Bb w b ys) :
    Calls Try.prog 30 #[a, b] w fun e w' => e = .returned (.bool (decide (xs = ys))) ∧ ∃ n, w' = w.drewN n := by
  obtain ⟨ap, ac, rfl, hal⟩ := ha.form
  obtain ⟨bp, bc, rfl, hbl⟩ := hb.form
  unfold maxLen at hal hbl
  have HA := Lib.hid ha
  have HB := Lib.hid hb
  clear ha hb
  by_cases hl : xs.length = ys.length
  · have hne : ((xs.length : Int) != (ys.length : Int)) = false := by simp [hl]
    have HLL := Lib.hid hl
    clear hl
    go_enter Try.func30, Try.ntmps30
    go_wp2_with fail
    go_loopw [5] (fun i wr => ∃ k : Nat, i = .int .i64 k ∧ k ≤ xs.length ∧ Hid (∀ j, j < k → xs[j]? = ys[j]?) ∧ ∃ n, Hid (wr = w.drewN n)) (fun i _ => xs.length - (intOf i).toNat)
    case atStart => exact ⟨0, rfl, Nat.zero_le _, fun j hj => by omega, 0, rfl⟩
    case round =>
      obtain ⟨k, rfl, hk, hpre, n, hwr⟩ := hrel
      have HP := Lib.hid hpre.out
      clear hpre
      by_cases hlt : k < xs.length
      · have bw : Below w.heap.size w wr := by rw [hwr.out]; exact Below.drewN (Below.refl _ _) n
        have hlt2 : k < ys.length := by have := HLL.out; omega
        obtain ⟨b1, o1, c1, va1, vc1, e1, q1, r1⟩ := (HA.out.below' bw).at hlt
        obtain ⟨b2, o2, c2, va2, vc2, e2, q2, r2⟩ := (HB.out.below' bw).at hlt2
        simp only [Value.slice.injEq, true_and] at e1 e2
        obtain ⟨rfl, rfl⟩ := e1
        obtain ⟨rfl, rfl⟩ := e2
        have HR1 := Lib.hid r1
        have HR2 := Lib.hid r2
        have H1 : Hid (xs[k] = ys[k] → ∀ j, j < k + 1 → xs[j]? = ys[j]?) := fun h j hj => by
          by_cases e : j = k
          · rw [e, List.getElem?_eq_getElem hlt, List.getElem?_eq_getElem hlt2, h]
          · exact HP.out j (by omega)
        have H2 : Hid (¬ xs[k] = ys[k] → decide (xs = ys) = false) := fun h => by
          apply decide_eq_false
          intro e
          subst e
          exact h rfl
        have hkl : (k : Int) < (ys.length : Int) := by omega
        clear r1 r2 bw
        generalize xs[k] = x at *
        generalize ys[k] = y at *
        have HC : Hid (∀ (n : Nat) (c : Bool), decide (x = y) = c → Calls Try.prog 21 #[.slice va1 x.length vc1, .slice va2 y.length vc2] (wr.drewN n) fun e w' => e = .returned (.bool c) ∧ ∃ m, w' = (wr.drewN n).drewN m) := fun n c hc => by
          rw [← hc]
          exact Bytes_any _ _ _ x y (HR1.out.keep (X := fun _ => False) ((Keeps.refl _ wr).drewN _) (fun _ _ _ f => f)) (HR2.out.keep (X := fun _ => False) ((Keeps.refl _ wr).drewN _) (fun _ _ _ f => f))
        by_cases hxy : x = y
        · have HD : Hid (decide (x = y) = true) := decide_eq_true hxy
          have HX := Lib.hid (H1.out hxy)
          clear hxy
          go_wp2_with fail
          go_quiet ((go_at_call 21; exact Calls.quiet_of (HC.out _ _ HD.out)))
          go_wp2_with fail
          go_roundw
          case rel => exact ⟨k + 1, rfl, by omega, HX.out, n + nq, by unfold Hid; rw [hwr.out, drewN2]⟩
          case measure => simp [intOf]; omega
        · have HD : Hid (decide (x = y) = false) := decide_eq_false hxy
          have HX := Lib.hid (H2.out hxy)
          clear hxy
          go_wp2_with fail
          go_quiet ((go_at_call 21; exact Calls.quiet_of (HC.out _ _ HD.out)))
          go_wp2_with fail
          go_ret
          exact ⟨ret_bool HX.out.symm, n + nq, by rw [hwr.out, drewN2]⟩
      · obtain rfl : k = xs.length := by omega
        go_wp2_with fail
        go_ret
        have : xs = ys := List.ext_getElem? fun i => by
          by_cases h : i < xs.length
          · exact HP.out i h
          · rw [List.getElem?_eq_none (by omega), List.getElem?_eq_none (by have := HLL.out; omega)]
        exact ⟨ret_bool (decide_eq_true this).symm, n, hwr.out⟩
  · have hne : ((xs.length : Int) != (ys.length : Int)) = true := by simp; omega
    go_enter Try.func30, Try.ntmps30
    go_wp2_with fail
    go_ret
    exact ⟨ret_bool (decide_eq_false (fun e => hl (by rw [e]))).symm, 0, rfl⟩
end Go.Proofs.Ytbbjeoepoocofaa
