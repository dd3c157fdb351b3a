import Derived.Test.YtbbjeoepoocofaaD9
import Derived.BigQuiet
namespace Go.Proofs.Ytbbjeoepoocofaa
open Go.RowKit

theorem getD_ext {xs ys : List Int} (h : xs.length = ys.length) (he : ∀ i, i < xs.length → xs.getD i 0 = ys.getD i 0) : xs = ys := by
  apply List.ext_getElem h
  intro i h1 h2
  have := he i h1
  simpa [List.getD, List.getElem?_eq_getElem h1, List.getElem?_eq_getElem h2] using this

theorem drewN2 (w : World) (a b : Nat) : (w.drewN a).drewN b = w.drewN (a + b) := by simp [World.drewN, Nat.add_assoc]

set_option maxHeartbeats 400000 in
theorem Bytes_any (w : World) (a b : Value) (xs ys : List Int) (ha : Rb w a xs) (hb : Rb w b ys) :
    Calls Try.prog 21 #[a, b] w fun e w' => e = .returned (.bool (decide (xs = ys))) ∧ ∃ n, w' = w.drewN n := by
  obtain ⟨sa, ca, rfl, -⟩ := ha.form
  obtain ⟨sb, cb, rfl, -⟩ := hb.form
  have la := ha.len
  have lb := hb.len
  unfold maxLen at la lb
  have HA := Lib.hid ha
  have HB := Lib.hid hb
  clear ha hb
  by_cases hl : xs.length = ys.length
  · have hne : ((xs.length : Int) != (ys.length : Int)) = false := by simp [hl]
    go_enter Try.func21, Try.ntmps21
    go_wp2_with fail
    go_loopw [5] (fun i wr => ∃ k : Nat, i = .int .i64 k ∧ k ≤ xs.length ∧ Hid (∀ j, j < k → xs.getD j 0 = ys.getD j 0) ∧ ∃ n, wr = w.drewN n) (fun i _ => xs.length - (intOf i).toNat)
    case atStart => exact ⟨0, rfl, Nat.zero_le _, fun j hj => by omega, 0, rfl⟩
    case round =>
      obtain ⟨k, rfl, hk, hpre, n, hwr⟩ := hrel
      have HWR := Lib.hid hwr
      clear hwr
      by_cases hlt : k < xs.length
      · obtain ⟨b1, o1, c1, e1, -, -, q1⟩ := HA.out.cell hlt
        obtain ⟨b2, o2, c2, e2, -, -, q2⟩ := HB.out.cell (i := k) (by omega)
        simp only [Value.slice.injEq, true_and] at e1 e2
        obtain ⟨rfl, rfl⟩ := e1
        obtain ⟨rfl, rfl⟩ := e2
        have t1 : wr.cell? ⟨b1, o1 + k, none⟩ = some (.int .u8 (xs.getD k 0)) := by rw [HWR.out]; exact q1 k hlt
        have t2 : wr.cell? ⟨b2, o2 + k, none⟩ = some (.int .u8 (ys.getD k 0)) := by rw [HWR.out]; exact q2 k (by omega)
        have hlt2 : k < ys.length := by omega
        have H1 : Hid (xs.getD k 0 = ys.getD k 0 → ∀ j, j < k + 1 → xs.getD j 0 = ys.getD j 0) := fun h j hj => by
          by_cases e : j = k
          · rw [e, h]
          · exact hpre j (by omega)
        have H2 : Hid (¬ xs.getD k 0 = ys.getD k 0 → decide (xs = ys) = false) := fun h => by
          apply decide_eq_false
          intro e
          rw [e] at h
          exact h rfl
        clear q1 q2 hpre
        generalize xs.getD k 0 = x at *
        generalize ys.getD k 0 = y at *
        by_cases hxy : x = y
        · have hb1 : (x != y) = false := by simp [hxy]
          go_wp2_with fail
          go_quiet (fail)
          go_wp2_with fail
          go_roundw
          case rel => exact ⟨k + 1, rfl, by omega, H1.out hxy, n + nq, by rw [HWR.out, drewN2]⟩
          case measure => simp [intOf]; omega
        · have hb1 : (x != y) = true := by simp [hxy]
          go_wp2_with fail
          go_quiet (fail)
          go_wp2_with fail
          go_ret
          exact ⟨ret_bool (H2.out hxy).symm, n + nq, by rw [HWR.out, drewN2]⟩
      · go_wp2_with fail
        go_ret
        have : xs = ys := getD_ext hl (fun i hi => hpre i (by omega))
        exact ⟨ret_bool (decide_eq_true this).symm, n, HWR.out⟩
  · have hne : ((xs.length : Int) != (ys.length : Int)) = true := by simp; omega
    go_enter Try.func21, Try.ntmps21
    go_wp2_with fail
    go_ret
    exact ⟨ret_bool (decide_eq_false (fun e => hl (by rw [e]))).symm, 0, rfl⟩
end Go.Proofs.Ytbbjeoepoocofaa
