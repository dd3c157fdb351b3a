/- The chapter's example; first records. -/
import Derived.Test.YtbbjeoepoocofaaS2
namespace Go.Proofs.Ytbbjeoepoocofaa
open Go.RowKit

theorem Bb.take {w : World} {sp : Option Addr} {n sc : Nat} {ys : List (List Int)} (h : Bb w (.slice sp n sc) ys) (m : Nat) (hm : m ≤ ys.length) : Bb w (.slice sp m sc) (ys.take m) := by
  obtain ⟨vs, h1, h2, h3⟩ := h
  have hl : (ys.take m).length = m := by rw [List.length_take]; omega
  refine ⟨vs.take m, by rw [List.length_take, List.length_take, h1], ⟨by rw [List.length_take, hl]; omega, ?_⟩, fun i x u hx hu => ?_⟩
  · rw [hl]
    rcases h2.2 with ⟨h' | ⟨aa, cc, h', hcc⟩, h0⟩ | ⟨b, off, cap, h', hc1, hc2, hc⟩
    · simp only [Value.slice.injEq] at h'
      obtain ⟨rfl, rfl, rfl⟩ := h'
      exact .inl ⟨.inl (by rw [show m = 0 by omega]), by omega⟩
    · simp only [Value.slice.injEq] at h'
      obtain ⟨rfl, rfl, rfl⟩ := h'
      exact .inl ⟨.inr ⟨aa, sc, by rw [show m = 0 by omega], hcc⟩, by omega⟩
    · simp only [Value.slice.injEq] at h'
      obtain ⟨rfl, rfl, rfl⟩ := h'
      refine .inr ⟨b, off, sc, rfl, by omega, hc2, fun i u hu => hc i u ?_⟩
      rw [List.getElem?_take] at hu
      split at hu
      · exact hu
      · simp at hu
  · rw [List.getElem?_take] at hx hu
    split at hx
    · rename_i hi
      rw [if_pos hi] at hu
      exact h3 i x u hx hu
    · simp at hx

set_option maxHeartbeats 1000000 in
theorem first_yes (w : World) (a b : Value) (xs ys : List (List Int)) (n : Int) (ha : Bb w a xs) (hb : Bb w b ys) (h1 : n ≤ xs.length) (h2 : xs.length ≤ ys.length) (h3 : xs = ys.take xs.length) :
    Calls Try.prog 31 #[a, b, .int .i64 n] w fun e w' => e = .returned (.bool true) ∧ ∃ n, w' = w.drewN n := by
  obtain ⟨ap, ac, rfl, hal⟩ := ha.form
  obtain ⟨bp, bc, rfl, hbl⟩ := hb.form
  have HA := Lib.hid ha
  have HT := Lib.hid (hb.take xs.length h2)
  have H3 := Lib.hid h3
  have hcap : ys.length ≤ bc ∧ bc ≤ 9223372036854775807 := by
    obtain ⟨vs, g1, g2, g3⟩ := hb
    have := g2.capOk
    unfold maxLen at this
    omega
  unfold maxLen at hal hbl
  clear ha hb h3
  have hcx : xs.length ≤ bc := by omega
  go_enter Try.func31, Try.ntmps31
  go_wp2_with fail
  refine (Same_any w _ _ xs (ys.take xs.length) HA.out HT.out).mono ?_
  rintro e w1 ⟨rfl, m, hw⟩
  rw [decide_eq_true H3.out]
  have HW := Lib.hid hw
  clear hw
  go_wp2_with fail
  go_ret
  exact ⟨rfl, m, HW.out⟩

/-- The journal of a new disk. -/
theorem Open_new (w : World) (d b s : Nat) (q : Foot) (hd : DiskAt w d (newDk b s) q.m q.s) (hb : b ≤ 40) (hs : s ≤ 40) :
    Calls Try.prog 27 #[.pointer (some ⟨d, 0, none⟩)] w fun e w' => ∃ j a, e = .returned (.tuple #[.pointer (some ⟨j, 0, none⟩), .int .i64 0]) ∧ JJ w' j d b s [] 0 a ∧ Upd q a w w' := by
  refine (Open_JJ w d (newDk b s) q hd (new_isB b s) hb hs (by simp [newDk])).mono ?_
  rintro e w' ⟨j, rs, fin, p, q', rfl, hr, hj, hps, u⟩
  obtain ⟨rfl, rfl⟩ := new_recs hr
  exact ⟨j, _, rfl, hj.jj hb hs, u.keeps, fun k hk => hk.elim (fun h => .inr (hps k (hj.jr.sub k h))) (u.m k), fun k hk => hk.elim (fun h => .inr (hps k h)) (u.s k)⟩

theorem fit_awake : fitB (2 * 4) [] 1 = true := by decide +kernel
theorem room_awake : roomV (2 * 4) (frms ([] ++ [[7]])).length = -1 := by decide +kernel
theorem image_awake : image (2 * 4) ([] ++ [[7]]) = [0, 255, 1, 254, 7, 248, 0, 0] := by decide +kernel

set_option maxRecDepth 100000 in
set_option maxHeartbeats 2000000 in
theorem awake18_any (w : World) : Calls Try.prog 25 #[] w fun e w' => e = .returned (.bool true) ∧ Below w.heap.size w w' := by
  go_enter Try.func25, Try.ntmps25
  go_wp2_with fail
  refine (New_ok w 2 4 (by omega) (by omega) (by omega) (by omega)).mono ?_
  rintro e w1 ⟨d, M, S, rfl, hd, hS, b1⟩
  have HD : Hid (DiskAt w1 d (newDk 2 4) M S) := hd
  have HS := Lib.hid hS
  clear hd hS
  go_wp2_with fail
  refine (Open_new w1 d 2 4 ⟨M, S⟩ HD.out (by omega) (by omega)).mono ?_
  rintro e w2 ⟨j, a, rfl, hj, u2⟩
  have J2 : Hid (JJ w2 j d 2 4 [] 0 a) := hj
  have s1 : Sits w1 w.heap.size ⟨M, S⟩ := ⟨HD.out.sub, HD.out.lt, fun k hk => HS.out k (HD.out.sub k hk)⟩
  have S2 : Hid (Sits w2 w.heap.size a) := u2.fit s1 b1.size hj.sub hj.lt
  have B2 : Hid (Below w.heap.size w w2) := b1.trans (u2.below s1 b1.size)
  clear hj u2 s1 HD HS b1
  go_wp2_with fail
  have J3 : Hid (∀ o, JJ (w2.alloc o) j d 2 4 [] 0 a) := fun o => J2.out.below ((Below.refl _ _).alloc (Nat.le_refl _) o)
  refine (Append_JJ _ j d 2 4 [] 0 a (J3.out _) _ [7] (rd_new w2 (bts [7]) 1 rfl (by decide) _) (fun x hx => by simp at hx; omega) (fun k e _ hk => by have := S2.out.lt k (S2.out.sub k hk); simp [Value.ownBlock] at e; omega) (by decide)).mono ?_
  rw [show ([7] : List Int).length = 1 from rfl, fit_awake, if_pos rfl, if_pos rfl]
  rintro e w3 ⟨rfl, a3, h3, u3⟩
  have s2' : ∀ o, Sits (w2.alloc o) w.heap.size a := fun o => S2.out.mono (by simp)
  have J4 : Hid (JJ w3 j d 2 4 ([] ++ [[7]]) 0 a3) := h3
  have S4 : Hid (Sits w3 w.heap.size a3) := u3.fit (s2' _) (by have := B2.out.size; simp; omega) h3.sub h3.lt
  have B4 : Hid (Below w.heap.size w w3) := (B2.out.alloc B2.out.size _).trans (u3.below (s2' _) (by have := B2.out.size; simp; omega))
  clear h3 u3 s2' J2 S2 J3
  go_wp2_with fail
  refine (Len_JJ w3 j d 2 4 _ 0 a3 J4.out).mono ?_
  rintro e w4 ⟨rfl, rfl⟩
  go_wp2_with fail
  refine (Room_JJ w3 j d 2 4 _ 0 a3 J4.out).mono ?_
  rw [room_awake]
  rintro e w4 ⟨rfl, b4⟩
  have J5 : Hid (JJ w4 j d 2 4 ([] ++ [[7]]) 0 a3) := J4.out.below b4
  have B5 : Hid (Below w.heap.size w w4) := B4.out.trans (b4.mono B4.out.size)
  clear b4 J4 S4 B4
  go_wp2_with fail
  refine (bytes_JJ w4 j d 2 4 _ 0 a3 J5.out).mono ?_
  rw [image_awake]
  rintro e w5 ⟨v5, rfl, h5, b5⟩
  obtain ⟨va5, vc5, rfl⟩ := own_slice h5
  have R5 : Hid (Rb w5 (.slice va5 ([0, 255, 1, 254, 7, 248, 0, 0] : List Int).length vc5) [0, 255, 1, 254, 7, 248, 0, 0]) := Rd.of_own h5
  have B6 : Hid (Below w.heap.size w w5) := B5.out.trans (b5.mono B5.out.size)
  clear h5 b5 J5 B5
  go_wp2_with fail
  refine (Bytes_any _ _ _ [0, 255, 1, 254, 7, 248, 0, 0] [0, 255, 1, 254, 7, 248, 0, 0] (Rb.below' R5.out ((Below.refl _ _).alloc (Nat.le_refl _) _)) (rd_new w5 (bts [0, 255, 1, 254, 7, 248, 0, 0]) 8 rfl (by decide) _)).mono ?_
  rintro e w9 ⟨rfl, n9, hw9⟩
  have B9 : Hid (Below w.heap.size w w9) := by unfold Hid; rw [hw9]; exact Below.drewN (B6.out.alloc B6.out.size _) n9
  rw [decide_eq_true rfl]
  clear hw9
  go_wp2_with fail
  go_ret
  exact ⟨rfl, B9.out⟩
end Go.Proofs.Ytbbjeoepoocofaa
