/- A journal's bytes are written to its disk, block by block. -/
import Derived.Test.YtbbjeoepoocofaaJ4
namespace Go.Proofs.Ytbbjeoepoocofaa
open Go.RowKit

set_option maxRecDepth 100000 in
set_option maxHeartbeats 2000000 in
theorem write_any (w : World) (j d : Nat) (D : Dk) (L : List Int) (fin : Nat) (rs : List (List Int)) (Mj Sj Md Sd : Nat → Prop) (hj : Jr w j d L fin rs Mj Sj) (hd : DiskAt w d D Md Sd) (hM : ∀ k, Md k → ¬ Sj k)
    (fr tt : Nat) (htt : tt ≤ L.length) (hfr : fr ≤ 1000000) (hlen : L.length = D.blocks * D.size) (ho : D.open_.length ≤ 900000) :
    Calls Try.prog 57 #[.pointer (some ⟨j, 0, none⟩), .int .i64 fr, .int .i64 tt] w fun e w' => e = .returned (.tuple #[]) ∧ ∃ n M' S', DiskAt w' d (wrN D L tt (fr / D.size) n) M' S' ∧ (∀ i, i < n → (fr / D.size + i) * D.size < tt) ∧ tt ≤ (fr / D.size + n) * D.size ∧
      Keeps Md w w' ∧ (∀ k, M' k → Md k ∨ w.heap.size ≤ k) ∧ (∀ k, S' k → Sd k ∨ w.heap.size ≤ k) := by
  obtain ⟨ib, ic, rv, vs, l⟩ := hj
  obtain ⟨c0, c1, c2, c3⟩ := l.cells
  have LL := Lib.hid l
  have HD := Lib.hid hd
  have HM := Lib.hid hM
  obtain ⟨p1, p2, p3, p4⟩ : 1 ≤ D.blocks ∧ D.blocks ≤ 1024 ∧ 1 ≤ D.size ∧ D.size ≤ 4096 := by obtain ⟨_, _, _, _, _, _, li⟩ := hd; exact li.pos
  have hll := l.lenle
  have HLEN := Lib.hid hlen
  have hjS : Hid (¬ Md j) := fun h => hM j h (l.sub j l.mj)
  have hiS : Hid (¬ Md ib) := fun h => hM ib h (l.sub ib l.mi)
  have hjl : j < w.heap.size := l.lt j (l.sub j l.mj)
  have hil : ib < w.heap.size := l.lt ib (l.sub ib l.mi)
  have hq1 : (fr : Int) / (D.size : Int) = ((fr / D.size : Nat) : Int) := by simp
  have hq2 : fr / D.size ≤ 1000000 := Nat.le_trans (Nat.div_le_self _ _) hfr
  have hq3 : Hid (fr / D.size * D.size ≤ fr) := Nat.div_mul_le_self _ _
  clear l hd hM hlen
  generalize fr / D.size = q at *
  go_enter Try.func57, Try.ntmps57
  go_wp2_with fail
  refine (Size_any w d D Md Sd HD.out).mono ?_
  rintro e w1 ⟨rfl, rfl⟩
  go_wp2_with fail
  go_loopw [7] (fun bv wr => ∃ (n : Nat) (M' S' : Nat → Prop), bv = .int .i64 ((q + n : Nat) : Int) ∧ DiskAt wr d (wrN D L tt q n) M' S' ∧ Hid (∀ i, i < n → (q + i) * D.size < tt) ∧ Keeps Md w wr ∧ (∀ k, M' k → Md k ∨ w.heap.size ≤ k) ∧ (∀ k, S' k → Sd k ∨ w.heap.size ≤ k)) (fun bv _ => D.blocks + q - (intOf bv).toNat)
  case atStart => exact ⟨0, Md, Sd, by simp, HD.out, fun i hi => by omega, Keeps.refl _ _, fun k hk => .inl hk, fun k hk => .inl hk⟩
  case round =>
    obtain ⟨wa, hwa⟩ : ∃ wa, wa = wr := ⟨_, rfl⟩
    subst hwa
    obtain ⟨n, M', S', rfl, hD, hall, hK, hM', hS'⟩ := hrel
    have HDn := Lib.hid hD
    have HALL := Lib.hid hall.out
    have HMg := Lib.hid hM'
    have HSg := Lib.hid hS'
    have hws := wrN_same D L tt q n
    have HWS := Lib.hid hws
    obtain ⟨t0, t1, t2, t3⟩ := (LL.out.keep hK (fun k hk hx => HM.out k hx hk)).cells
    have HRB : Hid (Rb wa (.slice (some ⟨ib, 0, none⟩) L.length ic) L) := (LL.out.keep hK (fun k hk hx => HM.out k hx hk)).rb
    have zr := hK.size
    clear hD hall hM' hS' hws
    obtain ⟨a, ha⟩ : ∃ a, (q + n) * D.size = a := ⟨_, rfl⟩
    have e1 : ((q + n : Nat) : Int) * (D.size : Int) = (a : Int) := by rw [← ha]; simp
    obtain ⟨c, hc⟩ : ∃ c, (q + n + 1) * D.size = c := ⟨_, rfl⟩
    have e2 : (((q + n : Nat) : Int) + 1) * (D.size : Int) = (c : Int) := by rw [← hc]; simp
    have hca : c = a + D.size := by rw [← ha, ← hc, Nat.add_mul (q + n) 1, Nat.one_mul]
    have HA := Lib.hid ha
    have HC := Lib.hid hc
    clear ha hc
    by_cases hlt : a < tt
    · have hbn : q + n < D.blocks := by
        refine Nat.lt_of_not_le fun h => ?_
        have h2 := Nat.mul_le_mul_right D.size h
        have h3 := HLEN.out
        have h4 := HA.out
        omega
      have hab : a + D.size ≤ L.length := by
        have := mul_lt_lt (s := D.size) hbn
        have h3 := HLEN.out
        have h4 := HA.out
        omega
      obtain ⟨bn, hbne⟩ : ∃ bn, q + n = bn := ⟨_, rfl⟩
      have HBN := Lib.hid hbne
      rw [hbne] at e1 e2 hbn ⊢
      clear hbne
      by_cases hmin : tt ≤ c
      · skip
        have hhi : tt ≤ L.length := by omega
        have hahi : a ≤ tt := by omega
        have hic := HRB.out.capOk.2
        have hic1 : L.length ≤ ic := hic.1
        have hic2 : ic ≤ 9223372036854775807 := hic.2
        have hhc : tt ≤ ic := by omega
        have hac : a ≤ ic := by omega
        have hne : ¬ ic = a := by omega
        have hw1 : IntKind.i64.wrap (a : Int) = (a : Int) := by rw [IntKind.wrap_i64]; omega
        have hw2 : IntKind.i64.wrap ((bn : Int) + 1) = (bn : Int) + 1 := by rw [IntKind.wrap_i64]; omega
        have hw3 : IntKind.i64.wrap (c : Int) = (c : Int) := by rw [IntKind.wrap_i64]; omega
        have hcm : ¬ (c : Int) < (tt : Int) := by omega
        have hcn : ¬ c < tt := by omega
        have HP : Hid (Rb wa (.slice (some ⟨ib, a, none⟩) (tt - a) (ic - a)) (part L a tt)) := HRB.out.part hahi hhi
        have hpl : Hid ((part L a tt).length = tt - a) := part_len hhi
        have hstep : Hid (wrN D L tt q (n + 1) = (wrN D L tt q n).write bn (part L a tt)) := by
          unfold Hid
          rw [wrN, HBN.out]
          have h1 : bn * D.size = a := by rw [← HBN.out]; exact HA.out
          have h2 : (bn + 1) * D.size = c := by rw [← HBN.out]; exact HC.out
          rw [h1, h2, show min tt c = tt by omega]
        have hnM : Hid (∀ k, (Value.slice (some ⟨ib, a, none⟩) (tt - a) (ic - a)).ownBlock = some k → 0 < (part L a tt).length → ¬ M' k) := fun k hk _ hm => by
          obtain rfl : ib = k := by simpa [Value.ownBlock] using hk
          rcases HMg.out _ hm with h | h
          · exact hiS.out h
          · omega
        have hop : (wrN D L tt q n).open_.length < 1000000 := by have := HWS.out.2.2.2; have := HBN.out; omega
        have hbl : (bn : Int) < ((wrN D L tt q n).blocks : Int) := by have := HWS.out.1; omega
        have hsz : Hid ((part L a tt).length ≤ (wrN D L tt q n).size) := by unfold Hid; rw [hpl.out, HWS.out.2.1]; omega
        generalize wrN D L tt q n = Dn at *
        clear hca
        go_wp2_with fail
        go_region_law (first
          | (go_simp; go_at_call 22; refine (Write_ok wa.drew d Dn M' S' (bn : Int) (by omega) hbl _ (part L a tt) hsz.out (HP.out.below' ⟨rfl, rfl, rfl, Nat.le_refl _, fun _ _ => rfl⟩) hnM.out (HDn.out.keep (X := fun _ => False) ((Keeps.refl _ _).drew) (fun _ _ f => f)) hop).mono ?_; rintro e w7 ⟨rfl, M7, S7, hd7, k7, m7, s7⟩)
          | fail)
        all_goals
          have HD7 := Lib.hid hd7
          have K7 : Hid (Keeps Md w w7) := hK.trans (Y := M') ⟨k7.os, k7.tape, k7.output, k7.size, k7.block⟩ HMg.out
          have M7' : Hid (∀ k, M7 k → Md k ∨ w.heap.size ≤ k) := fun k hk => (m7 k hk).elim (HMg.out k) (fun h => .inr (Nat.le_trans zr h))
          have S7' : Hid (∀ k, S7 k → Sd k ∨ w.heap.size ≤ k) := fun k hk => (s7 k hk).elim (HSg.out k) (fun h => .inr (Nat.le_trans zr h))
          have HALL' : Hid (∀ i, i < n + 1 → (q + i) * D.size < tt) := fun i hi => by
            by_cases ei : i = n
            · rw [ei, HA.out]; exact hlt
            · exact HALL.out i (by omega)
          clear hd7 k7 m7 s7
          go_wp2_with fail
          go_roundw
          case rel => exact ⟨n + 1, M7, S7, by have := HBN.out; congr 1; omega, by rw [hstep.out]; exact HD7.out, HALL'.out, K7.out, M7'.out, S7'.out⟩
          case measure => simp [intOf]; have := HBN.out; omega
      · skip
        have hhi : c ≤ L.length := by omega
        have hahi : a ≤ c := by omega
        have hic := HRB.out.capOk.2
        have hic1 : L.length ≤ ic := hic.1
        have hic2 : ic ≤ 9223372036854775807 := hic.2
        have hhc : c ≤ ic := by omega
        have hac : a ≤ ic := by omega
        have hne : ¬ ic = a := by omega
        have hw1 : IntKind.i64.wrap (a : Int) = (a : Int) := by rw [IntKind.wrap_i64]; omega
        have hw2 : IntKind.i64.wrap ((bn : Int) + 1) = (bn : Int) + 1 := by rw [IntKind.wrap_i64]; omega
        have hw3 : IntKind.i64.wrap (c : Int) = (c : Int) := by rw [IntKind.wrap_i64]; omega
        have hcm : (c : Int) < (tt : Int) := by omega
        have hcn : c < tt := by omega
        have HP : Hid (Rb wa (.slice (some ⟨ib, a, none⟩) (c - a) (ic - a)) (part L a c)) := HRB.out.part hahi hhi
        have hpl : Hid ((part L a c).length = c - a) := part_len hhi
        have hstep : Hid (wrN D L tt q (n + 1) = (wrN D L tt q n).write bn (part L a c)) := by
          unfold Hid
          rw [wrN, HBN.out]
          have h1 : bn * D.size = a := by rw [← HBN.out]; exact HA.out
          have h2 : (bn + 1) * D.size = c := by rw [← HBN.out]; exact HC.out
          rw [h1, h2, show min tt c = c by omega]
        have hnM : Hid (∀ k, (Value.slice (some ⟨ib, a, none⟩) (c - a) (ic - a)).ownBlock = some k → 0 < (part L a c).length → ¬ M' k) := fun k hk _ hm => by
          obtain rfl : ib = k := by simpa [Value.ownBlock] using hk
          rcases HMg.out _ hm with h | h
          · exact hiS.out h
          · omega
        have hop : (wrN D L tt q n).open_.length < 1000000 := by have := HWS.out.2.2.2; have := HBN.out; omega
        have hbl : (bn : Int) < ((wrN D L tt q n).blocks : Int) := by have := HWS.out.1; omega
        have hsz : Hid ((part L a c).length ≤ (wrN D L tt q n).size) := by unfold Hid; rw [hpl.out, HWS.out.2.1]; omega
        generalize wrN D L tt q n = Dn at *
        clear hca
        go_wp2_with fail
        go_region_law (first
          | (go_simp; go_at_call 22; refine (Write_ok wa.drew d Dn M' S' (bn : Int) (by omega) hbl _ (part L a c) hsz.out (HP.out.below' ⟨rfl, rfl, rfl, Nat.le_refl _, fun _ _ => rfl⟩) hnM.out (HDn.out.keep (X := fun _ => False) ((Keeps.refl _ _).drew) (fun _ _ f => f)) hop).mono ?_; rintro e w7 ⟨rfl, M7, S7, hd7, k7, m7, s7⟩)
          | fail)
        all_goals
          have HD7 := Lib.hid hd7
          have K7 : Hid (Keeps Md w w7) := hK.trans (Y := M') ⟨k7.os, k7.tape, k7.output, k7.size, k7.block⟩ HMg.out
          have M7' : Hid (∀ k, M7 k → Md k ∨ w.heap.size ≤ k) := fun k hk => (m7 k hk).elim (HMg.out k) (fun h => .inr (Nat.le_trans zr h))
          have S7' : Hid (∀ k, S7 k → Sd k ∨ w.heap.size ≤ k) := fun k hk => (s7 k hk).elim (HSg.out k) (fun h => .inr (Nat.le_trans zr h))
          have HALL' : Hid (∀ i, i < n + 1 → (q + i) * D.size < tt) := fun i hi => by
            by_cases ei : i = n
            · rw [ei, HA.out]; exact hlt
            · exact HALL.out i (by omega)
          clear hd7 k7 m7 s7
          go_wp2_with fail
          go_roundw
          case rel => exact ⟨n + 1, M7, S7, by have := HBN.out; congr 1; omega, by rw [hstep.out]; exact HD7.out, HALL'.out, K7.out, M7'.out, S7'.out⟩
          case measure => simp [intOf]; have := HBN.out; omega
    · have hend : Hid (tt ≤ (q + n) * D.size) := by unfold Hid; rw [HA.out]; omega
      obtain ⟨bn, hbne⟩ : ∃ bn, q + n = bn := ⟨_, rfl⟩
      have HBN := Lib.hid hbne
      rw [hbne] at e1 e2 ⊢
      clear hbne
      have HK := Lib.hid hK
      have hab2 : a ≤ 1000000 := by
        rcases Nat.eq_zero_or_pos n with h0 | h0
        · subst h0
          have h4 := HA.out
          have h5 := hq3.out
          rw [Nat.add_zero] at h4
          omega
        · have h6 := HALL.out (n - 1) (by omega)
          have h7 := HA.out
          rw [show q + n = (q + (n - 1)) + 1 by omega, Nat.add_mul, Nat.one_mul] at h7
          omega
      go_wp2_with fail
      go_end0
      exact ⟨rfl, n, M', S', HDn.out, HALL.out, hend.out, HK.out, HMg.out, HSg.out⟩
end Go.Proofs.Ytbbjeoepoocofaa
