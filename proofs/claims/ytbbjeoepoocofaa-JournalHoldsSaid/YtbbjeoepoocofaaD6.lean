import Derived.Test.YtbbjeoepoocofaaD5
import Derived.Deep.DeepMust
namespace Go.Proofs.Ytbbjeoepoocofaa
open Go.RowKit

set_option maxRecDepth 100000 in
set_option maxHeartbeats 1000000 in
theorem Write_yes (w : World) (d : Nat) (D : Dk) (M S : Nat → Prop) (i : Nat) (hi : i < D.blocks) (bv : Value) (xs : List Int) (hx : xs.length ≤ D.size) (hb : Rb w bv xs)
    (hbM : ∀ k, bv.ownBlock = some k → 0 < xs.length → ¬ M k) (h : DiskAt w d D M S) (hop : D.open_.length < 1000000) :
    Calls Try.prog 22 #[.pointer (some ⟨d, 0, none⟩), .int .i64 i, bv] w (Wrote d (D.write i xs) M S w) := by
  obtain ⟨fb, fc, nb, nc, ov, vs, l⟩ := h
  obtain ⟨oa, oc, rfl⟩ := own_slice l.openRow
  obtain ⟨c0, c1, -, c3, c4⟩ := l.cells
  obtain ⟨p1, p2, p3, p4⟩ := l.pos
  obtain ⟨sp, sc, rfl, hsp⟩ := hb.form
  obtain ⟨cur, hcur, hn1, hn2, hn3, hn4⟩ := own_row l.now
  have hd := l.lt d (l.sub d l.md)
  obtain ⟨s1, s2, s3⟩ := size_facts p2 p4 hi
  have LL := Lib.hid l
  have HB := Lib.hid hb
  have HSP := Lib.hid hsp
  have HCUR := Lib.hid hcur
  have HN4 := Lib.hid hn4
  have HN3 := Lib.hid hn3
  clear l hb hsp hcur hn4 hn3
  have e1 : (i : Int) * (D.size : Int) = ((i * D.size : Nat) : Int) := by simp
  have e2 : ((i : Int) + 1) * (D.size : Int) = ((i * D.size + D.size : Nat) : Int) := by rw [← s3]; simp
  have hhas : decide (0 ≤ (i : Int) ∧ (i : Int) < (D.blocks : Int)) = true := by simp; omega
  have hspan := span_any D.blocks D.size i
  rw [e1, e2] at hspan
  have HS := Lib.hid hspan
  clear hspan s3 e1 e2
  obtain ⟨a, ha⟩ : ∃ a, a = i * D.size := ⟨_, rfl⟩
  rw [← ha] at s1 HS
  have HA := Lib.hid ha
  clear ha
  obtain ⟨N, hN⟩ : ∃ N, N = D.blocks * D.size := ⟨_, rfl⟩
  rw [← hN] at s1 s2 c3 hn1 HN4
  have HNN := Lib.hid hN
  clear hN
  unfold maxLen at hn2
  go_enter Try.func22, Try.ntmps22
  go_wp2_with fail
  refine (has_any _ _ _ _).mono ?_; rintro e w1 ⟨rfl, b1⟩
  rw [hhas]
  have k0 : w1.cell? ⟨d, 0, none⟩ = some (.int .i64 D.blocks) := (b1.cell (p := ⟨d, 0, none⟩) hd).trans c0
  have k1 : w1.cell? ⟨d, 1, none⟩ = some (.int .i64 D.size) := (b1.cell (p := ⟨d, 1, none⟩) hd).trans c1
  go_wp2_with fail
  refine (HS.out _ (by omega) (by omega) (by omega) (by omega) (by omega) (by omega)).mono ?_; rintro e w2 ⟨rfl, b2⟩
  have b12 : Below w.heap.size w w2 := b1.trans (b2.mono b1.size)
  have m3 : w2.cell? ⟨d, 3, none⟩ = some (.slice (some ⟨nb, 0, none⟩) N nc) := (b12.cell (p := ⟨d, 3, none⟩) hd).trans c3
  clear k0 k1 c0 c1 c3
  have hC2 : w2.heap[nb]? = some (.cells cur.toArray 5 (0, 0)) := (b12.block nb (LL.out.lt nb (LL.out.sub nb LL.out.mn))).trans HCUR.out
  have HC2 := Lib.hid hC2
  clear hC2
  have HNL : Hid ((bts xs).length = Nat.min xs.length (N - a)) := by unfold Hid; rw [bts_length]; show xs.length = min xs.length (N - a); omega
  have HPOS : Hid (0 < (bts xs).length → ∃ ad, sp = some ad ∧ ∀ j v, (bts xs)[j]? = some v → w2.cell? (ad.add j) = some v) := fun hp => by
    obtain ⟨ad, h1, h2⟩ := HSP.out hp
    exact ⟨ad, h1, fun j u hj => (Keeps.of_below (X := fun _ => False) b12).cell (fun f => f.elim) (h2 j u hj)⟩
  have HFIT : Hid (a + (bts xs).length ≤ cur.length) := by unfold Hid; rw [bts_length, HN3.out]; omega
  go_wp2_with ((with_reducible refine wpList_copy_keep (o := ⟨some 48, _, _, _, _, _⟩) ?_ (.tmp 46) (.tmp 47) 30 30 ?_ 5 Try.underlying30 info5s sp (N - a) (nc - a) xs.length sc nb a ?_ ?_ cur 5 HC2.out (bts xs) HNL.out HPOS.out HFIT.out bts_one ?_); rfl; rfl; rfl; rfl; intro w3 hco)
  go_wp2_with fail
  simp only [Act.put, List.setIfInBounds_toArray, List.set_cons_succ, List.set_cons_zero]
  have q4 : w3.cell? ⟨d, 4, none⟩ = some (.slice oa D.open_.length oc) := by
    have hne : ¬ d = nb := LL.out.apart.2.1
    exact hco.keeps.cell (a := ⟨d, 4, none⟩) hne ((b12.cell (p := ⟨d, 4, none⟩) hd).trans c4)
  clear c4 m3
  have K3 : Keeps (fun k => k = nb) w w3 := (Keeps.of_below b12).trans hco.keeps fun k h => .inl h
  have hnow3 : w3.ownsRow 0 5 1 (.slice (some ⟨nb, 0, none⟩) N nc) N (bts (over D.now a xs)) := copy_own HN4.out hn1 (by unfold maxLen; omega) HN3.out (by omega) hco
  have HNOW := Lib.hid hnow3
  have f4 : w3.frozen? ⟨d, 4, none⟩ = false := by
    have hne : ¬ d = nb := LL.out.apart.2.1
    rw [World.frozen?_of_block (a := ⟨d, 4, none⟩) (w := w) (K3.block d hd hne)]
    exact LL.out.free 4
  have hopen3 : w3.ownsRow 0 91 2 (.slice oa D.open_.length oc) D.open_.length (wcells vs) := own_keep LL.out.openRow K3 fun k h => (LL.out.apart.2.2.2 k h).2.2
  have HOPEN := Lib.hid hopen3
  have hrb3 : Rb w3 (.slice sp xs.length sc) xs := HB.out.keep K3 fun k h1 h2 h3 => hbM k h1 h2 (by rw [h3]; exact LL.out.mn)
  have HRB := Lib.hid hrb3
  have hob : ∀ k, (Value.slice oa D.open_.length oc).ownBlock = some k → ¬ d = k := fun k h e => (LL.out.apart.2.2.2 k h).1 e.symm
  have HOB := Lib.hid hob
  have hol := LL.out.openLen
  clear hnow3 hopen3 hrb3 hob hco hbM b12 b2 b1 HSP HPOS HFIT HNL HC2 HCUR
  obtain ⟨i0, hi91, hz0, hz1, hz2⟩ := info_parts info91
  go_region_law (first
      | (go_simp; go_at_call 50; refine (clone_bytes _ _ _ _ (HRB.out.keep ((Keeps.refl (fun _ => False) _).drew) (fun _ _ _ f => f)) bts_one (by omega)).mono ?_; rintro e w4 ⟨v, rfl, hown4, b4, -⟩; obtain ⟨va, vc, rfl⟩ := own_slice hown4; have c44 := keep_cell (Keeps.of_below (X := fun _ => False) b4) (fun f => f.elim) ⟨q4, f4⟩; obtain ⟨q44, f44⟩ := c44; have n4 : ∀ o, (w4.alloc o).cell? ⟨d, 4, none⟩ = some (.slice oa D.open_.length oc) := fun o => (keep_cell (Keeps.alloc (Keeps.refl (fun _ => False) _) _) (fun f => f.elim) ⟨q44, f44⟩).1)
      | (refine step_append_lies _ (by rfl) _ _ _ (by rfl) 0 91 i0 _ 2 32 Try.underlying87 hi91 hz0 hz1 hz2 (by rfl) (by decide) (.slice oa D.open_.length oc) _ (wcells vs) (by rfl) (own_keep HOPEN.out (((Keeps.refl (fun _ => False) w3).drew.trans (Keeps.of_below b4) (fun _ f => .inl f)).alloc _) (fun _ _ f => f)) ⟨w4.heap.size, 0, none⟩ 1 1 _ (by rfl) (by rfl) (World.news_of_block (heap_alloc_new w4 _)) (by simp [Value.oneCell']) (by decide) (by unfold maxLen; omega) (by omega) (Nat.zero_le _) (w4.heap.size + 1) (by simp) ?_; intro g cap w5 hown5 hgrow hat hlt; have c55 := keep_cell (Keeps.of_grown (X := fun k => (Value.slice oa D.open_.length oc).ownBlock = some k) hgrow (fun _ h => h)) (fun h => HOB.out _ h rfl) (keep_cell (Keeps.alloc (Keeps.refl (fun _ => False) _) _) (fun f => f.elim) ⟨q44, f44⟩); obtain ⟨q55, f55⟩ := c55)
      | fail)
  all_goals
    go_wp2_with fail
    go_ret
    have k4 : Keeps (fun _ => False) w3 w4 := (Keeps.refl (fun _ => False) w3).drew.trans (Keeps.of_below b4) (fun _ f => .inl f)
    have k45 : Keeps (fun k => (Value.slice oa D.open_.length oc).ownBlock = some k) w4 w5 := ((Keeps.refl _ w4).alloc _).trans (Keeps.of_grown (X := fun k => (Value.slice oa D.open_.length oc).ownBlock = some k) hgrow (fun _ h => h)) (fun _ h => .inl h)
    have hvb : ∀ k, (Value.slice va xs.length vc).ownBlock = some k → w3.heap.size ≤ k ∧ k < w4.heap.size + 1 := fun k h => by
      have := own_lt hown4 k h
      exact ⟨this.1, Nat.lt_succ_of_lt this.2⟩
    refine ⟨rfl, write_lies LL.out i hi xs hx (by omega) K3 (by rw [← HNN.out, ← HA.out]; exact HNOW.out) ((k4.mono fun _ f => f.elim).trans k45 fun _ h => .inl h) (.slice va xs.length vc)
      ((Rd.of_own hown4).keep k45 fun k h1 _ h3 => by have := (hvb k h1).1; have := (own_lt HOPEN.out k h3).2; omega) rfl g cap (w4.heap.size + 1) hvb hown5 hat (by have := k4.size; omega) hlt⟩
end Go.Proofs.Ytbbjeoepoocofaa
