/- The arguments of the journal's laws, opened: calls with records; two rows of them; rows of bytes. -/
import Derived.Test.YtbbjeoepoocofaaA1
import Derived.Test.YtbbjeoepoocofaaR4
namespace Go.Proofs.Ytbbjeoepoocofaa
open Go.ChangeShapes Go.WideShapes Go.ChangeAt Go.RowKit Go.Deep

theorem wf_u8 {n : Int} (h : (Lit.int .u8 n).wf = true) : 0 ≤ n ∧ n ≤ 255 := by
  simp [Lit.wf, IntKind.min, IntKind.max, IntKind.bits, IntKind.signed] at h
  omega

section
variable {H : Type} {enc : TypeId × Value → H} {P : Program} {w : World} {base : Nat} {held : Bool}

/-- A slice of bytes, the spare room too. -/
theorem open_bytes {t e : TypeId} {fuel : Nat} {u : Value} {x : DataW H × List MemPlace} (ht : P.underlying t = some (.slice e)) (he : P.underlying e = some (.int .u8)) (hc : P.cellsOf e = 1)
    (h : DataW.trod enc P w base (fun _ => true) held fuel t [u] = some x) :
    ∃ xs : List Int, Rb w u xs ∧ isB xs ∧ ∀ j, u.ownBlock = some j → 0 < xs.length → j < w.heap.size := by
  rcases open_ints ht he hc h with ⟨hcs, _⟩ | ⟨a, len, cap, zs, hcs, hb, hl, hm, hz, -, hcell, hwz⟩
  · simp only [List.cons.injEq, and_true] at hcs
    subst hcs
    exact ⟨[], ⟨rfl, .inl ⟨.inl rfl, rfl⟩⟩, fun x hx => by simp at hx, fun j _ h0 => by simp at h0⟩
  · simp only [List.cons.injEq, and_true] at hcs
    subst hcs
    simp only [if_true] at hz
    have hlen : (zs.take len).length = len := by rw [List.length_take]; omega
    have key : Rd w 1 (.slice (some a) len cap) (zs.take len).length (bts (zs.take len)) := by
      refine ⟨by rw [bts_length]; omega, ?_⟩
      rw [hlen]
      by_cases h0 : len = 0
      · exact .inl ⟨.inr ⟨a, cap, by rw [h0], hm⟩, h0⟩
      · obtain ⟨b, off, spot⟩ := a
        have hc0 := hcell 0 (by omega)
        have hspot : spot = none := by simpa [Addr.add] using World.cell?_spot hc0
        subst hspot
        refine .inr ⟨b, off, cap, rfl, hl, hm, fun j v hj => ?_⟩
        have hjl : j < len := by
          have := (List.getElem?_eq_some_iff.1 hj).1
          rw [bts_length, hlen] at this
          exact this
        have hcj := hcell j (by omega)
        have hadd : (⟨b, off, none⟩ : Addr).add j = ⟨b, off + j, none⟩ := by unfold Addr.add; split <;> simp_all
        rw [hadd] at hcj
        rw [hcj, ← hj, bts_get (by rw [hlen]; exact hjl)]
        congr 2
        simp only [List.getD, List.getElem?_take, hjl, if_true]
    exact ⟨zs.take len, key, fun n hn => wf_u8 (hwz n (List.mem_of_mem_take hn)), key.lt (by decide)⟩

/-- Two of a kind, by value. -/
theorem open_pair {r : Reach} {b0 : Nat} {t e : TypeId} {v : Value} {d : DataW H} {p : List MemPlace} (ht : P.underlying t = some (.array 2 e)) (hce : P.cellsOf e = 1) (hct : P.cellsOf t = 2)
    (hv : Value.okWide P w r b0 t v) (h : DataW.Trod enc P w base (fun _ => true) held t v d p) :
    ∃ c0 c1 y0 y1 n, v = .agg #[c0, c1] ∧ DataW.trod enc P w base (fun _ => true) held n e [c0] = some y0 ∧ DataW.trod enc P w base (fun _ => true) held n e [c1] = some y1 := by
  obtain ⟨cs, rfl, hsz⟩ := okWide_array ht hv
  obtain ⟨l⟩ := cs
  match l, hsz.trans hct with
  | [c0, c1], _ =>
    obtain ⟨fuel, hf⟩ := h
    obtain ⟨y0, y1, n, _, h0, h1⟩ := trod_array2 ht hce hf
    exact ⟨c0, c1, y0, y1, n, rfl, h0, h1⟩
end

theorem cel42 : Try.prog.cellsOf 42 = 1 := by kernel_rfl
theorem cel43 : Try.prog.cellsOf 43 = 2 := by kernel_rfl
theorem cel24 : Try.prog.cellsOf 24 = 1 := by kernel_rfl
theorem cel44 : Try.prog.cellsOf 44 = 2 := by kernel_rfl
theorem cel82 : Try.prog.cellsOf 82 = 2 := by kernel_rfl
theorem cel30 : Try.prog.cellsOf 30 = 1 := by kernel_rfl
theorem list2 {α : Type} {l : List α} (h : l.length = 2) : ∃ a b, l = [a, b] := by
  rcases l with _ | ⟨a, _ | ⟨b, _ | ⟨c, l⟩⟩⟩ <;> simp at h
  exact ⟨a, b, rfl⟩

section
variable {H : Type} {enc : TypeId × Value → H} {w : World} {base : Nat} {held : Bool}

/-- A row of calls on a journal, opened. -/
theorem open_jops {fuel : Nat} {u : Value} {x : DataW H × List MemPlace} (h : DataW.trod enc Try.prog w base (fun _ => true) held fuel 42 [u] = some x) : ∃ l, JAt w w.heap.size u l := by
  rcases open_slice Try.underlying42 h with ⟨hcs, _⟩ | ⟨a, len, cap, m, n, D, Pl, hcs, hb, hl, hm, hmm, -, hi⟩
  · simp only [List.cons.injEq, and_true] at hcs
    subst hcs
    exact ⟨[], ⟨[], rfl, ⟨rfl, .inl ⟨.inl rfl, rfl⟩⟩, fun i x u hx => by simp at hx⟩, fun k _ h => by simp at h, fun o ho => by simp at ho⟩
  · simp only [List.cons.injEq, and_true] at hcs
    subst hcs
    simp only [if_true] at hmm
    subst hmm
    rw [cel82] at hi
    have each : ∀ i, i < len → ∃ y : Jop × Value, w.cell? (a.add (i * 2)) = some (.bool y.1.sync) ∧ w.cell? ((a.add (i * 2)).add 1) = some y.2 ∧
        Rb w y.2 y.1.r ∧ isB y.1.r ∧ ∀ j, y.2.ownBlock = some j → 0 < y.1.r.length → j < w.heap.size := by
      intro i hlt
      obtain ⟨cs', hc, ht⟩ := hi i (by omega)
      obtain ⟨_, hcl, hat⟩ := World.cells?_some hc
      obtain ⟨c0, c2, rfl⟩ := list2 hcl
      obtain ⟨ys, n', -, -, -, hyl, hf⟩ := DataW.trod_struct Try.underlying82 ht
      have q0 := hat 0 (by omega)
      have q2 := hat 1 (by omega)
      have l0 : 0 < ys.length := by rw [hyl]; decide
      have l2 : 1 < ys.length := by rw [hyl]; decide
      have hf0 := (hf 0 _ rfl).trans (List.getElem?_eq_getElem l0)
      have hf2 := (hf 1 _ rfl).trans (List.getElem?_eq_getElem l2)
      have t0 : DataW.trod enc Try.prog w base (fun _ => true) held n' 4 [c0] = some ys[0] := by
        have h : DataW.trod enc Try.prog w base (fun _ => true) held n' 4 ((([c0, c2] : List Value).drop 0).take (Try.prog.cellsOf 4)) = some ys[0] := hf0
        rw [show Try.prog.cellsOf 4 = 1 by kernel_rfl] at h
        exact h
      have t2 : DataW.trod enc Try.prog w base (fun _ => true) held n' 30 [c2] = some ys[1] := by
        have h : DataW.trod enc Try.prog w base (fun _ => true) held n' 30 ((([c0, c2] : List Value).drop 1).take (Try.prog.cellsOf 30)) = some ys[1] := hf2
        rw [cel30] at h
        exact h
      obtain ⟨b0, e0, _⟩ := DataW.trod_bool Try.underlying4 t0
      obtain ⟨xs, hr, hb8, hlt2⟩ := open_bytes Try.underlying30 Try.underlying5 (by kernel_rfl) t2
      simp only [List.cons.injEq, and_true] at e0
      subst e0
      refine ⟨(⟨b0, xs⟩, c2), ?_, q2, hr, hb8, hlt2⟩
      rw [addr_zero] at q0
      exact q0
    obtain ⟨L, hL1, hL2⟩ := list_of len _ each
    have hz : (L.map (·.1)).zip (L.map (·.2)) = L := zip_map L
    have hlen : (L.map (·.1)).length = len := by rw [List.length_map, hL1]
    have hR : Rd w 2 (.slice (some a) len m) len (jcells L) := by
      refine ⟨by rw [jcells_length, hL1], ?_⟩
      by_cases h0 : len = 0
      · exact .inl ⟨.inr ⟨a, m, by rw [h0], hm⟩, h0⟩
      · obtain ⟨b, off, spot⟩ := a
        have hc0 := (hL2 0 _ (List.getElem?_eq_getElem (by omega))).1
        have hspot : spot = none := by simpa [Addr.add] using World.cell?_spot hc0
        subst hspot
        have hadd : ∀ j, (⟨b, off, none⟩ : Addr).add j = ⟨b, off + j, none⟩ := fun j => by unfold Addr.add; split <;> simp_all
        refine .inr ⟨b, off, m, rfl, hl, hm, fun j v hj => ?_⟩
        have hjl : j < len * 2 := by
          have := (List.getElem?_eq_some_iff.1 hj).1
          rw [jcells_length, hL1] at this
          exact this
        have hk : j / 2 < L.length := by omega
        obtain ⟨g1, g3, -, -⟩ := hL2 (j / 2) _ (List.getElem?_eq_getElem hk)
        obtain ⟨o1, o3⟩ := jcells_get L (j / 2) _ (List.getElem?_eq_getElem hk)
        rw [hadd] at g1 g3
        have hadd2 : ∀ i j, (⟨b, off + i, none⟩ : Addr).add j = ⟨b, off + i + j, none⟩ := fun i j => by unfold Addr.add; split <;> simp_all
        rw [hadd2] at g3
        have hm3 : j = j / 2 * 2 ∨ j = j / 2 * 2 + 1 := by omega
        rcases hm3 with e | e
        · rw [← e] at o1 g1
          rw [g1, ← hj, o1]
        · rw [← e] at o3
          rw [Nat.add_assoc, ← e] at g3
          rw [g3, ← hj, o3]
    have hbase : ∀ k, (Value.slice (some a) len m).ownBlock = some k → 0 < len → k < w.heap.size := hR.lt (by decide)
    refine ⟨L.map (·.1), ⟨L.map (·.2), by simp, by rw [hz, hlen]; exact hR, fun i x u hx hu => ?_⟩, by rw [hlen]; exact hbase, fun o ho => ?_⟩
    · rw [List.getElem?_map] at hx hu
      cases hLi : L[i]? with
      | none => simp [hLi] at hx
      | some y =>
        simp only [hLi, Option.map_some, Option.some.injEq] at hx hu
        subst hx
        subst hu
        obtain ⟨-, -, g4, -, g5⟩ := hL2 i y hLi
        exact ⟨g4, g5⟩
    · rw [List.mem_map] at ho
      obtain ⟨y, hy, rfl⟩ := ho
      obtain ⟨i, hi', rfl⟩ := List.getElem_of_mem hy
      exact (hL2 i _ (List.getElem?_eq_getElem hi')).2.2.2.1

/-- A row of slices of bytes, opened. -/
theorem open_tab {fuel : Nat} {u : Value} {x : DataW H × List MemPlace} (h : DataW.trod enc Try.prog w base (fun _ => true) held fuel 50 [u] = some x) :
    ∃ ls : List (List Int), Bb w u ls ∧ ∀ r ∈ ls, isB r := by
  rcases open_slice Try.underlying50 h with ⟨hcs, _⟩ | ⟨a, len, cap, m, n, D, Pl, hcs, hb, hl, hm, hmm, -, hi⟩
  · simp only [List.cons.injEq, and_true] at hcs
    subst hcs
    exact ⟨[], ⟨[], rfl, ⟨rfl, .inl ⟨.inl rfl, rfl⟩⟩, fun i x u hx => by simp at hx⟩, fun r hr => by simp at hr⟩
  · simp only [List.cons.injEq, and_true] at hcs
    subst hcs
    simp only [if_true] at hmm
    subst hmm
    rw [cel30] at hi
    have each : ∀ i, i < len → ∃ y : List Int × Value, w.cell? (a.add i) = some y.2 ∧ Rb w y.2 y.1 ∧ isB y.1 := by
      intro i hlt
      obtain ⟨cs', hc, ht⟩ := hi i (by omega)
      obtain ⟨_, hcl, hat⟩ := World.cells?_some hc
      obtain ⟨c0, rfl⟩ : ∃ c, cs' = [c] := by
        rcases cs' with _ | ⟨c, _ | ⟨c2, l⟩⟩ <;> simp at hcl
        exact ⟨c, rfl⟩
      have q0 := hat 0 (by omega)
      rw [addr_zero, Nat.mul_one] at q0
      obtain ⟨xs, hr, hb8, -⟩ := open_bytes Try.underlying30 Try.underlying5 (by kernel_rfl) ht
      exact ⟨(xs, c0), q0, hr, hb8⟩
    obtain ⟨L, hL1, hL2⟩ := list_of len _ each
    refine ⟨L.map (·.1), ⟨L.map (·.2), by simp, ⟨by simp, ?_⟩, fun i x u hx hu => ?_⟩, fun r hr => ?_⟩
    · rw [List.length_map, hL1]
      by_cases h0 : len = 0
      · exact .inl ⟨.inr ⟨a, m, by rw [h0], hm⟩, h0⟩
      · obtain ⟨b, off, spot⟩ := a
        have hc0 := (hL2 0 _ (List.getElem?_eq_getElem (by omega))).1
        have hspot : spot = none := by simpa [Addr.add] using World.cell?_spot hc0
        subst hspot
        have hadd : ∀ j, (⟨b, off, none⟩ : Addr).add j = ⟨b, off + j, none⟩ := fun j => by unfold Addr.add; split <;> simp_all
        refine .inr ⟨b, off, m, rfl, hl, hm, fun j v hj => ?_⟩
        rw [List.getElem?_map] at hj
        cases hLj : L[j]? with
        | none => simp [hLj] at hj
        | some y =>
          simp only [hLj, Option.map_some, Option.some.injEq] at hj
          subst hj
          have := (hL2 j y hLj).1
          rw [hadd] at this
          exact this
    · rw [List.getElem?_map] at hx hu
      cases hLi : L[i]? with
      | none => simp [hLi] at hx
      | some y =>
        simp only [hLi, Option.map_some, Option.some.injEq] at hx hu
        subst hx
        subst hu
        exact (hL2 i y hLi).2.1
    · rw [List.mem_map] at hr
      obtain ⟨y, hy, rfl⟩ := hr
      obtain ⟨i, hi', rfl⟩ := List.getElem_of_mem hy
      exact (hL2 i _ (List.getElem?_eq_getElem hi')).2.2

set_option maxRecDepth 100000 in
/-- Two rows of calls, by value. -/
theorem open_jops2 {r : Reach} {b0 : Nat} {v : Value} {d : DataW H} {p : List MemPlace} (hv : Value.okWide Try.prog w r b0 43 v) (h : DataW.Trod enc Try.prog w base (fun _ => true) held 43 v d p) :
    ∃ (u0 u1 : Value) (l k : List Jop), v = .agg #[u0, u1] ∧ JAt w w.heap.size u0 l ∧ JAt w w.heap.size u1 k := by
  obtain ⟨c0, c1, y0, y1, n, rfl, h0, h1⟩ := open_pair Try.underlying43 cel42 cel43 hv h
  obtain ⟨l, hl⟩ := open_jops h0
  obtain ⟨k, hk⟩ := open_jops h1
  exact ⟨c0, c1, l, k, rfl, hl, hk⟩

set_option maxRecDepth 100000 in
/-- Two rows of numbers, by value. -/
theorem open_nums2 {r : Reach} {b0 : Nat} {v : Value} {d : DataW H} {p : List MemPlace} (hv : Value.okWide Try.prog w r b0 44 v) (h : DataW.Trod enc Try.prog w base (fun _ => true) held 44 v d p) :
    ∃ (u0 u1 : Value) (fs gs : List Int), v = .agg #[u0, u1] ∧ Rd w 1 u0 fs.length (its fs) ∧ Rd w 1 u1 gs.length (its gs) := by
  obtain ⟨c0, c1, y0, y1, n, rfl, h0, h1⟩ := open_pair Try.underlying44 cel24 cel44 hv h
  obtain ⟨l, hl, -⟩ := open_nums Try.underlying24 Try.underlying3 (by kernel_rfl) h0
  obtain ⟨k, hk, -⟩ := open_nums Try.underlying24 Try.underlying3 (by kernel_rfl) h1
  exact ⟨c0, c1, l, k, rfl, hl, hk⟩
end
end Go.Proofs.Ytbbjeoepoocofaa
