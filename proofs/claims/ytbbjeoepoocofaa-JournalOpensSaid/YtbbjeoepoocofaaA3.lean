/- A disk's calls, opened: their bytes are bytes. -/
import Derived.Test.YtbbjeoepoocofaaA2
namespace Go.Proofs.Ytbbjeoepoocofaa
open Go.ChangeShapes Go.WideShapes Go.ChangeAt Go.RowKit Go.Deep

section
variable {H : Type} {enc : TypeId × Value → H} {w : World} {base : Nat} {held : Bool}

/-- A row of calls on a disk, opened: their bytes are bytes. -/
theorem open_opsB {fuel : Nat} {u : Value} {x : DataW H × List MemPlace} (h : DataW.trod enc Try.prog w base (fun _ => true) held fuel 23 [u] = some x) : ∃ l, OpsAt w w.heap.size u l ∧ ∀ o ∈ l, isB o.b := by
  rcases open_slice Try.underlying23 h with ⟨hcs, _⟩ | ⟨a, len, cap, m, n, D, Pl, hcs, hb, hl, hm, hmm, -, hi⟩
  · simp only [List.cons.injEq, and_true] at hcs
    subst hcs
    exact ⟨[], ⟨⟨[], rfl, ⟨rfl, .inl ⟨.inl rfl, rfl⟩⟩, fun i x u hx => by simp at hx⟩, fun k _ h => by simp at h⟩, fun o ho => by simp at ho⟩
  · simp only [List.cons.injEq, and_true] at hcs
    subst hcs
    simp only [if_true] at hmm
    subst hmm
    rw [cel32] at hi
    have each : ∀ i, i < len → ∃ y : Opv × Value, w.cell? (a.add (i * 3)) = some (.bool y.1.sync) ∧ w.cell? ((a.add (i * 3)).add 1) = some (.int .i64 y.1.block) ∧ w.cell? ((a.add (i * 3)).add 2) = some y.2 ∧
        Rb w y.2 y.1.b ∧ (∀ j, y.2.ownBlock = some j → 0 < y.1.b.length → j < w.heap.size) ∧ isB y.1.b := by
      intro i hlt
      obtain ⟨cs', hc, ht⟩ := hi i (by omega)
      obtain ⟨_, hcl, hat⟩ := World.cells?_some hc
      obtain ⟨c0, c1, c2, rfl⟩ := list3 hcl
      obtain ⟨ys, n', -, -, -, hyl, hf⟩ := DataW.trod_struct Try.underlying32 ht
      have q0 := hat 0 (by omega)
      have q1 := hat 1 (by omega)
      have q2 := hat 2 (by omega)
      have l0 : 0 < ys.length := by rw [hyl]; decide
      have l1 : 1 < ys.length := by rw [hyl]; decide
      have l2 : 2 < ys.length := by rw [hyl]; decide
      have hf0 := (hf 0 _ rfl).trans (List.getElem?_eq_getElem l0)
      have hf1 := (hf 1 _ rfl).trans (List.getElem?_eq_getElem l1)
      have hf2 := (hf 2 _ rfl).trans (List.getElem?_eq_getElem l2)
      have t0 : DataW.trod enc Try.prog w base (fun _ => true) held n' 4 [c0] = some ys[0] := by
        have h : DataW.trod enc Try.prog w base (fun _ => true) held n' 4 ((([c0, c1, c2] : List Value).drop 0).take (Try.prog.cellsOf 4)) = some ys[0] := hf0
        rw [show Try.prog.cellsOf 4 = 1 by kernel_rfl] at h
        exact h
      have t1 : DataW.trod enc Try.prog w base (fun _ => true) held n' 3 [c1] = some ys[1] := by
        have h : DataW.trod enc Try.prog w base (fun _ => true) held n' 3 ((([c0, c1, c2] : List Value).drop 1).take (Try.prog.cellsOf 3)) = some ys[1] := hf1
        rw [show Try.prog.cellsOf 3 = 1 by kernel_rfl] at h
        exact h
      have t2 : DataW.trod enc Try.prog w base (fun _ => true) held n' 30 [c2] = some ys[2] := by
        have h : DataW.trod enc Try.prog w base (fun _ => true) held n' 30 ((([c0, c1, c2] : List Value).drop 2).take (Try.prog.cellsOf 30)) = some ys[2] := hf2
        rw [show Try.prog.cellsOf 30 = 1 by kernel_rfl] at h
        exact h
      obtain ⟨b0, e0, _⟩ := DataW.trod_bool Try.underlying4 t0
      obtain ⟨b1, e1, _⟩ := DataW.trod_int Try.underlying3 t1
      obtain ⟨xs, hr, hb8, hlt2⟩ := open_bytes Try.underlying30 Try.underlying5 (by kernel_rfl) t2
      simp only [List.cons.injEq, and_true] at e0 e1
      subst e0
      subst e1
      refine ⟨(⟨b0, b1, xs⟩, c2), ?_, q1, q2, hr, hlt2, hb8⟩
      rw [addr_zero] at q0
      exact q0
    obtain ⟨L, hL1, hL2⟩ := list_of len _ each
    have hz : (L.map (·.1)).zip (L.map (·.2)) = L := zip_map L
    have hlen : (L.map (·.1)).length = len := by rw [List.length_map, hL1]
    have hR : Rd w 3 (.slice (some a) len m) len (ocells L) := by
      refine ⟨by rw [ocells_length, hL1], ?_⟩
      by_cases h0 : len = 0
      · exact .inl ⟨.inr ⟨a, m, by rw [h0], hm⟩, h0⟩
      · obtain ⟨b, off, spot⟩ := a
        have hc0 := (hL2 0 _ (List.getElem?_eq_getElem (by omega))).1
        have hspot : spot = none := by simpa [Addr.add] using World.cell?_spot hc0
        subst hspot
        have hadd : ∀ j, (⟨b, off, none⟩ : Addr).add j = ⟨b, off + j, none⟩ := fun j => by unfold Addr.add; split <;> simp_all
        refine .inr ⟨b, off, m, rfl, hl, hm, fun j v hj => ?_⟩
        have hjl : j < len * 3 := by
          have := (List.getElem?_eq_some_iff.1 hj).1
          rw [ocells_length, hL1] at this
          exact this
        have hk : j / 3 < L.length := by omega
        obtain ⟨g1, g2, g3, -⟩ := hL2 (j / 3) _ (List.getElem?_eq_getElem hk)
        obtain ⟨o1, o2, o3⟩ := ocells_get L (j / 3) _ (List.getElem?_eq_getElem hk)
        rw [hadd] at g1 g2 g3
        have hadd2 : ∀ i j, (⟨b, off + i, none⟩ : Addr).add j = ⟨b, off + i + j, none⟩ := fun i j => by unfold Addr.add; split <;> simp_all
        rw [hadd2] at g2 g3
        have hm3 : j = j / 3 * 3 ∨ j = j / 3 * 3 + 1 ∨ j = j / 3 * 3 + 2 := by omega
        rcases hm3 with e | e | e
        · rw [← e] at o1 g1
          rw [g1, ← hj, o1]
        · rw [← e] at o2
          rw [Nat.add_assoc, ← e] at g2
          rw [g2, ← hj, o2]
        · rw [← e] at o3
          rw [Nat.add_assoc, ← e] at g3
          rw [g3, ← hj, o3]
    have hbase : ∀ k, (Value.slice (some a) len m).ownBlock = some k → 0 < len → k < w.heap.size := hR.lt (by decide)
    refine ⟨L.map (·.1), ⟨⟨L.map (·.2), by simp, by rw [hz, hlen]; exact hR, fun i x u hx hu => ?_⟩, by rw [hlen]; exact hbase⟩, fun o ho => ?_⟩
    · rw [List.getElem?_map] at hx hu
      cases hLi : L[i]? with
      | none => simp [hLi] at hx
      | some y =>
        simp only [hLi, Option.map_some, Option.some.injEq] at hx hu
        subst hx
        subst hu
        obtain ⟨-, -, -, g4, g5, -⟩ := hL2 i y hLi
        exact ⟨g4, g5⟩
    · rw [List.mem_map] at ho
      obtain ⟨y, hy, rfl⟩ := ho
      obtain ⟨i, hi', rfl⟩ := List.getElem_of_mem hy
      exact (hL2 i _ (List.getElem?_eq_getElem hi')).2.2.2.2.2
end
end Go.Proofs.Ytbbjeoepoocofaa
