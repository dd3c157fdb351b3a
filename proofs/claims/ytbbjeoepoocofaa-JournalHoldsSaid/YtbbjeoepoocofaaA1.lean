/- The arguments of this seat's laws, opened: two sizes, numbers, calls. -/
import Derived.Test.YtbbjeoepoocofaaE4
import Derived.Deep.Slices
import Derived.Deep.Fields
import Derived.ShutString
import Derived.ChangeOld
namespace Go.Proofs.Ytbbjeoepoocofaa
open Go.ChangeShapes Go.WideShapes Go.ChangeAt Go.RowKit Go.Deep

section
variable {H : Type} {enc : TypeId × Value → H} {P : Program} {w : World} {base : Nat} {spare : Nat → Bool} {held : Bool}

theorem okWide_array {r : Reach} {b0 n : Nat} {t e : TypeId} {v : Value} (ht : P.underlying t = some (.array n e)) (h : Value.okWide P w r b0 t v) : ∃ cs, v = .agg cs ∧ cs.size = P.cellsOf t := by
  simp only [Value.okWide, ht] at h
  obtain ⟨cs, h1, h2, _⟩ := h
  exact ⟨cs, h1, h2⟩

theorem trod_array2 {t e : TypeId} {fuel : Nat} {c0 c1 : Value} {x : DataW H × List MemPlace} (ht : P.underlying t = some (.array 2 e)) (hce : P.cellsOf e = 1)
    (h : DataW.trod enc P w base spare held fuel t [c0, c1] = some x) :
    ∃ y0 y1 n, x = (.agg [y0.1, y1.1], y0.2 ++ y1.2) ∧ DataW.trod enc P w base spare held n e [c0] = some y0 ∧ DataW.trod enc P w base spare held n e [c1] = some y1 := by
  cases fuel with
  | zero => simp [DataW.trod] at h
  | succ n =>
    unfold DataW.trod at h
    rw [ht] at h
    have r2 : List.range 2 = [0, 1] := rfl
    simp [r2, hce] at h
    obtain ⟨_, h⟩ := h
    cases h0 : DataW.trod enc P w base spare held n e [c0] with
    | none => simp [h0] at h
    | some y0 =>
      cases h1 : DataW.trod enc P w base spare held n e [c1] with
      | none => simp [h0, h1] at h
      | some y1 =>
        simp [h0, h1] at h
        exact ⟨y0, y1, n, h.symm, h0, h1⟩

/-- Two whole numbers by value. -/
theorem open_two {r : Reach} {b0 : Nat} {t e : TypeId} {v : Value} {d : DataW H} {p : List MemPlace} (ht : P.underlying t = some (.array 2 e)) (he : P.underlying e = some (.int .i64)) (hce : P.cellsOf e = 1) (hct : P.cellsOf t = 2)
    (hv : Value.okWide P w r b0 t v) (h : DataW.Trod enc P w base spare held t v d p) : ∃ a b : Int, v = .agg #[.int .i64 a, .int .i64 b] := by
  obtain ⟨cs, rfl, hsz⟩ := okWide_array ht hv
  obtain ⟨l⟩ := cs
  match l, hsz.trans hct with
  | [c0, c1], _ =>
    obtain ⟨fuel, hf⟩ := h
    obtain ⟨y0, y1, n, _, h0, h1⟩ := trod_array2 ht hce hf
    obtain ⟨a, ha, _⟩ := DataW.trod_int he h0
    obtain ⟨b, hb, _⟩ := DataW.trod_int he h1
    simp only [List.cons.injEq, and_true] at ha hb
    exact ⟨a, b, by rw [ha, hb]⟩

/-- A slice of numbers, the spare room too. -/
theorem open_nums {t e : TypeId} {k : IntKind} {fuel : Nat} {u : Value} {x : DataW H × List MemPlace} (ht : P.underlying t = some (.slice e)) (he : P.underlying e = some (.int k)) (hc : P.cellsOf e = 1)
    (h : DataW.trod enc P w base (fun _ => true) held fuel t [u] = some x) :
    ∃ xs : List Int, Rd w 1 u xs.length (xs.map (Value.int k)) ∧ ∀ j, u.ownBlock = some j → 0 < xs.length → j < w.heap.size := by
  rcases open_ints ht he hc h with ⟨hcs, _⟩ | ⟨a, len, cap, zs, hcs, hb, hl, hm, hz, -, hcell, hwz⟩
  · simp only [List.cons.injEq, and_true] at hcs
    subst hcs
    exact ⟨[], ⟨rfl, .inl ⟨.inl rfl, rfl⟩⟩, fun j _ h0 => by simp at h0⟩
  · simp only [List.cons.injEq, and_true] at hcs
    subst hcs
    simp only [if_true] at hz
    have hlen : (zs.take len).length = len := by rw [List.length_take]; omega
    have key : Rd w 1 (.slice (some a) len cap) (zs.take len).length ((zs.take len).map (Value.int k)) := by
      refine ⟨by simp, ?_⟩
      rw [hlen]
      by_cases h0 : len = 0
      · exact .inl ⟨.inr ⟨a, cap, by rw [h0], hm⟩, h0⟩
      · obtain ⟨b, off, spot⟩ := a
        have hc0 := hcell 0 (by omega)
        have hspot : spot = none := by simpa [Addr.add] using World.cell?_spot hc0
        subst hspot
        refine .inr ⟨b, off, cap, rfl, hl, hm, fun j v hj => ?_⟩
        have hjl : j < len := by
          have := (List.getElem?_eq_some_iff.1 hj).1
          rw [List.length_map, hlen] at this
          exact this
        have hcj := hcell j (by omega)
        have hadd : (⟨b, off, none⟩ : Addr).add j = ⟨b, off + j, none⟩ := by unfold Addr.add; split <;> simp_all
        rw [hadd] at hcj
        rw [hcj, ← hj, List.getElem?_map, List.getElem?_take, if_pos hjl, List.getElem?_eq_getElem (by omega)]
        simp [List.getD, List.getElem?_eq_getElem (show j < zs.length by omega)]
    exact ⟨zs.take len, key, key.lt (by decide)⟩
end

theorem cel32 : Try.prog.cellsOf 32 = 3 := by kernel_rfl

theorem list_of {α : Type} (n : Nat) (Q : Nat → α → Prop) (h : ∀ i, i < n → ∃ x, Q i x) : ∃ l : List α, l.length = n ∧ ∀ i x, l[i]? = some x → Q i x := by
  induction n with
  | zero => exact ⟨[], rfl, fun i x hx => by simp at hx⟩
  | succ n ih =>
    obtain ⟨l, h1, h2⟩ := ih fun i hi => h i (by omega)
    obtain ⟨y, hy⟩ := h n (by omega)
    refine ⟨l ++ [y], by simp [h1], fun i x hx => ?_⟩
    rw [List.getElem?_append] at hx
    split at hx
    · exact h2 i x hx
    · rename_i hi
      have : i = n := by
        have := (List.getElem?_eq_some_iff.1 hx).1
        simp at this
        omega
      subst this
      simp [h1] at hx
      rw [← hx]
      exact hy

theorem addr_zero (a : Addr) : a.add 0 = a := by
  obtain ⟨b, off, spot⟩ := a
  unfold Addr.add
  split <;> simp_all

theorem list3 {α : Type} {l : List α} (h : l.length = 3) : ∃ a b c, l = [a, b, c] := by
  rcases l with _ | ⟨a, _ | ⟨b, _ | ⟨c, _ | ⟨d, l⟩⟩⟩⟩ <;> simp at h
  exact ⟨a, b, c, rfl⟩

theorem zip_map {α β : Type} (l : List (α × β)) : (l.map (·.1)).zip (l.map (·.2)) = l := by
  induction l with
  | nil => rfl
  | cons a l ih => simp [ih]

section
variable {H : Type} {enc : TypeId × Value → H} {w : World} {base : Nat} {held : Bool}

/-- A row of calls, opened. -/
theorem open_ops {fuel : Nat} {u : Value} {x : DataW H × List MemPlace} (h : DataW.trod enc Try.prog w base (fun _ => true) held fuel 23 [u] = some x) : ∃ l, OpsAt w w.heap.size u l := by
  rcases open_slice Try.underlying23 h with ⟨hcs, _⟩ | ⟨a, len, cap, m, n, D, Pl, hcs, hb, hl, hm, hmm, -, hi⟩
  · simp only [List.cons.injEq, and_true] at hcs
    subst hcs
    exact ⟨[], ⟨[], rfl, ⟨rfl, .inl ⟨.inl rfl, rfl⟩⟩, fun i x u hx => by simp at hx⟩, fun k _ h => by simp at h⟩
  · simp only [List.cons.injEq, and_true] at hcs
    subst hcs
    simp only [if_true] at hmm
    subst hmm
    rw [cel32] at hi
    have each : ∀ i, i < len → ∃ y : Opv × Value, w.cell? (a.add (i * 3)) = some (.bool y.1.sync) ∧ w.cell? ((a.add (i * 3)).add 1) = some (.int .i64 y.1.block) ∧ w.cell? ((a.add (i * 3)).add 2) = some y.2 ∧
        Rb w y.2 y.1.b ∧ ∀ j, y.2.ownBlock = some j → 0 < y.1.b.length → j < w.heap.size := by
      intro i hlt
      obtain ⟨cs', hc, ht⟩ := hi i (by omega)
      obtain ⟨_, hcl, hat⟩ := World.cells?_some hc
      obtain ⟨c0, c1, c2, rfl⟩ := list3 hcl
      obtain ⟨ys, n', -, -, -, hyl, hf⟩ := DataW.trod_struct Try.underlying32 ht
      have q0 := hat 0 (by omega)
      have q1 := hat 1 (by omega)
      have q2 := hat 2 (by omega)
      have l0 : 0 < ys.length := by rw [hyl]; decide
      have l1 : 1 < ys.length := by rw [hyl]; decide
      have l2 : 2 < ys.length := by rw [hyl]; decide
      have hf0 := (hf 0 _ rfl).trans (List.getElem?_eq_getElem l0)
      have hf1 := (hf 1 _ rfl).trans (List.getElem?_eq_getElem l1)
      have hf2 := (hf 2 _ rfl).trans (List.getElem?_eq_getElem l2)
      have t0 : DataW.trod enc Try.prog w base (fun _ => true) held n' 4 [c0] = some ys[0] := by
        have h : DataW.trod enc Try.prog w base (fun _ => true) held n' 4 ((([c0, c1, c2] : List Value).drop 0).take (Try.prog.cellsOf 4)) = some ys[0] := hf0
        rw [show Try.prog.cellsOf 4 = 1 by kernel_rfl] at h
        exact h
      have t1 : DataW.trod enc Try.prog w base (fun _ => true) held n' 3 [c1] = some ys[1] := by
        have h : DataW.trod enc Try.prog w base (fun _ => true) held n' 3 ((([c0, c1, c2] : List Value).drop 1).take (Try.prog.cellsOf 3)) = some ys[1] := hf1
        rw [show Try.prog.cellsOf 3 = 1 by kernel_rfl] at h
        exact h
      have t2 : DataW.trod enc Try.prog w base (fun _ => true) held n' 30 [c2] = some ys[2] := by
        have h : DataW.trod enc Try.prog w base (fun _ => true) held n' 30 ((([c0, c1, c2] : List Value).drop 2).take (Try.prog.cellsOf 30)) = some ys[2] := hf2
        rw [show Try.prog.cellsOf 30 = 1 by kernel_rfl] at h
        exact h
      obtain ⟨b0, e0, _⟩ := DataW.trod_bool Try.underlying4 t0
      obtain ⟨b1, e1, _⟩ := DataW.trod_int Try.underlying3 t1
      obtain ⟨xs, hr, hlt2⟩ := open_nums Try.underlying30 Try.underlying5 (by kernel_rfl) t2
      simp only [List.cons.injEq, and_true] at e0 e1
      subst e0
      subst e1
      refine ⟨(⟨b0, b1, xs⟩, c2), ?_, q1, q2, hr, hlt2⟩
      rw [addr_zero] at q0
      exact q0
    obtain ⟨L, hL1, hL2⟩ := list_of len _ each
    have hz : (L.map (·.1)).zip (L.map (·.2)) = L := zip_map L
    have hlen : (L.map (·.1)).length = len := by rw [List.length_map, hL1]
    have hR : Rd w 3 (.slice (some a) len m) len (ocells L) := by
      refine ⟨by rw [ocells_length, hL1], ?_⟩
      by_cases h0 : len = 0
      · exact .inl ⟨.inr ⟨a, m, by rw [h0], hm⟩, h0⟩
      · obtain ⟨b, off, spot⟩ := a
        have hc0 := (hL2 0 _ (List.getElem?_eq_getElem (by omega))).1
        have hspot : spot = none := by simpa [Addr.add] using World.cell?_spot hc0
        subst hspot
        have hadd : ∀ j, (⟨b, off, none⟩ : Addr).add j = ⟨b, off + j, none⟩ := fun j => by unfold Addr.add; split <;> simp_all
        refine .inr ⟨b, off, m, rfl, hl, hm, fun j v hj => ?_⟩
        have hjl : j < len * 3 := by
          have := (List.getElem?_eq_some_iff.1 hj).1
          rw [ocells_length, hL1] at this
          exact this
        have hk : j / 3 < L.length := by omega
        obtain ⟨g1, g2, g3, -, -⟩ := hL2 (j / 3) _ (List.getElem?_eq_getElem hk)
        obtain ⟨o1, o2, o3⟩ := ocells_get L (j / 3) _ (List.getElem?_eq_getElem hk)
        rw [hadd] at g1 g2 g3
        have hadd2 : ∀ i j, (⟨b, off + i, none⟩ : Addr).add j = ⟨b, off + i + j, none⟩ := fun i j => by unfold Addr.add; split <;> simp_all
        rw [hadd2] at g2 g3
        have hm3 : j = j / 3 * 3 ∨ j = j / 3 * 3 + 1 ∨ j = j / 3 * 3 + 2 := by omega
        rcases hm3 with e | e | e
        · rw [← e] at o1 g1
          rw [g1, ← hj, o1]
        · rw [← e] at o2
          rw [Nat.add_assoc, ← e] at g2
          rw [g2, ← hj, o2]
        · rw [← e] at o3
          rw [Nat.add_assoc, ← e] at g3
          rw [g3, ← hj, o3]
    have hbase : ∀ k, (Value.slice (some a) len m).ownBlock = some k → 0 < len → k < w.heap.size := hR.lt (by decide)
    refine ⟨L.map (·.1), ⟨L.map (·.2), by simp, by rw [hz, hlen]; exact hR, fun i x u hx hu => ?_⟩, by rw [hlen]; exact hbase⟩
    rw [List.getElem?_map] at hx hu
    cases hLi : L[i]? with
    | none => simp [hLi] at hx
    | some y =>
      simp only [hLi, Option.map_some, Option.some.injEq] at hx hu
      subst hx
      subst hu
      obtain ⟨-, -, -, g4, g5⟩ := hL2 i y hLi
      exact ⟨g4, g5⟩
end
end Go.Proofs.Ytbbjeoepoocofaa
