import Derived.Test.YtbbjeoepoocofaaE2
namespace Go.Proofs.Ytbbjeoepoocofaa
open Go.RowKit

/-- A call on a disk, as plain data: a Sync, or a write of bytes to a block. -/
structure Opv where
  sync : Bool
  block : Int
  b : List Int

/-- What a write answers. -/
def Dk.err (D : Dk) (i : Int) (n : Nat) : Int := if i < 0 then 10 else if (D.blocks : Int) ≤ i then 21 else if D.size < n then 1 else 0
/-- What a disk is behind a call of Write, taken or not. -/
def Dk.put (D : Dk) (i : Int) (xs : List Int) : Dk := if D.err i xs.length = 0 then D.write i.toNat xs else D
def Dk.op (D : Dk) (o : Opv) : Dk := if o.sync then D.sync else D.put o.block o.b
def Dk.runs (D : Dk) (l : List Opv) : Dk := l.foldl Dk.op D

theorem Dk.put_blocks (D : Dk) (i : Int) (xs : List Int) : (D.put i xs).blocks = D.blocks ∧ (D.put i xs).size = D.size := by unfold Dk.put; split <;> exact ⟨rfl, rfl⟩
theorem Dk.op_blocks (D : Dk) (o : Opv) : (D.op o).blocks = D.blocks ∧ (D.op o).size = D.size := by
  unfold Dk.op
  split
  · exact ⟨rfl, rfl⟩
  · exact D.put_blocks _ _
theorem Dk.runs_blocks (D : Dk) (l : List Opv) : (D.runs l).blocks = D.blocks ∧ (D.runs l).size = D.size := by
  unfold Dk.runs
  induction l generalizing D with
  | nil => exact ⟨rfl, rfl⟩
  | cons o l ih =>
    rw [List.foldl_cons]
    have := ih (D.op o)
    have := D.op_blocks o
    simp_all
theorem Dk.put_open (D : Dk) (i : Int) (xs : List Int) : (D.put i xs).open_.length ≤ D.open_.length + 1 := by unfold Dk.put; split <;> simp [Dk.write]
theorem Dk.op_open (D : Dk) (o : Opv) : (D.op o).open_.length ≤ D.open_.length + 1 := by
  unfold Dk.op
  split
  · simp [Dk.sync]
  · exact D.put_open _ _
theorem Dk.runs_open (D : Dk) (l : List Opv) : (D.runs l).open_.length ≤ D.open_.length + l.length := by
  unfold Dk.runs
  induction l generalizing D with
  | nil => simp
  | cons o l ih =>
    rw [List.foldl_cons]
    have := ih (D.op o)
    have := D.op_open o
    simp only [List.length_cons]
    omega
theorem Dk.runs_snoc (D : Dk) (l : List Opv) (o : Opv) : D.runs (l ++ [o]) = (D.runs l).op o := by simp [Dk.runs]

/-- Behind a call that writes to a disk: what it answers, the disk as it is then; nothing but the disk's own was written. -/
def Did (code : Int) (d : Nat) (D : Dk) (M S : Nat → Prop) (w : World) (e : Ending) (w' : World) : Prop :=
  e = .returned (.int .i64 code) ∧ ∃ M' S', DiskAt w' d D M' S' ∧ Keeps M w w' ∧ (∀ k, M' k → M k ∨ w.heap.size ≤ k) ∧ (∀ k, S' k → S k ∨ w.heap.size ≤ k)

theorem Write_any (w : World) (d : Nat) (D : Dk) (M S : Nat → Prop) (i : Int) (bv : Value) (xs : List Int) (hb : Rb w bv xs)
    (hbM : ∀ k, bv.ownBlock = some k → 0 < xs.length → ¬ M k) (h : DiskAt w d D M S) (hop : D.open_.length < 1000000) :
    Calls Try.prog 22 #[.pointer (some ⟨d, 0, none⟩), .int .i64 i, bv] w (Did (D.err i xs.length) d (D.put i xs) M S w) := by
  by_cases h1 : i < 0
  · refine (Write_neg w d i h1 bv).mono ?_
    rintro e w' ⟨rfl, hb⟩
    have e1 : D.err i xs.length = 10 := by simp [Dk.err, h1]
    have e2 : D.put i xs = D := by simp [Dk.put, e1]
    rw [e1, e2]
    exact ⟨rfl, M, S, h.below hb, Keeps.of_below hb, fun k hk => .inl hk, fun k hk => .inl hk⟩
  · by_cases h2 : (D.blocks : Int) ≤ i
    · refine (Write_full w d D M S i (by omega) h2 bv h).mono ?_
      rintro e w' ⟨rfl, hb⟩
      have e1 : D.err i xs.length = 21 := by simp [Dk.err, h1, h2]
      have e2 : D.put i xs = D := by simp [Dk.put, e1]
      rw [e1, e2]
      exact ⟨rfl, M, S, h.below hb, Keeps.of_below hb, fun k hk => .inl hk, fun k hk => .inl hk⟩
    · by_cases h3 : D.size < xs.length
      · obtain ⟨sp, sc, rfl, -⟩ := hb.form
        refine (Write_arg w d D M S i (by omega) (by omega) sp xs.length sc h3 h).mono ?_
        rintro e w' ⟨rfl, hb⟩
        have e1 : D.err i xs.length = 1 := by simp [Dk.err, h1, h2, h3]
        have e2 : D.put i xs = D := by simp [Dk.put, e1]
        rw [e1, e2]
        exact ⟨rfl, M, S, h.below hb, Keeps.of_below hb, fun k hk => .inl hk, fun k hk => .inl hk⟩
      · have e1 : D.err i xs.length = 0 := by simp [Dk.err, h1, h2, h3]
        have e2 : D.put i xs = D.write i.toNat xs := by simp [Dk.put, e1]
        rw [e1, e2]
        exact Write_ok w d D M S i (by omega) (by omega) bv xs (by omega) hb hbM h hop

/-- The cells of a row of calls, whose bytes lie in these slices. -/
def ocells : List (Opv × Value) → List Value
  | [] => []
  | (o, v) :: r => .bool o.sync :: .int .i64 o.block :: v :: ocells r
theorem ocells_length (l : List (Opv × Value)) : (ocells l).length = l.length * 3 := by
  induction l with
  | nil => rfl
  | cons a l ih => simp [ocells, ih]; omega
theorem ocells_get (l : List (Opv × Value)) (i : Nat) (x : Opv × Value) (h : l[i]? = some x) : (ocells l)[i * 3]? = some (.bool x.1.sync) ∧ (ocells l)[i * 3 + 1]? = some (.int .i64 x.1.block) ∧ (ocells l)[i * 3 + 2]? = some x.2 := by
  induction l generalizing i with
  | nil => simp at h
  | cons y l ih =>
    rcases i with _ | i
    · simp at h; subst h; simp [ocells]
    · have := ih i (by simpa using h)
      rw [show (i + 1) * 3 = i * 3 + 1 + 1 + 1 from by omega]
      simpa [ocells] using this

/-- These calls lie in memory under a height, behind a slice. -/
structure OpsAt (w : World) (B : Nat) (v : Value) (l : List Opv) : Prop where
  row : ∃ vs : List Value, vs.length = l.length ∧ Rd w 3 v l.length (ocells (l.zip vs)) ∧ ∀ (i : Nat) (x : Opv) (u : Value), l[i]? = some x → vs[i]? = some u → Rb w u x.b ∧ ∀ k, u.ownBlock = some k → 0 < x.b.length → k < B
  lt : ∀ k, v.ownBlock = some k → 0 < l.length → k < B

theorem OpsAt.below {w w' : World} {B : Nat} {v : Value} {l : List Opv} (h : OpsAt w B v l) (hb : Below B w w') : OpsAt w' B v l where
  row := by
    obtain ⟨vs, h1, h2, h3⟩ := h.row
    exact ⟨vs, h1, h2.below hb h.lt, fun i x u hx hu => ⟨(h3 i x u hx hu).1.below hb (h3 i x u hx hu).2, (h3 i x u hx hu).2⟩⟩
  lt := h.lt

theorem OpsAt.form {w : World} {B : Nat} {v : Value} {l : List Opv} (h : OpsAt w B v l) : ∃ sp sc, v = .slice sp l.length sc ∧ l.length ≤ maxLen := by
  obtain ⟨vs, h1, h2, h3⟩ := h.row
  obtain ⟨sp, sc, hv, -⟩ := h2.form
  exact ⟨sp, sc, hv, h2.len⟩

/-- One call, as the program reads it. -/
theorem OpsAt.at {w : World} {B : Nat} {v : Value} {l : List Opv} (h : OpsAt w B v l) {k : Nat} (hk : k < l.length) :
    ∃ b off cap va vc, v = .slice (some ⟨b, off, none⟩) l.length cap ∧ l.length ≤ cap ∧ cap ≤ maxLen ∧ w.cell? ⟨b, off + k * 3, none⟩ = some (.bool l[k].sync) ∧ w.cell? ⟨b, off + k * 3 + 1, none⟩ = some (.int .i64 l[k].block) ∧
      w.cell? ⟨b, off + k * 3 + 2, none⟩ = some (.slice va l[k].b.length vc) ∧ Rb w (.slice va l[k].b.length vc) l[k].b ∧ (∀ j, (Value.slice va l[k].b.length vc).ownBlock = some j → 0 < l[k].b.length → j < B) := by
  obtain ⟨vs, h1, h2, h3⟩ := h.row
  rcases h2.2 with ⟨_, h0⟩ | ⟨b, off, cap, rfl, hc1, hc2, hc⟩
  · omega
  have hkv : k < vs.length := by omega
  have e1 := List.getElem?_eq_getElem hk
  have e2 := List.getElem?_eq_getElem hkv
  obtain ⟨f1, f2⟩ := h3 k _ _ e1 e2
  obtain ⟨sp, sc, hv, -⟩ := f1.form
  have hz : (l.zip vs)[k]? = some (l[k], vs[k]) := by rw [List.getElem?_eq_getElem (by rw [List.length_zip]; omega)]; simp
  obtain ⟨g1, g2, g3⟩ := ocells_get _ k _ hz
  simp only at g1 g2 g3
  rw [hv] at g3 f1 f2
  refine ⟨b, off, cap, sp, sc, rfl, hc1, hc2, hc _ _ g1, ?_, ?_, f1, f2⟩
  · rw [Nat.add_assoc]; exact hc _ _ g2
  · rw [Nat.add_assoc]; exact hc _ _ g3

/-- The first ones of calls. -/
theorem OpsAt.take {w : World} {B : Nat} {sp : Option Addr} {n sc : Nat} {l : List Opv} (h : OpsAt w B (.slice sp n sc) l) (m : Nat) (hm : m ≤ l.length) : OpsAt w B (.slice sp m sc) (l.take m) := by
  obtain ⟨vs, h1, h2, h3⟩ := h.row
  have hl : (l.take m).length = m := by rw [List.length_take]; omega
  refine ⟨⟨vs.take m, by rw [List.length_take, List.length_take, h1], ⟨?_, ?_⟩, ?_⟩, ?_⟩
  · rw [ocells_length, List.length_zip, List.length_take, List.length_take]; omega
  · rw [hl]
    rcases h2.2 with ⟨h' | ⟨aa, cc, h', hcc⟩, h0⟩ | ⟨b, off, cap, h', hc1, hc2, hc⟩
    · simp only [Value.slice.injEq] at h'
      obtain ⟨rfl, rfl, rfl⟩ := h'
      exact .inl ⟨.inl (by rw [show m = 0 by omega]), by omega⟩
    · simp only [Value.slice.injEq] at h'
      obtain ⟨rfl, rfl, rfl⟩ := h'
      exact .inl ⟨.inr ⟨aa, sc, by rw [show m = 0 by omega], hcc⟩, by omega⟩
    · simp only [Value.slice.injEq] at h'
      obtain ⟨rfl, rfl, rfl⟩ := h'
      refine .inr ⟨b, off, sc, rfl, by omega, hc2, fun j u hj => hc j u ?_⟩
      have hpre : ocells (l.zip vs) = ocells ((l.take m).zip (vs.take m)) ++ ocells ((l.drop m).zip (vs.drop m)) := by
        have : ∀ (a b : List (Opv × Value)), ocells (a ++ b) = ocells a ++ ocells b := by
          intro a b
          induction a with
          | nil => rfl
          | cons x a ih => simp [ocells, ih]
        rw [← this, ← List.zip_append (by rw [List.length_take, List.length_take, h1])]
        simp
      rw [hpre, List.getElem?_append_left (List.getElem?_eq_some_iff.1 hj).1]
      exact hj
  · intro i x u hx hu
    rw [List.getElem?_take] at hx hu
    split at hx
    · rename_i hi
      rw [if_pos hi] at hu
      exact h3 i x u hx hu
    · simp at hx
  · intro k hk hp
    exact h.lt k (by cases sp with | none => simp [Value.ownBlock] at hk | some aa => simpa [Value.ownBlock] using hk) (by omega)

end Go.Proofs.Ytbbjeoepoocofaa
