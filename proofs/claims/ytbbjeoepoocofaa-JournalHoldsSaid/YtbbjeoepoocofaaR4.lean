/- The journal's calls as data; what the journal's laws ask of their arguments. -/
import Derived.Test.YtbbjeoepoocofaaR3
import Derived.Test.YtbbjeoepoocofaaJ12
namespace Go.Proofs.Ytbbjeoepoocofaa
open Go.RowKit

/-- A call on a journal: a Sync, or a record that is appended. -/
structure Jop where
  sync : Bool
  r : List Int

/-- The cells of a row of such calls, whose records lie in these slices. -/
def jcells : List (Jop × Value) → List Value
  | [] => []
  | (o, v) :: r => .bool o.sync :: v :: jcells r
theorem jcells_length (l : List (Jop × Value)) : (jcells l).length = l.length * 2 := by
  induction l with
  | nil => rfl
  | cons a l ih => simp [jcells, ih]; omega
theorem jcells_get (l : List (Jop × Value)) (i : Nat) (x : Jop × Value) (h : l[i]? = some x) : (jcells l)[i * 2]? = some (.bool x.1.sync) ∧ (jcells l)[i * 2 + 1]? = some x.2 := by
  induction l generalizing i with
  | nil => simp at h
  | cons y l ih =>
    rcases i with _ | i
    · simp at h; subst h; simp [jcells]
    · have := ih i (by simpa using h)
      rw [show (i + 1) * 2 = i * 2 + 1 + 1 from by omega]
      simpa [jcells] using this

/-- These calls lie in memory under a height, behind a slice. -/
structure JAt (w : World) (B : Nat) (v : Value) (l : List Jop) : Prop where
  row : ∃ vs : List Value, vs.length = l.length ∧ Rd w 2 v l.length (jcells (l.zip vs)) ∧ ∀ (i : Nat) (x : Jop) (u : Value), l[i]? = some x → vs[i]? = some u → Rb w u x.r ∧ ∀ k, u.ownBlock = some k → 0 < x.r.length → k < B
  lt : ∀ k, v.ownBlock = some k → 0 < l.length → k < B
  isb : ∀ o ∈ l, isB o.r

theorem JAt.below {w w' : World} {B : Nat} {v : Value} {l : List Jop} (h : JAt w B v l) (hb : Below B w w') : JAt w' B v l where
  row := by
    obtain ⟨vs, h1, h2, h3⟩ := h.row
    exact ⟨vs, h1, h2.below hb h.lt, fun i x u hx hu => ⟨(h3 i x u hx hu).1.below hb (h3 i x u hx hu).2, (h3 i x u hx hu).2⟩⟩
  lt := h.lt
  isb := h.isb

theorem JAt.form {w : World} {B : Nat} {v : Value} {l : List Jop} (h : JAt w B v l) : ∃ sp sc, v = .slice sp l.length sc ∧ l.length ≤ maxLen := by
  obtain ⟨vs, h1, h2, h3⟩ := h.row
  obtain ⟨sp, sc, hv, -⟩ := h2.form
  exact ⟨sp, sc, hv, h2.len⟩

/-- One call, as the program reads it. -/
theorem JAt.at {w : World} {B : Nat} {v : Value} {l : List Jop} (h : JAt w B v l) {k : Nat} (hk : k < l.length) :
    ∃ b off cap va vc, v = .slice (some ⟨b, off, none⟩) l.length cap ∧ l.length ≤ cap ∧ cap ≤ maxLen ∧ w.cell? ⟨b, off + k * 2, none⟩ = some (.bool l[k].sync) ∧
      w.cell? ⟨b, off + k * 2 + 1, none⟩ = some (.slice va l[k].r.length vc) ∧ Rb w (.slice va l[k].r.length vc) l[k].r ∧ (∀ j, (Value.slice va l[k].r.length vc).ownBlock = some j → 0 < l[k].r.length → j < B) := by
  obtain ⟨vs, h1, h2, h3⟩ := h.row
  rcases h2.2 with ⟨_, h0⟩ | ⟨b, off, cap, rfl, hc1, hc2, hc⟩
  · omega
  have hkv : k < vs.length := by omega
  have e1 := List.getElem?_eq_getElem hk
  have e2 := List.getElem?_eq_getElem hkv
  obtain ⟨f1, f2⟩ := h3 k _ _ e1 e2
  obtain ⟨sp, sc, hv, -⟩ := f1.form
  have hz : (l.zip vs)[k]? = some (l[k], vs[k]) := by rw [List.getElem?_eq_getElem (by rw [List.length_zip]; omega)]; simp
  obtain ⟨g1, g2⟩ := jcells_get _ k _ hz
  simp only at g1 g2
  rw [hv] at g2 f1 f2
  refine ⟨b, off, cap, sp, sc, rfl, hc1, hc2, hc _ _ g1, ?_, f1, f2⟩
  rw [Nat.add_assoc]
  exact hc _ _ g2

def small18 (a b : Int) : Bool := decide (1 ≤ a ∧ a ≤ 20 ∧ 1 ≤ b ∧ b ≤ 40)
def few18 (l : List Jop) : Bool := decide (l.length ≤ 20 ∧ ∀ o ∈ l, o.r.length ≤ 60)

theorem small18_any (w : World) (a b : Int) : Calls Try.prog 23 #[.agg #[.int .i64 a, .int .i64 b]] w fun e w' => e = .returned (.bool (small18 a b)) ∧ Below w.heap.size w w' := by
  by_cases h1 : 1 ≤ a <;> by_cases h2 : a ≤ 20 <;> by_cases h3 : 1 ≤ b <;> by_cases h4 : b ≤ 40
  all_goals
    go_enter Try.func23, Try.ntmps23
    go_wp2_with fail
    go_ret
    exact ⟨ret_bool (by simp [small18]; omega), (Below.refl _ _).alloc (Nat.le_refl _) _⟩

theorem few18_any (w : World) (B : Nat) (v : Value) (l : List Jop) (h : JAt w B v l) : Calls Try.prog 24 #[v] w fun e w' => e = .returned (.bool (few18 l)) ∧ w = w' := by
  obtain ⟨sp, sc, rfl, hm⟩ := h.form
  unfold maxLen at hm
  have HO := Lib.hid h
  clear h
  go_enter Try.func24, Try.ntmps24
  go_wp2_with fail
  go_loopw [3] (fun i wr => ∃ k : Nat, i = .int .i64 k ∧ k ≤ l.length ∧ Hid (∀ o ∈ l.take k, o.r.length ≤ 60) ∧ w = wr) (fun i _ => l.length - (intOf i).toNat)
  case atStart => exact ⟨0, rfl, Nat.zero_le _, fun o ho => by simp at ho, rfl⟩
  case round =>
    obtain ⟨k, rfl, hk, hpre, rfl⟩ := hrel
    by_cases hlt : k < l.length
    · obtain ⟨b, off, cap, va, vc, e1, hc1, hc2, q0, q2, hb, -⟩ := HO.out.at hlt
      simp only [Value.slice.injEq, true_and] at e1
      obtain ⟨rfl, rfl⟩ := e1
      have H1 : Hid (l[k].r.length ≤ 60 → ∀ o ∈ l.take (k + 1), o.r.length ≤ 60) := fun h o ho => by
        rw [List.take_add_one, List.getElem?_eq_getElem hlt, List.mem_append] at ho
        rcases ho with ho | ho
        · exact hpre o ho
        · simp at ho; rw [ho]; exact h
      have H2 : Hid (¬ l[k].r.length ≤ 60 → few18 l = false) := fun h => by
        apply decide_eq_false
        rintro ⟨-, h2⟩
        exact h (h2 _ (List.getElem_mem hlt))
      clear hb hpre hc1 hc2 q0
      generalize l[k].r.length = m at *
      by_cases hm4 : m ≤ 60
      · go_wp2_with fail
        go_roundw
        case rel => exact ⟨k + 1, rfl, by omega, H1.out hm4, by trivial⟩
        case measure => simp [intOf]; omega
      · go_wp2_with fail
        go_ret
        exact ⟨ret_bool (H2.out hm4).symm, rfl⟩
    · obtain rfl : k = l.length := by omega
      have hp : Hid (∀ o ∈ l, o.r.length ≤ 60) := by
        have := hpre
        rw [List.take_length] at this
        exact this
      clear hpre
      by_cases h30 : l.length ≤ 20
      · have hd : Hid (few18 l = true) := decide_eq_true ⟨h30, hp.out⟩
        go_wp2_with fail
        go_ret
        exact ⟨ret_bool (by rw [hd.out]; simp; omega), rfl⟩
      · have hd : Hid (few18 l = false) := decide_eq_false fun h => h30 h.1
        go_wp2_with fail
        go_ret
        exact ⟨ret_bool (by rw [hd.out]; simp; omega), rfl⟩
end Go.Proofs.Ytbbjeoepoocofaa
