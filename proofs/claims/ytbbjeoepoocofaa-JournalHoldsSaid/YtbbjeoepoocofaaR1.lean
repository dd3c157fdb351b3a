/- A range over an iterator whose rounds are told of what they are handed: each round knows that what it is handed reads as told in the memory at hand. No function of the program in sight. -/
import Derived.Test.YtbbjeoepoocofaaK1
import Derived.RangeFuncNested
import Derived.RangeFuncBound
import Derived.RangeFuncCalls
import Derived.RangeFuncLeaves
import Derived.Shelf.Abstract
import Derived.Shelf.RegionOpen
import Derived.WalkKit
import Derived.OwnWalkIn
import Derived.TacticsInMore
import Derived.LoopNIn
import Derived.LoopIn
namespace Go.Proofs.Ytbbjeoepoocofaa
open Go.RowKit Go.Shelf

/-- How a round's body ends: off its end, what is no cells lies as it lay, Kp holds, and I. -/
def HandPost (Kp : World → World → Prop) (I : World → Prop) (W : World) : Exit → Act → World → Prop
  | .normal, _, W' => KeepsOthers W W' ∧ Kp W W' ∧ I W'
  | _, _, _ => False

/-- An iterator that hands over what it has told (Pr), and goes through to its end where no round says 'no more'. -/
def Hands {α : Type} (F : Fence) (n : Nat) (P : Program) (gf : Nat) (lb : Array Value) (encs : α → Array Value) (Kp : World → World → Prop) (Pr : List α → α → World → Prop) (S : List α → Prop) (w : World) : Prop :=
  ∀ (l : Nat) (J : List α → World → Prop) (W : World), Below w.heap.size w W → (∀ s A B, J s A → Below A.heap.size A B → J s B) →
    (∀ pre x A, J pre A → Pr pre x A → YieldAt F (n - 1) P l (encs x) A fun e B => e = .returned (.bool true) ∧ J (pre ++ [x]) B ∧ Kp A B) → J [] W →
    CallsIn F n P gf (#[.func (.yield l) #[] #[]] ++ lb) W fun e B => (∃ v, e = .returned v) ∧ ∃ xs, S xs ∧ J xs B

/-- The two blocks of a loop: its record, and the list of what its rounds have deferred. -/
structure Pair (w : World) (o : Obj) (W : World) : Prop where
  rec_ : W.heap[w.heap.size + 1]? = some o
  mark : W.heap[w.heap.size]? = some (.deferred (some []))

theorem Pair.below {w A B : World} {o : Obj} (h : Pair w o A) (hb : Below A.heap.size A B) : Pair w o B :=
  ⟨(hb.block _ (Array.getElem?_eq_some_iff.1 h.rec_).1).trans h.rec_, (hb.block _ (Array.getElem?_eq_some_iff.1 h.mark).1).trans h.mark⟩
theorem Pair.turn {w A : World} {o : Obj} (h : Pair w o A) (o' : Obj) : Pair w o' (A.putObj (w.heap.size + 1) o') :=
  ⟨World.putObj_heap_same (Array.getElem?_eq_some_iff.1 h.rec_).1, (World.putObj_heap_other (by omega)).trans h.mark⟩
theorem Pair.others {w A B : World} {r : Loop} (h : Pair w (.loop r) A) (k : KeepsOthers A B) : Pair w (.loop r) B := ⟨k.same _ _ h.rec_ rfl, k.same _ _ h.mark rfl⟩

variable {F : Fence} {n : Nat} {P : Program}

theorem hand_range {α : Type} {g : Operand} {ps : Array Tmp} {assign body : Code} {Q : Exit → Act → World → Prop} {a : Act} {w : World} (hro : F.round = none) (h1 : 1 ≤ n) {gf : Nat} {lb : Array Value}
    (hg : a.eval g = .func (.func gf) #[] lb) (hFg : F.fn gf) (eg : ∀ args w, (callFunc gf args).run P w = .ok (.enter gf args) w)
    {encs : α → Array Value} {Kp : World → World → Prop} {Pr : List α → α → World → Prop} {S : List α → Prop} (hcall : Hands F (n - 1) P gf lb encs Kp Pr S w)
    (hKt : ∀ {A B C : World}, Kp A B → Kp B C → Kp A C) (hKb : ∀ (W : World) (l : Nat) (o o' : Obj), w.heap.size ≤ l → W.heap[l]? = some o → o.isCells = false → o.isWalk = false → Kp W (W.putObj l o'))
    (hps : ∀ x, (encs x).size = ps.size) (I : List α → World → Prop) (hI : OwnFrom w.heap.size I) (hPr : ∀ pre, OwnFrom w.heap.size (Pr pre)) (h0 : I [] w) (a₁ : α → Act)
    (hassign : ∀ (l : Nat) (x : α) (W : World) (K : Act → World → Prop), K (a₁ x) W →
      assign.wpIn (F.inRound l) (n - 1 - 1) P (Exit.then K (fun _ _ _ => False)) { tmps := (ps.zip (encs x)).foldl (fun t (p, v) => t.setIfInBounds p v) a.tmps, defers := [] } W)
    (hbody : ∀ (l : Nat) (pre : List α) (x : α) (W : World), I pre W → Pr pre x W → body.wpIn (F.inRound l) (n - 1 - 1) P (HandPost Kp (I (pre ++ [x])) W) (a₁ x) W)
    (hdone : ∀ (D : Nat) (xs : List α) (W : World), w.heap.size ≤ D → S xs → I xs W → W.heap[D]? = some (.deferred (some [])) → Q .normal { a with defers := { target := .collected D, args := #[] } :: a.defers } W) :
    (Code.rangeFunc g ps assign body).wpIn F n P Q a w := by
  refine wpIn_rangeFunc fun fn hfn => ?_
  rw [hro]
  -- the record in each of its states; the world in which the iterator is called
  have hL := run_enterLoop_outer (P := P) (w := w) fn a.tmps ps assign body
  generalize hrec : ({ state := .ready, pending := none, fn, tmps := a.tmps, params := ps, assign, body, defers := w.heap.size } : Loop) = R at hL
  have hRps : R.params = ps := by rw [← hrec]
  have hRst : R.state = .ready := by rw [← hrec]
  have hRrd : ({ R with state := .ready, pending := none } : Loop) = R := by rw [← hrec]
  have hRfn : R.fn = fn ∧ R.tmps = a.tmps ∧ R.assign = assign ∧ R.body = body ∧ R.pending = none := by rw [← hrec]; exact ⟨rfl, rfl, rfl, rfl, rfl⟩
  have b1 : Below w.heap.size w ((w.alloc (.deferred (some []))).alloc (.loop R)) := ((Below.refl _ w).alloc (Nat.le_refl _) _).alloc (by simp) _
  have p1 : Pair w (.loop R) ((w.alloc (.deferred (some []))).alloc (.loop R)) := by
    constructor
    · have := World.alloc_heap_new (w.alloc (.deferred (some []))) (.loop R)
      rwa [World.size_alloc] at this
    · exact (Below.heap_alloc _ _ _ (by simp)).trans (World.alloc_heap_new w _)
  have i1 : I [] ((w.alloc (.deferred (some []))).alloc (.loop R)) := hI.alloc _ (hI.alloc _ h0)
  generalize (w.alloc (.deferred (some []))).alloc (.loop R) = W1 at *
  -- a turn of the record
  have turn : ∀ (pre : List α) (A : World) (r : Loop) (o : Obj), I pre A → Pair w (.loop r) A → I pre (A.putObj (w.heap.size + 1) o) := fun pre A r o hi hp => hI.putObj o hi (by omega) hp.rec_ rfl
  refine ⟨w.heap.size + 1, _, W1, { target := .fn (.func gf) lb, args := #[.func (.yield (w.heap.size + 1)) #[] #[]] }, W1, gf, #[.func (.yield (w.heap.size + 1)) #[] #[]] ++ lb, W1, hL, ?_, fun f' hf' => ?_, ?_, fun _ => h1, ?_⟩
  · simp only [resolve, hg]
    simp [go_sem]
  · obtain rfl : gf = f' := by simpa [Target.leads] using hf'
    exact hFg
  · simp [invoke, go_sem, eg]
  refine (hcall (w.heap.size + 1) (fun pre A => I pre A ∧ Pair w (.loop R) A) W1 b1 (fun s A B h hb => ⟨hI s A B none h.1 ⟨hb.os, hb.tape, hb.output, hb.size, fun k hk _ => hb.block k hk⟩ (fun r e => by cases e), h.2.below hb⟩) ?_ ⟨i1, p1⟩).mono ?_
  · -- a round
    rintro pre x A ⟨hi, hp⟩ hx
    have hy := run_yield (P := P) (args := encs x) hp.rec_ (by rw [hRps]; exact hps x)
    rw [hRps, hRfn.1, hRfn.2.1, hRfn.2.2.1, hRfn.2.2.2.1] at hy
    have hp2 := hp.turn (.loop { R with state := .busy })
    have k2 : Kp A (A.putObj (w.heap.size + 1) (.loop { R with state := .busy })) := hKb _ _ _ _ (by omega) hp.rec_ rfl rfl
    have x2 : Pr pre x (A.putObj (w.heap.size + 1) (.loop { R with state := .busy })) := (hPr pre).putObj _ hx (by omega) hp.rec_ rfl
    have i2 := turn pre A R (.loop { R with state := .busy }) hi hp
    refine ⟨fn, _, assign, body, hy, roundIn_of_wpIn hfn (hassign _ x A _ ⟨_, run_beginRound hp.rec_ hRst, ?_⟩)⟩
    refine wpIn_mono (hbody (w.heap.size + 1) pre x _ i2 x2) (fun e a3 C hC => ?_)
    cases e with
    | normal =>
      obtain ⟨c1, c2, c3⟩ := hC
      have hp3 := hp2.others c1
      have he := run_endRound (P := P) none hp3.rec_
      simp only [Option.isNone_none, if_true] at he
      rw [hRrd] at he
      exact ⟨_, _, he, rfl, ⟨turn _ C _ _ c3 hp3, hp3.turn _⟩, hKt (hKt k2 c2) (hKb _ _ _ _ (by omega) hp3.rec_ rfl rfl)⟩
    | ret => exact hC.elim
    | exit id => exact hC.elim
    | goto t => exact hC.elim
    | panic ch => exact hC.elim
    | outgrown => exact hC.elim
  · -- behind the iterator
    rintro e B ⟨⟨v, rfl⟩, xs, hs, hi, hp⟩
    have he := run_endLoop (P := P) hp.rec_ (by rw [hRst]; simp)
    rw [hRfn.2.2.2.2] at he
    exact ⟨none, _, he, hdone w.heap.size xs _ (Nat.le_refl _) hs (turn xs B R _ hi hp) (hp.turn _).mark⟩
end Go.Proofs.Ytbbjeoepoocofaa
