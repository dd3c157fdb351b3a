/- A crash of a journal's disk; what is opened behind it. -/
import Derived.Test.YtbbjeoepoocofaaS4
namespace Go.Proofs.Ytbbjeoepoocofaa
open Go.RowKit

/-- The disk behind a crash of a journal's disk. -/
structure CrDisk (w : World) (c : Nat) (D : Dk) (q : Foot) (b s : Nat) (rs : List (List Int)) (nf : Nat) : Prop where
  dk : DiskAt w c D q.m q.s
  recs : ∀ ss e, Recs D.now ss e → ss = rs.take ss.length ∧ ss.length ≤ rs.length ∧ nf ≤ ss.length
  isb : isB D.now
  opn : D.open_ = []
  bl : D.blocks = b
  sz : D.size = s

def CrashJ (b s : Nat) (rs : List (List Int)) (nf : Nat) (w : World) (e : Ending) (w' : World) : Prop :=
  (∃ c D q, e = .returned (.tuple #[.pointer (some ⟨c, 0, none⟩), .int .i64 0]) ∧ CrDisk w' c D q b s rs nf ∧ (∀ k, q.s k → w.heap.size ≤ k) ∧ Below w.heap.size w w') ∨
  (e = .returned (.tuple #[.pointer none, .int .i64 1]) ∧ Below w.heap.size w w')

theorem Crash_JJ (w : World) (j d b s : Nat) (rs : List (List Int)) (nf : Nat) (a : Foot) (h : JJ w j d b s rs nf a) (fv : Value) (fs : List Int) (hf : Rd w 1 fv fs.length (its fs)) :
    Calls Try.prog 19 #[.pointer (some ⟨d, 0, none⟩), fv] w (CrashJ b s rs nf w) := by
  obtain ⟨D, L, fin, p, q, hp, hb, hs, hb4, hs4, hm, hS⟩ := h
  by_cases hn : fs.length ≤ D.open_.length
  · refine (Crash_any w d D q.m q.s hp.dk fv fs hf hn).mono ?_
    rintro e w' (⟨-, c, M', S', rfl, hd, hS', bel⟩ | ⟨-, rfl, bel⟩)
    · have hl := hp.ji.crash fs
      exact .inl ⟨c, D.crash fs, ⟨M', S'⟩, rfl, ⟨hd, fun ss e hr => crash_recs hp.ji hl hr, hl.isB hp.ji.isb, rfl, hb, hs⟩, hS', bel⟩
    · exact .inr ⟨rfl, bel⟩
  · obtain ⟨sp, sc, rfl, -⟩ := hf.form
    refine (Crash_many w d D q.m q.s hp.dk sp fs.length sc (by omega)).mono ?_
    rintro e w' ⟨rfl, rfl⟩
    exact .inr ⟨rfl, Below.refl _ _⟩

theorem CrDisk.below {w w' : World} {c : Nat} {D : Dk} {q : Foot} {b s : Nat} {rs : List (List Int)} {nf : Nat} (h : CrDisk w c D q b s rs nf) (hb : Below w.heap.size w w') : CrDisk w' c D q b s rs nf :=
  ⟨h.dk.below hb, h.recs, h.isb, h.opn, h.bl, h.sz⟩
/-- What is read and not written is kept by whatever happens to new memory alone. -/
theorem JA.below {w w' : World} {j d : Nat} {L : List Int} {fin : Nat} {rs : List (List Int)} {p : Foot} (h : Jr w j d L fin rs p.m p.s) (hb : Below w.heap.size w w') : Jr w' j d L fin rs p.m p.s := h.below hb
end Go.Proofs.Ytbbjeoepoocofaa
