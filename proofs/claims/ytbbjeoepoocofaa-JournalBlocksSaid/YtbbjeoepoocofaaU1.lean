/- Two journals side by side. -/
import Derived.Test.YtbbjeoepoocofaaS3
import Derived.Test.YtbbjeoepoocofaaV1
namespace Go.Proofs.Ytbbjeoepoocofaa
open Go.RowKit

/-- What Append answers, and the records behind it. -/
def codeV (N : Nat) (rs : List (List Int)) (r : List Int) : Int := if fitB N rs r.length = true then 0 else 21
def nextR (N : Nat) (rs : List (List Int)) (r : List Int) : List (List Int) := if fitB N rs r.length = true then rs ++ [r] else rs
theorem nextR_len (N : Nat) (rs : List (List Int)) (r : List Int) : (nextR N rs r).length ≤ rs.length + 1 := by
  unfold nextR
  split <;> simp

theorem below_drewn {w w' : World} {n : Nat} (h : w' = w.drewN n) : Below w.heap.size w w' := by rw [h]; exact Below.drewN (Below.refl _ _) n

theorem JJ.image_len {w : World} {j d b s : Nat} {rs : List (List Int)} {nf : Nat} {a : Foot} (h : JJ w j d b s rs nf a) : (image (b * s) rs).length = b * s := by
  obtain ⟨D, L, fin, p, q, hp, hb, hs, hb4, hs4, hm, hS⟩ := h
  obtain ⟨e1, -⟩ := hp.ji.few hb hs hb4 hs4
  rw [← e1, ← hp.ji.image]

/-- Two journals, each on a disk of its own: m blocks of n bytes, n blocks of m bytes. -/
structure Duo (w : World) (B j d k c m n : Nat) (rs : List (List Int)) (nf : Nat) (rs2 : List (List Int)) (nf2 : Nat) (wr : World) (a a2 : Foot) : Prop where
  one : JJ wr j d m n rs nf a
  two : JJ wr k c n m rs2 nf2 a2
  ap : Apart a a2
  s1 : Sits wr B a
  s2 : Sits wr B a2
  bel : Below B w wr
  size : B ≤ w.heap.size

section
variable {w : World} {B j d k c m n : Nat} {rs : List (List Int)} {nf : Nat} {rs2 : List (List Int)} {nf2 : Nat} {wr : World} {a a2 : Foot}
theorem Duo.sz (h : Duo w B j d k c m n rs nf rs2 nf2 wr a a2) : B ≤ wr.heap.size := Nat.le_trans h.size h.bel.size
theorem Duo.left (h : Duo w B j d k c m n rs nf rs2 nf2 wr a a2) {w4 : World} {a4 : Foot} {rs4 : List (List Int)} {nf4 : Nat} (hj : JJ w4 j d m n rs4 nf4 a4) (u : Upd a a4 wr w4) : Duo w B j d k c m n rs4 nf4 rs2 nf2 w4 a4 a2 where
  one := hj
  two := h.two.keep u.keeps (u.off h.ap)
  ap := u.apart h.s2 h.ap
  s1 := u.fit h.s1 h.sz hj.sub hj.lt
  s2 := h.s2.mono u.keeps.size
  bel := h.bel.trans (u.below h.s1 h.sz)
  size := h.size
theorem Duo.right (h : Duo w B j d k c m n rs nf rs2 nf2 wr a a2) {w4 : World} {a4 : Foot} {rs4 : List (List Int)} {nf4 : Nat} (hj : JJ w4 k c n m rs4 nf4 a4) (u : Upd a2 a4 wr w4) : Duo w B j d k c m n rs nf rs4 nf4 w4 a a4 where
  one := h.one.keep u.keeps (u.off h.ap.symm)
  two := hj
  ap := (u.apart h.s1 h.ap.symm).symm
  s1 := h.s1.mono u.keeps.size
  s2 := u.fit h.s2 h.sz hj.sub hj.lt
  bel := h.bel.trans (u.below h.s2 h.sz)
  size := h.size
theorem Duo.below (h : Duo w B j d k c m n rs nf rs2 nf2 wr a a2) {w4 : World} (hb : Below wr.heap.size wr w4) : Duo w B j d k c m n rs nf rs2 nf2 w4 a a2 where
  one := h.one.below hb
  two := h.two.below hb
  ap := h.ap
  s1 := h.s1.mono hb.size
  s2 := h.s2.mono hb.size
  bel := h.bel.trans (hb.mono h.sz)
  size := h.size

theorem Duo.sync1 (h : Duo w B j d k c m n rs nf rs2 nf2 wr a a2) : Calls Try.prog 48 #[.pointer (some ⟨j, 0, none⟩)] wr fun e w' => e = .returned (.int .i64 0) ∧ ∃ a', Duo w B j d k c m n rs rs.length rs2 nf2 w' a' a2 := by
  refine (Sync_JJ wr j d m n rs nf a h.one).mono ?_
  rintro e w4 ⟨rfl, a4, h4, u4⟩
  exact ⟨rfl, a4, h.left h4 u4⟩
theorem Duo.sync2 (h : Duo w B j d k c m n rs nf rs2 nf2 wr a a2) : Calls Try.prog 48 #[.pointer (some ⟨k, 0, none⟩)] wr fun e w' => e = .returned (.int .i64 0) ∧ ∃ a', Duo w B j d k c m n rs nf rs2 rs2.length w' a a' := by
  refine (Sync_JJ wr k c n m rs2 nf2 a2 h.two).mono ?_
  rintro e w4 ⟨rfl, a4, h4, u4⟩
  exact ⟨rfl, a4, h.right h4 u4⟩
theorem Duo.app1 (h : Duo w B j d k c m n rs nf rs2 nf2 wr a a2) (bv : Value) (r : List Int) (hr : Rb wr bv r) (hrB : isB r) (hrM : ∀ k, bv.ownBlock = some k → 0 < r.length → k < B) (h1024 : r.length ≤ 1024) :
    Calls Try.prog 46 #[.pointer (some ⟨j, 0, none⟩), bv] wr fun e w' => e = .returned (.int .i64 (codeV (m * n) rs r)) ∧ Below B wr w' ∧ ∃ a', Duo w B j d k c m n (nextR (m * n) rs r) nf rs2 nf2 w' a' a2 := by
  refine (Append_JJ wr j d m n rs nf a h.one bv r hr hrB (fun i h1 h2 h3 => by have := hrM i h1 h2; have := h.s1.base i h3; omega) h1024).mono ?_
  rintro e w4 ⟨rfl, a4, h4, u4⟩
  exact ⟨rfl, u4.below h.s1 h.sz, a4, h.left h4 u4⟩
theorem Duo.app2 (h : Duo w B j d k c m n rs nf rs2 nf2 wr a a2) (bv : Value) (r : List Int) (hr : Rb wr bv r) (hrB : isB r) (hrM : ∀ k, bv.ownBlock = some k → 0 < r.length → k < B) (h1024 : r.length ≤ 1024) :
    Calls Try.prog 46 #[.pointer (some ⟨k, 0, none⟩), bv] wr fun e w' => e = .returned (.int .i64 (codeV (m * n) rs2 r)) ∧ Below B wr w' ∧ ∃ a', Duo w B j d k c m n rs nf (nextR (m * n) rs2 r) nf2 w' a a' := by
  have := Append_JJ wr k c n m rs2 nf2 a2 h.two bv r hr hrB (fun i h1 h2 h3 => by have := hrM i h1 h2; have := h.s2.base i h3; omega) h1024
  rw [Nat.mul_comm n m] at this
  refine this.mono ?_
  rintro e w4 ⟨rfl, a4, h4, u4⟩
  exact ⟨rfl, u4.below h.s2 h.sz, a4, h.right h4 u4⟩
theorem Duo.room1 (h : Duo w B j d k c m n rs nf rs2 nf2 wr a a2) :
    Calls Try.prog 44 #[.pointer (some ⟨j, 0, none⟩)] wr fun e w' => e = .returned (.int .i64 (roomV (m * n) (frms rs).length)) ∧ Duo w B j d k c m n rs nf rs2 nf2 w' a a2 ∧ Below B wr w' := by
  refine (Room_JJ wr j d m n rs nf a h.one).mono ?_
  rintro e w4 ⟨rfl, b4⟩
  exact ⟨rfl, h.below b4, b4.mono h.sz⟩
theorem Duo.room2 (h : Duo w B j d k c m n rs nf rs2 nf2 wr a a2) :
    Calls Try.prog 44 #[.pointer (some ⟨k, 0, none⟩)] wr fun e w' => e = .returned (.int .i64 (roomV (m * n) (frms rs2).length)) ∧ Duo w B j d k c m n rs nf rs2 nf2 w' a a2 ∧ Below B wr w' := by
  have := Room_JJ wr k c n m rs2 nf2 a2 h.two
  rw [Nat.mul_comm n m] at this
  refine this.mono ?_
  rintro e w4 ⟨rfl, b4⟩
  exact ⟨rfl, h.below b4, b4.mono h.sz⟩
end
end Go.Proofs.Ytbbjeoepoocofaa
