/- A journal, the bytes of its records so far, and a row of these records: three things that lie apart. -/
import Derived.Test.YtbbjeoepoocofaaS3
import Derived.Test.YtbbjeoepoocofaaV2
namespace Go.Proofs.Ytbbjeoepoocofaa
open Go.RowKit

/-- A Sync: then no write is open. -/
theorem Sync_open (w : World) (j d b s : Nat) (rs : List (List Int)) (nf : Nat) (a : Foot) (h : JJ w j d b s rs nf a) :
    Calls Try.prog 48 #[.pointer (some ⟨j, 0, none⟩)] w fun e w' => e = .returned (.int .i64 0) ∧ (∃ a', JJ w' j d b s rs rs.length a' ∧ Upd a a' w w') ∧ Calls Try.prog 18 #[.pointer (some ⟨d, 0, none⟩)] w' fun e w'' => e = .returned (.int .i64 0) ∧ w' = w'' := by
  obtain ⟨D, L, fin, p, q, hp, hb, hs, hb4, hs4, hm, hS⟩ := h
  refine (Jsync_any w j d D L fin rs p.m p.s q.m q.s hp.jr hp.dk).mono ?_
  rintro e w' ⟨rfl, M', S', hd, K, m2, s2⟩
  have u : Upd q ⟨M', S'⟩ w w' := ⟨K, m2, s2⟩
  have sp : Sits w 0 p := ⟨hp.jr.sub, hp.jr.lt, fun _ _ => Nat.zero_le _⟩
  refine ⟨rfl, ⟨⟨fun k => p.m k ∨ M' k, fun k => p.s k ∨ S' k⟩, ⟨D.sync, L, fin, p, ⟨M', S'⟩, ⟨hp.jr.keep K (u.off hp.ap.symm), hd, (u.apart sp hp.ap.symm).symm, hp.ji.sync⟩, hb, hs, hb4, hs4, fun k => Iff.rfl, fun k => Iff.rfl⟩, K.mono (fun k hk => (hm k).2 (.inr hk)), fun k hk => hk.elim (fun e => .inl ((hm k).2 (.inl e))) (fun e => (m2 k e).imp (fun e => (hm k).2 (.inr e)) id), fun k hk => hk.elim (fun e => .inl ((hS k).2 (.inl e))) (fun e => (s2 k e).imp (fun e => (hS k).2 (.inr e)) id)⟩, ?_⟩
  exact Open_any w' d D.sync M' S' hd

theorem JJ.sizes {w : World} {j d b s : Nat} {rs : List (List Int)} {nf : Nat} {a : Foot} (h : JJ w j d b s rs nf a) : (frms rs).length ≤ b * s := by
  obtain ⟨D, L, fin, p, q, hp, hb, hs, hb4, hs4, hm, hS⟩ := h
  obtain ⟨e1, -⟩ := hp.ji.few hb hs hb4 hs4
  have := hp.ji.le
  rw [hp.ji.fine, e1] at this
  exact this

theorem Rd.adds {w : World} {g n c : Nat} {xs : List Value} (h : Rd w 1 (.slice (some ⟨g, 0, none⟩) n c) n xs) : ∀ j u, xs[j]? = some u → w.cell? ((⟨g, 0, none⟩ : Addr).add j) = some u := by
  rcases h.two with ⟨h', -⟩ | ⟨a, cap, h', -, -, hc⟩
  · simp at h'
  · simp only [Value.slice.injEq, Option.some.injEq] at h'
    obtain ⟨rfl, -, -⟩ := h'
    exact hc

/-- The three of them. -/
structure AI (w : World) (B j d m n : Nat) (rs : List (List Int)) (nf : Nat) (ts : List (List Int)) (xs : List Int) (wr : World) (a o : Foot) (ov cv : Value) : Prop where
  jj : JJ wr j d m n rs nf a
  tab : Tab wr ov ts o
  all : wr.ownsRow B 5 1 cv xs.length (bts xs)
  ap : Apart a o
  ca : ∀ k, cv.ownBlock = some k → ¬ a.s k ∧ ¬ o.s k
  s1 : Sits wr B a
  om : ∀ k, o.m k → B ≤ k
  bel : Below B w wr
  size : B ≤ w.heap.size

section
variable {w : World} {B j d m n : Nat} {rs : List (List Int)} {nf : Nat} {ts : List (List Int)} {xs : List Int} {wr w4 : World} {a o : Foot} {ov cv : Value}
theorem AI.sz (h : AI w B j d m n rs nf ts xs wr a o ov cv) : B ≤ wr.heap.size := Nat.le_trans h.size h.bel.size
theorem AI.so (h : AI w B j d m n rs nf ts xs wr a o ov cv) : Sits wr B o := ⟨h.tab.sub, h.tab.lt, h.om⟩
theorem AI.start (hj : JJ wr j d m n rs nf a) (s1 : Sits wr B a) (bel : Below B w wr) (size : B ≤ w.heap.size) : AI w B j d m n rs nf [] [] wr a ⟨fun _ => False, fun _ => False⟩ (.slice none 0 0) (.slice none 0 0) where
  jj := hj
  tab := Tab.nil wr
  all := World.ownsRow_nil _ _ _ _
  ap := ⟨fun _ _ f => f, fun _ f => f.elim⟩
  ca := fun k e => by simp [Value.ownBlock] at e
  s1 := s1
  om := fun _ f => f.elim
  bel := bel
  size := size
theorem AI.below (h : AI w B j d m n rs nf ts xs wr a o ov cv) (hb : Below wr.heap.size wr w4) : AI w B j d m n rs nf ts xs w4 a o ov cv where
  jj := h.jj.below hb
  tab := h.tab.below hb
  all := own_same h.all hb
  ap := h.ap
  ca := h.ca
  s1 := h.s1.mono hb.size
  om := h.om
  bel := h.bel.trans (hb.mono h.sz)
  size := h.size
theorem AI.upd (h : AI w B j d m n rs nf ts xs wr a o ov cv) {rs4 : List (List Int)} {nf4 : Nat} {a4 : Foot} (hj : JJ w4 j d m n rs4 nf4 a4) (u : Upd a a4 wr w4) : AI w B j d m n rs4 nf4 ts xs w4 a4 o ov cv where
  jj := hj
  tab := h.tab.keep u.keeps (u.off h.ap)
  all := own_keep h.all u.keeps (fun k e hk => (h.ca k e).1 (h.jj.sub k hk))
  ap := u.apart h.so h.ap
  ca := fun k e => ⟨fun hs => (u.s k hs).elim (h.ca k e).1 (fun e2 => by have := (own_lt h.all k e).2; omega), (h.ca k e).2⟩
  s1 := u.fit h.s1 h.sz hj.sub hj.lt
  om := h.om
  bel := h.bel.trans (u.below h.s1 h.sz)
  size := h.size
theorem AI.grow (h : AI w B j d m n rs nf ts xs wr a o ov cv) {g cap : Nat} {ys : List Int} (hown : w4.ownsRow B 5 1 (.slice (some ⟨g, 0, none⟩) ys.length cap) ys.length (bts ys)) (hg : wr.grownBy w4 cv.ownBlock) (hat : cv.ownBlock = some g ∨ g = wr.heap.size) :
    AI w B j d m n rs nf ts ys w4 a o ov (.slice (some ⟨g, 0, none⟩) ys.length cap) := by
  have K : Keeps (fun k => cv.ownBlock = some k) wr w4 := Keeps.of_grown (X := fun k => cv.ownBlock = some k) hg (fun _ e => e)
  exact { jj := h.jj.keep K (fun k hs e => (h.ca k e).1 hs)
          tab := h.tab.keep K (fun k hs e => (h.ca k e).2 hs)
          all := hown
          ap := h.ap
          ca := fun k e => by
            obtain rfl : g = k := by simpa [Value.ownBlock] using e
            rcases hat with e1 | e1
            · exact h.ca g e1
            · exact ⟨fun hs => by have := h.jj.lt g hs; omega, fun hs => by have := h.tab.lt g hs; omega⟩
          s1 := h.s1.mono K.size
          om := h.om
          bel := h.bel.trans (K.below h.sz (fun k e => (own_lt h.all k e).1))
          size := h.size }
theorem AI.grow' (h : AI w B j d m n rs nf ts xs wr a o ov cv) {g cap N : Nat} {ys : List Int} (hN : N = ys.length) (hown : w4.ownsRow B 5 1 (.slice (some ⟨g, 0, none⟩) N cap) N (bts ys)) (hg : wr.grownBy w4 cv.ownBlock) (hat : cv.ownBlock = some g ∨ g = wr.heap.size) :
    AI w B j d m n rs nf ts ys w4 a o ov (.slice (some ⟨g, 0, none⟩) N cap) := by
  subst hN
  exact h.grow hown hg hat
theorem AI.snoc (h : AI w B j d m n rs nf ts xs wr a o ov cv) {ov7 : Value} {x : List Int} {u : Value} {o7 : Foot} (hu : ∀ k, u.ownBlock = some k → 0 < x.length → k < B) (ht : Tab w4 ov7 (ts ++ [x]) o7) (K : Keeps o.m wr w4) (m7 : ∀ k, o7.m k → o.m k ∨ wr.heap.size ≤ k)
    (s7 : ∀ k, o7.s k → o.s k ∨ wr.heap.size ≤ k ∨ (u.ownBlock = some k ∧ 0 < x.length)) : AI w B j d m n rs nf (ts ++ [x]) xs w4 a o7 ov7 cv where
  jj := h.jj.keep K (fun k hs hm => h.ap.2 k hm hs)
  tab := ht
  all := own_keep h.all K (fun k e hm => (h.ca k e).2 (h.tab.sub k hm))
  ap := ⟨fun k hm hs => by
      rcases s7 k hs with e | e | e
      · exact h.ap.1 k hm e
      · have := h.s1.lt k (h.s1.sub k hm); omega
      · have := h.s1.base k hm; have := hu k e.1 e.2; omega, fun k hm hs => by
      rcases m7 k hm with e | e
      · exact h.ap.2 k e hs
      · have := h.s1.lt k hs; omega⟩
  ca := fun k e => ⟨(h.ca k e).1, fun hs => by
      rcases s7 k hs with e1 | e1 | e1
      · exact (h.ca k e).2 e1
      · have := (own_lt h.all k e).2; omega
      · have := (own_lt h.all k e).1; have := hu k e1.1 e1.2; omega⟩
  s1 := h.s1.mono K.size
  om := fun k hm => (m7 k hm).elim (h.om k) (fun e => Nat.le_trans h.sz e)
  bel := h.bel.trans (K.below h.sz h.om)
  size := h.size

/-- What is asked of the three between two calls. -/
theorem AI.room (h : AI w B j d m n rs nf ts xs wr a o ov cv) {w' : World} (hb : Below wr.heap.size wr w') :
    Calls Try.prog 44 #[.pointer (some ⟨j, 0, none⟩)] w' fun e w'' => e = .returned (.int .i64 (roomV (m * n) (frms rs).length)) ∧ Below w'.heap.size w' w'' := Room_JJ w' j d m n rs nf a (h.jj.below hb)
theorem AI.len (h : AI w B j d m n rs nf ts xs wr a o ov cv) {w' : World} (hb : Below wr.heap.size wr w') :
    Calls Try.prog 43 #[.pointer (some ⟨j, 0, none⟩)] w' fun e w'' => e = .returned (.int .i64 rs.length) ∧ w' = w'' := Len_JJ w' j d m n rs nf a (h.jj.below hb)
theorem AI.recs (h : AI w B j d m n rs nf ts xs wr a o ov cv) (hn : rs.length ≤ 200) {w' : World} (hb : Below wr.heap.size wr w') :
    Calls Try.prog 29 #[.pointer (some ⟨j, 0, none⟩)] w' fun e w'' => (∃ v, e = .returned v ∧ Bb w'' v rs) ∧ Below w'.heap.size w' w'' := by
  refine (Recs_JJ w' j d m n rs nf a (h.jj.below hb) hn).mono ?_
  rintro e w'' ⟨v, rfl, ht, hb⟩
  exact ⟨⟨v, rfl, ht.reads⟩, hb⟩
theorem AI.same (h : AI w B j d m n rs nf rs xs wr a o ov cv) {w' : World} (hb : Below wr.heap.size wr w') (v : Value) (hv : Bb w' v rs) :
    Calls Try.prog 30 #[v, ov] w' fun e w'' => e = .returned (.bool true) ∧ Below w'.heap.size w' w'' := by
  refine (Same_any w' v ov rs rs hv (h.tab.below hb).bb).mono ?_
  rintro e w'' ⟨rfl, n, rfl⟩
  exact ⟨by rw [decide_eq_true rfl], Below.drewN (Below.refl _ _) n⟩
end
end Go.Proofs.Ytbbjeoepoocofaa
