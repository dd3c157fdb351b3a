/- A journal on its disk, as one thing; what its calls do to it. -/
import Derived.Test.YtbbjeoepoocofaaS1
namespace Go.Proofs.Ytbbjeoepoocofaa
open Go.RowKit

/-- The parts of it. -/
structure Jp (w : World) (j d : Nat) (D : Dk) (L : List Int) (fin : Nat) (rs : List (List Int)) (nf : Nat) (p q : Foot) : Prop where
  jr : Jr w j d L fin rs p.m p.s
  dk : DiskAt w d D q.m q.s
  ap : Apart p q
  ji : JI D L fin rs nf
/-- A journal on its disk of b blocks of s bytes: these records, so many of them at the last Sync. -/
def JJ (w : World) (j d b s : Nat) (rs : List (List Int)) (nf : Nat) (a : Foot) : Prop :=
  ∃ D L fin p q, Jp w j d D L fin rs nf p q ∧ D.blocks = b ∧ D.size = s ∧ b ≤ 40 ∧ s ≤ 40 ∧ (∀ k, a.m k ↔ p.m k ∨ q.m k) ∧ (∀ k, a.s k ↔ p.s k ∨ q.s k)

theorem Jr.sub {w : World} {j d : Nat} {L : List Int} {fin : Nat} {rs : List (List Int)} {M S : Nat → Prop} (h : Jr w j d L fin rs M S) : ∀ k, M k → S k := by obtain ⟨_, _, _, _, l⟩ := h; exact l.sub
theorem Jr.lt {w : World} {j d : Nat} {L : List Int} {fin : Nat} {rs : List (List Int)} {M S : Nat → Prop} (h : Jr w j d L fin rs M S) : ∀ k, S k → k < w.heap.size := by obtain ⟨_, _, _, _, l⟩ := h; exact l.lt

theorem JJ.sub {w : World} {j d b s : Nat} {rs : List (List Int)} {nf : Nat} {a : Foot} (h : JJ w j d b s rs nf a) : ∀ k, a.m k → a.s k := by
  obtain ⟨D, L, fin, p, q, h, -, -, -, -, hm, hs⟩ := h
  exact fun k hk => (hs k).2 (((hm k).1 hk).imp (h.jr.sub k) (h.dk.sub k))
theorem JJ.lt {w : World} {j d b s : Nat} {rs : List (List Int)} {nf : Nat} {a : Foot} (h : JJ w j d b s rs nf a) : ∀ k, a.s k → k < w.heap.size := by
  obtain ⟨D, L, fin, p, q, h, -, -, -, -, hm, hs⟩ := h
  exact fun k hk => ((hs k).1 hk).elim (h.jr.lt k) (h.dk.lt k)
theorem JJ.keep {X : Nat → Prop} {w w' : World} {j d b s : Nat} {rs : List (List Int)} {nf : Nat} {a : Foot} (h : JJ w j d b s rs nf a) (hk : Keeps X w w') (hX : ∀ k, a.s k → ¬ X k) : JJ w' j d b s rs nf a := by
  obtain ⟨D, L, fin, p, q, h, h1, h2, h3, h4, hm, hs⟩ := h
  exact ⟨D, L, fin, p, q, ⟨h.jr.keep hk (fun k hk' => hX k ((hs k).2 (.inl hk'))), h.dk.keep hk (fun k hk' => hX k ((hs k).2 (.inr hk'))), h.ap, h.ji⟩, h1, h2, h3, h4, hm, hs⟩
theorem JJ.below {w w' : World} {j d b s : Nat} {rs : List (List Int)} {nf : Nat} {a : Foot} (h : JJ w j d b s rs nf a) (hb : Below w.heap.size w w') : JJ w' j d b s rs nf a := h.keep (X := fun _ => False) (Keeps.of_below hb) (fun _ _ f => f)

/-- Is there room for a record behind these? -/
def fitB (N : Nat) (rs : List (List Int)) (n : Nat) : Bool := decide ((n : Int) ≤ roomV N (frms rs).length)
theorem fit_le {N e n : Nat} (h : (n : Int) ≤ roomV N e) : e + 4 + 2 * n ≤ N ∧ n ≤ 1024 := by
  unfold roomV at h
  split at h <;> omega

theorem JI.few {D : Dk} {L : List Int} {fin : Nat} {rs : List (List Int)} {nf : Nat} (h : JI D L fin rs nf) {b s : Nat} (hb : D.blocks = b) (hs : D.size = s) (h1 : b ≤ 40) (h2 : s ≤ 40) : L.length = b * s ∧ L.length ≤ 1600 ∧ rs.length ≤ 400 ∧ D.open_.length ≤ 16000 := by
  have e1 := h.len
  rw [hb, hs] at e1
  have e2 : b * s ≤ 40 * 40 := Nat.mul_le_mul h1 h2
  have e3 := frms_len4 rs
  have e4 := h.fine
  have e5 := h.le
  have e6 := h.openLen
  have e7 : rs.length * D.blocks ≤ 400 * 40 := Nat.mul_le_mul (by omega) (by omega)
  exact ⟨e1, by omega, by omega, by omega⟩

theorem Append_JJ (w : World) (j d b s : Nat) (rs : List (List Int)) (nf : Nat) (a : Foot) (h : JJ w j d b s rs nf a) (bv : Value) (r : List Int) (hr : Rb w bv r) (hrB : isB r) (hrM : ∀ k, bv.ownBlock = some k → 0 < r.length → ¬ a.m k) (h1024 : r.length ≤ 1024) :
    Calls Try.prog 46 #[.pointer (some ⟨j, 0, none⟩), bv] w fun e w' => e = .returned (.int .i64 (if fitB (b * s) rs r.length = true then 0 else 21)) ∧ ∃ a', JJ w' j d b s (if fitB (b * s) rs r.length = true then rs ++ [r] else rs) nf a' ∧ Upd a a' w w' := by
  have h0 := h
  obtain ⟨D, L, fin, p, q, hp, hb, hs, hb4, hs4, hm, hS⟩ := h
  obtain ⟨e1, e2, e3, e4⟩ := hp.ji.few hb hs hb4 hs4
  by_cases hf : (r.length : Int) ≤ roomV (b * s) (frms rs).length
  · have hft : fitB (b * s) rs r.length = true := decide_eq_true hf
    rw [if_pos hft, if_pos hft]
    have hf2 := (fit_le hf).1
    rw [← hp.ji.fine] at hf hf2
    refine (Append_walk w j d D L fin rs p.m p.s q.m q.s hp.jr hp.dk hp.ap.2 hp.ap.1 bv r hr hrB (fun k e1 e2 => ⟨fun e => hrM k e1 e2 ((hm k).2 (.inl e)), fun e => hrM k e1 e2 ((hm k).2 (.inr e))⟩) h1024 (by rw [e1]; exact hf) hp.ji.len (by omega) (by omega)).mono ?_
    rintro e w' ⟨rfl, n, M', S', Md', Sd', hj, hd, hn, hend, K, m1, s1, m2, s2, s3⟩
    have hLB : isB (putN L fin (head2 r) (r.length + 2)) := by obtain ⟨_, _, _, _, l⟩ := hj; exact l.bytes
    have hji := hp.ji.append h1024 (by omega) n hn hend hLB
    obtain ⟨w1, w2, -, -⟩ := wrN_same D (putN L fin (head2 r) (r.length + 2)) (fin + 2 * (r.length + 2)) (fin / D.size) n
    refine ⟨rfl, ⟨fun k => M' k ∨ Md' k, fun k => S' k ∨ Sd' k⟩, ⟨_, _, _, ⟨M', S'⟩, ⟨Md', Sd'⟩, ⟨hj, hd, ⟨fun k hk hs => ?_, fun k hk hs => ?_⟩, hji⟩, by rw [w1, hb], by rw [w2, hs], hb4, hs4, fun k => Iff.rfl, fun k => Iff.rfl⟩, K.mono (fun k hk => (hm k).2 hk), fun k hk => hk.elim (fun e => (m1 k e).imp (fun e => (hm k).2 (.inl e)) id) (fun e => (m2 k e).imp (fun e => (hm k).2 (.inr e)) id), fun k hk => hk.elim (fun e => (s1 k e).imp (fun e => (hS k).2 (.inl e)) id) (fun e => (s2 k e).imp (fun e => (hS k).2 (.inr e)) id)⟩
    · obtain ⟨f1, f2⟩ := s3 k (hj.sub k hk) hs
      rcases m1 k hk with e | e
      · exact hp.ap.1 k e f2
      · have := hp.jr.lt k f1; omega
    · obtain ⟨f1, f2⟩ := s3 k hs (hd.sub k hk)
      rcases m2 k hk with e | e
      · exact hp.ap.2 k e f1
      · have := hp.jr.lt k f1; omega
  · have hft : fitB (b * s) rs r.length = false := decide_eq_false hf
    obtain ⟨sp, sc, rfl, -⟩ := hr.form
    refine (Append_full w j d L fin rs p.m p.s hp.jr sp r.length sc h1024 (by rw [e1, hp.ji.fine]; omega)).mono ?_
    rintro e w' ⟨rfl, bel⟩
    rw [hft, if_neg (by decide), if_neg (by decide)]
    exact ⟨rfl, a, h0.below bel, Upd.of_below bel⟩

theorem Sync_JJ (w : World) (j d b s : Nat) (rs : List (List Int)) (nf : Nat) (a : Foot) (h : JJ w j d b s rs nf a) :
    Calls Try.prog 48 #[.pointer (some ⟨j, 0, none⟩)] w fun e w' => e = .returned (.int .i64 0) ∧ ∃ a', JJ w' j d b s rs rs.length a' ∧ Upd a a' w w' := by
  obtain ⟨D, L, fin, p, q, hp, hb, hs, hb4, hs4, hm, hS⟩ := h
  refine (Jsync_any w j d D L fin rs p.m p.s q.m q.s hp.jr hp.dk).mono ?_
  rintro e w' ⟨rfl, M', S', hd, K, m2, s2⟩
  have u : Upd q ⟨M', S'⟩ w w' := ⟨K, m2, s2⟩
  have sp : Sits w 0 p := ⟨hp.jr.sub, hp.jr.lt, fun _ _ => Nat.zero_le _⟩
  refine ⟨rfl, ⟨fun k => p.m k ∨ M' k, fun k => p.s k ∨ S' k⟩, ⟨D.sync, L, fin, p, ⟨M', S'⟩, ⟨hp.jr.keep K (u.off hp.ap.symm), hd, (u.apart sp hp.ap.symm).symm, hp.ji.sync⟩, hb, hs, hb4, hs4, fun k => Iff.rfl, fun k => Iff.rfl⟩, K.mono (fun k hk => (hm k).2 (.inr hk)), fun k hk => hk.elim (fun e => .inl ((hm k).2 (.inl e))) (fun e => (m2 k e).imp (fun e => (hm k).2 (.inr e)) id), fun k hk => hk.elim (fun e => .inl ((hS k).2 (.inl e))) (fun e => (s2 k e).imp (fun e => (hS k).2 (.inr e)) id)⟩

theorem Len_JJ (w : World) (j d b s : Nat) (rs : List (List Int)) (nf : Nat) (a : Foot) (h : JJ w j d b s rs nf a) :
    Calls Try.prog 43 #[.pointer (some ⟨j, 0, none⟩)] w fun e w' => e = .returned (.int .i64 rs.length) ∧ w = w' := by
  obtain ⟨D, L, fin, p, q, hp, -⟩ := h
  exact Len_any w j d L fin rs p.m p.s hp.jr
theorem Room_JJ (w : World) (j d b s : Nat) (rs : List (List Int)) (nf : Nat) (a : Foot) (h : JJ w j d b s rs nf a) :
    Calls Try.prog 44 #[.pointer (some ⟨j, 0, none⟩)] w fun e w' => e = .returned (.int .i64 (roomV (b * s) (frms rs).length)) ∧ Below w.heap.size w w' := by
  obtain ⟨D, L, fin, p, q, hp, hb, hs, hb4, hs4, hm, hS⟩ := h
  obtain ⟨e1, -⟩ := hp.ji.few hb hs hb4 hs4
  have := Room_any w j d L fin rs p.m p.s hp.jr
  rw [e1, hp.ji.fine] at this
  exact this
theorem Recs_JJ (w : World) (j d b s : Nat) (rs : List (List Int)) (nf : Nat) (a : Foot) (h : JJ w j d b s rs nf a) (hn : rs.length ≤ 200) :
    Calls Try.prog 29 #[.pointer (some ⟨j, 0, none⟩)] w fun e w' => ∃ v, e = .returned v ∧ Tbl w' w.heap.size v rs ∧ Below w.heap.size w w' := by
  obtain ⟨D, L, fin, p, q, hp, -⟩ := h
  exact Records_any w j d L fin rs p.m p.s hp.jr hn (fun r hr => by have := hp.ji.small r hr; omega)
/-- The bytes of a journal's disk. -/
def image (N : Nat) (rs : List (List Int)) : List Int := frms rs ++ List.replicate (N - (frms rs).length) 0
theorem JI.image {D : Dk} {L : List Int} {fin : Nat} {rs : List (List Int)} {nf : Nat} (h : JI D L fin rs nf) : L = Ytbbjeoepoocofaa.image L.length rs := by
  have h1 := h.fine
  have h2 := h.le
  refine getD_ext0 (by simp [Ytbbjeoepoocofaa.image]; omega) fun p => ?_
  rw [h.low]
  unfold Ytbbjeoepoocofaa.image
  by_cases hp : p < fin
  · rw [if_pos hp, getD_append_left (by omega)]
  · rw [if_neg hp, getD_append_right (by omega)]
    simp only [List.getD, List.getElem?_replicate]
    split <;> rfl
theorem bytes_JJ (w : World) (j d b s : Nat) (rs : List (List Int)) (nf : Nat) (a : Foot) (h : JJ w j d b s rs nf a) :
    Calls Try.prog 34 #[.pointer (some ⟨d, 0, none⟩)] w fun e w' => ∃ v, e = .returned v ∧ w'.ownsRow w.heap.size 5 1 v (image (b * s) rs).length (bts (image (b * s) rs)) ∧ Below w.heap.size w w' := by
  obtain ⟨D, L, fin, p, q, hp, hb, hs, hb4, hs4, hm, hS⟩ := h
  obtain ⟨e1, -⟩ := hp.ji.few hb hs hb4 hs4
  have e2 : D.now = image (b * s) rs := by rw [hp.ji.now, ← e1]; exact hp.ji.image
  have := bytes_any w d D q.m q.s hp.dk (by omega)
  rw [e2] at this
  exact this

/-- A journal is opened on a disk. -/
theorem Open_JJ (w : World) (d : Nat) (D : Dk) (q : Foot) (hd : DiskAt w d D q.m q.s) (hB : isB D.now) (hb : D.blocks ≤ 40) (hs : D.size ≤ 40) (ho : D.open_.length ≤ 800000) :
    Calls Try.prog 27 #[.pointer (some ⟨d, 0, none⟩)] w fun e w' => ∃ j rs fin p q', e = .returned (.tuple #[.pointer (some ⟨j, 0, none⟩), .int .i64 0]) ∧ Recs D.now rs fin ∧ Jp w' j d (D.reset (clr D.now fin)) (clr D.now fin) fin rs rs.length p q' ∧ (∀ k, p.s k → w.heap.size ≤ k) ∧ Upd q q' w w' := by
  have e2 : D.blocks * D.size ≤ 40 * 40 := Nat.mul_le_mul hb hs
  have hnl : D.now.length = D.blocks * D.size := by obtain ⟨_, _, _, _, _, _, li⟩ := hd; exact li.nowLen
  refine (Open_walk w d D q.m q.s hd hB (by omega) ho).mono ?_
  rintro e w' ⟨j, rs, fin, M', S', Md', Sd', rfl, hr, hj, hd', K, s1, m2, s2, a1, a2⟩
  exact ⟨j, rs, fin, ⟨M', S'⟩, ⟨Md', Sd'⟩, rfl, hr, ⟨hj, hd', ⟨a2, fun k hk hs => a1 k hs hk⟩, JI.opened hnl hB hr⟩, s1, K, m2, s2⟩
theorem Jp.jj {w : World} {j d : Nat} {D : Dk} {L : List Int} {fin : Nat} {rs : List (List Int)} {nf : Nat} {p q : Foot} (h : Jp w j d D L fin rs nf p q) (hb : D.blocks ≤ 40) (hs : D.size ≤ 40) : JJ w j d D.blocks D.size rs nf ⟨fun k => p.m k ∨ q.m k, fun k => p.s k ∨ q.s k⟩ :=
  ⟨D, L, fin, p, q, h, rfl, rfl, hb, hs, fun _ => Iff.rfl, fun _ => Iff.rfl⟩

/-- A new disk, and its journal: it has no records. -/
theorem new_isB (b s : Nat) : isB (newDk b s).now := fun x hx => by
  have : x = 0 := List.eq_of_mem_replicate hx
  omega
theorem new_recs {b s : Nat} {rs : List (List Int)} {fin : Nat} (h : Recs (newDk b s).now rs fin) : rs = [] ∧ fin = 0 := by
  refine h.uniq (recs_zero fun p => ?_)
  simp only [newDk, List.getD, List.getElem?_replicate]
  split <;> rfl
end Go.Proofs.Ytbbjeoepoocofaa
