/- What holds of a journal and its disk, call by call, in plain lists; what stands behind a crash. No function of the program in sight. -/
import Derived.Test.YtbbjeoepoocofaaJ10
namespace Go.Proofs.Ytbbjeoepoocofaa

/-- The bytes of frames, each once. -/
def flat : List (List Int) → List Int
  | [] => []
  | r :: rs => head2 r ++ flat rs
theorem frms_pairs (rs : List (List Int)) : frms rs = pairs (flat rs) := by
  induction rs with
  | nil => rfl
  | cons r rs ih => rw [flat, pairs_append, ← ih]; rfl

/-- A journal and its disk: these records, so many of them at the last Sync. -/
structure JI (D : Dk) (L : List Int) (fin : Nat) (rs : List (List Int)) (nf : Nat) : Prop where
  len : L.length = D.blocks * D.size
  fine : fin = (frms rs).length
  le : fin ≤ L.length
  low : ∀ p, L.getD p 0 = if p < fin then (frms rs).getD p 0 else 0
  now : D.now = L
  small : ∀ r ∈ rs, r.length ≤ 1024
  isb : isB L
  nfle : nf ≤ rs.length
  firmLen : D.firm.length = L.length
  firm : ∀ p, D.firm.getD p 0 = if p < (frms (rs.take nf)).length then L.getD p 0 else 0
  opens : ∀ x ∈ D.open_, x.1 < D.blocks ∧ x.2.length ≤ D.size ∧ ∀ i, i < x.2.length → x.1 * D.size + i < fin ∧ x.2.getD i 0 = L.getD (x.1 * D.size + i) 0
  openLen : D.open_.length ≤ rs.length * D.blocks

theorem JI.sync {D : Dk} {L : List Int} {fin : Nat} {rs : List (List Int)} {nf : Nat} (h : JI D L fin rs nf) : JI D.sync L fin rs rs.length where
  len := h.len
  fine := h.fine
  le := h.le
  low := h.low
  now := h.now
  small := h.small
  isb := h.isb
  nfle := Nat.le_refl _
  firmLen := by show D.now.length = _; rw [h.now]
  firm := fun p => by
    show D.now.getD p 0 = _
    rw [h.now, List.take_length, ← h.fine]
    by_cases hp : p < fin
    · rw [if_pos hp]
    · rw [if_neg hp, h.low, if_neg hp]
  opens := fun x hx => by simp [Dk.sync] at hx
  openLen := by simp [Dk.sync]

theorem frms_take_le (rs : List (List Int)) (n : Nat) : (frms (rs.take n)).length ≤ (frms rs).length := by
  have : frms rs = frms (rs.take n) ++ frms (rs.drop n) := by rw [← frms_append, List.take_append_drop]
  rw [this, List.length_append]; omega

theorem takes_snoc {rs : List (List Int)} {n : Nat} (h : n ≤ rs.length) (r : List Int) : (rs ++ [r]).take n = rs.take n := by rw [List.take_append_of_le_length h]

theorem JI.append {D : Dk} {L : List Int} {fin : Nat} {rs : List (List Int)} {nf : Nat} (h : JI D L fin rs nf) {r : List Int} (hr : r.length ≤ 1024) (hfit : fin + 4 + 2 * r.length ≤ L.length)
    (n : Nat) (h1 : ∀ i, i < n → (fin / D.size + i) * D.size < fin + 2 * (r.length + 2)) (h2 : fin + 2 * (r.length + 2) ≤ (fin / D.size + n) * D.size)
    (hL : isB (putN L fin (head2 r) (r.length + 2))) :
    JI (wrN D (putN L fin (head2 r) (r.length + 2)) (fin + 2 * (r.length + 2)) (fin / D.size) n) (putN L fin (head2 r) (r.length + 2)) (fin + 2 * (r.length + 2)) (rs ++ [r]) nf := by
  have hg := fun p => putN_getD (L := L) (e := fin) (xs := head2 r) (r.length + 2) (by rw [head2_length]; omega) (by omega) p
  have hlen := putN_length L fin (head2 r) (r.length + 2)
  obtain ⟨w1, w2, w3, w4⟩ := wrN_same D (putN L fin (head2 r) (r.length + 2)) (fin + 2 * (r.length + 2)) (fin / D.size) n
  have w5 := wrN_now D (putN L fin (head2 r) (r.length + 2)) (fin + 2 * (r.length + 2)) (fin / D.size) n (by rw [hlen, h.len]) (by rw [h.now, h.len]) (by rw [hlen]; omega) h1
  have w6 := wrN_open D (putN L fin (head2 r) (r.length + 2)) (fin + 2 * (r.length + 2)) (fin / D.size) n
  have hq := Nat.div_mul_le_self fin D.size
  have hblk : n = 0 ∨ fin / D.size + (n - 1) < D.blocks := by
    rcases Nat.eq_zero_or_pos n with h0 | h0
    · exact .inl h0
    · refine .inr (Nat.lt_of_not_le fun hc => ?_)
      have h3 := h1 (n - 1) (by omega)
      have h4 := Nat.mul_le_mul_right D.size hc
      have h5 := h.len
      omega
  have hn : n ≤ D.blocks := by
    rcases hblk with h0 | h0
    · omega
    · have := Nat.lt_of_le_of_lt (Nat.le_add_left (n - 1) (fin / D.size)) h0
      omega
  generalize hE : wrN D (putN L fin (head2 r) (r.length + 2)) (fin + 2 * (r.length + 2)) (fin / D.size) n = E at *
  generalize hLN : putN L fin (head2 r) (r.length + 2) = LN at *
  have hfr : (frms (rs ++ [r])).length = fin + 2 * (r.length + 2) := by rw [frms_snoc, List.length_append, frm_length, ← h.fine]; omega
  have hold : ∀ p, p < fin → LN.getD p 0 = L.getD p 0 := fun p hp => by rw [hg, if_neg (by omega)]
  have hnf := frms_take_le rs nf
  rw [← h.fine] at hnf
  have hEl : E.now = LN := getD_ext0 (by rw [w5.1, hlen, h.len]) fun p => by
    rw [w5.2 p, h.now]
    by_cases c : fin / D.size * D.size ≤ p ∧ p < min (fin + 2 * (r.length + 2)) ((fin / D.size + n) * D.size)
    · rw [if_pos c]
    · rw [if_neg c, hg, if_neg (by omega)]
  exact {
    len := by rw [hlen, w1, w2, h.len]
    fine := hfr.symm
    le := by rw [hlen]; omega
    low := fun p => by
      rw [hg]
      by_cases c : fin ≤ p ∧ p < fin + 2 * (r.length + 2)
      · rw [if_pos c, if_pos c.2, frms_snoc, getD_append_right (by rw [← h.fine]; exact c.1), ← h.fine]
        rfl
      · rw [if_neg c, h.low]
        by_cases c2 : p < fin
        · rw [if_pos c2, if_pos (by omega), frms_snoc, getD_append_left (by rw [← h.fine]; exact c2)]
        · rw [if_neg c2, if_neg (by omega)]
    now := hEl
    small := fun s hs => by
      rw [List.mem_append] at hs
      rcases hs with hs | hs
      · exact h.small s hs
      · simp at hs; rw [hs]; exact hr
    isb := hL
    nfle := by rw [List.length_append]; have := h.nfle; omega
    firmLen := by rw [w3, hlen]; exact h.firmLen
    firm := fun p => by
      rw [w3, h.firm, takes_snoc h.nfle]
      by_cases c : p < (frms (rs.take nf)).length
      · rw [if_pos c, if_pos c, hold p (by omega)]
      · rw [if_neg c, if_neg c]
    opens := fun x hx => by
      rw [w1, w2]
      rcases w6 x hx with hx | ⟨i, hi, rfl⟩
      · obtain ⟨a, b, c⟩ := h.opens x hx
        exact ⟨a, b, fun i hi => ⟨by have := (c i hi).1; omega, by rw [(c i hi).2, hold _ (c i hi).1]⟩⟩
      · have h3 := h1 i hi
        have h4 : (fin / D.size + i + 1) * D.size = (fin / D.size + i) * D.size + D.size := by rw [Nat.add_mul (fin / D.size + i) 1, Nat.one_mul]
        have hpl := part_len (L := LN) (lo := (fin / D.size + i) * D.size) (hi := min (fin + 2 * (r.length + 2)) ((fin / D.size + i + 1) * D.size)) (by omega)
        refine ⟨hblk.elim (fun h0 => by omega) (fun h0 => Nat.lt_of_le_of_lt (Nat.add_le_add_left (by omega : i ≤ n - 1) _) h0), by rw [hpl]; omega, fun k hk => ?_⟩
        rw [hpl] at hk
        exact ⟨by show (fin / D.size + i) * D.size + k < _; omega, part_at hk⟩
    openLen := by
      rw [w4, w1, List.length_append, List.length_singleton, Nat.add_mul, Nat.one_mul]
      have := h.openLen
      omega }

/-- What a crash leaves: each byte is nought or the image's, and the image's wherever it was synced. -/
structure Left (L : List Int) (rs : List (List Int)) (nf : Nat) (C : List Int) : Prop where
  len : C.length = L.length
  sub : ∀ p, C.getD p 0 = 0 ∨ C.getD p 0 = L.getD p 0
  firm : ∀ p, p < (frms (rs.take nf)).length → C.getD p 0 = L.getD p 0

theorem JI.crash {D : Dk} {L : List Int} {fin : Nat} {rs : List (List Int)} {nf : Nat} (h : JI D L fin rs nf) (fs : List Int) : Left L rs nf (D.torn fs) := by
  have key := fun p => torn_byte D.blocks D.size (D.open_.zip fs) D.firm (by rw [h.firmLen, h.len]) (fun x hx => by
    have := h.opens x.1 (List.of_mem_zip (show (x.1, x.2) ∈ D.open_.zip fs from hx)).1
    exact ⟨this.1, this.2.1⟩) p
  have hb : ∀ p, (D.torn fs).getD p 0 = D.firm.getD p 0 ∨ (D.torn fs).getD p 0 = L.getD p 0 := fun p => by
    rcases (key p).2 with e | ⟨x, hx, h1, h2, h3⟩
    · exact .inl e
    · refine .inr ?_
      obtain ⟨-, -, c⟩ := h.opens x.1 (List.of_mem_zip (show (x.1, x.2) ∈ D.open_.zip fs from hx)).1
      have := (c (p - x.1.1 * D.size) (by omega)).2
      rw [show x.1.1 * D.size + (p - x.1.1 * D.size) = p by omega] at this
      exact h3.trans this
  refine ⟨by have := (key 0).1; rw [h.len]; exact this, fun p => ?_, fun p hp => ?_⟩
  · rcases hb p with e | e
    · rw [e, h.firm]
      by_cases c : p < (frms (rs.take nf)).length
      · rw [if_pos c]; exact .inr rfl
      · rw [if_neg c]; exact .inl rfl
    · exact .inr e
  · rcases hb p with e | e
    · rw [e, h.firm, if_pos hp]
    · exact e
theorem Left.isB {L : List Int} {rs : List (List Int)} {nf : Nat} {C : List Int} (h : Left L rs nf C) (hL : isB L) : Ytbbjeoepoocofaa.isB C := by
  intro x hx
  obtain ⟨i, hi, rfl⟩ := List.getElem_of_mem hx
  have e : C.getD i 0 = C[i] := by simp [List.getD, List.getElem?_eq_getElem hi]
  have := isB_getD hL i
  rw [← e]
  rcases h.sub i with h | h <;> omega

/-- Bytes two by two: they stand for one byte, or are nought. -/
def Even (L : List Int) : Prop := ∀ q, L.getD (2 * q) 0 + L.getD (2 * q + 1) 0 = 255 ∨ (L.getD (2 * q) 0 = 0 ∧ L.getD (2 * q + 1) 0 = 0)
theorem JI.even {D : Dk} {L : List Int} {fin : Nat} {rs : List (List Int)} {nf : Nat} (h : JI D L fin rs nf) : Even L := by
  intro q
  have hf : (frms rs).length = 2 * (flat rs).length := by rw [frms_pairs, pairs_length]
  have hfin := h.fine
  rw [h.low, h.low]
  by_cases c : q < (flat rs).length
  · rw [if_pos (by omega), if_pos (by omega), frms_pairs, (pairs_get _ q c).1, (pairs_get _ q c).2]
    exact .inl (by omega)
  · rw [if_neg (by omega), if_neg (by omega)]
    exact .inr ⟨rfl, rfl⟩
theorem bAt_sub {C L : List Int} (hl : C.length = L.length) (hs : ∀ p, C.getD p 0 = 0 ∨ C.getD p 0 = L.getD p 0) (he : Even L) {o i : Nat} {x : Int} (h : bAt C (2 * o) i = some x) : bAt L (2 * o) i = some x := by
  obtain ⟨h1, h2, h3⟩ := bAt_some.1 h
  refine bAt_some.2 ⟨by omega, ?_, ?_⟩
  all_goals
    have e := he (o + i)
    rw [show 2 * (o + i) = 2 * o + 2 * i by omega] at e
    have a := hs (2 * o + 2 * i)
    have b := hs (2 * o + 2 * i + 1)
    omega
theorem Nxt.sub {C L : List Int} (hl : C.length = L.length) (hs : ∀ p, C.getD p 0 = 0 ∨ C.getD p 0 = L.getD p 0) (he : Even L) {o : Nat} {r : List Int} (h : Nxt C (2 * o) r) : Nxt L (2 * o) r :=
  ⟨h.1, bAt_sub hl hs he h.2.1, bAt_sub hl hs he h.2.2.1, fun i hi => bAt_sub hl hs he (h.2.2.2 i hi)⟩
theorem no_nxt {L : List Int} {o : Nat} (h : ∀ p, o ≤ p → L.getD p 0 = 0) : ¬ ∃ r, Nxt L o r := by
  rintro ⟨r, hr⟩
  obtain ⟨-, h2, h3⟩ := bAt_some.1 hr.2.1
  have a := h (o + 2 * 0) (by omega)
  have b := h (o + 2 * 0 + 1) (by omega)
  omega

/-- What stands in what a crash left are first records. -/
theorem first_of (C L : List Int) (hl : C.length = L.length) (hs : ∀ p, C.getD p 0 = 0 ∨ C.getD p 0 = L.getD p 0) (he : Even L) (rs ss : List (List Int)) (o : Nat)
    (h1 : 2 * o + (frms rs).length ≤ L.length) (h2 : ∀ i, i < (frms rs).length → L.getD (2 * o + i) 0 = (frms rs).getD i 0) (h3 : ∀ r ∈ rs, r.length ≤ 1024) (h4 : ∀ p, 2 * o + (frms rs).length ≤ p → L.getD p 0 = 0)
    (k1 : 2 * o + (frms ss).length ≤ C.length) (k2 : ∀ i, i < (frms ss).length → C.getD (2 * o + i) 0 = (frms ss).getD i 0) (k3 : ∀ r ∈ ss, r.length ≤ 1024) : ss = rs.take ss.length ∧ ss.length ≤ rs.length := by
  induction ss generalizing rs o with
  | nil => exact ⟨rfl, Nat.zero_le _⟩
  | cons s ss ih =>
    have hn := (Chain.head k1 k2 (k3 s (by simp))).sub hl hs he
    rcases rs with _ | ⟨r, rs⟩
    · exact absurd ⟨s, hn⟩ (no_nxt (fun p hp => h4 p hp))
    · have e1 := (Chain.head h1 h2 (h3 r (by simp))).uniq hn
      subst e1
      have hlen : ∀ t : List (List Int), (frms (r :: t)).length = (frm r).length + (frms t).length := fun t => by simp [frms]
      have hev : (frm r).length = 2 * (r.length + 2) := by rw [frm_length]; omega
      rw [hlen] at h1 h2 h4 k1 k2
      have tail : ∀ (Q : List Int) (t : List (List Int)), (∀ i, i < (frm r).length + (frms t).length → Q.getD (2 * o + i) 0 = (frms (r :: t)).getD i 0) → ∀ i, i < (frms t).length → Q.getD (2 * (o + (r.length + 2)) + i) 0 = (frms t).getD i 0 := fun Q t h i hi => by
        rw [show 2 * (o + (r.length + 2)) + i = 2 * o + ((frm r).length + i) by omega, h ((frm r).length + i) (by omega)]
        show (frm r ++ frms t).getD _ 0 = _
        rw [getD_append_right (by omega)]
        congr 1
        omega
      obtain ⟨a, b⟩ := ih rs (o + (r.length + 2)) (by omega) (tail L rs h2) (fun x hx => h3 x (by simp [hx])) (fun p hp => h4 p (by omega)) (by omega) (tail C ss k2) (fun x hx => k3 x (by simp [hx]))
      refine ⟨?_, by simp only [List.length_cons]; omega⟩
      rw [List.length_cons, List.take_succ_cons, ← a]

theorem crash_recs {D : Dk} {L : List Int} {fin : Nat} {rs : List (List Int)} {nf : Nat} (h : JI D L fin rs nf) {C : List Int} (hC : Left L rs nf C) {ss : List (List Int)} {e : Nat} (hr : Recs C ss e) :
    ss = rs.take ss.length ∧ ss.length ≤ rs.length ∧ nf ≤ ss.length := by
  obtain ⟨⟨c1, c2, c3, c4⟩, c5⟩ := hr
  have hfin := h.fine
  have hlow := h.low
  obtain ⟨a, b⟩ := first_of C L hC.len hC.sub h.even rs ss 0 (by have := h.le; omega) (fun i hi => by rw [Nat.mul_zero, Nat.zero_add, hlow, if_pos (by omega)]) h.small (fun p hp => by rw [hlow, if_neg (by omega)])
    (by omega) (fun i hi => by rw [Nat.mul_zero, Nat.zero_add]; exact c3 i (by omega)) c4
  refine ⟨a, b, Nat.le_of_not_lt fun hlt => c5 ?_⟩
  have hm : ss.length < rs.length := by have := h.nfle; omega
  have e1 : rs.take (ss.length + 1) = ss ++ [rs[ss.length]] := by rw [List.take_add_one, List.getElem?_eq_getElem hm, ← a]; rfl
  have e2 : (frms (rs.take (ss.length + 1))).length ≤ (frms (rs.take nf)).length := by
    have := frms_take_le (rs.take nf) (ss.length + 1)
    rw [List.take_take, Nat.min_eq_left (by omega)] at this
    exact this
  have e3 : frms rs = frms (rs.take (ss.length + 1)) ++ frms (rs.drop (ss.length + 1)) := by rw [← frms_append, List.take_append_drop]
  have e4 : (frms (rs.take (ss.length + 1))).length = e + (frm rs[ss.length]).length := by rw [e1, frms_snoc, List.length_append, ← c1]
  have e5 := frms_take_le rs (ss.length + 1)
  have hle := h.le
  refine ⟨rs[ss.length], Nxt.iff.2 ⟨h.small _ (List.getElem_mem hm), by rw [hC.len]; omega, fun i hi => ?_⟩⟩
  rw [hC.firm _ (by omega), hlow, if_pos (by omega), e3, getD_append_left (by omega), e1, frms_snoc, getD_append_right (by omega), ← c1, Nat.add_sub_cancel_left]

/-- What is opened once more has the same records. -/
theorem Recs.clr {C : List Int} {ss : List (List Int)} {e : Nat} (h : Recs C ss e) : Recs (Ytbbjeoepoocofaa.clr C e) ss e := by
  obtain ⟨⟨c1, c2, c3, c4⟩, c5⟩ := h
  have hl := clr_length c2
  refine ⟨⟨c1, by omega, fun i hi => by rw [clr_getD c2, if_pos hi]; exact c3 i hi, c4⟩, no_nxt fun p hp => by rw [clr_getD c2, if_neg (by omega)]⟩
theorem recs_zero {L : List Int} (h : ∀ p, L.getD p 0 = 0) : Recs L [] 0 := ⟨Chain.nil L, no_nxt fun p _ => h p⟩

/-- A journal that was just opened. -/
theorem JI.opened {D : Dk} {ss : List (List Int)} {e : Nat} (hl : D.now.length = D.blocks * D.size) (hb : isB D.now) (h : Recs D.now ss e) : JI (D.reset (Ytbbjeoepoocofaa.clr D.now e)) (Ytbbjeoepoocofaa.clr D.now e) e ss ss.length := by
  obtain ⟨⟨c1, c2, c3, c4⟩, c5⟩ := h
  have hcl := clr_length c2
  exact {
    len := by rw [hcl]; exact hl
    fine := c1
    le := by omega
    low := fun p => by
      rw [clr_getD c2]
      by_cases hp : p < e
      · rw [if_pos hp, if_pos hp, c3 p hp]
      · rw [if_neg hp, if_neg hp]
    now := rfl
    small := c4
    isb := isB_clr hb e
    nfle := Nat.le_refl _
    firmLen := rfl
    firm := fun p => by
      rw [List.take_length, ← c1]
      show (Ytbbjeoepoocofaa.clr D.now e).getD p 0 = _
      by_cases hp : p < e
      · rw [if_pos hp]
      · rw [if_neg hp, clr_getD c2, if_neg hp]
    opens := fun x hx => by simp [Dk.reset] at hx
    openLen := by simp [Dk.reset] }
/-- The image is told by the records. -/
theorem JI.same {D E : Dk} {L K : List Int} {f g : Nat} {rs : List (List Int)} {n m : Nat} (h : JI D L f rs n) (k : JI E K g rs m) (hl : L.length = K.length) : L = K ∧ f = g := by
  have e : f = g := h.fine.trans k.fine.symm
  subst e
  exact ⟨getD_ext0 hl fun p => by rw [h.low, k.low], rfl⟩
end Go.Proofs.Ytbbjeoepoocofaa
