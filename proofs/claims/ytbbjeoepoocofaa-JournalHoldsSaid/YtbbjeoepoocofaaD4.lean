import Derived.Test.YtbbjeoepoocofaaD3
namespace Go.Proofs.Ytbbjeoepoocofaa
open Go.RowKit

/-- What a copy into a row of the call's own leaves. -/
structure CopyOut (g : Nat) (cur : List Value) (off : Nat) (cs : List Value) (t : TypeId) (w w' : World) : Prop where
  row : w'.heap[g]? = some (.cells (splice cur off cs).toArray t (0, 0))
  keeps : Keeps (fun k => k = g) w w'

theorem wpList_copy_keep {P : Program} {w : World} {ops : Array Oper} {rest : List Oper} {o : Oper} {a : Act} {Q : Exit → Act → World → Prop} (hgd : o.guard = none) (d s : Operand) (dT sT : TypeId)
    (ho : o.op = .call { callee := .builtin .copy, args := #[d, s], argTypes := #[dT, sT] }) (elem : TypeId) (hu : P.underlying dT = some (.slice elem)) (hsz : (P.info? elem).map (·.size) = some 1)
    (sp : Option Addr) (dLen dCap sLen sCap : Nat) (g off : Nat) (hd : a.eval d = .slice (some ⟨g, off, none⟩) dLen dCap) (hs : a.eval s = .slice sp sLen sCap)
    (cur : List Value) (t : TypeId) (hg : w.heap[g]? = some (.cells cur.toArray t (0, 0))) (cs : List Value) (hn : cs.length = Nat.min sLen dLen)
    (hpos : 0 < cs.length → ∃ ad, sp = some ad ∧ ∀ j v, cs[j]? = some v → w.cell? (ad.add j) = some v)
    (hfit : off + cs.length ≤ cur.length) (h1 : ∀ v ∈ cs, v.oneCell' = true)
    (h : ∀ w', CopyOut g cur off cs t w w' → wpList P ops Q rest (a.put o.dst (goInt cs.length)) w') :
    wpList P ops Q (o :: rest) a w := by
  by_cases h0 : cs.length = 0
  · obtain rfl : cs = [] := List.eq_nil_of_length_eq_zero h0
    refine wpList_copy_nothing hgd d s dT sT ho elem hu hsz _ sp dLen dCap sLen sCap hd hs (by simpa using hn.symm) ?_
    exact h w ⟨by simpa [splice] using hg, Keeps.refl _ _⟩
  · obtain ⟨ad, rfl, hsrc⟩ := hpos (by omega)
    refine wpList_copy_own hgd d s dT sT ho elem hu hsz g off dLen dCap ad sLen sCap hd hs cur.toArray t hg cs hn hsrc (by simpa using hfit) h1 ?_
    refine h _ ⟨by simpa [splice] using setRow_heap w g _ _ t _ hg, ⟨rfl, rfl, rfl, by simp, fun k _ hk => setRow_other w g k _ hk⟩⟩

/-- A row of bytes of the call's own: all cells up to the capacity. -/
theorem own_row {w : World} {g n cap : Nat} {e : TypeId} {xs : List Value} (h : w.ownsRow 0 e 1 (.slice (some ⟨g, 0, none⟩) n cap) n xs) :
    ∃ cur : List Value, w.heap[g]? = some (.cells cur.toArray e (0, 0)) ∧ n ≤ cap ∧ cap ≤ maxLen ∧ cur.length = cap ∧ cur.take n = xs := by
  rcases h.2 with ⟨h', _⟩ | ⟨g', cap', cur, h', _, hg, h1, h2, h3, h4⟩
  · simp at h'
  · simp only [Value.slice.injEq, Option.some.injEq, Addr.mk.injEq, and_true, true_and] at h'
    obtain ⟨rfl, rfl⟩ := h'
    exact ⟨cur.toList, by simpa using hg, h1, h2, by simpa using h3, by simpa using h4⟩

theorem splice_take {cur : List Value} {n off : Nat} {L xs : List Int} (h : cur.take n = bts L) (hn : n ≤ cur.length) (hf : off + xs.length ≤ n) : (splice cur off (bts xs)).take n = bts (over L off xs) := by
  have hl : L.length = n := by have := congrArg List.length h; rw [bts_length, List.length_take] at this; omega
  have e : (cur.take n).take off = cur.take off := by rw [List.take_take, Nat.min_eq_left (by omega)]
  have e2 : (cur.drop (off + xs.length)).take (n - (off + xs.length)) = (cur.take n).drop (off + xs.length) := by rw [List.drop_take]
  unfold splice over
  rw [bts_length]
  have e3 : (bts xs).take (n - off) = bts xs := List.take_of_length_le (by rw [bts_length]; omega)
  have e4 : (cur.take off).length = off := by rw [List.length_take]; omega
  rw [List.take_append, List.take_take, Nat.min_eq_right (by omega : off ≤ n), e4, List.take_append, e3, bts_length,
    show n - off - xs.length = n - (off + xs.length) from by omega, e2, ← e, h]
  simp [bts, List.map_take, List.map_drop]

theorem copy_own {w w' : World} {g n cap off : Nat} {cur : List Value} {L xs : List Int} (hL : cur.take n = bts L) (h1 : n ≤ cap) (h2 : cap ≤ maxLen) (h3 : cur.length = cap) (hf : off + xs.length ≤ n)
    (hc : CopyOut g cur off (bts xs) 5 w w') : w'.ownsRow 0 5 1 (.slice (some ⟨g, 0, none⟩) n cap) n (bts (over L off xs)) := by
  have hl : L.length = n := by have := congrArg List.length hL; rw [bts_length, List.length_take] at this; omega
  refine ⟨by rw [bts_length, over_length (by omega)]; omega, .inr ⟨g, cap, _, rfl, Nat.zero_le _, hc.row, h1, h2, ?_, ?_⟩⟩
  · rw [List.size_toArray, length_splice _ _ _ (by rw [bts_length]; omega)]; omega
  · rw [Nat.mul_one]
    simp only []
    exact splice_take hL (by omega) hf

/-- A disk behind a write. -/
def Dk.write (D : Dk) (i : Nat) (xs : List Int) : Dk := { D with now := over D.now (i * D.size) xs, open_ := D.open_ ++ [(i, xs)] }

end Go.Proofs.Ytbbjeoepoocofaa
