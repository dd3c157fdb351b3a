/- One byte is put, twice, behind the end. -/
import Derived.Test.YtbbjeoepoocofaaJ5
import Derived.BigRegion
namespace Go.Proofs.Ytbbjeoepoocofaa
open Go.RowKit

/-- An image with a byte put behind the end. -/
def put2 (L : List Int) (e : Nat) (x : Int) : List Int := (L.set e x).set (e + 1) (255 - x)
theorem put2_length (L : List Int) (e : Nat) (x : Int) : (put2 L e x).length = L.length := by simp [put2]
theorem put2_getD {L : List Int} {e : Nat} {x : Int} (h : e + 1 < L.length) (p : Nat) : (put2 L e x).getD p 0 = if p = e then x else if p = e + 1 then 255 - x else L.getD p 0 := by
  unfold put2
  simp only [List.getD, List.getElem?_set, List.length_set]
  by_cases h1 : e + 1 = p
  · subst h1
    rw [if_pos rfl, if_pos (by omega), if_neg (by omega), if_pos rfl]
    rfl
  · rw [if_neg h1]
    by_cases h2 : e = p
    · subst h2
      rw [if_pos rfl, if_pos (by omega), if_pos rfl]
      rfl
    · rw [if_neg h2, if_neg (by omega), if_neg (by omega)]

theorem isB_put2 {L : List Int} (h : isB L) (e : Nat) {x : Int} (h0 : 0 ≤ x) (h1 : x ≤ 255) : isB (put2 L e x) := by
  intro y hy
  unfold put2 at hy
  rcases List.mem_or_eq_of_mem_set hy with hy | rfl
  · rcases List.mem_or_eq_of_mem_set hy with hy | rfl
    · exact h y hy
    · exact ⟨h0, h1⟩
  · omega

/-- The journal behind the two stores into its image. -/
theorem JL.put {w : World} {j d : Nat} {L : List Int} {fin : Nat} {rs : List (List Int)} {M S : Nat → Prop} {ib ic : Nat} {rv : Value} {vs : List Value} (h : JL w j d L fin rs M S ib ic rv vs) {x : Int} (hx0 : 0 ≤ x) (hx1 : x ≤ 255) (hf : fin + 1 < L.length) :
    JL ((((w.setCell ⟨ib, fin, none⟩ (.int .u8 x)).setCell ⟨ib, fin + 1, none⟩ (.int .u8 (255 - x))).drew).setCell ⟨j, 1, none⟩ (.int .i64 ((fin : Int) + 2))) j d (put2 L fin x) (fin + 2) rs M S ib ic rv vs ∧
    Keeps M w ((((w.setCell ⟨ib, fin, none⟩ (.int .u8 x)).setCell ⟨ib, fin + 1, none⟩ (.int .u8 (255 - x))).drew).setCell ⟨j, 1, none⟩ (.int .i64 ((fin : Int) + 2))) := by
  have k1 : Keeps (fun k => k = ib) w (((w.setCell ⟨ib, fin, none⟩ (.int .u8 x)).setCell ⟨ib, fin + 1, none⟩ (.int .u8 (255 - x))).drew) :=
    (Keeps.setCell (X := fun k => k = ib) (a := ⟨ib, fin + 1, none⟩) (Keeps.setCell (X := fun k => k = ib) (a := ⟨ib, fin, none⟩) (Keeps.refl _ w) (.inl rfl) _) (.inl rfl) _).drew
  have hji : ib ≠ j := fun e => by
    have h1 := own_off h.img h.head (by decide)
    simp [Value.ownBlock, e] at h1
  have s1 : (((w.setCell ⟨ib, fin, none⟩ (.int .u8 x)).setCell ⟨ib, fin + 1, none⟩ (.int .u8 (255 - x))).drew).ownsRow 0 5 1 (.slice (some ⟨ib, 0, none⟩) L.length ic) L.length (bts (put2 L fin x)) := by
    have a := (h.img.stored fin (.int .u8 x)).1
    rw [bts_set] at a
    have b := (a.stored (fin + 1) (.int .u8 (255 - x))).1
    rw [bts_set] at b
    exact own_keep b ((Keeps.refl (fun _ => False) _).drew) (fun _ _ f => f)
  have hh : (((w.setCell ⟨ib, fin, none⟩ (.int .u8 x)).setCell ⟨ib, fin + 1, none⟩ (.int .u8 (255 - x))).drew).heap[j]? = some (.cells #[.slice (some ⟨ib, 0, none⟩) L.length ic, .int .i64 fin, .pointer (some ⟨d, 0, none⟩), rv] 97) := by
    rw [k1.block j (h.lt j (h.sub j h.mj)) (fun e => hji e.symm)]
    exact h.head
  have hl := (put2_length L fin x)
  generalize ((w.setCell ⟨ib, fin, none⟩ (.int .u8 x)).setCell ⟨ib, fin + 1, none⟩ (.int .u8 (255 - x))).drew = w2 at *
  have k2 : Keeps (fun k => k = j) w2 (w2.setCell ⟨j, 1, none⟩ (.int .i64 ((fin : Int) + 2))) := Keeps.setCell (X := fun k => k = j) (a := ⟨j, 1, none⟩) (Keeps.refl _ w2) (.inl rfl) _
  have K : Keeps M w (w2.setCell ⟨j, 1, none⟩ (.int .i64 ((fin : Int) + 2))) := (k1.mono (fun k e => by rw [e]; exact h.mi)).trans k2 (fun k e => .inl (by rw [e]; exact h.mj))
  refine ⟨{ head := ?_, img := ?_, recs := ?_, inner := h.inner, mj := h.mj, mi := h.mi, mr := h.mr, sub := h.sub, lt := fun k hk => Nat.lt_of_lt_of_le (h.lt k hk) K.size, bytes := isB_put2 h.bytes fin hx0 hx1, finle := by rw [hl]; omega, lenle := by rw [hl]; exact h.lenle, rslen := h.rslen }, K⟩
  · rw [hl]
    have := heap_setCell_same w2 j 1 _ _ (.int .i64 ((fin : Int) + 2)) hh
    rw [this]
    simp
  · rw [hl]
    exact own_keep s1 k2 (fun k e e2 => by
      simp [Value.ownBlock] at e
      exact hji (e.trans e2))
  · refine ⟨h.recs.len, ?_, fun i y u hy hu => own_keep (h.recs.inner i y u hy hu) K (fun k e => (h.inner u (List.mem_of_getElem? hu) k e).2)⟩
    have hr1 := own_keep h.recs.row k1 (fun k e e2 => own_apart h.recs.row h.img (by decide) k e (by rw [e2]; rfl))
    exact own_keep hr1 k2 (fun k e e2 => own_off hr1 hh (by decide) (by rw [e, e2]))

set_option maxRecDepth 100000 in
set_option maxHeartbeats 2000000 in
theorem put_clos (w : World) (q j d : Nat) (L : List Int) (fin : Nat) (rs : List (List Int)) (M S : Nat → Prop) (ib ic : Nat) (rv : Value) (vs : List Value) (h : JL w j d L fin rs M S ib ic rv vs)
    (hq : w.heap[q]? = some (.cells #[.pointer (some ⟨j, 0, none⟩)] 47)) (x : Int) (hx0 : 0 ≤ x) (hx1 : x ≤ 255) (hf : fin + 1 < L.length) :
    Calls Try.prog 62 #[.int .u8 x, .pointer (some ⟨q, 0, none⟩)] w fun e w' => e = .returned (.tuple #[]) ∧ JL w' j d (put2 L fin x) (fin + 2) rs M S ib ic rv vs ∧ Keeps M w w' ∧ w'.heap[q]? = some (.cells #[.pointer (some ⟨j, 0, none⟩)] 47) := by
  obtain ⟨c0, c1, c2, c3⟩ := h.cells
  have f1 := h.free 1
  have q0 : w.cell? ⟨q, 0, none⟩ = some (.pointer (some ⟨j, 0, none⟩)) := by rw [cell_of_row w q 0 _ _ _ hq]; rfl
  have i0 : w.cell? ⟨ib, fin, none⟩ = some (.int .u8 (L.getD fin 0)) := by rw [h.img.cellAt fin (by omega), bts_get (by omega)]
  have i1 : w.cell? ⟨ib, fin + 1, none⟩ = some (.int .u8 (L.getD (fin + 1) 0)) := by rw [h.img.cellAt (fin + 1) (by omega), bts_get (by omega)]
  have g0 : w.frozen? ⟨ib, fin, none⟩ = false := h.img.frozenAt fin
  have g1 : w.frozen? ⟨ib, fin + 1, none⟩ = false := h.img.frozenAt (fin + 1)
  have hll := h.lenle
  have hw1 : IntKind.i64.wrap ((fin : Int) + 1) = (fin : Int) + 1 := by rw [IntKind.wrap_i64]; omega
  have hw2 : IntKind.u8.wrap (255 - x) = 255 - x := by simp [IntKind.wrap, IntKind.bits, IntKind.signed]; omega
  have hji : ¬ ib = j := fun e => by
    have h1 := own_off h.img h.head (by decide)
    simp [Value.ownBlock, e] at h1
  have H := Lib.hid h
  have HQ := Lib.hid hq
  clear h hq
  generalize L.getD fin 0 = y0 at *
  generalize L.getD (fin + 1) 0 = y1 at *
  go_enter Try.func62, Try.ntmps62
  go_wp2_with fail
  go_region
  have k1 : Keeps (fun k => k = ib) w (((w.setCell ⟨ib, fin, none⟩ (.int .u8 x)).setCell ⟨ib, fin + 1, none⟩ (.int .u8 (255 - x))).drew) :=
    (Keeps.setCell (X := fun k => k = ib) (a := ⟨ib, fin + 1, none⟩) (Keeps.setCell (X := fun k => k = ib) (a := ⟨ib, fin, none⟩) (Keeps.refl _ w) (.inl rfl) _) (.inl rfl) _).drew
  have hqi : ¬ q = ib := fun e => by
    have h1 := own_off H.out.img HQ.out (by decide)
    simp [Value.ownBlock, e] at h1
  have hqj : ¬ q = j := fun e => by
    have h1 := H.out.head
    have h2 := HQ.out
    rw [e, h1] at h2
    simp at h2
  have HFIN := Lib.hid (H.out.put hx0 hx1 hf)
  have m1 : (((w.setCell ⟨ib, fin, none⟩ (.int .u8 x)).setCell ⟨ib, fin + 1, none⟩ (.int .u8 (255 - x))).drew).cell? ⟨j, 1, none⟩ = some (.int .i64 fin) := k1.cell (a := ⟨j, 1, none⟩) (fun e => hji e.symm) c1
  have mq : (((w.setCell ⟨ib, fin, none⟩ (.int .u8 x)).setCell ⟨ib, fin + 1, none⟩ (.int .u8 (255 - x))).drew).cell? ⟨q, 0, none⟩ = some (.pointer (some ⟨j, 0, none⟩)) := k1.cell (a := ⟨q, 0, none⟩) hqi q0
  have mf : (((w.setCell ⟨ib, fin, none⟩ (.int .u8 x)).setCell ⟨ib, fin + 1, none⟩ (.int .u8 (255 - x))).drew).frozen? ⟨j, 1, none⟩ = false := by
    rw [World.frozen?_of_block (a := ⟨j, 1, none⟩) (w := w) (k1.block j (H.out.lt j (H.out.sub j H.out.mj)) (fun e => hji e.symm))]
    exact f1
  have mh : Hid ((((w.setCell ⟨ib, fin, none⟩ (.int .u8 x)).setCell ⟨ib, fin + 1, none⟩ (.int .u8 (255 - x))).drew).heap[q]? = some (.cells #[.pointer (some ⟨j, 0, none⟩)] 47)) := by
    unfold Hid
    rw [k1.block q (World.block_lt_of_cell? w _ q0) hqi]
    exact HQ.out
  clear k1 c0 c1 c2 c3 f1 q0 i0 i1 g0 g1
  generalize ((w.setCell ⟨ib, fin, none⟩ (.int .u8 x)).setCell ⟨ib, fin + 1, none⟩ (.int .u8 (255 - x))).drew = w2 at *
  go_wp2_with fail
  go_end0
  refine ⟨rfl, HFIN.out.1, HFIN.out.2, ?_⟩
  rw [(Keeps.setCell (X := fun k => k = j) (a := ⟨j, 1, none⟩) (Keeps.refl _ w2) (.inl rfl) (.int .i64 ((fin : Int) + 2))).block q (Array.getElem?_eq_some_iff.1 mh.out).1 hqj]
  exact mh.out
end Go.Proofs.Ytbbjeoepoocofaa
