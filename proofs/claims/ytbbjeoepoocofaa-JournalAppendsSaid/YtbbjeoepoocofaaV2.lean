/- The document's frame of a record. -/
import Derived.Test.YtbbjeoepoocofaaV1
namespace Go.Proofs.Ytbbjeoepoocofaa
open Go.RowKit

theorem pairs_take (xs : List Int) (k : Nat) (h : k < xs.length) : pairs (xs.take (k + 1)) = pairs (xs.take k) ++ [xs.getD k 0, 255 - xs.getD k 0] := by
  rw [List.take_add_one, List.getElem?_eq_getElem h, pairs_append]
  simp [pairs, List.getD, List.getElem?_eq_getElem h]

set_option maxRecDepth 100000 in
set_option maxHeartbeats 2000000 in
theorem Frame_any (w : World) (v : Value) (r : List Int) (h : Rb w v r) (hB : isB r) (hl : r.length ≤ 1024) :
    Calls Try.prog 49 #[v] w fun e w' => ∃ u, e = .returned u ∧ w'.ownsRow w.heap.size 5 1 u (frm r).length (bts (frm r)) ∧ Below w.heap.size w w' := by
  obtain ⟨bp, bc, rfl, -⟩ := h.form
  have HR := Lib.hid h
  have HB := Lib.hid hB
  have hc1 : ((r.length : Int) / 256) = ((r.length / 256 : Nat) : Int) := by omega
  have hc2 : ((r.length : Int) % 256) = ((r.length % 256 : Nat) : Int) := by omega
  have hw1 : IntKind.u8.wrap ((r.length / 256 : Nat) : Int) = ((r.length / 256 : Nat) : Int) := by rw [wrap_u8]; omega
  have hw2 : IntKind.u8.wrap ((r.length % 256 : Nat) : Int) = ((r.length % 256 : Nat) : Int) := by rw [wrap_u8]; omega
  have HH : Hid (bts [((r.length / 256 : Nat) : Int), ((r.length % 256 : Nat) : Int)] ++ bts r = bts (head2 r)) := by unfold Hid head2; simp [bts]
  have HHB : Hid (isB (head2 r)) := fun x hx => by
    simp only [head2, List.mem_cons] at hx
    rcases hx with hx | hx | hx
    · omega
    · omega
    · exact HB.out x hx
  have hq1 : r.length / 256 ≤ 255 := by omega
  have hq2 : r.length % 256 ≤ 255 := by omega
  clear h hB HB
  generalize r.length / 256 = h1 at *
  generalize r.length % 256 = h2 at *
  obtain ⟨i0, hi5, hz0, hz1, hz2⟩ := info_parts info5
  go_enter Try.func49, Try.ntmps49
  have R1 : Hid (Rd (w.alloc (.cells #[.int .u8 h1, .int .u8 h2] 5)) 1 (.slice bp r.length bc) r.length (bts r)) := HR.out.keep (X := fun _ => False) ((Keeps.refl _ w).alloc _) (fun _ _ _ f => f)
  have B1 : Hid (Below w.heap.size w (w.alloc (.cells #[.int .u8 h1, .int .u8 h2] 5))) := (Below.refl _ w).alloc (Nat.le_refl _) _
  go_wp2_with ((at_builtin; refine wpList_append_rd rfl _ _ 30 rfl w.heap.size 5 i0 (.int .u8 0) 1 1 Try.underlying30 hi5 hz0 hz1 hz2 rfl (by decide) (.slice (some ⟨w.heap.size, 0, none⟩) 2 2) 2 (bts [(h1 : Int), (h2 : Int)]) rfl (World.ownsRow_lit w #[.int .u8 h1, .int .u8 h2] 2 (Nat.le_refl _) (by decide) rfl) (.slice bp r.length bc) r.length (bts r) rfl R1.out bts_one (by unfold maxLen; omega) (by omega) B1.out.size ?_; rintro u1 w1 hown1 hg1 -; rw [HH.out] at hown1; have B2 : Hid (Below w.heap.size w w1) := B1.out.grown hg1 B1.out.size (fun k e => by simp [Value.ownBlock] at e; omega); obtain ⟨g, gc, rfl, hg0, hg2⟩ := hown1.form (by omega); have O1 := Lib.hid hown1; clear hown1 hg1))
  have hHL : (head2 r).length = 2 + r.length := by rw [head2_length]; omega
  have HFR : Hid (pairs (head2 r) = frm r) := rfl
  have HFL : Hid ((frm r).length = 2 * (2 + r.length)) := by unfold Hid; rw [frm_length]; omega
  clear HR R1 B1 HH hw1 hw2 hc1 hc2
  generalize head2 r = A at *
  have HAL := Lib.hid hHL
  clear hHL
  go_loopw [4, 5] (fun ov iv wr => ∃ k : Nat, iv = .int .i64 k ∧ k ≤ 2 + r.length ∧ wr.ownsRow w1.heap.size 5 1 ov (2 * k) (bts (pairs (A.take k))) ∧ Below w1.heap.size w1 wr) (fun _ iv _ => 2 + r.length - (intOf iv).toNat)
  case atStart => exact ⟨0, rfl, Nat.zero_le _, World.ownsRow_nil _ _ _ _, Below.refl _ _⟩
  case round =>
    obtain ⟨k, rfl, hk, hO, hW⟩ := hrel
    have HO := Lib.hid hO
    have HW := Lib.hid hW
    obtain ⟨ba, bc2, rfl⟩ := own_slice hO
    have zr := hW.size
    clear hO hW
    by_cases hlt : k < 2 + r.length
    · have c1 : w1.cell? ⟨g, k, none⟩ = some (.int .u8 (A.getD k 0)) := by rw [O1.out.cellAt k (by omega), bts_get (by rw [HAL.out]; exact hlt)]
      have cr : wr.cell? ⟨g, k, none⟩ = some (.int .u8 (A.getD k 0)) := (HW.out.cell (p := ⟨g, k, none⟩) hg2).trans c1
      obtain ⟨x0, x1⟩ := isB_getD HHB.out k
      have HSN : Hid (bts (pairs (A.take k)) ++ bts [A.getD k 0, 255 - A.getD k 0] = bts (pairs (A.take (k + 1)))) := by
        unfold Hid
        rw [pairs_take A k (by rw [HAL.out]; exact hlt)]
        simp [bts]
      clear c1
      generalize A.getD k 0 = x at *
      have hw : IntKind.u8.wrap (255 - x) = 255 - x := by rw [wrap_u8]; omega
      have hkl : (k : Int) < ((2 + r.length : Nat) : Int) := by omega
      have nA : ∀ o, (wr.alloc o).cell? ⟨g, k, none⟩ = some (.int .u8 x) := fun o => ((Keeps.refl (fun _ => False) wr).alloc o).cell (fun f => f) cr
      have z12 : 2 * k + 2 = 2 * (k + 1) := by omega
      have HZ := Lib.hid z12
      clear z12
      go_wp2_with fail
      go_region_held3 (fun w' => w'.cell? ⟨g, k, none⟩ = some (.int .u8 x))
        (first
          | assumption
          | exact nA _
          | fail)
        (first
          | (refine step_append_rd (by rfl) _ _ _ (by rfl) w1.heap.size 5 i0 (.int .u8 0) 1 1 Try.underlying30 hi5 hz0 hz1 hz2 (by rfl) (by decide) (.slice ba (2 * k) bc2) (2 * k) (bts (pairs (A.take k))) (by rfl) (own_keep HO.out (((Keeps.refl (fun _ => False) wr).alloc _).drew) (fun _ _ f => f)) (.slice (some ⟨wr.heap.size, 0, none⟩) 2 2) 2 (bts [x, 255 - x]) (by rfl) ((rd_new wr (bts [x, 255 - x]) 2 rfl (by decide) 5).keep (X := fun _ => False) ((Keeps.refl _ _).drew) (fun _ _ _ f => f)) bts_one (by unfold maxLen; omega) (by omega) (by simp; omega) ?_; intro v7 w7 hown7 hg7 _; have k7 : Keeps (fun i => (Value.slice ba (2 * k) bc2).ownBlock = some i) wr w7 := (((Keeps.refl _ wr).alloc _).drew).trans (Keeps.of_grown (X := fun i => (Value.slice ba (2 * k) bc2).ownBlock = some i) hg7 (fun _ e => e)) (fun _ e => .inl e); have c7 : w7.cell? ⟨g, k, none⟩ = some (.int .u8 x) := k7.cell (a := ⟨g, k, none⟩) (fun e => by have := (own_lt HO.out g e).1; omega) cr)
          | fail)
      have O7 : Hid (w7.ownsRow w1.heap.size 5 1 v7 (2 * (k + 1)) (bts (pairs (A.take (k + 1))))) := by
        have := hown7
        rw [HSN.out, HZ.out] at this
        exact this
      have B7 : Hid (Below w1.heap.size w1 w7) := HW.out.trans (k7.below zr (fun i e => (own_lt HO.out i e).1))
      clear hown7 hg7 k7 c7 cr nA
      go_wp2_with fail
      go_roundw
      case rel => exact ⟨k + 1, rfl, hlt, O7.out, B7.out⟩
      case measure => simp [intOf]; omega
    · obtain rfl : k = 2 + r.length := by omega
      have HE : Hid (wr.ownsRow w1.heap.size 5 1 (.slice ba (2 * (2 + r.length)) bc2) (frm r).length (bts (frm r))) := by
        have := HO.out
        rw [← HAL.out, List.take_length, HAL.out, HFR.out] at this
        rw [HFL.out]
        exact this
      go_wp2_with fail
      go_ret
      exact ⟨_, rfl, own_mono HE.out B2.out.size, B2.out.trans (HW.out.mono B2.out.size)⟩
end Go.Proofs.Ytbbjeoepoocofaa
