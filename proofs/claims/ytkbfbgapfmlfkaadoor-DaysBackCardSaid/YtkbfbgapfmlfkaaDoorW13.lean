import Derived.Test.YtkbfbgapfmlfkaaDoorW11
import Derived.Test.YtkbfbgapfmlfkaaDoorV2
namespace Go.Proofs.YtkbfbgapfmlfkaaDoor
open Go.RowKit

theorem Parse_no (s : ByteArray) (w : World) (hT : Tab w) (h : ¬ Fits s) :
    Calls Tryd.prog 22 #[.string s] w fun e w' => e = .returned (.tuple #[.int .i64 0, .int .i64 13]) ∧ Below w.heap.size w w' := by
  by_cases hs : s.size = 10
  · refine (Parse_ten s w hT hs).mono ?_
    rintro e w' ⟨⟨h1, -⟩ | ⟨-, rfl⟩, b⟩
    · exact absurd ⟨hs, h1⟩ h
    · exact ⟨rfl, b⟩
  · refine (Parse_size s w hs).mono ?_
    rintro e w' ⟨rfl, rfl⟩
    exact ⟨rfl, Below.refl _ _⟩
theorem Parse_yes (s : ByteArray) (w : World) (hT : Tab w) (h : Fits s) :
    Calls Tryd.prog 22 #[.string s] w fun e w' => e = .returned (.tuple #[.int .i64 (dayN (Txt.yOf (Txt.byte s)) (Txt.mOf (Txt.byte s)) (Txt.dOf (Txt.byte s))), .int .i64 (dayE (Txt.yOf (Txt.byte s)) (Txt.mOf (Txt.byte s)) (Txt.dOf (Txt.byte s)))]) ∧ Below w.heap.size w w' := by
  refine (Parse_ten s w hT h.1).mono ?_
  rintro e w' ⟨⟨-, rfl⟩ | ⟨h1, -⟩, b⟩
  · exact ⟨rfl, b⟩
  · exact absurd h.2 h1

theorem Read_no (s : ByteArray) (w : World) (h : ¬ Fits s) :
    Calls Tryd.prog 23 #[.string s] w fun e w' => (∃ y m d, e = .returned (.tuple #[.agg #[.int .i64 y, .int .i64 m, .int .i64 d], .bool false])) ∧ Below w.heap.size w w' := by
  by_cases hs : s.size = 10
  · by_cases h4 : Txt.byte s 4 = 45
    · by_cases h7 : Txt.byte s 7 = 45
      · have k0 := Txt.numV_sign (fun i => Txt.byte s i) 4
        have k1 := Txt.numV_sign (fun i => Txt.byte s (5 + i)) 2
        have k2 := Txt.numV_sign (fun i => Txt.byte s (8 + i)) 2
        have hdf : decide (0 ≤ Txt.numV (fun i => Txt.byte s i) 4 ∧ 0 ≤ Txt.numV (fun i => Txt.byte s (5 + i)) 2 ∧ 0 ≤ Txt.numV (fun i => Txt.byte s (8 + i)) 2) = false := by
          apply decide_eq_false
          rintro ⟨g0, g1, g2⟩
          rcases k0 with ⟨a0, -⟩ | ⟨-, e0⟩
          · rcases k1 with ⟨a1, -⟩ | ⟨-, e1⟩
            · rcases k2 with ⟨a2, -⟩ | ⟨-, e2⟩
              · refine h ⟨hs, fun i hi => ?_⟩
                unfold Txt.fitsAt
                split
                · rename_i hh
                  rcases hh with rfl | rfl
                  · exact h4
                  · exact h7
                · rename_i hh
                  by_cases i4 : i < 4
                  · exact a0 i i4
                  · by_cases i7 : i < 7
                    · have := a1 (i - 5) (by omega)
                      rwa [show 5 + (i - 5) = i by omega] at this
                    · have := a2 (i - 8) (by omega)
                      rwa [show 8 + (i - 8) = i by omega] at this
              · omega
            · omega
          · omega
        refine (Read_num s w hs h4 h7 _ _ _ rfl rfl rfl (k0.imp And.right And.right) (k1.imp And.right And.right) (k2.imp And.right And.right)).mono ?_
        rintro e w' ⟨rfl, b⟩
        rw [hdf]
        exact ⟨⟨_, _, _, rfl⟩, b⟩
      · refine (Read_dash s w hs (.inr h7)).mono ?_
        rintro e w' ⟨rfl, b⟩
        exact ⟨⟨_, _, _, rfl⟩, b⟩
    · refine (Read_dash s w hs (.inl h4)).mono ?_
      rintro e w' ⟨rfl, b⟩
      exact ⟨⟨_, _, _, rfl⟩, b⟩
  · refine (Read_size s w hs).mono ?_
    rintro e w' ⟨rfl, b⟩
    exact ⟨⟨_, _, _, rfl⟩, b⟩

theorem Read_yes (s : ByteArray) (w : World) (h : Fits s) :
    Calls Tryd.prog 23 #[.string s] w fun e w' => e = .returned (.tuple #[.agg #[.int .i64 (Txt.yOf (Txt.byte s)), .int .i64 (Txt.mOf (Txt.byte s)), .int .i64 (Txt.dOf (Txt.byte s))], .bool true]) ∧ Below w.heap.size w w' := by
  obtain ⟨h0, h1, h2⟩ := h.digs
  have v0 := (Txt.val_bd _ _ h0).1
  have v1 := (Txt.val_bd (fun i => Txt.byte s (5 + i)) _ h1).1
  have v2 := (Txt.val_bd (fun i => Txt.byte s (8 + i)) _ h2).1
  refine (Read_num s w h.1 (h.2 4 (by omega)) (h.2 7 (by omega)) (Txt.yOf (Txt.byte s)) (Txt.mOf (Txt.byte s)) (Txt.dOf (Txt.byte s)) (Txt.numV_yes h0) (Txt.numV_yes (f := fun i => Txt.byte s (5 + i)) h1) (Txt.numV_yes (f := fun i => Txt.byte s (8 + i)) h2) (.inl v0) (.inl v1) (.inl v2)).mono ?_
  rintro e w' ⟨rfl, b⟩
  refine ⟨?_, b⟩
  rw [decide_eq_true]
  exact ⟨v0, v1, v2⟩
end Go.Proofs.YtkbfbgapfmlfkaaDoor
