import Derived.Test.YtbbjeoepoocofaaRows
import Derived.Test.YtbbjeoepoocofaaMem
import Derived.WalkKit
import Derived.ProofKit
import Derived.OpenShut
import Derived.IntWalk
import Derived.BigQuiet
import Derived.Deep.QuietTactic
import Derived.Lib.SliceRun
import Derived.Deep.AppendLies
import Derived.Laws.AppendOwnNone
namespace Go.Proofs.Ytbbjeoepoocofaa
open Go.RowKit

theorem info5 : (Try.prog.info? 5).map (fun i => (i.zero, i.size, i.bytes)) = some (some (.int .u8 0), 1, 1) := by kernel_rfl
theorem info3 : (Try.prog.info? 3).map (fun i => (i.zero, i.size, i.bytes)) = some (some (.int .i64 0), 1, 8) := by kernel_rfl
theorem info30 : (Try.prog.info? 30).map (fun i => (i.zero, i.size, i.bytes)) = some (some (.slice none 0 0), 1, 24) := by kernel_rfl
theorem info91 : (Try.prog.info? 91).map (fun i => (i.zero, i.size, i.bytes)) = some (some (.agg #[.int .i64 0, .slice none 0 0]), 2, 32) := by kernel_rfl

/-- A slice of the call's own, in new memory. -/
def Cloned (size : Nat) (E : TypeId) (n : Nat) (xs : List Value) (w : World) (e : Ending) (w' : World) : Prop :=
  ∃ v, e = .returned v ∧ w'.ownsRow w.heap.size E size v n xs ∧ Below w.heap.size w w' ∧ (v = .slice none 0 0 → n = 0)

theorem cells_at {xs : List Value} {w : World} {ad : Addr} (h : ∀ (j : Nat) (u : Value), xs[j]? = some u → w.cell? (ad.add j) = some u) (o : Obj) :
    ∀ (j : Nat) (u : Value), xs[j]? = some u → (w.alloc o).cell? (ad.add j) = some u := fun j u hj =>
  (Keeps.refl (fun _ => False) w).alloc o |>.cell (fun f => f.elim) (h j u hj)

theorem clone_bytes (w : World) (v : Value) (n : Nat) (xs : List Value) (h : Rd w 1 v n xs) (h1 : ∀ u ∈ xs, u.oneCell' = true) (hn : n ≤ 1000000000) :
    Calls Try.prog 50 #[v] w (Cloned 1 5 n xs w) := by
  obtain ⟨i0, hi, hz0, hz1, hz2⟩ := info_parts info5
  have qT : ∀ (w : World) (a : Option Addr) (n c n' c' : Nat), (binOp .eql 30 (.slice a n c) (.slice none n' c')).run Try.prog w = .ok (.bool a.isNone) w := fun w a n c n' c' => Lib.run_eql_slice_nil w _ _ a n c n' c' Try.underlying30
  have HH := Lib.hid h
  have H1 := Lib.hid h1
  rcases h.two with ⟨rfl, rfl⟩ | ⟨ad, cap, rfl, hc1, hc2, hcell⟩
  · clear h h1
    go_enter Try.func50, Try.ntmps50
    go_wp2_with fail
    go_ret
    exact ⟨_, rfl, by have := HH.out.1; simp at this; subst this; exact World.ownsRow_nil _ _ _ _, Below.refl _ _, fun _ => rfl⟩
  · clear h h1
    have HC := Lib.hid hcell
    clear hcell
    go_enter Try.func50, Try.ntmps50
    go_wp2_with ((at_builtin; refine wpList_append_own _ rfl _ _ 30 rfl w.heap.size 5 i0 (.int .u8 0) 1 1 Try.underlying30 hi hz0 hz1 hz2 rfl (by decide) _ 0 [] rfl ((World.ownsRow_lit w #[] 0 (Nat.le_refl _) (Nat.zero_le _) rfl)) ad n cap xs rfl HH.out.1 (cells_at HC.out _) H1.out (by unfold maxLen; omega) (by omega) (by simp) ?_))
    rintro v' w1 hown hg hnil
    have HO := Lib.hid hown
    have HN := Lib.hid hnil
    clear hown hnil
    go_wp2_with fail
    go_ret
    refine ⟨_, rfl, ?_, ?_, fun hv => ?_⟩
    · have := HO.out
      simpa using this
    · exact ((Below.refl _ _).alloc (Nat.le_refl _) _).grown hg (by simp) (fun k hk => by simp [Value.ownBlock] at hk; omega)
    · exact (HN.out hv).elim

theorem clone_writes (w : World) (v : Value) (n : Nat) (xs : List Value) (h : Rd w 2 v n xs) (h1 : ∀ u ∈ xs, u.oneCell' = true) (hn : n ≤ 1000000000) :
    Calls Try.prog 58 #[v] w (Cloned 2 91 n xs w) := by
  obtain ⟨i0, hi, hz0, hz1, hz2⟩ := info_parts info91
  have qT : ∀ (w : World) (a : Option Addr) (n c n' c' : Nat), (binOp .eql 87 (.slice a n c) (.slice none n' c')).run Try.prog w = .ok (.bool a.isNone) w := fun w a n c n' c' => Lib.run_eql_slice_nil w _ _ a n c n' c' Try.underlying87
  have HH := Lib.hid h
  have H1 := Lib.hid h1
  rcases h.two with ⟨rfl, rfl⟩ | ⟨ad, cap, rfl, hc1, hc2, hcell⟩
  · clear h h1
    go_enter Try.func58, Try.ntmps58
    go_wp2_with fail
    go_ret
    exact ⟨_, rfl, by have := HH.out.1; simp at this; subst this; exact World.ownsRow_nil _ _ _ _, Below.refl _ _, fun _ => rfl⟩
  · clear h h1
    have HC := Lib.hid hcell
    clear hcell
    go_enter Try.func58, Try.ntmps58
    go_wp2_with ((at_builtin; refine wpList_append_own _ rfl _ _ 87 rfl w.heap.size 91 i0 (.agg #[.int .i64 0, .slice none 0 0]) 2 32 Try.underlying87 hi hz0 hz1 hz2 rfl (by decide) _ 0 [] rfl ((World.ownsRow_lit w #[] 0 (Nat.le_refl _) (Nat.zero_le _) rfl)) ad n cap xs rfl HH.out.1 (cells_at HC.out _) H1.out (by unfold maxLen; omega) (by omega) (by simp) ?_))
    rintro v' w1 hown hg hnil
    have HO := Lib.hid hown
    have HN := Lib.hid hnil
    clear hown hnil
    go_wp2_with fail
    go_ret
    refine ⟨_, rfl, ?_, ?_, fun hv => ?_⟩
    · have := HO.out
      simpa using this
    · exact ((Below.refl _ _).alloc (Nat.le_refl _) _).grown hg (by simp) (fun k hk => by simp [Value.ownBlock] at hk; omega)
    · exact (HN.out hv).elim
end Go.Proofs.Ytbbjeoepoocofaa
