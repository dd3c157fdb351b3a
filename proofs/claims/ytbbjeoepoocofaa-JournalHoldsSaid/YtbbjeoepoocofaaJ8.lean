/- The journal's small functions; what is refused. -/
import Derived.Test.YtbbjeoepoocofaaJ7
namespace Go.Proofs.Ytbbjeoepoocofaa
open Go.RowKit

theorem Len_any (w : World) (j d : Nat) (L : List Int) (fin : Nat) (rs : List (List Int)) (M S : Nat → Prop) (h : Jr w j d L fin rs M S) :
    Calls Try.prog 43 #[.pointer (some ⟨j, 0, none⟩)] w fun e w' => e = .returned (.int .i64 rs.length) ∧ w = w' := by
  obtain ⟨ib, ic, rv, vs, l⟩ := h
  obtain ⟨c0, c1, c2, c3⟩ := l.cells
  obtain ⟨rp, rc, rfl⟩ := own_slice l.recs.row
  clear l
  go_enter Try.func43, Try.ntmps43
  go_wp2_with fail
  go_ret
  exact ⟨rfl, rfl⟩
theorem Len_nil (w : World) : Calls Try.prog 43 #[.pointer none] w fun e w' => e = .returned (.int .i64 0) ∧ w = w' := by
  go_enter Try.func43, Try.ntmps43
  go_wp2_with fail
  go_ret
  exact ⟨rfl, rfl⟩

theorem Room_any (w : World) (j d : Nat) (L : List Int) (fin : Nat) (rs : List (List Int)) (M S : Nat → Prop) (h : Jr w j d L fin rs M S) :
    Calls Try.prog 44 #[.pointer (some ⟨j, 0, none⟩)] w fun e w' => e = .returned (.int .i64 (roomV L.length fin)) ∧ Below w.heap.size w w' := by
  obtain ⟨ib, ic, rv, vs, l⟩ := h
  obtain ⟨c0, c1, c2, c3⟩ := l.cells
  have h1 := l.lenle
  have h2 := l.finle
  clear l
  go_enter Try.func44, Try.ntmps44
  go_wp2_with fail
  refine (room_any w _ L.length ic fin (by omega) (by omega)).mono ?_
  rintro e w1 ⟨rfl, b1⟩
  go_wp2_with fail
  go_ret
  exact ⟨rfl, b1⟩
theorem Room_nil (w : World) : Calls Try.prog 44 #[.pointer none] w fun e w' => e = .returned (.int .i64 (-1)) ∧ w = w' := by
  go_enter Try.func44, Try.ntmps44
  go_wp2_with fail
  go_ret
  exact ⟨rfl, rfl⟩

theorem Jsync_any (w : World) (j d : Nat) (D : Dk) (L : List Int) (fin : Nat) (rs : List (List Int)) (M S Md Sd : Nat → Prop) (h : Jr w j d L fin rs M S) (hd : DiskAt w d D Md Sd) :
    Calls Try.prog 48 #[.pointer (some ⟨j, 0, none⟩)] w (Wrote d D.sync Md Sd w) := by
  obtain ⟨ib, ic, rv, vs, l⟩ := h
  obtain ⟨c0, c1, c2, c3⟩ := l.cells
  have HD := Lib.hid hd
  clear l hd
  go_enter Try.func48, Try.ntmps48
  go_wp2_with fail
  refine (Sync_yes w d D Md Sd HD.out).mono ?_
  rintro e w1 ⟨rfl, hr⟩
  have HR := Lib.hid hr
  clear hr
  go_wp2_with fail
  go_ret
  exact ⟨rfl, HR.out⟩
theorem Jsync_nil (w : World) : Calls Try.prog 48 #[.pointer none] w fun e w' => e = .returned (.int .i64 2) ∧ w = w' := by
  go_enter Try.func48, Try.ntmps48
  go_wp2_with fail
  go_ret
  exact ⟨rfl, rfl⟩

/-- What is refused. -/
theorem Append_nil (w : World) (bp : Option Addr) (n bc : Nat) : Calls Try.prog 46 #[.pointer none, .slice bp n bc] w fun e w' => e = .returned (.int .i64 2) ∧ Below w.heap.size w w' := by
  go_enter Try.func46, Try.ntmps46
  go_wp2_with fail
  go_ret
  exact ⟨rfl, (Below.refl _ _).alloc (Nat.le_refl _) _⟩
theorem Append_long (w : World) (j : Nat) (bp : Option Addr) (n bc : Nat) (hn : 1024 < n) (hm : n ≤ maxLen) : Calls Try.prog 46 #[.pointer (some ⟨j, 0, none⟩), .slice bp n bc] w fun e w' => e = .returned (.int .i64 1) ∧ Below w.heap.size w w' := by
  unfold maxLen at hm
  go_enter Try.func46, Try.ntmps46
  go_wp2_with fail
  go_ret
  exact ⟨rfl, (Below.refl _ _).alloc (Nat.le_refl _) _⟩
theorem Append_full (w : World) (j d : Nat) (L : List Int) (fin : Nat) (rs : List (List Int)) (M S : Nat → Prop) (h : Jr w j d L fin rs M S) (bp : Option Addr) (n bc : Nat) (hn : n ≤ 1024) (hm : roomV L.length fin < n) :
    Calls Try.prog 46 #[.pointer (some ⟨j, 0, none⟩), .slice bp n bc] w fun e w' => e = .returned (.int .i64 21) ∧ Below w.heap.size w w' := by
  obtain ⟨ib, ic, rv, vs, l⟩ := h
  obtain ⟨c0, c1, c2, c3⟩ := l.cells
  have h1 := l.lenle
  have h2 := l.finle
  have k0 : Keeps (fun _ => False) w (w.alloc (.cells #[.pointer (some ⟨j, 0, none⟩)] 47)) := (Keeps.refl _ _).alloc _
  have B0 : Below w.heap.size w (w.alloc (.cells #[.pointer (some ⟨j, 0, none⟩)] 47)) := (Below.refl _ _).alloc (Nat.le_refl _) _
  have q0 : (w.alloc (.cells #[.pointer (some ⟨j, 0, none⟩)] 47)).heap[w.heap.size]? = some (.cells #[.pointer (some ⟨j, 0, none⟩)] 47) := heap_alloc_new w _
  have x0 := k0.cell (a := ⟨j, 0, none⟩) (fun f => f) c0
  have x1 := k0.cell (a := ⟨j, 1, none⟩) (fun f => f) c1
  have q1 : (w.alloc (.cells #[.pointer (some ⟨j, 0, none⟩)] 47)).cell? ⟨w.heap.size, 0, none⟩ = some (.pointer (some ⟨j, 0, none⟩)) := by rw [cell_of_row _ _ 0 _ _ _ q0]; rfl
  clear l q0 k0
  go_enter Try.func46, Try.ntmps46
  go_wp2_with fail
  generalize w.alloc (.cells #[.pointer (some ⟨j, 0, none⟩)] 47) = w0 at *
  refine (room_any w0 _ L.length ic fin (by omega) (by omega)).mono ?_
  rintro e w1 ⟨rfl, b1⟩
  go_wp2_with fail
  go_ret
  exact ⟨rfl, B0.trans (b1.mono B0.size)⟩

/-- slices.Clone of slices of bytes. -/
theorem clone_table (w : World) (v : Value) (n : Nat) (xs : List Value) (h : Rd w 1 v n xs) (h1 : ∀ u ∈ xs, u.oneCell' = true) (hn : n ≤ 1000000000) :
    Calls Try.prog 63 #[v] w (Cloned 1 30 n xs w) := by
  obtain ⟨i0, hi, hz0, hz1, hz2⟩ := info_parts info30
  have qT : ∀ (w : World) (a : Option Addr) (n c n' c' : Nat), (binOp .eql 50 (.slice a n c) (.slice none n' c')).run Try.prog w = .ok (.bool a.isNone) w := fun w a n c n' c' => Lib.run_eql_slice_nil w _ _ a n c n' c' Try.underlying50
  have HH := Lib.hid h
  have H1 := Lib.hid h1
  rcases h.two with ⟨rfl, rfl⟩ | ⟨ad, cap, rfl, hc1, hc2, hcell⟩
  · clear h h1
    go_enter Try.func63, Try.ntmps63
    go_wp2_with fail
    go_ret
    exact ⟨_, rfl, by have := HH.out.1; simp at this; subst this; exact World.ownsRow_nil _ _ _ _, Below.refl _ _, fun _ => rfl⟩
  · clear h h1
    have HC := Lib.hid hcell
    clear hcell
    go_enter Try.func63, Try.ntmps63
    go_wp2_with ((at_builtin; refine wpList_append_own _ rfl _ _ 50 rfl w.heap.size 30 i0 (.slice none 0 0) 1 24 Try.underlying50 hi hz0 hz1 hz2 rfl (by decide) _ 0 [] rfl ((World.ownsRow_lit w #[] 0 (Nat.le_refl _) (Nat.zero_le _) rfl)) ad n cap xs rfl HH.out.1 (cells_at HC.out _) H1.out (by unfold maxLen; omega) (by omega) (by simp) ?_))
    rintro v' w1 hown hg hnil
    have HO := Lib.hid hown
    have HN := Lib.hid hnil
    clear hown hnil
    go_wp2_with fail
    go_ret
    refine ⟨_, rfl, ?_, ?_, fun hv => ?_⟩
    · have := HO.out
      simpa using this
    · exact ((Below.refl _ _).alloc (Nat.le_refl _) _).grown hg (by simp) (fun k hk => by simp [Value.ownBlock] at hk; omega)
    · exact (HN.out hv).elim

theorem nz_any (w : World) (x : Int) : Calls Try.prog 56 #[.int .u8 x] w fun e w' => e = .returned (.bool (decide (¬ x = 0))) ∧ w = w' := by
  by_cases h : x = 0
  · have h1 : (x != 0) = false := by simp [h]
    go_enter Try.func56, Try.ntmps56
    go_wp2_with fail
    go_ret
    exact ⟨ret_bool (by simp [h]), rfl⟩
  · have h1 : (x != 0) = true := by simp [h]
    go_enter Try.func56, Try.ntmps56
    go_wp2_with fail
    go_ret
    exact ⟨ret_bool (by simp [h]), rfl⟩
end Go.Proofs.Ytbbjeoepoocofaa
