/- A record is appended. -/
import Derived.Test.YtbbjeoepoocofaaJ6
import Derived.Deep.RegionHeld3
namespace Go.Proofs.Ytbbjeoepoocofaa
open Go.RowKit

/-- 'append' in a region that draws, of whatever reads as these cells. -/
theorem step_append_rd {P : Program} {w : World} {ops : Array Oper} {o : Oper} {a : Act} {K : Act → World → Prop} {Q : Exit → Act → World → Prop} {E : Prop} (hgd : o.guard = none) (s x : Operand) (t : TypeId)
    (ho : o.op = .call { callee := .builtin .append, args := #[s, x], argTypes := #[t, t] })
    (base : Nat) (e : TypeId) (i : TypeInfo) (z : Value) (size bytes : Nat) (ht : P.underlying t = some (.slice e)) (hi : P.info? e = some i) (hz : i.zero = some z)
    (hsize : i.size = size) (hby : i.bytes = bytes) (hzs : z.cells.size = size) (hsz : 0 < size)
    (v : Value) (n : Nat) (xs : List Value) (hs : a.eval s = v) (hown : w.ownsRow base e size v n xs)
    (xv : Value) (m : Nat) (news : List Value) (hx : a.eval x = xv) (hrd : Rd w size xv m news) (h1 : ∀ u ∈ news, u.oneCell' = true)
    (h63 : n + m ≤ maxLen) (hbytes : (n + m) * bytes ≤ 140737488355328) (hbase : base ≤ w.heap.size)
    (h : ∀ v' w', w'.ownsRow base e size v' (n + m) (xs ++ news) → w.grownBy w' v.ownBlock → (v'.ownBlock = v.ownBlock ∨ v'.ownBlock = some w.heap.size) → K (a.put o.dst v') w') :
    if Region.wanted o (yielded ops a.tmps) = true then Oper.wp P o a w K Q else E := by
  have hw : Region.wanted o (yielded ops a.tmps) = true := by simp [Region.wanted, hgd]
  rw [if_pos hw]
  have hl := hrd.1
  rcases hrd.two with ⟨rfl, rfl⟩ | ⟨ad, cap, rfl, -, -, hc⟩
  · have : news = [] := List.length_eq_zero_iff.1 (by rw [hl, Nat.zero_mul])
    subst this
    have hr := run_append_owned_none (P := P) (w := w) base t o.type e i size ht hi v n xs hown
    unfold Oper.wp execOp
    simp only [ho, resolve, invoke, builtin, Sem.run_bind, Sem.run_pure, Result.andThen_ok, List.map_toArray, List.map_cons, List.map_nil, hs, hx, hr]
    exact h v w (by simpa using hown) ⟨rfl, rfl, rfl, Nat.le_refl _, fun _ _ _ => rfl⟩ (.inl rfl)
  · obtain ⟨v', w', hr, h2, h3, h4, h5⟩ := run_append_own_at (P := P) w base t o.type e i z size bytes ht hi hz hsize hby hzs hsz v n xs hown ad m cap news hl hc h1 h63 hbytes hbase
    unfold Oper.wp execOp
    simp only [ho, resolve, invoke, builtin, Sem.run_bind, Sem.run_pure, Result.andThen_ok, List.map_toArray, List.map_cons, List.map_nil, hs, hx, hr]
    exact h v' w' h2 h3 h5

/-- An image with bytes put behind an end, one after the other: the first k of them. -/
def putN (L : List Int) (e : Nat) (xs : List Int) : Nat → List Int
  | 0 => L
  | k + 1 => put2 (putN L e xs k) (e + 2 * k) (xs.getD k 0)
theorem putN_length (L : List Int) (e : Nat) (xs : List Int) (k : Nat) : (putN L e xs k).length = L.length := by
  induction k with
  | zero => rfl
  | succ k ih => rw [putN, put2_length, ih]
theorem putN_getD {L : List Int} {e : Nat} {xs : List Int} (k : Nat) (hk : k ≤ xs.length) (h : e + 2 * k ≤ L.length) (p : Nat) :
    (putN L e xs k).getD p 0 = if e ≤ p ∧ p < e + 2 * k then (pairs xs).getD (p - e) 0 else L.getD p 0 := by
  induction k with
  | zero => rw [if_neg (by omega)]; rfl
  | succ k ih =>
    have hp := pairs_get xs k (by omega)
    rw [putN, put2_getD (by rw [putN_length]; omega), ih (by omega) (by omega)]
    by_cases h1 : p = e + 2 * k
    · rw [if_pos h1, if_pos (by omega), h1, Nat.add_sub_cancel_left, hp.1]
    · rw [if_neg h1]
      by_cases h2 : p = e + 2 * k + 1
      · rw [if_pos h2, if_pos (by omega), h2, show e + 2 * k + 1 - e = 2 * k + 1 by omega, hp.2]
      · rw [if_neg h2]
        by_cases h3 : e ≤ p ∧ p < e + 2 * k
        · rw [if_pos h3, if_pos (by omega)]
        · rw [if_neg h3, if_neg (by omega)]

/-- The bytes of a frame, each once. -/
def head2 (r : List Int) : List Int := ((r.length / 256 : Nat) : Int) :: ((r.length % 256 : Nat) : Int) :: r
theorem head2_length (r : List Int) : (head2 r).length = r.length + 2 := rfl
theorem head2_frm (r : List Int) : pairs (head2 r) = frm r := rfl

/-- The journal with one record more: the row of records has grown, or moved. -/
theorem JL.more {w5 w6 w7 : World} {j d : Nat} {L : List Int} {fin : Nat} {rs : List (List Int)} {M S : Nat → Prop} {ib ic : Nat} {rp : Option Addr} {rc : Nat} {vs : List Value} (h : JL w5 j d L fin rs M S ib ic (.slice rp rs.length rc) vs) (hrs : rs.length < 1000000)
    (k6 : Keeps (fun _ => False) w5 w6) {u : Value} {r : List Int} (hu : w6.ownsRow w5.heap.size 5 1 u r.length (bts r)) {g cap : Nat} {o : Obj}
    (hown : w7.ownsRow 0 30 1 (.slice (some ⟨g, 0, none⟩) (rs.length + 1) cap) (rs.length + 1) (vs ++ [u])) (hg : (w6.alloc o).grownBy w7 (Value.slice rp rs.length rc).ownBlock)
    (hat : (Value.slice rp rs.length rc).ownBlock = some g ∨ g = w6.heap.size + 1) :
    JL (w7.setCell ⟨j, 3, none⟩ (.slice (some ⟨g, 0, none⟩) (rs.length + 1) cap)) j d L fin (rs ++ [r]) (fun k => M k ∨ k = g) (fun k => S k ∨ k = g ∨ u.ownBlock = some k) ib ic (.slice (some ⟨g, 0, none⟩) (rs.length + 1) cap) (vs ++ [u]) ∧
    Keeps (fun k => k = j ∨ (Value.slice rp rs.length rc).ownBlock = some k) w5 (w7.setCell ⟨j, 3, none⟩ (.slice (some ⟨g, 0, none⟩) (rs.length + 1) cap)) ∧
    (∀ k, k = g → M k ∨ w5.heap.size ≤ k) ∧ (∀ k, u.ownBlock = some k → w5.heap.size ≤ k) := by
  have k67 : Keeps (fun k => (Value.slice rp rs.length rc).ownBlock = some k) w6 w7 := ((Keeps.refl _ w6).alloc o).trans (Keeps.of_grown (X := fun k => (Value.slice rp rs.length rc).ownBlock = some k) hg (fun _ e => e)) (fun _ e => .inl e)
  have k57 : Keeps (fun k => (Value.slice rp rs.length rc).ownBlock = some k) w5 w7 := (k6.mono (fun _ f => f.elim)).trans k67 (fun _ e => .inl e)
  have hjr := own_off h.recs.row h.head (by decide)
  have hir := own_apart h.recs.row h.img (by decide)
  have hji : ib ≠ j := fun e => by
    have h1 := own_off h.img h.head (by decide)
    simp [Value.ownBlock, e] at h1
  have z6 := k6.size
  have z7 := k57.size
  have hh : w7.heap[j]? = some (.cells #[.slice (some ⟨ib, 0, none⟩) L.length ic, .int .i64 fin, .pointer (some ⟨d, 0, none⟩), .slice rp rs.length rc] 97) := by
    rw [k57.block j (h.lt j (h.sub j h.mj)) hjr]
    exact h.head
  have k8 : Keeps (fun k => k = j) w7 (w7.setCell ⟨j, 3, none⟩ (.slice (some ⟨g, 0, none⟩) (rs.length + 1) cap)) := Keeps.setCell (X := fun k => k = j) (a := ⟨j, 3, none⟩) (Keeps.refl _ w7) (.inl rfl) _
  have K : Keeps (fun k => k = j ∨ (Value.slice rp rs.length rc).ownBlock = some k) w5 (w7.setCell ⟨j, 3, none⟩ (.slice (some ⟨g, 0, none⟩) (rs.length + 1) cap)) := (k57.mono (fun _ e => .inr e)).trans k8 (fun _ e => .inl (.inl e))
  have hgM : ∀ k, k = g → M k ∨ w5.heap.size ≤ k := fun k e => by
    subst e
    rcases hat with e | e
    · exact .inl (h.mr _ e)
    · exact .inr (by omega)
  have hub : ∀ k, u.ownBlock = some k → w5.heap.size ≤ k := fun k e => (own_lt hu k e).1
  refine ⟨{ head := ?_, img := ?_, recs := ?_, inner := ?_, mj := .inl h.mj, mi := .inl h.mi, mr := fun k e => .inr (by simpa [Value.ownBlock] using e.symm), sub := fun k e => e.imp (h.sub k) .inl, lt := ?_, bytes := h.bytes, finle := h.finle, lenle := h.lenle, rslen := by rw [List.length_append]; exact hrs }, K, hgM, hub⟩
  · have := heap_setCell_same w7 j 3 _ _ (.slice (some ⟨g, 0, none⟩) (rs.length + 1) cap) hh
    rw [this]
    simp
  · exact own_keep h.img K (fun k e e2 => e2.elim (fun e3 => by simp [Value.ownBlock] at e; exact hji (e.trans e3)) (fun e3 => hir k e3 e))
  · have t6 : Tbv w6 0 (.slice rp rs.length rc) rs vs := ⟨h.recs.len, own_keep h.recs.row k6 (fun _ _ f => f), fun i x s hx hs => own_keep (h.recs.inner i x s hx hs) k6 (fun _ _ f => f)⟩
    exact (t6.snoc (own_mono hu (Nat.zero_le _)) hown hg).off hh (by decide) (by decide) k8
  · intro s hs k e
    rw [List.mem_append] at hs
    rcases hs with hs | hs
    · obtain ⟨a, b⟩ := h.inner s hs k e
      refine ⟨.inl a, fun hm => hm.elim b (fun eg => ?_)⟩
      rcases hgM k eg with c | c
      · exact b c
      · have := h.lt k a; omega
    · simp at hs
      subst hs
      have h5 := hub k e
      refine ⟨.inr (.inr e), fun hm => hm.elim (fun a => by have := h.lt k (h.sub k a); omega) (fun eg => ?_)⟩
      subst eg
      rcases hat with c | c
      · have := h.lt _ (h.sub _ (h.mr _ c)); omega
      · have := (own_lt hu _ e).2; omega
  · intro k e
    have hgl : g < w7.heap.size := (own_lt hown g rfl).2
    show k < (w7.setCell _ _).heap.size
    have hz : (w7.setCell ⟨j, 3, none⟩ (.slice (some ⟨g, 0, none⟩) (rs.length + 1) cap)).heap.size = w7.heap.size := by simp
    rw [hz]
    rcases e with e | e | e
    · have := h.lt k e; omega
    · omega
    · have h1 := (own_lt hu k e).2
      have h2 := k67.size
      omega

set_option maxRecDepth 100000 in
set_option maxHeartbeats 4000000 in
theorem Append_walk (w : World) (j d : Nat) (D : Dk) (L : List Int) (fin : Nat) (rs : List (List Int)) (M S Md Sd : Nat → Prop) (hj : Jr w j d L fin rs M S) (hd : DiskAt w d D Md Sd) (hMS : ∀ k, Md k → ¬ S k) (hSM : ∀ k, M k → ¬ Sd k)
    (bv : Value) (r : List Int) (hr : Rb w bv r) (hrB : isB r) (hrM : ∀ k, bv.ownBlock = some k → 0 < r.length → ¬ M k ∧ ¬ Md k) (h1024 : r.length ≤ 1024) (hroom : (r.length : Int) ≤ roomV L.length fin) (hlen : L.length = D.blocks * D.size) (ho : D.open_.length ≤ 800000) (hrs : rs.length < 1000000) :
    Calls Try.prog 46 #[.pointer (some ⟨j, 0, none⟩), bv] w fun e w' => e = .returned (.int .i64 0) ∧ ∃ n M' S' Md' Sd', Jr w' j d (putN L fin (head2 r) (r.length + 2)) (fin + 2 * (r.length + 2)) (rs ++ [r]) M' S' ∧
      DiskAt w' d (wrN D (putN L fin (head2 r) (r.length + 2)) (fin + 2 * (r.length + 2)) (fin / D.size) n) Md' Sd' ∧ (∀ i, i < n → (fin / D.size + i) * D.size < fin + 2 * (r.length + 2)) ∧ fin + 2 * (r.length + 2) ≤ (fin / D.size + n) * D.size ∧
      Keeps (fun k => M k ∨ Md k) w w' ∧ (∀ k, M' k → M k ∨ w.heap.size ≤ k) ∧ (∀ k, S' k → S k ∨ w.heap.size ≤ k) ∧ (∀ k, Md' k → Md k ∨ w.heap.size ≤ k) ∧ (∀ k, Sd' k → Sd k ∨ w.heap.size ≤ k) ∧ (∀ k, S' k → Sd' k → S k ∧ Sd k) := by
  obtain ⟨ib, ic, rv, vs, l⟩ := hj
  obtain ⟨bp, bc, rfl, -⟩ := hr.form
  obtain ⟨c0, c1, c2, c3⟩ := l.cells
  have hll := l.lenle
  have hfl := l.finle
  have hfit : fin + 4 + 2 * r.length ≤ L.length := by
    unfold roomV at hroom
    split at hroom
    · omega
    · omega
  have hjl := l.lt j (l.sub j l.mj)
  have HRB := Lib.hid hr
  have HLL := Lib.hid l
  have HD := Lib.hid hd
  have HRM := Lib.hid hrM
  have HMS := Lib.hid hMS
  have HSM := Lib.hid hSM
  have HB := Lib.hid hrB
  have HLEN := Lib.hid hlen
  clear hr l hd hrM hMS hSM hrB hlen
  have k0 : Keeps (fun _ => False) w (w.alloc (.cells #[.pointer (some ⟨j, 0, none⟩)] 47)) := (Keeps.refl _ _).alloc _
  have q0 : (w.alloc (.cells #[.pointer (some ⟨j, 0, none⟩)] 47)).heap[w.heap.size]? = some (.cells #[.pointer (some ⟨j, 0, none⟩)] 47) := heap_alloc_new w _
  have x0 := k0.cell (a := ⟨j, 0, none⟩) (fun f => f) c0
  have x1 := k0.cell (a := ⟨j, 1, none⟩) (fun f => f) c1
  have q1 : (w.alloc (.cells #[.pointer (some ⟨j, 0, none⟩)] 47)).cell? ⟨w.heap.size, 0, none⟩ = some (.pointer (some ⟨j, 0, none⟩)) := by rw [cell_of_row _ _ 0 _ _ _ q0]; rfl
  go_enter Try.func46, Try.ntmps46
  go_wp2_with fail
  have hw0 : w.heap.size < (w.alloc (.cells #[.pointer (some ⟨j, 0, none⟩)] 47)).heap.size := by simp
  generalize w.alloc (.cells #[.pointer (some ⟨j, 0, none⟩)] 47) = w0 at *
  refine (room_any w0 _ L.length ic fin (by omega) (by omega)).mono ?_
  rintro e w1 ⟨rfl, b1⟩
  have K1 : Keeps (fun _ => False) w w1 := k0.trans (Y := fun _ => False) (Keeps.of_below b1) (fun _ f => .inl f)
  have q2 : w1.heap[w.heap.size]? = some (.cells #[.pointer (some ⟨j, 0, none⟩)] 47) := (b1.block w.heap.size hw0).trans q0
  have q3 : w1.cell? ⟨w.heap.size, 0, none⟩ = some (.pointer (some ⟨j, 0, none⟩)) := by rw [cell_of_row _ _ 0 _ _ _ q2]; rfl
  have y1 := K1.cell (a := ⟨j, 1, none⟩) (fun f => f) c1
  have z1 := b1.size
  have HQ2 := Lib.hid q2
  have HK1 := Lib.hid K1
  clear b1 k0 q0 x0 x1 q1 c0 c1 c2 c3 q2 K1
  have J1 : Hid (JL w1 j d L fin rs M S ib ic rv vs) := HLL.out.keep HK1.out (fun _ _ f => f)
  go_wp2_with fail
  refine (put_clos w1 w.heap.size j d L fin rs M S ib ic rv vs J1.out HQ2.out ((r.length : Int) / 256) (by omega) (by omega) (by omega)).mono ?_
  rintro e w2 ⟨rfl, J2, K2, Q2⟩
  have J2' := Lib.hid J2
  have Q2' := Lib.hid Q2
  have K2' : Hid (Keeps M w w2) := (HK1.out.mono (fun _ f => f.elim)).trans K2 (fun _ h => .inl h)
  have q4 : w2.cell? ⟨w.heap.size, 0, none⟩ = some (.pointer (some ⟨j, 0, none⟩)) := by rw [cell_of_row _ _ 0 _ _ _ Q2]; rfl
  have z2 := K2.size
  clear J2 Q2 K2 q3 y1
  go_wp2_with fail
  refine (put_clos w2 w.heap.size j d (put2 L fin ((r.length : Int) / 256)) (fin + 2) rs M S ib ic rv vs J2'.out Q2'.out ((r.length : Int) % 256) (by omega) (by omega) (by rw [put2_length]; omega)).mono ?_
  rintro e w3 ⟨rfl, J3, K3, Q3⟩
  have hp3 : put2 (put2 L fin ((r.length : Int) / 256)) (fin + 2) ((r.length : Int) % 256) = putN L fin (head2 r) 2 := rfl
  rw [hp3] at J3
  have J3' := Lib.hid J3
  have Q3' := Lib.hid Q3
  have K3' : Hid (Keeps M w w3) := K2'.out.trans K3 (fun _ h => .inl h)
  have q5 : w3.cell? ⟨w.heap.size, 0, none⟩ = some (.pointer (some ⟨j, 0, none⟩)) := by rw [cell_of_row _ _ 0 _ _ _ Q3]; rfl
  have z3 := K3.size
  clear J3 Q3 K3 q4 hp3
  go_wp2_with fail
  go_loopw [44] (fun iv wr => ∃ i : Nat, iv = .int .i64 i ∧ i ≤ r.length ∧ JL wr j d (putN L fin (head2 r) (i + 2)) (fin + 2 * (i + 2)) rs M S ib ic rv vs ∧ Keeps M w wr ∧ wr.heap[w.heap.size]? = some (.cells #[.pointer (some ⟨j, 0, none⟩)] 47)) (fun iv _ => r.length - (intOf iv).toNat)
  case atStart => exact ⟨0, rfl, Nat.zero_le _, J3'.out, K3'.out, Q3'.out⟩
  case round =>
    obtain ⟨i, rfl, hi, hJ, hK, hQ⟩ := hrel
    have HJ := Lib.hid hJ
    have HK := Lib.hid hK
    have HQ := Lib.hid hQ
    have q6 : wr.cell? ⟨w.heap.size, 0, none⟩ = some (.pointer (some ⟨j, 0, none⟩)) := by rw [cell_of_row _ _ 0 _ _ _ hQ]; rfl
    have zr := hK.size
    have HR6 : Hid (Rb wr (.slice bp r.length bc) r) := HRB.out.keep hK (fun k a b c => (HRM.out k a b).1 c)
    clear hJ hK hQ
    by_cases hlt : i < r.length
    · obtain ⟨xb, xo, xc, ex, -, -, qx⟩ := HR6.out.cell hlt
      simp only [Value.slice.injEq, true_and] at ex
      obtain ⟨rfl, rfl⟩ := ex
      have px : wr.cell? ⟨xb, xo + i, none⟩ = some (.int .u8 (r.getD i 0)) := qx i hlt
      obtain ⟨b0, b1⟩ := isB_getD HB.out i
      have hst : Hid (putN L fin (head2 r) (i + 1 + 2) = put2 (putN L fin (head2 r) (i + 2)) (fin + 2 * (i + 2)) (r.getD i 0)) := rfl
      clear qx
      generalize r.getD i 0 = x at *
      go_wp2_with fail
      refine (put_clos wr w.heap.size j d (putN L fin (head2 r) (i + 2)) (fin + 2 * (i + 2)) rs M S ib ic rv vs HJ.out HQ.out x b0 b1 (by rw [putN_length]; omega)).mono ?_
      rintro e w4 ⟨rfl, J4, K4, Q4⟩
      rw [← hst.out] at J4
      have J4' := Lib.hid J4
      have K4' : Hid (Keeps M w w4) := HK.out.trans K4 (fun _ h => .inl h)
      have Q4' := Lib.hid Q4
      clear J4 K4 Q4 q6 px
      go_wp2_with fail
      go_roundw
      case rel => exact ⟨i + 1, rfl, by omega, J4'.out, K4'.out, Q4'.out⟩
      case measure => simp [intOf]; omega
    · obtain rfl : i = r.length := by omega
      have HDr : Hid (DiskAt wr d D Md Sd) := HD.out.keep HK.out (fun k a b => HSM.out k b a)
      obtain ⟨m0, m1, m2, m3⟩ := HJ.out.cells
      have hLl : (putN L fin (head2 r) (r.length + 2)).length = L.length := putN_length _ _ _ _
      have hq9 : w.heap.size < wr.heap.size := (Array.getElem?_eq_some_iff.1 HQ.out).1
      generalize hLN : putN L fin (head2 r) (r.length + 2) = LN at *
      generalize hfe : fin + 2 * (r.length + 2) = fe at *
      have HLN := Lib.hid hLN
      have hfe3 : fe ≤ L.length := by omega
      have HLl := Lib.hid hLl
      have HFE := Lib.hid hfe
      clear hLN hfe hLl
      go_wp2_with fail
      have hkq : Hid (∀ w5, Keeps Md wr w5 → w5.cell? ⟨w.heap.size, 0, none⟩ = some (.pointer (some ⟨j, 0, none⟩)) ∧ w5.cell? ⟨j, 1, none⟩ = some (.int .i64 fe)) := fun w5 k5 => ⟨k5.cell (a := ⟨w.heap.size, 0, none⟩) (fun h => absurd (HD.out.lt w.heap.size (HD.out.sub w.heap.size h)) (Nat.lt_irrefl _)) q6, k5.cell (a := ⟨j, 1, none⟩) (fun h => HMS.out _ h (HJ.out.sub _ HJ.out.mj)) m1⟩
      go_region_held3 (fun w' => w'.cell? ⟨w.heap.size, 0, none⟩ = some (.pointer (some ⟨j, 0, none⟩)) ∧ w'.cell? ⟨j, 1, none⟩ = some (.int .i64 fe))
        (first
          | assumption
          | exact ⟨q6, m1⟩
          | exact hkq.out _ (by assumption)
          | fail)
        (first
          | (go_at_call 57; refine (write_any wr.drew j d D LN fe rs M S Md Sd ⟨ib, ic, rv, vs, HJ.out.keep (X := fun _ => False) ((Keeps.refl _ _).drew) (fun _ _ f => f)⟩ (HDr.out.keep (X := fun _ => False) ((Keeps.refl _ _).drew) (fun _ _ f => f)) HMS.out fin fe (by rw [HLl.out]; exact hfe3) (by omega) (by rw [HLl.out]; exact HLEN.out) (by omega)).mono ?_; rintro e w5 ⟨rfl, n, Md5, Sd5, hd5, hall, hend, k5, m5, s5⟩; have k5' : Keeps Md wr w5 := ⟨k5.os, k5.tape, k5.output, k5.size, k5.block⟩)
          | fail)
      all_goals
        have K5 : Hid (Keeps Md wr w5) := ⟨k5.os, k5.tape, k5.output, k5.size, k5.block⟩
        have HD5 := Lib.hid hd5
        have HALL := Lib.hid hall
        have HEND := Lib.hid hend
        have HM5 := Lib.hid m5
        have HS5 := Lib.hid s5
        have J5 : Hid (JL w5 j d LN fe rs M S ib ic rv vs) := HJ.out.keep K5.out (fun k a b => HMS.out k b a)
        have Q5 : Hid (w5.heap[w.heap.size]? = some (.cells #[.pointer (some ⟨j, 0, none⟩)] 47)) := by
          unfold Hid
          rw [K5.out.block w.heap.size hq9 (fun h => by have := HD.out.lt _ (HD.out.sub _ h); omega)]
          exact HQ.out
        have R5 : Hid (Rb w5 (.slice bp r.length bc) r) := HR6.out.keep K5.out (fun k a b c => (HRM.out k a b).2 c)
        have z5 : wr.heap.size ≤ w5.heap.size := k5.size
        clear hd5 hall hend m5 s5 k5 k5' m0 m1 m2 m3 q6 hkq
        obtain ⟨u0, u1, u2, u3⟩ := J5.out.cells
        have u4 := J5.out.free 3
        have q7 : w5.cell? ⟨w.heap.size, 0, none⟩ = some (.pointer (some ⟨j, 0, none⟩)) := by rw [cell_of_row _ _ 0 _ _ _ Q5.out]; rfl
        obtain ⟨rp, rc, rfl⟩ := own_slice J5.out.recs.row
        have HROW := Lib.hid J5.out.recs.row
        have hjr : Hid (¬ (Value.slice rp rs.length rc).ownBlock = some j) := own_off HROW.out J5.out.head (by decide)
        have hjq : Hid (¬ (Value.slice rp rs.length rc).ownBlock = some w.heap.size) := own_off HROW.out Q5.out (by decide)
        have n3 : ∀ o, (w5.alloc o).cell? ⟨j, 3, none⟩ = some (.slice rp rs.length rc) := fun o => ((Keeps.refl (fun _ => False) w5).alloc o).cell (fun f => f) u3
        have n7 : ∀ o, (w5.alloc o).cell? ⟨w.heap.size, 0, none⟩ = some (.pointer (some ⟨j, 0, none⟩)) := fun o => ((Keeps.refl (fun _ => False) w5).alloc o).cell (fun f => f) q7
        clear u0 u1 u2
        obtain ⟨i5, hi5, hz0, hz1, hz2⟩ := info_parts info5
        obtain ⟨i3, hi30, hy0, hy1, hy2⟩ := info_parts info30
        have hrm : rs.length < 1000000 := hrs
        have hqj : Hid (¬ w.heap.size = j) := fun e => by omega
        go_wp2_with fail
        go_region_law (first
          | (refine step_append_rd (by rfl) _ _ _ (by rfl) w5.heap.size 5 i5 (.int .u8 0) 1 1 Try.underlying30 hi5 hz0 hz1 hz2 (by rfl) (by decide) (.slice (some ⟨w5.heap.size, 0, none⟩) 0 0) 0 [] (by rfl) (own_keep (World.ownsRow_lit w5 #[] 0 (Nat.le_refl _) (Nat.zero_le _) rfl) ((Keeps.refl (fun _ => False) _).drew) (fun _ _ f => f)) (.slice bp r.length bc) r.length (bts r) (by rfl) (R5.out.keep (X := fun _ => False) (((Keeps.refl _ _).alloc _).drew) (fun _ _ _ f => f)) bts_one (by unfold maxLen; omega) (by omega) (by simp) ?_; intro v6 w6 hown6 hg6 hat6; have k6 : Keeps (fun _ => False) w5 w6 := (((Keeps.refl (fun _ => False) w5).alloc _).drew).trans (Y := fun k => k = w5.heap.size) (Keeps.of_grown hg6 (fun k e => by simpa [Value.ownBlock] using e.symm)) (fun k e => .inr (by omega)); obtain ⟨vp6, vc6, rfl⟩ := own_slice hown6; have u63 := k6.cell (a := ⟨j, 3, none⟩) (fun f => f) u3; have q67 := k6.cell (a := ⟨w.heap.size, 0, none⟩) (fun f => f) q7; have n63 : ∀ o, (w6.alloc o).cell? ⟨j, 3, none⟩ = some (.slice rp rs.length rc) := (fun o => (k6.alloc o).cell (a := ⟨j, 3, none⟩) (fun f => f) u3); have n67 : ∀ o, (w6.alloc o).cell? ⟨w.heap.size, 0, none⟩ = some (.pointer (some ⟨j, 0, none⟩)) := (fun o => (k6.alloc o).cell (a := ⟨w.heap.size, 0, none⟩) (fun f => f) q7))
          | (refine step_append_lies _ (by rfl) _ _ _ (by rfl) 0 30 i3 _ 1 24 Try.underlying50 hi30 hy0 hy1 hy2 (by rfl) (by decide) (.slice rp rs.length rc) rs.length vs (by rfl) (own_keep HROW.out (k6.alloc _) (fun _ _ f => f)) ⟨w6.heap.size, 0, none⟩ 1 1 _ (by rfl) (by rfl) (World.news_of_block (heap_alloc_new w6 _)) (by simp [Value.oneCell']) (by decide) (by unfold maxLen; omega) (by omega) (Nat.zero_le _) (w6.heap.size + 1) (by simp) ?_; intro g cap w7 hown7 hg7 hat7 hlt7; have k7 : Keeps (fun k => (Value.slice rp rs.length rc).ownBlock = some k) w5 w7 := (k6.mono (fun _ f => f.elim)).trans (((Keeps.refl _ w6).alloc _).trans (Keeps.of_grown (X := fun k => (Value.slice rp rs.length rc).ownBlock = some k) hg7 (fun _ e => e)) (fun _ e => .inl e)) (fun _ e => .inl e); have t7 := (k7.block j (J5.out.lt j (J5.out.sub j J5.out.mj)) hjr.out).trans J5.out.head; have u73 : w7.cell? ⟨j, 3, none⟩ = some (.slice rp rs.length rc) := (by rw [cell_of_row w7 j 3 _ _ _ t7]; rfl); have u74 : w7.frozen? ⟨j, 3, none⟩ = false := frozen_of_row w7 j 3 _ _ t7; have q77 := k7.cell (a := ⟨w.heap.size, 0, none⟩) hjq.out q7; have q87 : ∀ v, (w7.setCell ⟨j, 3, none⟩ v).cell? ⟨w.heap.size, 0, none⟩ = some (.pointer (some ⟨j, 0, none⟩)) := (fun v => (Keeps.setCell (X := fun k => k = j) (a := ⟨j, 3, none⟩) (Keeps.refl _ w7) (.inl rfl) v).cell (a := ⟨w.heap.size, 0, none⟩) hqj.out q77))
          | fail)
        all_goals
          have HF := Lib.hid (JL.more J5.out hrm k6 (u := .slice vp6 r.length vc6) (by simpa using hown6) hown7 hg7 hat7)
          clear hg6 hown6 hat6 hown7 hg7 hat7 u63 q67 n63 n67 t7 u73 u74 q77 q87 k7
          go_wp2_with fail
          go_ret
          obtain ⟨F1, F2, F3, F4⟩ := HF.out
          have lM : ∀ k, M k → k < w.heap.size := fun k h => HLL.out.lt k (HLL.out.sub k h)
          have hX : ∀ k, (k = j ∨ (Value.slice rp rs.length rc).ownBlock = some k) → M k := fun k h => h.elim (fun e => by rw [e]; exact HLL.out.mj) (fun e => HLL.out.mr k e)
          have hSd5 : ∀ k, M k → ¬ Sd5 k := fun k h h2 => by
            rcases HS5.out k h2 with c | c
            · exact HSM.out k h c
            · have c' : wr.heap.size ≤ k := c
              have := lM k h
              omega
          have z56 := k6.size
          refine ⟨rfl, n, _, _, Md5, Sd5, ⟨_, _, _, _, by rw [HLN.out, HFE.out]; exact F1⟩, ?_, by rw [HFE.out]; exact HALL.out, by rw [HFE.out]; exact HEND.out, ?_, ?_, ?_, ?_, ?_, ?_⟩
          · rw [HLN.out, HFE.out]
            exact HD5.out.keep F2 (fun k h h2 => hSd5 k (hX k h2) h)
          · exact ((HK.out.mono (fun _ h => .inl h)).trans (K5.out.mono (fun k h => (.inr h : M k ∨ Md k))) (fun _ h => .inl h)).trans (F2.mono (fun k h => (.inl (hX k h) : M k ∨ Md k))) (fun _ h => .inl h)
          · exact fun k h => h.elim .inl (fun e => (F3 k e).imp id (fun h => by omega))
          · exact fun k h => h.elim .inl (fun e => e.elim (fun e => (F3 k e).elim (fun h => .inl (HLL.out.sub k h)) (fun h => .inr (by omega))) (fun e => .inr (by have := F4 k e; omega)))
          · exact fun k h => (HM5.out k h).imp id (fun (h : wr.heap.size ≤ k) => by omega)
          · exact fun k h => (HS5.out k h).imp id (fun (h : wr.heap.size ≤ k) => by omega)
          · intro k h h2
            have hk5 := HD5.out.lt k h2
            have hS5 : ∀ k, S k → Sd5 k → S k ∧ Sd k := fun k h h2 => ⟨h, (HS5.out k h2).elim id (fun (c : wr.heap.size ≤ k) => by have := HLL.out.lt k h; omega)⟩
            rcases h with h | e | e
            · exact hS5 k h h2
            · rcases F3 k e with c | c
              · exact absurd h2 (hSd5 k c)
              · omega
            · have := F4 k e; omega
end Go.Proofs.Ytbbjeoepoocofaa
