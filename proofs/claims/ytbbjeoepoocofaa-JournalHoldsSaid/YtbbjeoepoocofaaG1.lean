/- Appending what reads as these cells; a list of calls put together of two; a disk under another one's hands. -/
import Derived.Test.YtbbjeoepoocofaaE6
namespace Go.Proofs.Ytbbjeoepoocofaa
open Go.RowKit

theorem wpList_append_rd {P : Program} {w : World} {ops : Array Oper} {rest : List Oper} {o : Oper} {a : Act} {Q : Exit → Act → World → Prop} (hgd : o.guard = none) (s x : Operand) (t : TypeId)
    (ho : o.op = .call { callee := .builtin .append, args := #[s, x], argTypes := #[t, t] })
    (base : Nat) (e : TypeId) (i : TypeInfo) (z : Value) (size bytes : Nat) (ht : P.underlying t = some (.slice e)) (hi : P.info? e = some i) (hz : i.zero = some z)
    (hsize : i.size = size) (hby : i.bytes = bytes) (hzs : z.cells.size = size) (hsz : 0 < size)
    (v : Value) (n : Nat) (xs : List Value) (hs : a.eval s = v) (hown : w.ownsRow base e size v n xs)
    (xv : Value) (m : Nat) (news : List Value) (hx : a.eval x = xv) (hrd : Rd w size xv m news) (h1 : ∀ u ∈ news, u.oneCell' = true)
    (h63 : n + m ≤ maxLen) (hbytes : (n + m) * bytes ≤ 140737488355328) (hbase : base ≤ w.heap.size)
    (h : ∀ v' w', w'.ownsRow base e size v' (n + m) (xs ++ news) → w.grownBy w' v.ownBlock → (m ≠ 0 → v' ≠ .slice none 0 0) → wpList P ops Q rest (a.put o.dst v') w') : wpList P ops Q (o :: rest) a w := by
  have hl := hrd.1
  rcases hrd.two with ⟨rfl, rfl⟩ | ⟨ad, cap, rfl, -, -, hc⟩
  · have : news = [] := List.length_eq_zero_iff.1 (by rw [hl, Nat.zero_mul])
    subst this
    refine wpList_append_own_none hgd s x t ho base e i size ht hi v n xs hs hown hx (h v w (by simpa using hown) ?_ (fun h => absurd rfl h))
    exact ⟨rfl, rfl, rfl, Nat.le_refl _, fun _ _ _ => rfl⟩
  · refine wpList_append_own w hgd s x t ho base e i z size bytes ht hi hz hsize hby hzs hsz v n xs hs hown ad m cap news hx hl hc h1 h63 hbytes hbase (fun v' w' h1 h2 h3 => h v' w' h1 h2 (fun hm hv => hm (h3.1 hv).2))

theorem info32 : (Try.prog.info? 32).map (fun i => (i.zero, i.size, i.bytes)) = some (some (.agg #[.bool false, .int .i64 0, .slice none 0 0]), 3, 40) := by kernel_rfl

theorem ocells_append (a b : List (Opv × Value)) : ocells (a ++ b) = ocells a ++ ocells b := by
  induction a with
  | nil => rfl
  | cons x a ih => simp [ocells, ih]
theorem ocells_one {l : List (Opv × Value)} (h : ∀ x ∈ l, x.2.oneCell' = true) : ∀ u ∈ ocells l, u.oneCell' = true := by
  induction l with
  | nil => simp [ocells]
  | cons a l ih =>
    intro u hu
    simp only [ocells, List.mem_cons] at hu
    rcases hu with rfl | rfl | rfl | hu
    · rfl
    · rfl
    · exact h a (by simp)
    · exact ih (fun x hx => h x (by simp [hx])) u hu

/-- The bytes of these calls lie in these slices, under a height. -/
def OpsIn (w : World) (B : Nat) (l : List Opv) (vs : List Value) : Prop :=
  vs.length = l.length ∧ ∀ (i : Nat) (x : Opv) (u : Value), l[i]? = some x → vs[i]? = some u → Rb w u x.b ∧ ∀ k, u.ownBlock = some k → 0 < x.b.length → k < B

theorem OpsIn.append {w : World} {B : Nat} {l m : List Opv} {vs us : List Value} (h : OpsIn w B l vs) (k : OpsIn w B m us) : OpsIn w B (l ++ m) (vs ++ us) := by
  refine ⟨by rw [List.length_append, List.length_append, h.1, k.1], fun i x u hx hu => ?_⟩
  rw [List.getElem?_append] at hx hu
  rw [h.1] at hu
  split at hx
  · rename_i hi
    rw [if_pos hi] at hu
    exact h.2 i x u hx hu
  · rename_i hi
    rw [if_neg hi] at hu
    exact k.2 _ x u hx hu
theorem OpsIn.below {w w' : World} {B : Nat} {l : List Opv} {vs : List Value} (h : OpsIn w B l vs) (hb : Below B w w') : OpsIn w' B l vs :=
  ⟨h.1, fun i x u hx hu => ⟨(h.2 i x u hx hu).1.below hb (h.2 i x u hx hu).2, (h.2 i x u hx hu).2⟩⟩
theorem OpsIn.one {w : World} {B : Nat} {l : List Opv} {vs : List Value} (h : OpsIn w B l vs) : ∀ u ∈ ocells (l.zip vs), u.oneCell' = true := by
  refine ocells_one fun x hx => ?_
  obtain ⟨i, hi, he⟩ := List.getElem_of_mem hx
  have hz : (l.zip vs)[i]? = some x := by rw [List.getElem?_eq_getElem hi, he]
  rw [List.getElem?_zip_eq_some] at hz
  obtain ⟨sp, sc, hv, -⟩ := (h.2 i x.1 x.2 hz.1 hz.2).1.form
  rw [hv]
  rfl

theorem OpsAt.in {w : World} {B : Nat} {v : Value} {l : List Opv} (h : OpsAt w B v l) : ∃ vs, OpsIn w B l vs ∧ Rd w 3 v l.length (ocells (l.zip vs)) := by
  obtain ⟨vs, h1, h2, h3⟩ := h.row
  exact ⟨vs, ⟨h1, h3⟩, h2⟩

theorem OpsAt.of_own {w : World} {base B C : Nat} {v : Value} {l : List Opv} {vs : List Value} (h : OpsIn w B l vs) (hr : w.ownsRow base 32 3 v l.length (ocells (l.zip vs))) (hB : B ≤ C) (hC : w.heap.size ≤ C) : OpsAt w C v l where
  row := ⟨vs, h.1, Rd.of_own hr, fun i x u hx hu => ⟨(h.2 i x u hx hu).1, fun k e p => Nat.lt_of_lt_of_le ((h.2 i x u hx hu).2 k e p) hB⟩⟩
  lt := fun k e _ => Nat.lt_of_lt_of_le (own_lt hr k e).2 hC

theorem Dk.runs_append (D : Dk) (l m : List Opv) : D.runs (l ++ m) = (D.runs l).runs m := by simp [Dk.runs]

/-- Two disks: what one alone writes, the other one does not read; the blocks of F are none of theirs. -/
structure Two (base : Nat) (F : Nat → Prop) (w : World) (c x : Nat) (C X : Dk) : Prop where
  both : ∃ M S M' S', DiskAt w c C M S ∧ DiskAt w x X M' S' ∧ (∀ k, M k → base ≤ k) ∧ (∀ k, M' k → base ≤ k) ∧ (∀ k, S k → ¬ F k) ∧ (∀ k, S' k → ¬ F k) ∧ (∀ k, M k → ¬ S' k) ∧ (∀ k, M' k → ¬ S k)
  free : ∀ k, F k → k < w.heap.size

theorem Two.swap {base : Nat} {F : Nat → Prop} {w : World} {c x : Nat} {C X : Dk} (h : Two base F w c x C X) : Two base F w x c X C := by
  obtain ⟨⟨M, S, M', S', h1, h2, h3, h4, h5, h6, h7, h8⟩, hf⟩ := h
  exact ⟨⟨M', S', M, S, h2, h1, h4, h3, h6, h5, h8, h7⟩, hf⟩
theorem Two.keep {base : Nat} {F X : Nat → Prop} {w w' : World} {c x : Nat} {C E : Dk} (h : Two base F w c x C E) (hb : Keeps X w w') (hX : ∀ k, k < w.heap.size → X k → F k) : Two base F w' c x C E := by
  obtain ⟨⟨M, S, M', S', h1, h2, h3, h4, h5, h6, h7, h8⟩, hf⟩ := h
  exact ⟨⟨M, S, M', S', h1.keep hb (fun k hk hx => h5 k hk (hX k (h1.lt k hk) hx)), h2.keep hb (fun k hk hx => h6 k hk (hX k (h2.lt k hk) hx)), h3, h4, h5, h6, h7, h8⟩, fun k hk => Nat.lt_of_lt_of_le (hf k hk) hb.size⟩
theorem Two.below {base : Nat} {F : Nat → Prop} {w w' : World} {c x : Nat} {C X : Dk} (h : Two base F w c x C X) (hb : Below w.heap.size w w') : Two base F w' c x C X :=
  h.keep (X := fun _ => False) (Keeps.of_below hb) (fun _ _ f => f.elim)
/-- What was laid since is none of theirs. -/
theorem Two.fresh {base : Nat} {F : Nat → Prop} {w w' : World} {c x : Nat} {C X : Dk} (h : Two base F w c x C X) (hb : Below w.heap.size w w') : Two base (fun k => w.heap.size ≤ k ∧ k < w'.heap.size) w' c x C X := by
  obtain ⟨⟨M, S, M', S', h1, h2, h3, h4, h5, h6, h7, h8⟩, hf⟩ := h
  exact ⟨⟨M, S, M', S', h1.below hb, h2.below hb, h3, h4, fun k hk hx => by have := h1.lt k hk; omega, fun k hk hx => by have := h2.lt k hk; omega, h7, h8⟩, fun k hk => hk.2⟩
theorem Two.after {base : Nat} {F : Nat → Prop} {w w' : World} {c x : Nat} {C' X : Dk} {M S M' S' : Nat → Prop} (hB : base ≤ w.heap.size) (hf : ∀ k, F k → k < w.heap.size) (h1 : ∀ k, M k → S k) (h2 : DiskAt w x X M' S') (h3 : ∀ k, M k → base ≤ k) (h4 : ∀ k, M' k → base ≤ k)
    (h5 : ∀ k, S k → ¬ F k) (h6 : ∀ k, S' k → ¬ F k) (h7 : ∀ k, M k → ¬ S' k) (h8 : ∀ k, M' k → ¬ S k)
    (h : ∃ N T, DiskAt w' c C' N T ∧ Keeps M w w' ∧ (∀ k, N k → M k ∨ w.heap.size ≤ k) ∧ (∀ k, T k → S k ∨ w.heap.size ≤ k)) : Two base F w' c x C' X ∧ Keeps (fun k => base ≤ k ∧ ¬ F k) w w' := by
  obtain ⟨N, T, a1, a2, a3, a4⟩ := h
  have hd := h2.keep a2 (fun k hk hm => h7 k hm hk)
  refine ⟨⟨⟨N, T, M', S', a1, hd, fun k hk => ?_, h4, fun k hk hx => ?_, h6, fun k hk hs => ?_, fun k hk ht => ?_⟩, fun k hk => Nat.lt_of_lt_of_le (hf k hk) a2.size⟩, a2.mono (fun k hk => ⟨h3 k hk, h5 k (h1 k hk)⟩)⟩
  · rcases a3 k hk with h | h
    · exact h3 k h
    · omega
  · rcases a4 k hk with h | h
    · exact h5 k h hx
    · have := hf k hx; omega
  · rcases a3 k hk with h | h
    · exact h7 k h hs
    · have := h2.lt k hs; omega
  · rcases a4 k ht with h | h
    · exact h8 k hk h
    · have := h2.lt k (h2.sub k hk); omega

theorem Two.write {base : Nat} {F : Nat → Prop} {w : World} {c x : Nat} {C X : Dk} (h : Two base F w c x C X) (hB : base ≤ w.heap.size) (i : Int) (bv : Value) (xs : List Int) (hb : Rb w bv xs) (hbM : ∀ k, bv.ownBlock = some k → 0 < xs.length → k < base ∨ F k) (hop : C.open_.length < 1000000) :
    Calls Try.prog 22 #[.pointer (some ⟨c, 0, none⟩), .int .i64 i, bv] w fun e w' => e = .returned (.int .i64 (C.err i xs.length)) ∧ Two base F w' c x (C.put i xs) X ∧ Keeps (fun k => base ≤ k ∧ ¬ F k) w w' := by
  obtain ⟨⟨M, S, M', S', h1, h2, h3, h4, h5, h6, h7, h8⟩, hf⟩ := h
  refine (Write_any w c C M S i bv xs hb (fun k hk hp hM => (hbM k hk hp).elim (fun h => by have := h3 k hM; omega) (h5 k (h1.sub k hM))) h1 hop).mono ?_
  rintro e w' ⟨rfl, h⟩
  exact ⟨rfl, Two.after hB hf h1.sub h2 h3 h4 h5 h6 h7 h8 h⟩

theorem Two.sync {base : Nat} {F : Nat → Prop} {w : World} {c x : Nat} {C X : Dk} (h : Two base F w c x C X) (hB : base ≤ w.heap.size) :
    Calls Try.prog 33 #[.pointer (some ⟨c, 0, none⟩)] w fun e w' => e = .returned (.int .i64 0) ∧ Two base F w' c x C.sync X ∧ Keeps (fun k => base ≤ k ∧ ¬ F k) w w' := by
  obtain ⟨⟨M, S, M', S', h1, h2, h3, h4, h5, h6, h7, h8⟩, hf⟩ := h
  refine (Sync_yes w c C M S h1).mono ?_
  rintro e w' ⟨rfl, h⟩
  exact ⟨rfl, Two.after hB hf h1.sub h2 h3 h4 h5 h6 h7 h8 h⟩

theorem Two.read {base : Nat} {F : Nat → Prop} {w : World} {c x : Nat} {C X : Dk} (h : Two base F w c x C X) (i : Int) (h0 : 0 ≤ i) (hi : i < C.blocks) :
    Calls Try.prog 20 #[.pointer (some ⟨c, 0, none⟩), .int .i64 i] w (Got (C.block i.toNat) w) :=
  let ⟨M, S, _, _, h1, _⟩ := h.both; Read_ok w c C M S i h0 hi h1
theorem Two.opens {base : Nat} {F : Nat → Prop} {w : World} {c x : Nat} {C X : Dk} (h : Two base F w c x C X) : Calls Try.prog 18 #[.pointer (some ⟨c, 0, none⟩)] w fun e w' => e = .returned (.int .i64 C.open_.length) ∧ w = w' :=
  let ⟨M, S, _, _, h1, _⟩ := h.both; Open_any w c C M S h1
theorem Two.len {base : Nat} {F : Nat → Prop} {w : World} {c x : Nat} {C X : Dk} (h : Two base F w c x C X) (i : Nat) (hi : i < C.blocks) : (C.block i).length = C.size := by
  obtain ⟨M, S, _, _, ⟨_, _, _, _, _, _, l⟩, _⟩ := h.both
  exact block_length l.nowLen l.pos.2.1 l.pos.2.2.2 hi

/-- One byte more of an own row of bytes. -/
theorem own_set {w : World} {base g n vc : Nat} {zs : List Int} (h : w.ownsRow base 5 1 (.slice (some ⟨g, 0, none⟩) n vc) n (bts zs)) (q : Nat) (y : Int) :
    ∃ ys : List Int, ys.length = zs.length ∧ (w.setCell ⟨g, q, none⟩ (.int .u8 y)).ownsRow base 5 1 (.slice (some ⟨g, 0, none⟩) n vc) n (bts ys) :=
  ⟨zs.set q y, by simp, by have := (h.stored q (.int .u8 y)).1; rw [show (bts zs).set q (.int .u8 y) = bts (zs.set q y) by simp [bts, List.map_set]] at this; exact this⟩
theorem bts_set (xs : List Int) (i : Nat) (y : Int) : (bts xs).set i (.int .u8 y) = bts (xs.set i y) := by simp [bts, List.map_set]
end Go.Proofs.Ytbbjeoepoocofaa
