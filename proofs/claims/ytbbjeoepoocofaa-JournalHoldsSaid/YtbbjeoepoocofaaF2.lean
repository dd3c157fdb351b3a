import Derived.Test.YtbbjeoepoocofaaF1
namespace Go.Proofs.Ytbbjeoepoocofaa

/-- What a disk is to which the first bytes of the open writes were written, so far. -/
structure TornInv (D0 : Dk) (l : List Opv) (fs : List Int) (k : Nat) (X : Dk) : Prop where
  blocks : X.blocks = D0.blocks
  size : X.size = D0.size
  now : X.now = tornTo D0.size (D0.runs l).firm (D0.runs l).open_ fs (D0.runs (l.take k)).open_.length
  opn : X.open_.length ≤ k

theorem TornInv.start (D0 : Dk) (l : List Opv) (fs : List Int) (f : Nat) (hf : f ≤ l.length) (hn : ∀ i, f ≤ i → i < l.length → (l.getD i ⟨false, 0, []⟩).sync = false) (hs : (D0.runs (l.take f)).still) :
    TornInv D0 l fs f (D0.runs (l.take f)) where
  blocks := (D0.runs_blocks _).1
  size := (D0.runs_blocks _).2
  now := by
    obtain ⟨h1, h2⟩ := behind D0 l f l.length hf (Nat.le_refl _) (fun j a b => hn j a b)
    rw [List.take_length] at h1
    rw [h1, hs.2, List.length_nil, tornTo_zero, hs.1]
  opn := by rw [hs.2]; exact Nat.zero_le _

theorem TornInv.no {D0 : Dk} {l : List Opv} {fs : List Int} {k : Nat} {X : Dk} (h : TornInv D0 l fs k X) (hk : k < l.length) (hs : (l.getD k ⟨false, 0, []⟩).sync = false)
    (he : D0.err (l.getD k ⟨false, 0, []⟩).block (l.getD k ⟨false, 0, []⟩).b.length ≠ 0) : TornInv D0 l fs (k + 1) X ∧ (D0.runs (l.take (k + 1))).open_ = (D0.runs (l.take k)).open_ := by
  have hb := D0.runs_blocks (l.take k)
  have := step_no D0 l k hk hs (by rw [err_same hb.1 hb.2]; exact he)
  exact ⟨⟨h.blocks, h.size, by rw [this]; exact h.now, by have := h.opn; omega⟩, this⟩

theorem TornInv.at_open {D0 : Dk} {l : List Opv} {f k : Nat} (hf : f ≤ k) (hk : k < l.length) (hn : ∀ i, f ≤ i → i < l.length → (l.getD i ⟨false, 0, []⟩).sync = false)
    (he : D0.err (l.getD k ⟨false, 0, []⟩).block (l.getD k ⟨false, 0, []⟩).b.length = 0) :
    (D0.runs (l.take (k + 1))).open_.length = (D0.runs (l.take k)).open_.length + 1 ∧
    (D0.runs l).open_[(D0.runs (l.take k)).open_.length]? = some ((l.getD k ⟨false, 0, []⟩).block.toNat, (l.getD k ⟨false, 0, []⟩).b) := by
  have hb := D0.runs_blocks (l.take k)
  have h1 := step_yes D0 l k hk (hn k hf hk) (by rw [err_same hb.1 hb.2]; exact he)
  obtain ⟨-, t, h2⟩ := behind D0 l (k + 1) l.length hk (Nat.le_refl _) (fun j a b => hn j (by omega) b)
  rw [List.take_length] at h2
  refine ⟨by rw [h1]; simp, ?_⟩
  rw [h2, h1]
  simp

theorem TornInv.yes {D0 : Dk} {l : List Opv} {fs : List Int} {f k : Nat} {X : Dk} (h : TornInv D0 l fs k X) (hf : f ≤ k) (hk : k < l.length) (hn : ∀ i, f ≤ i → i < l.length → (l.getD i ⟨false, 0, []⟩).sync = false)
    (he : D0.err (l.getD k ⟨false, 0, []⟩).block (l.getD k ⟨false, 0, []⟩).b.length = 0) (hlt : (D0.runs (l.take k)).open_.length < fs.length) :
    TornInv D0 l fs (k + 1) (X.put (l.getD k ⟨false, 0, []⟩).block ((l.getD k ⟨false, 0, []⟩).b.take (cut (fs.getD (D0.runs (l.take k)).open_.length 0) (l.getD k ⟨false, 0, []⟩).b.length))) := by
  obtain ⟨h1, h2⟩ := TornInv.at_open hf hk hn he
  have hz : X.err (l.getD k ⟨false, 0, []⟩).block ((l.getD k ⟨false, 0, []⟩).b.take (cut (fs.getD (D0.runs (l.take k)).open_.length 0) (l.getD k ⟨false, 0, []⟩).b.length)).length = 0 := by
    rw [err_same h.blocks h.size, err_zero]
    rw [err_zero] at he
    exact ⟨he.1, he.2.1, by rw [List.length_take]; omega⟩
  unfold Dk.put
  rw [if_pos hz]
  refine ⟨h.blocks, h.size, ?_, ?_⟩
  · rw [h1, tornTo_succ _ _ _ _ _ _ h2 hlt]
    show over X.now (_ * X.size) _ = _
    rw [h.now, h.size]
  · have := h.opn
    simp [Dk.write]
    omega

theorem TornInv.past {D0 : Dk} {l : List Opv} {fs : List Int} {f k : Nat} {X : Dk} (h : TornInv D0 l fs k X) (hf : f ≤ k) (hk : k < l.length) (hn : ∀ i, f ≤ i → i < l.length → (l.getD i ⟨false, 0, []⟩).sync = false)
    (he : D0.err (l.getD k ⟨false, 0, []⟩).block (l.getD k ⟨false, 0, []⟩).b.length = 0) (hlt : fs.length ≤ (D0.runs (l.take k)).open_.length) : TornInv D0 l fs (k + 1) X := by
  obtain ⟨h1, h2⟩ := TornInv.at_open hf hk hn he
  exact ⟨h.blocks, h.size, by rw [h1, tornTo_past _ _ _ _ _ hlt]; exact h.now, by have := h.opn; omega⟩

theorem TornInv.done {D0 : Dk} {l : List Opv} {fs : List Int} {X : Dk} (h : TornInv D0 l fs l.length X) : X.now = ((D0.runs l).crash fs).now := by
  rw [h.now, List.take_length]
  show _ = (D0.runs l).torn fs
  rw [← tornTo_all, (D0.runs_blocks l).2]

theorem TornInv.block {D0 : Dk} {l : List Opv} {fs : List Int} {X : Dk} (h : TornInv D0 l fs l.length X) (i : Nat) : X.block i = ((D0.runs l).crash fs).block i := by
  unfold Dk.block
  rw [h.done, h.size]
  show _ = List.take (D0.runs l).size (List.drop (i * (D0.runs l).size) _)
  rw [(D0.runs_blocks l).2]

end Go.Proofs.Ytbbjeoepoocofaa
