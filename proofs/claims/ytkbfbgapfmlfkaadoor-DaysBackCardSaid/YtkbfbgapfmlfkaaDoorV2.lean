/- Texts of dates, and which date is behind a date: plain laws. -/
import Derived.Test.YtkbfbgapfmlfkaaDoorW12
namespace Go.Proofs.YtkbfbgapfmlfkaaDoor

/-- A text that a date may be. -/
def Fits (s : ByteArray) : Prop := s.size = 10 ∧ Txt.isDate (Txt.byte s)

theorem Fits.digs {s : ByteArray} (h : Fits s) : (∀ i, i < 4 → Txt.dig (Txt.byte s i)) ∧ (∀ i, i < 2 → Txt.dig (Txt.byte s (5 + i))) ∧ (∀ i, i < 2 → Txt.dig (Txt.byte s (8 + i))) := by
  have key : ∀ i, i < 10 → i ≠ 4 → i ≠ 7 → Txt.dig (Txt.byte s i) := fun i hi h4 h7 => by
    have := h.2 i hi
    unfold Txt.fitsAt at this
    rwa [if_neg (by omega)] at this
  exact ⟨fun i hi => key i (by omega) (by omega) (by omega), fun i hi => key (5 + i) (by omega) (by omega) (by omega), fun i hi => key (8 + i) (by omega) (by omega) (by omega)⟩

theorem list10 {α : Type} {l : List α} (h : l.length = 10) : ∃ a b c d e f g i j k, l = [a, b, c, d, e, f, g, i, j, k] := by
  rcases l with _ | ⟨a, _ | ⟨b, _ | ⟨c, _ | ⟨d, _ | ⟨e, _ | ⟨f, _ | ⟨g, _ | ⟨i, _ | ⟨j, _ | ⟨k, _ | ⟨x, l⟩⟩⟩⟩⟩⟩⟩⟩⟩⟩⟩ <;> simp at h
  exact ⟨a, b, c, d, e, f, g, i, j, k, rfl⟩

theorem back_u8 (u : UInt8) {x : Int} (h : x = (u.toNat : Int)) : UInt8.ofNat x.toNat = u := by
  rw [h]
  simp

/-- The date that a text is, as a text. -/
theorem txt_of_fits {s : ByteArray} (h : Fits s) : strOfNums (Txt.date (Txt.yOf (Txt.byte s)) (Txt.mOf (Txt.byte s)) (Txt.dOf (Txt.byte s))) = s := by
  have hl : s.data.toList.length = 10 := by rw [Array.length_toList]; exact h.1
  obtain ⟨u0, u1, u2, u3, u4, u5, u6, u7, u8, u9, he⟩ := list10 hl
  obtain ⟨d0, d1, d2⟩ := h.digs
  have h4 : Txt.byte s 4 = 45 := h.2 4 (by omega)
  have h7 : Txt.byte s 7 = 45 := h.2 7 (by omega)
  have g0 := d0 0 (by omega)
  have g1 := d0 1 (by omega)
  have g2 := d0 2 (by omega)
  have g3 := d0 3 (by omega)
  have g5 := d1 0 (by omega)
  have g6 := d1 1 (by omega)
  have g8 := d2 0 (by omega)
  have g9 := d2 1 (by omega)
  unfold Txt.yOf Txt.mOf Txt.dOf
  simp only [Txt.val, Nat.add_zero, Nat.reduceAdd] at *
  have b0 : Txt.byte s 0 = u0.toNat := by simp [Txt.byte, he]
  have b1 : Txt.byte s 1 = u1.toNat := by simp [Txt.byte, he]
  have b2 : Txt.byte s 2 = u2.toNat := by simp [Txt.byte, he]
  have b3 : Txt.byte s 3 = u3.toNat := by simp [Txt.byte, he]
  have b4 : Txt.byte s 4 = u4.toNat := by simp [Txt.byte, he]
  have b5 : Txt.byte s 5 = u5.toNat := by simp [Txt.byte, he]
  have b6 : Txt.byte s 6 = u6.toNat := by simp [Txt.byte, he]
  have b7 : Txt.byte s 7 = u7.toNat := by simp [Txt.byte, he]
  have b8 : Txt.byte s 8 = u8.toNat := by simp [Txt.byte, he]
  have b9 : Txt.byte s 9 = u9.toNat := by simp [Txt.byte, he]
  unfold Txt.dig at *
  clear d0 d1 d2 h hl
  generalize Txt.byte s 0 = x0 at *
  generalize Txt.byte s 1 = x1 at *
  generalize Txt.byte s 2 = x2 at *
  generalize Txt.byte s 3 = x3 at *
  generalize Txt.byte s 4 = x4 at *
  generalize Txt.byte s 5 = x5 at *
  generalize Txt.byte s 6 = x6 at *
  generalize Txt.byte s 7 = x7 at *
  generalize Txt.byte s 8 = x8 at *
  generalize Txt.byte s 9 = x9 at *
  apply ByteArray.ext
  apply Array.toList_inj.1
  rw [strOfNums_data, he]
  unfold Txt.date
  rw [Txt.digs_4, Txt.digs_2, Txt.digs_2]
  simp only [List.cons_append, List.nil_append, List.map_cons, List.map_nil]
  simp only [List.cons.injEq]
  exact ⟨back_u8 u0 (by omega), back_u8 u1 (by omega), back_u8 u2 (by omega), back_u8 u3 (by omega), back_u8 u4 (by omega), back_u8 u5 (by omega), back_u8 u6 (by omega), back_u8 u7 (by omega), back_u8 u8 (by omega), back_u8 u9 (by omega), trivial⟩

theorem byte_str (xs : List Int) (h : ∀ x ∈ xs, 0 ≤ x ∧ x ≤ 255) (i : Nat) (hi : i < xs.length) : Txt.byte (strOfNums xs) i = xs.getD i 0 := by
  unfold Txt.byte
  rw [strOfNums_data]
  have := h xs[i] (List.getElem_mem hi)
  simp only [List.getD, List.getElem?_map, List.getElem?_eq_getElem hi, Option.map_some, Option.getD_some, UInt8.toNat_ofNat']
  omega

theorem fits_date {Y M D : Int} (hY : 2000 ≤ Y ∧ Y ≤ 2199) (hM : 1 ≤ M ∧ M ≤ 12) (hD : 1 ≤ D ∧ D ≤ 31) :
    Fits (strOfNums (Txt.date Y M D)) ∧ Txt.yOf (Txt.byte (strOfNums (Txt.date Y M D))) = Y ∧ Txt.mOf (Txt.byte (strOfNums (Txt.date Y M D))) = M ∧ Txt.dOf (Txt.byte (strOfNums (Txt.date Y M D))) = D := by
  have hl := Txt.date_length Y M D
  have e : Txt.date Y M D = [48 + Y / 10 / 10 / 10 % 10, 48 + Y / 10 / 10 % 10, 48 + Y / 10 % 10, 48 + Y % 10, 45, 48 + M / 10 % 10, 48 + M % 10, 45, 48 + D / 10 % 10, 48 + D % 10] := by
    unfold Txt.date
    rw [Txt.digs_4, Txt.digs_2, Txt.digs_2]
    rfl
  have hb : ∀ x ∈ Txt.date Y M D, 0 ≤ x ∧ x ≤ 255 := by
    rw [e]
    intro x hx
    simp only [List.mem_cons, List.not_mem_nil, or_false] at hx
    omega
  have hg : ∀ i, i < 10 → Txt.byte (strOfNums (Txt.date Y M D)) i = (Txt.date Y M D).getD i 0 := fun i hi => byte_str _ hb i (by omega)
  have q0 := hg 0 (by omega)
  have q1 := hg 1 (by omega)
  have q2 := hg 2 (by omega)
  have q3 := hg 3 (by omega)
  have q4 := hg 4 (by omega)
  have q5 := hg 5 (by omega)
  have q6 := hg 6 (by omega)
  have q7 := hg 7 (by omega)
  have q8 := hg 8 (by omega)
  have q9 := hg 9 (by omega)
  have hsz : (strOfNums (Txt.date Y M D)).size = 10 := by rw [strOfNums_size]; exact hl
  generalize strOfNums (Txt.date Y M D) = t at *
  rw [e] at q0 q1 q2 q3 q4 q5 q6 q7 q8 q9
  simp only [List.getD, List.getElem?_cons_zero, List.getElem?_cons_succ, Option.getD_some] at q0 q1 q2 q3 q4 q5 q6 q7 q8 q9
  refine ⟨⟨hsz, fun i hi => ?_⟩, ?_, ?_, ?_⟩
  · have : i = 0 ∨ i = 1 ∨ i = 2 ∨ i = 3 ∨ i = 4 ∨ i = 5 ∨ i = 6 ∨ i = 7 ∨ i = 8 ∨ i = 9 := by omega
    unfold Txt.fitsAt Txt.dig
    rcases this with rfl | rfl | rfl | rfl | rfl | rfl | rfl | rfl | rfl | rfl <;> simp <;> omega
  · unfold Txt.yOf
    simp only [Txt.val]
    omega
  · unfold Txt.mOf
    simp only [Txt.val, Nat.add_zero, Nat.reduceAdd]
    omega
  · unfold Txt.dOf
    simp only [Txt.val, Nat.add_zero, Nat.reduceAdd]
    omega

theorem date_day {day : Int} (h0 : 0 ≤ day) (h1 : day ≤ 73048) :
    okDate (2000 + Cal.Mo day / 12) (Cal.Mo day % 12 + 1) (day - Cal.S (Cal.Mo day) + 1) ∧ numDate (2000 + Cal.Mo day / 12) (Cal.Mo day % 12 + 1) (day - Cal.S (Cal.Mo day) + 1) = day := by
  obtain ⟨a, b, c, d⟩ := Cal.Mo_L h0 h1
  have e : Cal.long (2000 + Cal.Mo day / 12) (Cal.Mo day % 12 + 1) = Cal.L (Cal.Mo day) := rfl
  have e2 : (2000 + Cal.Mo day / 12 - 2000) * 12 + (Cal.Mo day % 12 + 1) - 1 = Cal.Mo day := by omega
  refine ⟨⟨by omega, by omega, by omega, by omega, by omega, by omega⟩, ?_⟩
  unfold numDate
  rw [e2]
  omega

theorem next_day {day : Int} (h0 : 0 ≤ day) (h1 : day ≤ 73047) :
    (nextV (2000 + Cal.Mo day / 12) (Cal.Mo day % 12 + 1) (day - Cal.S (Cal.Mo day) + 1)).1 = 2000 + Cal.Mo (day + 1) / 12 ∧
    (nextV (2000 + Cal.Mo day / 12) (Cal.Mo day % 12 + 1) (day - Cal.S (Cal.Mo day) + 1)).2.1 = Cal.Mo (day + 1) % 12 + 1 ∧
    (nextV (2000 + Cal.Mo day / 12) (Cal.Mo day % 12 + 1) (day - Cal.S (Cal.Mo day) + 1)).2.2 = day + 1 - Cal.S (Cal.Mo (day + 1)) + 1 := by
  obtain ⟨a, b, c, d⟩ := Cal.Mo_L h0 (show day ≤ 73048 by omega)
  have e : Cal.long (2000 + Cal.Mo day / 12) (Cal.Mo day % 12 + 1) = Cal.L (Cal.Mo day) := rfl
  have hs := Cal.S_step c d
  unfold nextV
  rw [e]
  by_cases k : day - Cal.S (Cal.Mo day) + 1 + 1 ≤ Cal.L (Cal.Mo day)
  · have hM : Cal.Mo (day + 1) = Cal.Mo day := Cal.Mo_eq c d (by omega) (by omega)
    rw [if_pos k, hM]
    exact ⟨rfl, rfl, by show day - Cal.S (Cal.Mo day) + 1 + 1 = _; omega⟩
  · have hd : day + 1 = Cal.S (Cal.Mo day + 1) := by omega
    have hlast : Cal.Mo day ≠ 2399 := fun h => by
      rw [h] at hd
      have := Cal.S_end
      have e3 : (2399 : Int) + 1 = 2400 := rfl
      rw [e3, this] at hd
      omega
    have hs2 := Cal.S_step_bd (m := Cal.Mo day + 1) (by omega) (by omega)
    have hM : Cal.Mo (day + 1) = Cal.Mo day + 1 := Cal.Mo_eq (by omega) (by omega) (by omega) (by omega)
    rw [if_neg k, hM]
    by_cases k2 : Cal.Mo day % 12 + 1 < 12
    · rw [if_pos k2]
      exact ⟨by show 2000 + Cal.Mo day / 12 = _; omega, by show Cal.Mo day % 12 + 1 + 1 = _; omega, by show (1 : Int) = _; omega⟩
    · rw [if_neg k2]
      exact ⟨by show 2000 + Cal.Mo day / 12 + 1 = _; omega, by show (1 : Int) = _; omega, by show (1 : Int) = _; omega⟩
end Go.Proofs.YtkbfbgapfmlfkaaDoor
