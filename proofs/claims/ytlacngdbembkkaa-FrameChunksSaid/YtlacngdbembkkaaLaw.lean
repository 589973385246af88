/- The plain law: frames cut out of bytes. -/
import Derived.Test.YtlacngdbembkkaaBytes
namespace Go.Proofs.Ytlacngdbembkkaa

/-- The length that is told at the front. -/
def told (b : List Int) : Nat := (256 * b.getD 2 0 + b.getD 3 0).toNat
/-- All bytes are bytes. -/
def Byt (l : List Int) : Prop := ∀ x ∈ l, 0 ≤ x ∧ x ≤ 255
theorem Byt.drop {l : List Int} (h : Byt l) (n : Nat) : Byt (l.drop n) := fun x hx => h x (List.mem_of_mem_drop hx)
theorem Byt.take {l : List Int} (h : Byt l) (n : Nat) : Byt (l.take n) := fun x hx => h x (List.mem_of_mem_take hx)
theorem Byt.append {a b : List Int} (h : Byt a) (k : Byt b) : Byt (a ++ b) := fun x hx => by
  rcases List.mem_append.1 hx with hx | hx
  · exact h x hx
  · exact k x hx
theorem Byt.nil : Byt [] := fun _ h => by cases h

/-- The frames of bytes, what is left, and whether the stream fails there. -/
def splitL (b : List Int) : List (List Int) × List Int × Bool :=
  if b.length < 4 then ([], b, false)
  else if told b < 8 then ([], b, true)
  else if b.length < told b then ([], b, false)
  else ((b.take (told b)) :: (splitL (b.drop (told b))).1, (splitL (b.drop (told b))).2.1, (splitL (b.drop (told b))).2.2)
termination_by b.length
decreasing_by all_goals (simp only [List.length_drop]; omega)

theorem split_short {b : List Int} (h : b.length < 4) : splitL b = ([], b, false) := by rw [splitL, if_pos h]
theorem split_bad {b : List Int} (h : ¬ b.length < 4) (h8 : told b < 8) : splitL b = ([], b, true) := by rw [splitL, if_neg h, if_pos h8]
theorem split_wait {b : List Int} (h : ¬ b.length < 4) (h8 : ¬ told b < 8) (hl : b.length < told b) : splitL b = ([], b, false) := by rw [splitL, if_neg h, if_neg h8, if_pos hl]
theorem split_cut {b : List Int} (h : ¬ b.length < 4) (h8 : ¬ told b < 8) (hl : ¬ b.length < told b) :
    splitL b = ((b.take (told b)) :: (splitL (b.drop (told b))).1, (splitL (b.drop (told b))).2.1, (splitL (b.drop (told b))).2.2) := by rw [splitL, if_neg h, if_neg h8, if_neg hl]

theorem getD_append_left {a c : List Int} {i : Nat} (h : i < a.length) : (a ++ c).getD i 0 = a.getD i 0 := by
  simp [List.getD, List.getElem?_append_left h]
theorem told_append {a : List Int} (c : List Int) (h : 4 ≤ a.length) : told (a ++ c) = told a := by
  simp only [told]; rw [getD_append_left (by omega), getD_append_left (by omega)]

/-- What comes behind is cut as it would be behind what is left. -/
theorem split_append (n : Nat) : ∀ (a c : List Int), a.length ≤ n → (splitL a).2.2 = false →
    splitL (a ++ c) = ((splitL a).1 ++ (splitL ((splitL a).2.1 ++ c)).1, (splitL ((splitL a).2.1 ++ c)).2.1, (splitL ((splitL a).2.1 ++ c)).2.2) := by
  induction n with
  | zero =>
    intro a c ha _
    rw [split_short (b := a) (by omega)]
    simp
  | succ n ih =>
    intro a c ha hf
    by_cases h4 : a.length < 4
    · rw [split_short h4]; simp
    · by_cases h8 : told a < 8
      · rw [split_bad h4 h8] at hf; cases hf
      · by_cases hl : a.length < told a
        · rw [split_wait h4 h8 hl]; simp
        · rw [split_cut h4 h8 hl] at hf ⊢
          have ht := told_append c (a := a) (by omega)
          have hd : (a ++ c).drop (told a) = a.drop (told a) ++ c := List.drop_append_of_le_length (by omega)
          have hk : (a ++ c).take (told a) = a.take (told a) := List.take_append_of_le_length (by omega)
          rw [split_cut (b := a ++ c) (by simp; omega) (by rw [ht]; exact h8) (by rw [ht]; simp; omega), ht, hd, hk]
          rw [ih (a.drop (told a)) c (by simp; omega) hf]
          simp

/-- Frames and what is left are the bytes. -/
theorem split_sum (n : Nat) : ∀ (a : List Int), a.length ≤ n → (splitL a).1.flatten ++ (splitL a).2.1 = a := by
  induction n with
  | zero => intro a ha; rw [split_short (b := a) (by omega)]; simp
  | succ n ih =>
    intro a ha
    by_cases h4 : a.length < 4
    · rw [split_short h4]; simp
    · by_cases h8 : told a < 8
      · rw [split_bad h4 h8]; simp
      · by_cases hl : a.length < told a
        · rw [split_wait h4 h8 hl]; simp
        · rw [split_cut h4 h8 hl]
          have := ih (a.drop (told a)) (by simp; omega)
          simp only [List.flatten_cons, List.append_assoc]
          rw [this, List.take_append_drop]
theorem split_eq (a : List Int) : (splitL a).1.flatten ++ (splitL a).2.1 = a := split_sum a.length a (Nat.le_refl _)
theorem split_left (a : List Int) : (splitL a).2.1.length ≤ a.length := by
  have := congrArg List.length (split_eq a)
  simp only [List.length_append] at this
  omega

/-- Each frame has a head. -/
theorem split_eight (n : Nat) : ∀ (a : List Int), a.length ≤ n → ∀ f ∈ (splitL a).1, 8 ≤ f.length := by
  induction n with
  | zero => intro a ha f hf; rw [split_short (b := a) (by omega)] at hf; cases hf
  | succ n ih =>
    intro a ha f hf
    by_cases h4 : a.length < 4
    · rw [split_short h4] at hf; cases hf
    · by_cases h8 : told a < 8
      · rw [split_bad h4 h8] at hf; cases hf
      · by_cases hl : a.length < told a
        · rw [split_wait h4 h8 hl] at hf; cases hf
        · rw [split_cut h4 h8 hl] at hf
          rcases List.mem_cons.1 hf with rfl | hf
          · simp; omega
          · exact ih _ (by simp; omega) f hf
/-- What is left is cut no more. -/
theorem split_rest (n : Nat) : ∀ (a : List Int), a.length ≤ n → splitL (splitL a).2.1 = ([], (splitL a).2.1, (splitL a).2.2) := by
  induction n with
  | zero => intro a ha; rw [split_short (b := a) (by omega)]; exact split_short (b := a) (by omega)
  | succ n ih =>
    intro a ha
    by_cases h4 : a.length < 4
    · rw [split_short h4]; exact split_short h4
    · by_cases h8 : told a < 8
      · rw [split_bad h4 h8]; exact split_bad h4 h8
      · by_cases hl : a.length < told a
        · rw [split_wait h4 h8 hl]; exact split_wait h4 h8 hl
        · rw [split_cut h4 h8 hl]
          exact ih _ (by simp; omega)
/-- No more is held than a frame may be long. -/
theorem split_held {a : List Int} (hb : Byt a) (hf : (splitL a).2.2 = false) : (splitL a).2.1.length ≤ 65534 := by
  have hr := split_rest a.length a (Nat.le_refl _)
  rw [hf] at hr
  have hbl : Byt (splitL a).2.1 := fun x hx => hb x (by rw [← split_eq a]; simp [hx])
  generalize (splitL a).2.1 = l at *
  by_cases h4 : l.length < 4
  · omega
  · by_cases h8 : told l < 8
    · rw [split_bad h4 h8] at hr; simp at hr
    · by_cases hl : l.length < told l
      · have h2 : l.getD 2 0 ≤ 255 := by
          have : l.getD 2 0 = l[2]'(by omega) := by simp [List.getD, List.getElem?_eq_getElem (show 2 < l.length by omega)]
          rw [this]; exact (hbl _ (List.getElem_mem _)).2
        have h3 : l.getD 3 0 ≤ 255 := by
          have : l.getD 3 0 = l[3]'(by omega) := by simp [List.getD, List.getElem?_eq_getElem (show 3 < l.length by omega)]
          rw [this]; exact (hbl _ (List.getElem_mem _)).2
        simp only [told] at hl
        omega
      · rw [split_cut h4 h8 hl] at hr
        simp at hr
end Go.Proofs.Ytlacngdbembkkaa
