/- Stages with a place where two operations may come first. -/
import Derived.Test.YthminmcdkcnkpaaLoads
namespace Go.Proofs.Ythminmcdkcnkpaa
section
variable {F : Fence} {n : Nat} {P : Program} {ops : Array Oper} {md : Region.Mode} {C : World → Prop}

inductive Tr where
  | nil
  | q (i : Nat) (t : Tr)
  | l (j : Nat) (t : Tr)
  | two (j : Nat) (t : Tr) (k : Nat) (u : Tr)
def trB (md : Region.Mode) (ops : Array Oper) : Tr → Nat → Array Bool → Bool
  | .nil, 0, L => (Region.ready md ops L).isEmpty
  | .nil, _ + 1, _ => false
  | .q i t, m + 1, L => (Region.ready md ops L).contains i && Region.free md ops L i && trB md ops t m (L.setIfInBounds i true)
  | .q _ _, 0, _ => false
  | .l j t, m + 1, L => (Region.ready md ops L == [j]) && trB md ops t m (L.setIfInBounds j true)
  | .l _ _, 0, _ => false
  | .two j t k u, m + 1, L => (Region.ready md ops L == [j, k]) && trB md ops t m (L.setIfInBounds j true) && trB md ops u m (L.setIfInBounds k true)
  | .two _ _ _ _, 0, _ => false
def wpTr (F : Fence) (n : Nat) (P : Program) (ops : Array Oper) (C : World → Prop) (Q : Act → World → Prop) : Tr → Act → World → Prop
  | .nil, a, w => Q a w
  | .q i t, a, w => match ops[i]? with | none => False | some o => ∃ v, YQ F P ops C o v a ∧ wpTr F n P ops C Q t (a.put o.dst v) w
  | .l j t, a, w => match ops[j]? with | none => False | some o => wpListIn F n P ops (Exit.then (fun a' w' => C w' ∧ wpTr F n P ops C Q t a' w') (fun _ _ _ => False)) [o] a w
  | .two j t k u, a, w => (match ops[j]? with | none => False | some o => wpListIn F n P ops (Exit.then (fun a' w' => C w' ∧ wpTr F n P ops C Q t a' w') (fun _ _ _ => False)) [o] a w) ∧
      (match ops[k]? with | none => False | some o => wpListIn F n P ops (Exit.then (fun a' w' => C w' ∧ wpTr F n P ops C Q u a' w') (fun _ _ _ => False)) [o] a w)

theorem wpOpIn_of_list {Q Q2 : Act → World → Prop} {R : Act → World → Prop} {j : Nat} {o : Oper} {a : Act} {w : World} (ho : ops[j]? = some o) (hR : ∀ a w, R a w → Q2 a w)
    (h : wpListIn F n P ops (Exit.then R (fun _ _ _ => False)) [o] a w) : wpOpIn F n P ops (Exit.then Q (fun _ _ _ => False)) j Q2 a w := by
  unfold wpOpIn
  rw [ho]
  simp only [wpListIn] at h
  simp only
  split at h
  · rename_i hw
    simp only [hw, if_true]
    have h' := Oper.wpIn_mono (K' := Q2) hR h
    unfold Oper.wpIn at *
    refine ⟨h'.1, ?_⟩
    have h' := h'.2
    generalize (o.semAt F.round a.eval).run P w = r at *
    cases r with
    | ok x w' =>
      cases x
      case value u => exact h'
      case skip => exact h'
      case defer d => exact h'
      case enter f args => exact ⟨h'.1, CallsIn.mono h'.2 fun e w'' he => by cases e <;> exact he⟩
      case row row args => exact h'
      case round l f tmps assign body => exact ⟨h'.1, RoundIn.mono h'.2 fun e w'' he => by cases e <;> exact he⟩
      all_goals exact h'
    | halt x w' => cases x <;> exact h'
  · rename_i hw
    simp only [hw]
    exact ⟨h.1, hR _ _ h.2⟩

theorem wpAnyC_tr (Q : Act → World → Prop) (hs : Region.noSelect ops = true) (hd0 : noDefer ops = true) :
    ∀ (t : Tr) (m : Nat) (L : Array Bool) (a : Act) (w : World), Dn md ops L → C w → trB md ops t m L = true →
      wpTr F n P ops C Q t a w → wpAnyC F n P md ops (fun _ => C) [] (Exit.then Q (fun _ _ _ => False)) m L a w
  | .nil, 0, _, _, _, _, _, hB, h => ⟨by simpa [trB] using hB, h⟩
  | .q i t, m + 1, L, a, w, hd, hC, hB, h => by
    simp only [trB, Bool.and_eq_true] at hB
    obtain ⟨⟨hr, hf⟩, hrest⟩ := hB
    have hr' : i ∈ Region.ready md ops L := by simpa using hr
    simp only [wpTr] at h
    cases ho : ops[i]? with
    | none => rw [ho] at h; exact h.elim
    | some o =>
      rw [ho] at h
      obtain ⟨v, hy, h⟩ := h
      have hnext := wpAnyC_tr Q hs hd0 t m (L.setIfInBounds i true) (a.put o.dst v) w (hd.set hr') hC hrest h
      exact wpAnyC_firstB (m := 0) ho (by simp) (fun _ _ _ => Nat.le_refl _) (Region.noSelect_spec hs) (noDefer_spec hd0) (fun _ _ _ _ h => h.elim) m L a w hd hC (Region.free_spec ho hf) hr'
        ⟨hy.nodef, fun w ⟨_, _, hw⟩ => hy.asked w hw, by rcases hy.val with ⟨h1, h2⟩ | h1; exact .inl ⟨h1, fun w ⟨_, _, hw⟩ => h2 w hw⟩; exact .inr h1⟩ hnext
  | .l j t, m + 1, L, a, w, hd, hC, hB, h => by
    simp only [trB, Bool.and_eq_true, beq_iff_eq] at hB
    obtain ⟨hr, hrest⟩ := hB
    refine ⟨fun h0 => (by rw [hr] at h0; cases h0), fun i hi => ?_⟩
    have hi0 := hi
    obtain rfl : i = j := by rw [hr] at hi; simpa using hi
    simp only [wpTr] at h
    cases ho : ops[i]? with
    | none => rw [ho] at h; exact h.elim
    | some o =>
      rw [ho] at h
      exact wpOpIn_of_list ho (fun a' w' hh => ⟨hh.1, wpAnyC_tr Q hs hd0 t m _ a' w' (hd.set hi0) hh.1 hrest hh.2⟩) h
  | .two j t k u, m + 1, L, a, w, hd, hC, hB, h => by
    simp only [trB, Bool.and_eq_true, beq_iff_eq] at hB
    obtain ⟨⟨hr, hrest⟩, hrest2⟩ := hB
    refine ⟨fun h0 => (by rw [hr] at h0; cases h0), fun i hi => ?_⟩
    have hi0 := hi
    simp only [wpTr] at h
    rw [hr] at hi
    simp at hi
    rcases hi with rfl | rfl
    · cases ho : ops[i]? with
      | none => rw [ho] at h; exact h.1.elim
      | some o =>
        rw [ho] at h
        exact wpOpIn_of_list ho (fun a' w' hh => ⟨hh.1, wpAnyC_tr Q hs hd0 t m _ a' w' (hd.set hi0) hh.1 hrest hh.2⟩) h.1
    · cases ho : ops[i]? with
      | none => rw [ho] at h; exact h.2.elim
      | some o =>
        rw [ho] at h
        exact wpOpIn_of_list ho (fun a' w' hh => ⟨hh.1, wpAnyC_tr Q hs hd0 u m _ a' w' (hd.set hi0) hh.1 hrest2 hh.2⟩) h.2

/-- **Stage by stage, where two may come first.** -/
theorem wpIn_region_tr {id : Nat} {Q : Exit → Act → World → Prop} {a : Act} {w : World} {l : List Oper} (t : Tr) (C : World → Prop) (hm : P.follows .mixedOrders = true)
    (hB : (Region.noSelect l.toArray && noDefer l.toArray && trB .any l.toArray t l.length (Array.replicate l.length false)) = true)
    (hC : C w.drew)
    (h : wpTr F n P l.toArray C (fun a w => Q .normal a w) t a w.drew) : (Code.region id l.toArray true).wpIn F n P Q a w := by
  simp only [Bool.and_eq_true] at hB
  obtain ⟨⟨hs, hd0⟩, hq⟩ := hB
  refine wpIn_mono (wpIn_region_any (Q := Exit.then (fun a w => Q .normal a w) (fun _ _ _ => False)) hm ?_) ?_
  · refine wpAnyIn_of_C (Cs := fun _ => C) (loud := []) _ _ _ _ ?_
    have hdn : Dn .any l.toArray (Array.replicate l.length false) := by simpa using dn_start (md := .any) (ops := l.toArray)
    exact wpAnyC_tr _ hs hd0 t l.length _ a _ hdn hC hq h
  · rintro e a' w' hh
    cases e with
    | normal => exact hh
    | _ => exact hh.elim
theorem wpTr_q {Q : Act → World → Prop} {i : Nat} {t : Tr} {o : Oper} {a : Act} {w : World} {v : Value} (ho : ops[i]? = some o) (hd : ∀ c, o.op ≠ .defer c) (ha : ∀ w, o.about P w a.eval = none) (hg : Region.wanted o (yielded ops a.tmps) = true)
    (hv : ∀ w, C w → (execOp a.eval o).run P w = .ok (.value v) w) (h : wpTr F n P ops C Q t (a.put o.dst v) w) : wpTr F n P ops C Q (.q i t) a w := by
  simp only [wpTr]
  rw [ho]
  exact ⟨v, ⟨hd, fun w _ f hf => (by rw [ha w] at hf; cases hf), .inl ⟨hg, hv⟩⟩, h⟩
theorem wpTr_off {Q : Act → World → Prop} {i : Nat} {t : Tr} {o : Oper} {a : Act} {w : World} (ho : ops[i]? = some o) (hd : ∀ c, o.op ≠ .defer c) (ha : ∀ w, o.about P w a.eval = none) (hg : Region.wanted o (yielded ops a.tmps) = false)
    (h : wpTr F n P ops C Q t (a.put o.dst undef) w) : wpTr F n P ops C Q (.q i t) a w := by
  simp only [wpTr]
  rw [ho]
  exact ⟨undef, ⟨hd, fun w _ f hf => (by rw [ha w] at hf; cases hf), .inr ⟨hg, rfl⟩⟩, h⟩
theorem wpTr_l {Q : Act → World → Prop} {j : Nat} {t : Tr} {o : Oper} {a : Act} {w : World} (ho : ops[j]? = some o) (h : wpListIn F n P ops (Exit.then (fun a' w' => C w' ∧ wpTr F n P ops C Q t a' w') (fun _ _ _ => False)) [o] a w) : wpTr F n P ops C Q (.l j t) a w := by
  simp only [wpTr]
  rw [ho]
  exact h
theorem wpTr_two {Q : Act → World → Prop} {j k : Nat} {t u : Tr} {o o2 : Oper} {a : Act} {w : World} (ho : ops[j]? = some o) (ho2 : ops[k]? = some o2) (h : wpListIn F n P ops (Exit.then (fun a' w' => C w' ∧ wpTr F n P ops C Q t a' w') (fun _ _ _ => False)) [o] a w)
    (h2 : wpListIn F n P ops (Exit.then (fun a' w' => C w' ∧ wpTr F n P ops C Q u a' w') (fun _ _ _ => False)) [o2] a w) : wpTr F n P ops C Q (.two j t k u) a w := by
  simp only [wpTr]
  rw [ho, ho2]
  exact ⟨h, h2⟩
theorem wpTr_nil {Q : Act → World → Prop} {a : Act} {w : World} (h : Q a w) : wpTr F n P ops C Q .nil a w := h
end
end Go.Proofs.Ythminmcdkcnkpaa
