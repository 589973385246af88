/- A region that draws its order: what only reads is walked once, whatever the order; behind it comes what waits for all of it, in the text's order. -/
import Derived.Sort.QuietThIn
import Derived.TacticsIn
namespace Go.Proofs.Ythminmcdkcnkpaa
section
variable {F : Fence} {n : Nat} {P : Program} {ops : Array Oper} {md : Region.Mode} {C : World → Prop}

/-- How many of the first k are not listed yet. -/
def cnt (L : Array Bool) : Nat → Nat
  | 0 => 0
  | k + 1 => cnt L k + (if L.getD k true = true then 0 else 1)
theorem cnt_other {L : Array Bool} {i : Nat} : ∀ k, k ≤ i → cnt (L.setIfInBounds i true) k = cnt L k
  | 0, _ => rfl
  | k + 1, h => by simp only [cnt]; rw [cnt_other k (by omega), getD_set_ne true (by omega)]
theorem cnt_set {L : Array Bool} {i : Nat} (hu : L.getD i true = false) : ∀ k, i < k → cnt (L.setIfInBounds i true) k + 1 = cnt L k
  | 0, h => by omega
  | k + 1, h => by
    simp only [cnt]
    by_cases hik : i = k
    · subst hik
      rw [cnt_other i (Nat.le_refl _), hu]
      have hlt : i < L.size := by
        rcases Nat.lt_or_ge i L.size with h' | h'
        · exact h'
        · simp [Array.getElem?_eq_none h'] at hu
      simp [hlt]
    · rw [getD_set_ne true hik]
      have := cnt_set hu k (by omega)
      omega
theorem cnt_pos {L : Array Bool} {i : Nat} (hu : L.getD i true = false) : ∀ k, i < k → 0 < cnt L k
  | 0, h => by omega
  | k + 1, h => by
    simp only [cnt]
    by_cases hik : i = k
    · subst hik; rw [hu]; simp
    · have := cnt_pos hu k (by omega); omega

/-- What is listed waits for nothing that is not. -/
def Dn (md : Region.Mode) (ops : Array Oper) (L : Array Bool) : Prop :=
  L.size = ops.size ∧ ∀ m o, ops[m]? = some o → L.getD m true = true → ∀ e ∈ o.after, Region.binds md e = true → L.getD e.on false = true
theorem Dn.set {L : Array Bool} {i : Nat} (h : Dn md ops L) (hi : i ∈ Region.ready md ops L) : Dn md ops (L.setIfInBounds i true) := by
  refine ⟨by simp [h.1], fun m o ho hm e he hb => ?_⟩
  by_cases hmi : i = m
  · subst hmi
    obtain ⟨_, o', ho', hall⟩ := mem_ready.1 hi
    rw [ho] at ho'; cases ho'
    exact getD_set_true (hall e he hb)
  · rw [getD_set_ne true hmi] at hm
    exact getD_set_true (h.2 m o ho hm e he hb)

/-- Each of the first k has one behind it, up to k, that waits for it; each behind k waits for one from k on. -/
structure Cuts (md : Region.Mode) (ops : Array Oper) (k : Nat) : Prop where
  fore : ∀ i, i < k → ∃ m o, i < m ∧ m ≤ k ∧ ops[m]? = some o ∧ ∃ e ∈ o.after, Region.binds md e = true ∧ e.on = i
  aft : ∀ m, k < m → ∀ o, ops[m]? = some o → ∃ e ∈ o.after, Region.binds md e = true ∧ k ≤ e.on ∧ e.on < m

theorem Cuts.guard {k : Nat} (hc : Cuts md ops k) {L : Array Bool} (hd : Dn md ops L) {i j : Nat} (hj : j ∈ Region.ready md ops L) (hi : i < k) (hu : L.getD i true = false) : j < k := by
  refine Decidable.byContradiction fun hjk => ?_
  have inb : ∀ m, L.getD m false = true → ∃ o, ops[m]? = some o ∧ ∀ e ∈ o.after, Region.binds md e = true → L.getD e.on false = true := fun m hm => by
    have hlt : m < L.size := by
      rcases Nat.lt_or_ge m L.size with h' | h'
      · exact h'
      · simp [Array.getElem?_eq_none h'] at hm
    refine ⟨_, Array.getElem?_eq_getElem (by rw [← hd.1]; exact hlt), hd.2 m _ (Array.getElem?_eq_getElem (by rw [← hd.1]; exact hlt)) ?_⟩
    simp [hlt] at hm ⊢; exact hm
  have hK : ∀ d j, j ≤ k + d → k ≤ j → (∃ o, ops[j]? = some o ∧ ∀ e ∈ o.after, Region.binds md e = true → L.getD e.on false = true) → ∃ o, ops[k]? = some o ∧ ∀ e ∈ o.after, Region.binds md e = true → L.getD e.on false = true := by
    intro d
    induction d with
    | zero => intro j h1 h2 h; obtain rfl : j = k := by omega
              exact h
    | succ d ih =>
      intro j h1 h2 h
      by_cases hjk : j = k
      · subst hjk; exact h
      · obtain ⟨o, ho, hall⟩ := h
        obtain ⟨e, he, hb, h3, h4⟩ := hc.aft j (by omega) o ho
        exact ih e.on (by omega) h3 (inb _ (hall e he hb))
  have hk := hK (j - k) j (by omega) (by omega) (mem_ready.1 hj).2
  have hall : ∀ d i, k - i ≤ d → i < k → L.getD i false = true := by
    intro d
    induction d with
    | zero => intro i h1 h2; omega
    | succ d ih =>
      intro i h1 h2
      obtain ⟨m, o, h3, h4, ho, e, he, hb, rfl⟩ := hc.fore i h2
      by_cases hm : m = k
      · subst hm
        obtain ⟨o', ho', h5⟩ := hk
        rw [ho] at ho'; cases ho'
        exact h5 e he hb
      · obtain ⟨o', ho', h5⟩ := inb m (ih m (by omega) (by omega))
        rw [ho] at ho'; cases ho'
        exact h5 e he hb
  have := hall (k - i) i (Nat.le_refl _) hi
  rcases Nat.lt_or_ge i L.size with h' | h'
  · simp [h'] at this hu; rw [hu] at this; cases this
  · simp [Array.getElem?_eq_none h'] at this

/-- So many operations, whatever order is picked. -/
def wpCutIn (F : Fence) (n : Nat) (P : Program) (md : Region.Mode) (ops : Array Oper) (C : World → Prop) (Q : Array Bool → Act → Prop) : Nat → Array Bool → Act → Prop
  | 0, L, a => Q L a
  | fuel + 1, L, a => Region.ready md ops L ≠ [] ∧ ∀ i ∈ Region.ready md ops L, qOpIn F n P ops C i (wpCutIn F n P md ops C Q fuel (L.setIfInBounds i true)) a

theorem wpAnyIn_of_cut {Q : Array Bool → Act → Prop} {Q' : Exit → Act → World → Prop} (t : Nat) (hro : F.round = none) (hQ : ∀ L a w, C w → Q L a → wpAnyIn F n P md ops Q' t L a w) : ∀ (fuel : Nat) (L : Array Bool) (a : Act) (w : World), C w →
    wpCutIn F n P md ops C Q fuel L a → wpAnyIn F n P md ops Q' (t + fuel) L a w
  | 0, _, _, _, hw, h => hQ _ _ _ hw h
  | fuel + 1, _, _, _, hw, h => ⟨fun h0 => absurd h0 h.1, fun i hi => wpOpIn_of_qOpIn hro hw (fun a' w' hw' => wpAnyIn_of_cut t hro hQ fuel _ a' w' hw') (h.2 i hi)⟩

theorem wpCutIn_first {k : Nat} (hc : Cuts md ops k) {Q : Array Bool → Act → Prop} {i : Nat} {oi : Oper} {v : Value} (hi : ops[i]? = some oi) (hik : i < k) (hsel : ∀ (j : Nat) (o : Oper) cs b, ops[j]? = some o → o.op ≠ .select cs b) :
    ∀ (fuel : Nat) (listed : Array Bool) (a : Act), Dn md ops listed → cnt listed k = fuel + 1 →
      (∀ j oj, ops[j]? = some oj → j ≠ i → listed.getD j true = false → (∀ e ∈ oj.after, Region.binds md e = true → e.on ≠ i) → oi.apart ops oj = true) →
      i ∈ Region.ready md ops listed → YieldsQuiet F n P ops C oi v a →
      wpCutIn F n P md ops C Q fuel (listed.setIfInBounds i true) (a.put oi.dst v) → wpCutIn F n P md ops C Q (fuel + 1) listed a := by
  intro fuel
  induction fuel with
  | zero =>
    intro listed a hd hn _ hr hy H
    refine ⟨fun h => (by rw [h] at hr; cases hr), fun j hj => ?_⟩
    by_cases hji : j = i
    · subst hji; exact hy.qOpIn hi H
    · have hu := (mem_ready.1 hr).1
      have hjk := hc.guard hd hj hik hu
      have h1 := cnt_set hu k hik
      have h2 := cnt_pos (L := listed.setIfInBounds i true) (i := j) (by rw [getD_set_ne true (Ne.symm hji)]; exact (mem_ready.1 hj).1) k hjk
      omega
  | succ fuel ih =>
    intro listed a hd hn hfree hr hy H
    refine ⟨fun h => (by rw [h] at hr; cases hr), fun j hj => ?_⟩
    by_cases hji : j = i
    · subst hji; exact hy.qOpIn hi H
    · have hu := (mem_ready.1 hr).1
      have hjk := hc.guard hd hj hik hu
      have h1 := H.2 j (ready_mono hj hji)
      obtain ⟨hjun, oj, hoj, hall⟩ := mem_ready.1 hj
      have hnot : ∀ e ∈ oj.after, Region.binds md e = true → e.on ≠ i := fun e he hb heq => by
        have h1 := hall e he hb
        have h0 := (mem_ready.1 hr).1
        rw [heq] at h1
        rcases Nat.lt_or_ge i listed.size with h' | h'
        · simp [h'] at h0 h1; rw [h0] at h1; cases h1
        · simp [Array.getElem?_eq_none h'] at h1
      have h2 := qOpIn_put hoj (hfree j oj hoj hji hjun hnot) (fun cs b => hsel i oi cs b hi) (fun cs b => hsel j oj cs b hoj) hy h1
      have hfree' : ∀ k ok, ops[k]? = some ok → k ≠ i → (listed.setIfInBounds j true).getD k true = false →
          (∀ e ∈ ok.after, Region.binds md e = true → e.on ≠ i) → oi.apart ops ok = true := fun k ok hk hki hun hno => by
        refine hfree k ok hk hki ?_ hno
        by_cases hjk : j = k
        · subst hjk; exact hjun
        · rw [getD_set_ne true hjk] at hun; exact hun
      have hcn := cnt_set hjun k hjk
      refine qOpIn_mono (fun a' h3 => ih (listed.setIfInBounds j true) a' (hd.set hj) (by omega) hfree' (ready_mono hr (Ne.symm hji)) h3.1 ?_) h2
      rw [Array.setIfInBounds_comm _ _ hji]
      exact h3.2

/-- The places from k on are listed, m of them. -/
def marked : Nat → Nat → Array Bool → Array Bool
  | 0, _, L => L
  | m + 1, k, L => marked m (k + 1) (L.setIfInBounds k true)
def lexN (md : Region.Mode) (ops : Array Oper) : Nat → Nat → Array Bool → Bool
  | 0, _, _ => true
  | fuel + 1, k, listed => (Region.ready md ops listed).contains k && Region.free md ops listed k && lexN md ops fuel (k + 1) (listed.setIfInBounds k true)

theorem wpCutIn_lex {kk : Nat} (hc : Cuts md ops kk) {Q : Array Bool → Act → Prop} (hs : Region.noSelect ops = true) : ∀ (l : List Oper) (k : Nat) (listed : Array Bool) (a : Act), k + l.length = kk → (∀ j, j < l.length → l[j]? = ops[k + j]?) →
    Dn md ops listed → cnt listed kk = l.length → lexN md ops l.length k listed = true → wpQuietIn F n P ops C (fun a' => Q (marked l.length k listed) a') l a → wpCutIn F n P md ops C Q l.length listed a
  | [], _, _, _, _, _, _, _, _, h => h
  | o :: l, k, listed, a, hlen, hl, hd, hcn, hB, h => by
    have h0 : ops[k]? = some o := by simpa using (hl 0 (by simp)).symm
    simp only [List.length_cons, lexN, Bool.and_eq_true] at hB hlen hcn
    obtain ⟨⟨hr, hf⟩, hB'⟩ := hB
    have hr' : k ∈ Region.ready md ops listed := by simpa using hr
    have hst : qOpIn F n P ops C k (wpQuietIn F n P ops C (fun a' => Q (marked (l.length + 1) k listed) a') l) a := by unfold qOpIn; simp only [h0]; exact h
    obtain ⟨v, hy, hK⟩ := yieldsQuiet_of_qOpIn h0 hst
    have hcs := cnt_set (mem_ready.1 hr').1 kk (by omega)
    exact wpCutIn_first hc h0 (by omega) (Region.noSelect_spec hs) l.length listed a hd hcn (Region.free_spec h0 hf) hr' hy
      (wpCutIn_lex hc hs l (k + 1) _ _ (by omega) (fun j hj => by have := hl (j + 1) (by simpa using hj); simpa [Nat.add_assoc, Nat.add_comm 1 j] using this) (hd.set hr') (by omega) hB' hK)

def tailB (md : Region.Mode) (ops : Array Oper) : Nat → Nat → Array Bool → Bool
  | 0, _, L => (Region.ready md ops L).isEmpty
  | m + 1, k, L => (Region.ready md ops L == [k]) && tailB md ops m (k + 1) (L.setIfInBounds k true)

theorem wpAnyIn_tail {Q : Exit → Act → World → Prop} : ∀ (l : List Oper) (k : Nat) (L : Array Bool) (a : Act) (w : World), (∀ j, j < l.length → l[j]? = ops[k + j]?) → tailB md ops l.length k L = true → wpListIn F n P ops Q l a w → wpAnyIn F n P md ops Q l.length L a w
  | [], _, _, _, _, _, hB, h => ⟨by simpa [tailB] using hB, h⟩
  | o :: l, k, L, a, w, hl, hB, h => by
    have h0 : ops[k]? = some o := by simpa using (hl 0 (by simp)).symm
    simp only [List.length_cons, tailB, Bool.and_eq_true, beq_iff_eq] at hB
    refine wpAnyIn_all hB.1 (by simp) fun i hi => ?_
    obtain rfl : i = k := by simpa using hi
    have ih := fun a w => wpAnyIn_tail (Q := Q) l (i + 1) (L.setIfInBounds i true) a w (fun j hj => by have := hl (j + 1) (by simpa using hj); simpa [Nat.add_assoc, Nat.add_comm 1 j] using this) hB.2
    refine wpOpIn_mono ih ?_
    unfold wpOpIn
    simp only [h0]
    exact h

/-- All that is looked at by computing. -/
def cutB (md : Region.Mode) (ops : Array Oper) (k t : Nat) : Bool :=
  Region.noSelect ops && lexN md ops k 0 (Array.replicate ops.size false) && tailB md ops t k (marked k 0 (Array.replicate ops.size false)) &&
  ((List.range k).all fun i => (List.range (k + 1)).any fun m => decide (i < m) && match ops[m]? with | some o => o.after.any (fun e => Region.binds md e && e.on == i) | none => false) &&
  ((List.range ops.size).all fun m => decide (m ≤ k) || match ops[m]? with | some o => o.after.any (fun e => Region.binds md e && (decide (k ≤ e.on) && decide (e.on < m))) | none => true)

theorem cuts_of {k t : Nat} (h : cutB md ops k t = true) : Cuts md ops k := by
  simp only [cutB, Bool.and_eq_true, List.all_eq_true, List.mem_range, List.any_eq_true, decide_eq_true_eq, Bool.or_eq_true] at h
  obtain ⟨⟨_, h1⟩, h2⟩ := h
  refine ⟨fun i hi => ?_, fun m hm o ho => ?_⟩
  · obtain ⟨m, hm, him, hh⟩ := h1 i hi
    cases ho : ops[m]? with
    | none => rw [ho] at hh; cases hh
    | some o =>
      rw [ho] at hh
      obtain ⟨e, he, hb⟩ := Array.any_eq_true'.1 hh
      simp only [Bool.and_eq_true, beq_iff_eq] at hb
      exact ⟨m, o, him, by omega, ho, e, he, hb.1, hb.2⟩
  · have hlt := (Array.getElem?_eq_some_iff.1 ho).1
    have hh := (h2 m hlt).resolve_left (by omega)
    rw [ho] at hh
    obtain ⟨e, he, hb⟩ := Array.any_eq_true'.1 hh
    simp only [Bool.and_eq_true, decide_eq_true_eq] at hb
    exact ⟨e, he, hb.1, hb.2.1, hb.2.2⟩

theorem dn_start : Dn md ops (Array.replicate ops.size false) := ⟨by simp, fun m o ho hm => by
  have hlt := (Array.getElem?_eq_some_iff.1 ho).1
  simp [hlt] at hm⟩
theorem cnt_start (s : Nat) : ∀ k, k ≤ s → cnt (Array.replicate s false) k = k
  | 0, _ => rfl
  | k + 1, h => by simp only [cnt]; rw [cnt_start s k (by omega)]; simp [show k < s by omega]

/-- **What only reads, once; then the rest, in the text's order.** -/
theorem wpIn_region_quiet_then {id : Nat} {Q : Exit → Act → World → Prop} {a : Act} {w : World} (pre tail : List Oper) {l : List Oper} (hl : l = pre ++ tail) (hro : F.round = none) (hm : P.follows .mixedOrders = true) (hB : cutB .any l.toArray pre.length tail.length = true)
    (hC : C { w with drawn := w.drawn + 1 })
    (h : wpQuietIn F n P l.toArray C (fun a' => ∀ w', C w' → wpListIn F n P l.toArray Q tail a' w') pre a) : (Code.region id l.toArray true).wpIn F n P Q a w := by
  subst hl
  have hcu := cuts_of hB
  simp only [cutB, Bool.and_eq_true] at hB
  obtain ⟨⟨⟨⟨hs, hlex⟩, htl⟩, _⟩, _⟩ := hB
  have hsz : (pre ++ tail).toArray.size = tail.length + pre.length := by simp; omega
  refine wpIn_region_any hm ?_
  have h1 := wpCutIn_lex (F := F) (n := n) (P := P) (C := C) (md := .any) hcu (Q := fun L a' => L = marked pre.length 0 (Array.replicate (pre ++ tail).toArray.size false) ∧ ∀ w', C w' → wpListIn F n P (pre ++ tail).toArray Q tail a' w') hs pre 0 (Array.replicate (pre ++ tail).toArray.size false) a (by simp)
    (fun j hj => by simp [List.getElem?_append_left hj]) dn_start (cnt_start _ _ (by simp)) hlex (by simpa using h)
  have h2 := wpAnyIn_of_cut (Q' := Q) tail.length hro (fun L a' w' hw' hh => by
    obtain ⟨rfl, hh⟩ := hh
    exact wpAnyIn_tail tail pre.length _ a' w' (fun j _ => by simp [List.getElem?_append_right]) htl (hh w' hw')) pre.length _ a _ hC h1
  rw [hsz] at h2 ⊢
  exact h2
theorem wpIn_region_quiet_upto {id : Nat} {Q : Exit → Act → World → Prop} {a : Act} {w : World} (k : Nat) {l : List Oper} (hro : F.round = none) (hm : P.follows .mixedOrders = true) (hk : k ≤ l.length) (hB : cutB .any l.toArray k (l.length - k) = true)
    (hC : C { w with drawn := w.drawn + 1 })
    (h : wpQuietIn F n P l.toArray C (fun a' => ∀ w', C w' → wpListIn F n P l.toArray Q (l.drop k) a' w') (l.take k) a) : (Code.region id l.toArray true).wpIn F n P Q a w :=
  wpIn_region_quiet_then (l.take k) (l.drop k) (List.take_append_drop k l).symm hro hm (by rw [List.length_take, List.length_drop, Nat.min_eq_left hk]; exact hB) hC h
end
end Go.Proofs.Ythminmcdkcnkpaa
