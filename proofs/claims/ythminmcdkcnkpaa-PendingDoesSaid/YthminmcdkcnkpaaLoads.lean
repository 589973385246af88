/- A region that draws its order: what only loads goes first, whenever it comes; what does more comes one behind the other. -/
import Derived.Test.YthminmcdkcnkpaaCut
namespace Go.Proofs.Ythminmcdkcnkpaa
section
variable {F : Fence} {n : Nat} {P : Program} {ops : Array Oper} {md : Region.Mode} {Cs : Nat → World → Prop} {loud : List Nat} {Q : Exit → Act → World → Prop}

theorem semAt_any (o : Oper) (h : ∀ c, o.op ≠ .defer c) (ρ : Operand → Value) : Oper.semAt F.round ρ o = execOp ρ o := by
  cases F.round with
  | none => rfl
  | some l => exact Oper.semAt_some l _ _ h

/-- How many of the loud ones are listed. -/
def loudCnt : List Nat → Array Bool → Nat
  | [], _ => 0
  | j :: rest, L => if L.getD j false = true then loudCnt rest L + 1 else 0
theorem loudCnt_other {i : Nat} {L : Array Bool} : ∀ {loud : List Nat}, i ∉ loud → loudCnt loud (L.setIfInBounds i true) = loudCnt loud L
  | [], _ => rfl
  | j :: rest, h => by
    simp only [List.mem_cons, not_or] at h
    simp only [loudCnt]
    rw [getD_set_ne false h.1, loudCnt_other h.2]
theorem loudCnt_le {L : Array Bool} : ∀ {loud : List Nat} {m j : Nat}, loud[m]? = some j → L.getD j false = false → loudCnt loud L ≤ m
  | [], m, j, h, _ => by simp at h
  | j' :: rest, 0, j, h, hl => by
    simp only [List.getElem?_cons_zero, Option.some.injEq] at h
    subst h
    simp only [loudCnt]; rw [hl]; simp
  | j' :: rest, m + 1, j, h, hl => by
    simp only [loudCnt]
    split
    · have := loudCnt_le (loud := rest) (m := m) (j := j) (by simpa using h) hl; omega
    · omega

/-- Whatever order is picked, and what is known of the world all the while. -/
def wpAnyC (F : Fence) (n : Nat) (P : Program) (md : Region.Mode) (ops : Array Oper) (Cs : Nat → World → Prop) (loud : List Nat) (Q : Exit → Act → World → Prop) : Nat → Array Bool → Act → World → Prop
  | 0, L, a, w => Region.ready md ops L = [] ∧ Q .normal a w
  | fuel + 1, L, a, w => (Region.ready md ops L = [] → Q .normal a w) ∧
    ∀ i ∈ Region.ready md ops L, wpOpIn F n P ops Q i (fun a' w' => Cs (loudCnt loud (L.setIfInBounds i true)) w' ∧ wpAnyC F n P md ops Cs loud Q fuel (L.setIfInBounds i true) a' w') a w
theorem wpAnyIn_of_C : ∀ (fuel : Nat) (L : Array Bool) (a : Act) (w : World), wpAnyC F n P md ops Cs loud Q fuel L a w → wpAnyIn F n P md ops Q fuel L a w
  | 0, _, _, _, h => h
  | fuel + 1, _, _, _, h => ⟨h.1, fun i hi => wpOpIn_mono (fun a' w' h' => wpAnyIn_of_C fuel _ a' w' h'.2) (h.2 i hi)⟩

/-- One value, in every world of the class. -/
structure YQ (F : Fence) (P : Program) (ops : Array Oper) (Ci : World → Prop) (o : Oper) (v : Value) (a : Act) : Prop where
  nodef : ∀ c, o.op ≠ .defer c
  asked : ∀ w, Ci w → ∀ f, o.about P w a.eval = some f → F.fn f
  val : (Region.wanted o (yielded ops a.tmps) = true ∧ ∀ w, Ci w → (execOp a.eval o).run P w = .ok (.value v) w) ∨ (Region.wanted o (yielded ops a.tmps) = false ∧ v = undef)

variable {Ci : World → Prop}
theorem YQ.wpOpIn {i : Nat} {o : Oper} {v : Value} {a : Act} {w : World} (hi : ops[i]? = some o) (hw : Ci w) (hy : YQ F P ops Ci o v a) {K : Act → World → Prop} (h : K (a.put o.dst v) w) : wpOpIn F n P ops Q i K a w := by
  unfold Go.wpOpIn
  simp only [hi]
  rcases hy.val with ⟨hw', hv⟩ | ⟨hw', rfl⟩
  · simp only [hw', if_true, Oper.wpIn, semAt_any _ hy.nodef, hv w hw, Oper.uponIn]; exact ⟨hy.asked w hw, h⟩
  · simp only [hw', Bool.false_eq_true, if_false]; exact ⟨hy.asked w hw, h⟩
theorem YQ.of_same {o : Oper} {v : Value} {a a' : Act} (hy : YQ F P ops Ci o v a) (he : execOp a'.eval o = execOp a.eval o)
    (hw : Region.wanted o (yielded ops a'.tmps) = Region.wanted o (yielded ops a.tmps)) (hb : ∀ w, o.about P w a'.eval = o.about P w a.eval) : YQ F P ops Ci o v a' :=
  ⟨hy.nodef, fun w hc f hf => hy.asked w hc f (by rw [← hb w]; exact hf), by rw [he, hw]; exact hy.val⟩

theorem wpOpIn_putC {j : Nat} {oi oj : Oper} {v : Value} (hnd : ∀ c, oj.op ≠ .defer c) (hj : ops[j]? = some oj) (hap : oi.apart ops oj = true)
    (hsi : ∀ cs b, oi.op ≠ .select cs b) (hsj : ∀ cs b, oj.op ≠ .select cs b)
    (hQ : ∀ c a a' w, Q (.panic c) a w → Q (.panic c) a' w) {K : Act → World → Prop} {a : Act} {w : World}
    (hy : YQ F P ops Ci oi v a) (h : wpOpIn F n P ops Q j K (a.put oi.dst v) w) :
    wpOpIn F n P ops Q j (fun a' w' => YQ F P ops Ci oi v a' ∧ K (a'.put oi.dst v) w') a w := by
  obtain ⟨h1, h2, h3⟩ := Oper.apart_spec hap
  have keep : ∀ (a : Act), YQ F P ops Ci oi v a → ∀ u, YQ F P ops Ci oi v (a.put oj.dst u) := fun a hy u =>
    hy.of_same (execOp_put oi hsi a oj.dst u h3) (wanted_put oi a oj.dst u h3) (fun w => about_put oi w a oj.dst u h3)
  have keepD : ∀ d, YQ F P ops Ci oi v { a with defers := d :: a.defers } := fun d => hy.of_same rfl rfl (fun _ => rfl)
  unfold wpOpIn at *
  simp only [hj] at *
  rw [wanted_put oj a oi.dst v h1, about_put oj w a oi.dst v h1] at h
  split
  · rename_i hw
    simp only [hw, if_true] at h
    unfold Oper.wpIn at *
    rw [about_put oj w a oi.dst v h1] at h
    refine ⟨h.1, ?_⟩
    have h := h.2
    rw [semAt_any oj hnd, execOp_put oj hsj a oi.dst v h1] at h
    rw [semAt_any oj hnd]
    generalize (execOp a.eval oj).run P w = r at *
    cases r with
    | ok x w' =>
      cases x <;> simp only [Oper.uponIn] at h ⊢
      case value u => exact ⟨keep a hy u, by rw [← Act.put_comm a v u h2]; exact h⟩
      case skip => exact ⟨keep a hy _, by rw [← Act.put_comm a v undef h2]; exact h⟩
      case defer d =>
        refine ⟨keep _ (keepD d) _, ?_⟩
        rw [← Act.put_comm _ v undef h2, ← Act.put_defers]
        exact h
      case enter f args =>
        refine ⟨h.1, CallsIn.mono h.2 fun e w'' he => ?_⟩
        cases e with
        | returned u => exact ⟨keep a hy u, by rw [← Act.put_comm a v u h2]; exact he⟩
        | panicked c => exact hQ _ _ _ _ he
        | outgrown => exact he
      case row row args => exact ⟨h.1, RowsIn.mono h.2 fun u w'' he => ⟨keep a hy u, by rw [← Act.put_comm a v u h2]; exact he⟩⟩
      case round l f tmps assign body =>
        refine ⟨h.1, RoundIn.mono h.2 fun e w'' he => ?_⟩
        cases e with
        | returned u => exact ⟨keep a hy u, by rw [← Act.put_comm a v u h2]; exact he⟩
        | panicked c => exact hQ _ _ _ _ he
        | outgrown => exact he
    | halt x w' =>
      cases x <;> simp only [Oper.uponIn] at h ⊢
      case panic u => exact hQ _ _ _ _ h
  · rename_i hw
    simp only [hw] at h
    exact ⟨h.1, keep a hy _, by rw [← Act.put_comm a v undef h2]; exact h.2⟩

theorem loudCnt_wait {i m jm : Nat} {om : Oper} (hjm : loud[m]? = some jm) (hom : ops[jm]? = some om) (hwt : ∃ e ∈ om.after, Region.binds md e = true ∧ e.on = i) :
    ∀ L, Dn md ops L → i ∈ Region.ready md ops L → loudCnt loud L ≤ m := fun L hd hr => loudCnt_le hjm (by
    obtain ⟨e, he, hb, heq⟩ := hwt
    have h0 := (mem_ready.1 hr).1
    cases hl : L.getD jm false with
    | false => rfl
    | true =>
      have hlt : jm < L.size := by
        rcases Nat.lt_or_ge jm L.size with h' | h'
        · exact h'
        · simp [Array.getElem?_eq_none h'] at hl
      have h1 := hd.2 jm om hom (by simp [hlt] at hl ⊢; exact hl) e he hb
      rw [heq] at h1
      rcases Nat.lt_or_ge i L.size with h' | h'
      · simp [h'] at h0 h1; rw [h0] at h1; cases h1
      · simp [Array.getElem?_eq_none h'] at h1)

theorem wpAnyC_firstB {i m : Nat} {oi : Oper} {v : Value} (hi : ops[i]? = some oi) (hil : i ∉ loud) (hcl : ∀ L, Dn md ops L → i ∈ Region.ready md ops L → loudCnt loud L ≤ m)
    (hsel : ∀ (j : Nat) (o : Oper) cs b, ops[j]? = some o → o.op ≠ .select cs b) (hdef : ∀ (j : Nat) (o : Oper) c, ops[j]? = some o → o.op ≠ .defer c)
    (hQ : ∀ c a a' w, Q (.panic c) a w → Q (.panic c) a' w) :
    ∀ (fuel : Nat) (L : Array Bool) (a : Act) (w : World), Dn md ops L → Cs (loudCnt loud L) w →
      (∀ j oj, ops[j]? = some oj → j ≠ i → L.getD j true = false → (∀ e ∈ oj.after, Region.binds md e = true → e.on ≠ i) → oi.apart ops oj = true) →
      i ∈ Region.ready md ops L → YQ F P ops (fun w => ∃ c, c ≤ m ∧ Cs c w) oi v a →
      wpAnyC F n P md ops Cs loud Q fuel (L.setIfInBounds i true) (a.put oi.dst v) w → wpAnyC F n P md ops Cs loud Q (fuel + 1) L a w := by
  intro fuel
  induction fuel with
  | zero =>
    intro L a w hd hC _ hr hy H
    refine ⟨fun h => (by rw [h] at hr; cases hr), fun j hj => ?_⟩
    by_cases hji : j = i
    · subst hji; exact hy.wpOpIn hi ⟨_, hcl L hd hr, hC⟩ ⟨by rw [loudCnt_other hil]; exact hC, H⟩
    · have := ready_mono hj hji
      rw [H.1] at this
      cases this
  | succ fuel ih =>
    intro L a w hd hC hfree hr hy H
    refine ⟨fun h => (by rw [h] at hr; cases hr), fun j hj => ?_⟩
    by_cases hji : j = i
    · subst hji; exact hy.wpOpIn hi ⟨_, hcl L hd hr, hC⟩ ⟨by rw [loudCnt_other hil]; exact hC, H⟩
    · have h1 := H.2 j (ready_mono hj hji)
      obtain ⟨hjun, oj, hoj, hall⟩ := mem_ready.1 hj
      have hnot : ∀ e ∈ oj.after, Region.binds md e = true → e.on ≠ i := fun e he hb heq => by
        have h1 := hall e he hb
        have h0 := (mem_ready.1 hr).1
        rw [heq] at h1
        rcases Nat.lt_or_ge i L.size with h' | h'
        · simp [h'] at h0 h1; rw [h0] at h1; cases h1
        · simp [Array.getElem?_eq_none h'] at h1
      have h2 := wpOpIn_putC (fun c => hdef j oj c hoj) hoj (hfree j oj hoj hji hjun hnot) (fun cs b => hsel i oi cs b hi) (fun cs b => hsel j oj cs b hoj) hQ hy h1
      have hfree' : ∀ k ok, ops[k]? = some ok → k ≠ i → (L.setIfInBounds j true).getD k true = false →
          (∀ e ∈ ok.after, Region.binds md e = true → e.on ≠ i) → oi.apart ops ok = true := fun k ok hk hki hun hno => by
        refine hfree k ok hk hki ?_ hno
        by_cases hjk : j = k
        · subst hjk; exact hjun
        · rw [getD_set_ne true hjk] at hun; exact hun
      refine wpOpIn_mono (fun a' w' h3 => ?_) h2
      have hC' : Cs (loudCnt loud (L.setIfInBounds j true)) w' := by
        have := h3.2.1
        rwa [Array.setIfInBounds_comm _ _ (Ne.symm hji), loudCnt_other hil] at this
      refine ⟨hC', ih (L.setIfInBounds j true) a' w' (hd.set hj) hC' hfree' (ready_mono hr (Ne.symm hji)) h3.1 ?_⟩
      rw [Array.setIfInBounds_comm _ _ hji]
      exact h3.2.2

/-- The loads, one behind the other. -/
def wpQs (F : Fence) (P : Program) (ops : Array Oper) (Cs : Nat → World → Prop) (K : Act → Prop) : List (Nat × Nat) → Act → Prop
  | [], a => K a
  | (i, m) :: rest, a => match ops[i]? with | none => False | some o => ∃ v, YQ F P ops (fun w => ∃ c, c ≤ m ∧ Cs c w) o v a ∧ wpQs F P ops Cs K rest (a.put o.dst v)
def markQ : List (Nat × Nat) → Array Bool → Array Bool
  | [], L => L
  | (i, _) :: rest, L => markQ rest (L.setIfInBounds i true)
def quietsB (md : Region.Mode) (ops : Array Oper) (loud : List Nat) : List (Nat × Nat) → Array Bool → Bool
  | [], _ => true
  | (i, m) :: rest, L => (Region.ready md ops L).contains i && Region.free md ops L i && !loud.contains i &&
    (match loud[m]? with | none => false | some j => match ops[j]? with | none => false | some o => o.after.any (fun e => Region.binds md e && e.on == i)) && quietsB md ops loud rest (L.setIfInBounds i true)

def noDefer (ops : Array Oper) : Bool := ops.all fun o => match o.op with | .defer _ => false | _ => true
theorem noDefer_spec (h : noDefer ops = true) (j : Nat) (o : Oper) (c) (ho : ops[j]? = some o) : o.op ≠ .defer c := by
  intro e
  have := (Array.all_eq_true'.1 h) o (Array.mem_of_getElem? ho)
  rw [e] at this
  cases this

theorem wpAnyC_qs (hs : Region.noSelect ops = true) (hd0 : noDefer ops = true) (hQ : ∀ c a a' w, Q (.panic c) a w → Q (.panic c) a' w) (fuel : Nat) :
    ∀ (qs : List (Nat × Nat)) (L : Array Bool) (a : Act) (w : World), Dn md ops L → Cs (loudCnt loud L) w → quietsB md ops loud qs L = true →
      wpQs F P ops Cs (fun a' => wpAnyC F n P md ops Cs loud Q fuel (markQ qs L) a' w) qs a → wpAnyC F n P md ops Cs loud Q (fuel + qs.length) L a w
  | [], _, _, _, _, _, _, h => h
  | (i, m) :: rest, L, a, w, hd, hC, hB, h => by
    simp only [quietsB, Bool.and_eq_true, Bool.not_eq_true'] at hB
    obtain ⟨⟨⟨⟨hr, hf⟩, hnl⟩, hm⟩, hrest⟩ := hB
    have hr' : i ∈ Region.ready md ops L := by simpa using hr
    simp only [wpQs] at h
    cases ho : ops[i]? with
    | none => rw [ho] at h; exact h.elim
    | some o =>
      rw [ho] at h
      obtain ⟨v, hy, h⟩ := h
      cases hlm : loud[m]? with
      | none => rw [hlm] at hm; cases hm
      | some j =>
        rw [hlm] at hm
        simp only at hm
        cases hoj : ops[j]? with
        | none => rw [hoj] at hm; cases hm
        | some om =>
          rw [hoj] at hm
          obtain ⟨e, he, hb⟩ := Array.any_eq_true'.1 hm
          simp only [Bool.and_eq_true, beq_iff_eq] at hb
          have hil : i ∉ loud := by simpa using hnl
          exact wpAnyC_firstB ho hil (loudCnt_wait hlm hoj ⟨e, he, hb.1, hb.2⟩) (Region.noSelect_spec hs) (noDefer_spec hd0) hQ (fuel + rest.length) L a w hd hC (Region.free_spec ho hf) hr' hy
            (wpAnyC_qs hs hd0 hQ fuel rest _ _ w (hd.set hr') (by rw [loudCnt_other hil]; exact hC) hrest h)

/-- The loud ones, each with what is known behind it. -/
def wpLoud (F : Fence) (n : Nat) (P : Program) (ops : Array Oper) (Cs : Nat → World → Prop) (Q : Exit → Act → World → Prop) : List Nat → Nat → Act → World → Prop
  | [], _, a, w => Q .normal a w
  | j :: rest, c, a, w => match ops[j]? with | none => False | some o => wpListIn F n P ops (Exit.then (fun a' w' => Cs (c + 1) w' ∧ wpLoud F n P ops Cs Q rest (c + 1) a' w') (fun _ _ _ => False)) [o] a w
def loudsB (md : Region.Mode) (ops : Array Oper) (loud : List Nat) : List Nat → Nat → Array Bool → Bool
  | [], _, L => (Region.ready md ops L).isEmpty
  | j :: rest, c, L => (Region.ready md ops L == [j]) && (loudCnt loud (L.setIfInBounds j true) == c + 1) && loudsB md ops loud rest (c + 1) (L.setIfInBounds j true)

theorem wpAnyC_louds (Q : Act → World → Prop) : ∀ (ls : List Nat) (c : Nat) (L : Array Bool) (a : Act) (w : World), loudsB md ops loud ls c L = true → wpLoud F n P ops Cs (Exit.then Q (fun _ _ _ => False)) ls c a w → wpAnyC F n P md ops Cs loud (Exit.then Q (fun _ _ _ => False)) ls.length L a w
  | [], _, _, _, _, hB, h => ⟨by simpa [loudsB] using hB, h⟩
  | j :: rest, c, L, a, w, hB, h => by
    simp only [loudsB, Bool.and_eq_true, beq_iff_eq] at hB
    obtain ⟨⟨hr, hc⟩, hrest⟩ := hB
    refine ⟨fun h0 => (by rw [hr] at h0; cases h0), fun i hi => ?_⟩
    obtain rfl : i = j := by rw [hr] at hi; simpa using hi
    simp only [wpLoud] at h
    unfold wpOpIn
    cases ho : ops[i]? with
    | none => rw [ho] at h; exact h.elim
    | some o =>
      rw [ho] at h
      simp only [wpListIn] at h
      simp only
      split at h
      · rename_i hw
        simp only [hw, if_true]
        have h' := Oper.wpIn_mono (K' := fun a' w' => Cs (loudCnt loud (L.setIfInBounds i true)) w' ∧ wpAnyC F n P md ops Cs loud (Exit.then Q (fun _ _ _ => False)) rest.length (L.setIfInBounds i true) a' w') (fun a' w' hh => ⟨by rw [hc]; exact hh.1, wpAnyC_louds Q rest (c + 1) _ a' w' hrest hh.2⟩) h
        unfold Oper.wpIn at *
        refine ⟨h'.1, ?_⟩
        have h' := h'.2
        generalize (o.semAt F.round a.eval).run P w = r at *
        cases r with
        | ok x w' =>
          cases x
          case value u => exact h'
          case skip => exact h'
          case defer d => exact h'
          case enter f args => exact ⟨h'.1, CallsIn.mono h'.2 fun e w'' he => by cases e <;> exact he⟩
          case row row args => exact h'
          case round l f tmps assign body => exact ⟨h'.1, RoundIn.mono h'.2 fun e w'' he => by cases e <;> exact he⟩
          all_goals exact h'
        | halt x w' => cases x <;> exact h'
      · rename_i hw
        simp only [hw]
        exact ⟨h.1, by rw [hc]; exact h.2.1, wpAnyC_louds Q rest (c + 1) _ _ _ hrest h.2.2⟩

/-- **The loads first; then the others, one behind the other.** qs: each load, and which of the loud ones waits for it. -/
theorem wpIn_region_loads {id : Nat} {Q : Exit → Act → World → Prop} {a : Act} {w : World} {l : List Oper} (qs : List (Nat × Nat)) (loud : List Nat) (Cs : Nat → World → Prop) (hm : P.follows .mixedOrders = true)
    (hB : (Region.noSelect l.toArray && noDefer l.toArray && quietsB .any l.toArray loud qs (Array.replicate l.length false) && loudsB .any l.toArray loud loud 0 (markQ qs (Array.replicate l.length false)) && (loud.length + qs.length == l.length) && (loudCnt loud (Array.replicate l.length false) == 0)) = true)
    (hC : Cs 0 w.drew)
    (h : wpQs F P l.toArray Cs (fun a' => wpLoud F n P l.toArray Cs (Exit.then (fun a w => Q .normal a w) (fun _ _ _ => False)) loud 0 a' w.drew) qs a) : (Code.region id l.toArray true).wpIn F n P Q a w := by
  simp only [Bool.and_eq_true, beq_iff_eq] at hB
  obtain ⟨⟨⟨⟨⟨hs, hd0⟩, hq⟩, hl⟩, hsz⟩, hc0⟩ := hB
  refine wpIn_mono (wpIn_region_any (Q := Exit.then (fun a w => Q .normal a w) (fun _ _ _ => False)) hm ?_) ?_
  · have hsz' : l.toArray.size = loud.length + qs.length := by simp [hsz]
    rw [hsz']
    refine wpAnyIn_of_C (Cs := Cs) (loud := loud) _ _ _ _ ?_
    have h1 : Array.replicate (loud.length + qs.length) false = Array.replicate l.length false := by rw [hsz]
    rw [h1]
    have hdn : Dn .any l.toArray (Array.replicate l.length false) := by simpa using dn_start (md := .any) (ops := l.toArray)
    refine wpAnyC_qs hs hd0 (fun _ _ _ _ h => h.elim) loud.length qs _ a _ hdn (by rw [hc0]; exact hC) hq ?_
    have mono : ∀ (qs : List (Nat × Nat)) (K K' : Act → Prop) (a : Act), (∀ a, K a → K' a) → wpQs F P l.toArray Cs K qs a → wpQs F P l.toArray Cs K' qs a := by
      intro qs
      induction qs with
      | nil => intro K K' a hk h; exact hk a h
      | cons q qs ih =>
        intro K K' a hk h
        obtain ⟨i, m⟩ := q
        simp only [wpQs] at h ⊢
        cases ho : l.toArray[i]? with
        | none => rw [ho] at h; exact h
        | some o => rw [ho] at h; obtain ⟨v, hy, h⟩ := h; exact ⟨v, hy, ih _ _ _ hk h⟩
    exact mono qs _ _ a (fun a' h' => wpAnyC_louds _ loud 0 _ a' _ hl h') h
  · rintro e a' w' hh
    cases e with
    | normal => exact hh
    | _ => exact hh.elim

theorem loudCnt_all {L : Array Bool} : ∀ {loud : List Nat}, loudCnt loud L ≤ loud.length
  | [] => Nat.le_refl _
  | j :: rest => by
    simp only [loudCnt, List.length_cons]
    split
    · have := loudCnt_all (L := L) (loud := rest); omega
    · omega

/-- An operation that goes first whenever it comes, up to the m-th loud one; or a loud one. -/
inductive Stg where
  | q (i m : Nat)
  | l (j : Nat)
def stgB (md : Region.Mode) (ops : Array Oper) (loud : List Nat) : List Stg → Nat → Array Bool → Bool
  | [], _, L => (Region.ready md ops L).isEmpty
  | .q i m :: rest, c, L => (Region.ready md ops L).contains i && Region.free md ops L i && !loud.contains i &&
    (loud.length == m || (match loud[m]? with | none => false | some j => match ops[j]? with | none => false | some o => o.after.any (fun e => Region.binds md e && e.on == i))) && stgB md ops loud rest c (L.setIfInBounds i true)
  | .l j :: rest, c, L => (Region.ready md ops L == [j]) && (loudCnt loud (L.setIfInBounds j true) == c + 1) && stgB md ops loud rest (c + 1) (L.setIfInBounds j true)
def wpStg (F : Fence) (n : Nat) (P : Program) (ops : Array Oper) (Cs : Nat → World → Prop) (Q : Act → World → Prop) : List Stg → Nat → Act → World → Prop
  | [], _, a, w => Q a w
  | .q i m :: rest, c, a, w => match ops[i]? with | none => False | some o => ∃ v, YQ F P ops (fun w => ∃ c, c ≤ m ∧ Cs c w) o v a ∧ wpStg F n P ops Cs Q rest c (a.put o.dst v) w
  | .l j :: rest, c, a, w => match ops[j]? with | none => False | some o => wpListIn F n P ops (Exit.then (fun a' w' => Cs (c + 1) w' ∧ wpStg F n P ops Cs Q rest (c + 1) a' w') (fun _ _ _ => False)) [o] a w

theorem wpAnyC_stg (Q : Act → World → Prop) (hs : Region.noSelect ops = true) (hd0 : noDefer ops = true) :
    ∀ (st : List Stg) (c : Nat) (L : Array Bool) (a : Act) (w : World), Dn md ops L → Cs (loudCnt loud L) w → stgB md ops loud st c L = true →
      wpStg F n P ops Cs Q st c a w → wpAnyC F n P md ops Cs loud (Exit.then Q (fun _ _ _ => False)) st.length L a w
  | [], _, _, _, _, _, _, hB, h => ⟨by simpa [stgB] using hB, h⟩
  | .q i m :: rest, c, L, a, w, hd, hC, hB, h => by
    simp only [stgB, Bool.and_eq_true, Bool.not_eq_true', Bool.or_eq_true, beq_iff_eq] at hB
    obtain ⟨⟨⟨⟨hr, hf⟩, hnl⟩, hm⟩, hrest⟩ := hB
    have hr' : i ∈ Region.ready md ops L := by simpa using hr
    have hil : i ∉ loud := by simpa using hnl
    simp only [wpStg] at h
    cases ho : ops[i]? with
    | none => rw [ho] at h; exact h.elim
    | some o =>
      rw [ho] at h
      obtain ⟨v, hy, h⟩ := h
      have hnext := wpAnyC_stg Q hs hd0 rest c (L.setIfInBounds i true) (a.put o.dst v) w (hd.set hr') (by rw [loudCnt_other hil]; exact hC) hrest h
      refine wpAnyC_firstB ho hil ?_ (Region.noSelect_spec hs) (noDefer_spec hd0) (fun _ _ _ _ h => h.elim) rest.length L a w hd hC (Region.free_spec ho hf) hr' hy hnext
      intro L hd hr
      rcases hm with hm | hm
      · rw [← hm]; exact loudCnt_all
      · cases hlm : loud[m]? with
        | none => rw [hlm] at hm; cases hm
        | some j =>
          rw [hlm] at hm
          simp only at hm
          cases hoj : ops[j]? with
          | none => rw [hoj] at hm; cases hm
          | some om =>
            rw [hoj] at hm
            obtain ⟨e, he, hb⟩ := Array.any_eq_true'.1 hm
            simp only [Bool.and_eq_true, beq_iff_eq] at hb
            exact loudCnt_wait hlm hoj ⟨e, he, hb.1, hb.2⟩ L hd hr
  | .l j :: rest, c, L, a, w, hd, hC, hB, h => by
    simp only [stgB, Bool.and_eq_true, beq_iff_eq] at hB
    obtain ⟨⟨hr, hc⟩, hrest⟩ := hB
    refine ⟨fun h0 => (by rw [hr] at h0; cases h0), fun i hi => ?_⟩
    have hi0 := hi
    obtain rfl : i = j := by rw [hr] at hi; simpa using hi
    simp only [wpStg] at h
    unfold wpOpIn
    cases ho : ops[i]? with
    | none => rw [ho] at h; exact h.elim
    | some o =>
      rw [ho] at h
      simp only [wpListIn] at h
      simp only
      split at h
      · rename_i hw
        simp only [hw, if_true]
        have h' := Oper.wpIn_mono (K' := fun a' w' => Cs (loudCnt loud (L.setIfInBounds i true)) w' ∧ wpAnyC F n P md ops Cs loud (Exit.then Q (fun _ _ _ => False)) rest.length (L.setIfInBounds i true) a' w') (fun a' w' hh => ⟨by rw [hc]; exact hh.1, wpAnyC_stg Q hs hd0 rest (c + 1) _ a' w' (hd.set hi0) (by rw [hc]; exact hh.1) hrest hh.2⟩) h
        unfold Oper.wpIn at *
        refine ⟨h'.1, ?_⟩
        have h' := h'.2
        generalize (o.semAt F.round a.eval).run P w = r at *
        cases r with
        | ok x w' =>
          cases x
          case value u => exact h'
          case skip => exact h'
          case defer d => exact h'
          case enter f args => exact ⟨h'.1, CallsIn.mono h'.2 fun e w'' he => by cases e <;> exact he⟩
          case row row args => exact h'
          case round l f tmps assign body => exact ⟨h'.1, RoundIn.mono h'.2 fun e w'' he => by cases e <;> exact he⟩
          all_goals exact h'
        | halt x w' => cases x <;> exact h'
      · rename_i hw
        simp only [hw]
        exact ⟨h.1, by rw [hc]; exact h.2.1, wpAnyC_stg Q hs hd0 rest (c + 1) _ _ _ (hd.set hi0) (by rw [hc]; exact h.2.1) hrest h.2.2⟩

/-- **Stage by stage.** -/
theorem wpIn_region_stg {id : Nat} {Q : Exit → Act → World → Prop} {a : Act} {w : World} {l : List Oper} (st : List Stg) (loud : List Nat) (Cs : Nat → World → Prop) (hm : P.follows .mixedOrders = true)
    (hB : (Region.noSelect l.toArray && noDefer l.toArray && stgB .any l.toArray loud st 0 (Array.replicate l.length false) && (st.length == l.length) && (loudCnt loud (Array.replicate l.length false) == 0)) = true)
    (hC : Cs 0 w.drew)
    (h : wpStg F n P l.toArray Cs (fun a w => Q .normal a w) st 0 a w.drew) : (Code.region id l.toArray true).wpIn F n P Q a w := by
  simp only [Bool.and_eq_true, beq_iff_eq] at hB
  obtain ⟨⟨⟨⟨hs, hd0⟩, hq⟩, hsz⟩, hc0⟩ := hB
  refine wpIn_mono (wpIn_region_any (Q := Exit.then (fun a w => Q .normal a w) (fun _ _ _ => False)) hm ?_) ?_
  · have hsz' : l.toArray.size = st.length := by simp [hsz]
    rw [hsz']
    refine wpAnyIn_of_C (Cs := Cs) (loud := loud) _ _ _ _ ?_
    have h1 : Array.replicate st.length false = Array.replicate l.length false := by rw [hsz]
    rw [h1]
    have hdn : Dn .any l.toArray (Array.replicate l.length false) := by simpa using dn_start (md := .any) (ops := l.toArray)
    exact wpAnyC_stg _ hs hd0 st 0 _ a _ hdn (by rw [hc0]; exact hC) hq h
  · rintro e a' w' hh
    cases e with
    | normal => exact hh
    | _ => exact hh.elim
theorem wpStg_q {Q : Act → World → Prop} {i m c : Nat} {rest : List Stg} {o : Oper} {a : Act} {w : World} {v : Value} (ho : ops[i]? = some o) (hd : ∀ c, o.op ≠ .defer c) (ha : ∀ w, o.about P w a.eval = none) (hg : Region.wanted o (yielded ops a.tmps) = true)
    (hv : ∀ c w, c ≤ m → Cs c w → (execOp a.eval o).run P w = .ok (.value v) w) (h : wpStg F n P ops Cs Q rest c (a.put o.dst v) w) : wpStg F n P ops Cs Q (.q i m :: rest) c a w := by
  simp only [wpStg]
  rw [ho]
  exact ⟨v, ⟨hd, fun w _ f hf => (by rw [ha w] at hf; cases hf), .inl ⟨hg, fun w ⟨c, hc, hw⟩ => hv c w hc hw⟩⟩, h⟩
theorem wpStg_off {Q : Act → World → Prop} {i m c : Nat} {rest : List Stg} {o : Oper} {a : Act} {w : World} (ho : ops[i]? = some o) (hd : ∀ c, o.op ≠ .defer c) (ha : ∀ w, o.about P w a.eval = none) (hg : Region.wanted o (yielded ops a.tmps) = false)
    (h : wpStg F n P ops Cs Q rest c (a.put o.dst undef) w) : wpStg F n P ops Cs Q (.q i m :: rest) c a w := by
  simp only [wpStg]
  rw [ho]
  exact ⟨undef, ⟨hd, fun w _ f hf => (by rw [ha w] at hf; cases hf), .inr ⟨hg, rfl⟩⟩, h⟩
theorem wpStg_l {Q : Act → World → Prop} {j c : Nat} {rest : List Stg} {o : Oper} {a : Act} {w : World} (ho : ops[j]? = some o) (h : wpListIn F n P ops (Exit.then (fun a' w' => Cs (c + 1) w' ∧ wpStg F n P ops Cs Q rest (c + 1) a' w') (fun _ _ _ => False)) [o] a w) : wpStg F n P ops Cs Q (.l j :: rest) c a w := by
  simp only [wpStg]
  rw [ho]
  exact h
theorem wpStg_nil {Q : Act → World → Prop} {c : Nat} {a : Act} {w : World} (h : Q a w) : wpStg F n P ops Cs Q [] c a w := h

theorem wpQs_cons {K : Act → Prop} {i m : Nat} {rest : List (Nat × Nat)} {o : Oper} {a : Act} (v : Value) (ho : ops[i]? = some o) (hd : ∀ c, o.op ≠ .defer c) (ha : ∀ w, o.about P w a.eval = none) (hg : Region.wanted o (yielded ops a.tmps) = true)
    (hv : ∀ c w, c ≤ m → Cs c w → (execOp a.eval o).run P w = .ok (.value v) w) (h : wpQs F P ops Cs K rest (a.put o.dst v)) : wpQs F P ops Cs K ((i, m) :: rest) a := by
  simp only [wpQs]
  rw [ho]
  exact ⟨v, ⟨hd, fun w _ f hf => (by rw [ha w] at hf; cases hf), .inl ⟨hg, fun w ⟨c, hc, hw⟩ => hv c w hc hw⟩⟩, h⟩
theorem wpQs_nil {K : Act → Prop} {a : Act} (h : K a) : wpQs F P ops Cs K [] a := h
theorem wpLoud_cons {j c : Nat} {rest : List Nat} {o : Oper} {a : Act} {w : World} (ho : ops[j]? = some o) (h : wpListIn F n P ops (Exit.then (fun a' w' => Cs (c + 1) w' ∧ wpLoud F n P ops Cs Q rest (c + 1) a' w') (fun _ _ _ => False)) [o] a w) : wpLoud F n P ops Cs Q (j :: rest) c a w := by
  simp only [wpLoud]
  rw [ho]
  exact h
theorem wpLoud_nil {c : Nat} {a : Act} {w : World} (h : Q .normal a w) : wpLoud F n P ops Cs Q [] c a w := h
end
end Go.Proofs.Ythminmcdkcnkpaa
