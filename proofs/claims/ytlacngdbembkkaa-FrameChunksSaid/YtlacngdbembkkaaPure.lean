/- The framer beside the document's: piece by piece they tell the same. -/
import Derived.Test.YtlacngdbembkkaaSure
import Derived.Maps.OwnIn
namespace Go.Proofs.Ytlacngdbembkkaa
open Go.RowKit

/-- How both stand, all that came being A. -/
structure Inv (A held : List Int) (failed : Bool) (ra : List Int) (td : Nat) : Prop where
  bad : (splitL ra).2.2 = failed
  hel : heldOf failed (splitL ra).2.1 = held
  told : td = (splitL ra).1.length
  all : failed = false → ra = A
  len : ra.length ≤ A.length
  byr : Byt ra
  byt : Byt A
  byh : Byt held

theorem Inv.start : Inv [] [] false [] 0 := by
  have h := split_short (b := []) (by decide)
  exact ⟨by rw [h], by rw [h]; rfl, by rw [h]; rfl, fun _ => rfl, Nat.le_refl _, Byt.nil, Byt.nil, Byt.nil⟩

theorem Inv.held_le {A held : List Int} {failed : Bool} {ra : List Int} {td : Nat} (h : Inv A held failed ra td) : held.length ≤ A.length := by
  have := split_left ra
  have h2 := h.len
  rw [← h.hel]
  cases failed with
  | true => exact Nat.zero_le _
  | false => simp only [heldOf]; omega

theorem Inv.step {A held : List Int} {failed : Bool} {ra : List Int} {td : Nat} (h : Inv A held failed ra td) {c : List Int} (hc : Byt c) :
    (failed = false → td ≤ (splitL (ra ++ c)).1.length) ∧ (feedL held failed c).1 = (refL ra td failed c).2 ∧ (feedL held failed c).2.2 = (refL ra td failed c).1.2.2 ∧
      Inv (A ++ c) (feedL held failed c).2.1 (feedL held failed c).2.2 (refL ra td failed c).1.1 (refL ra td failed c).1.2.1 := by
  cases failed with
  | true =>
    refine ⟨fun e => (by cases e), rfl, rfl, ⟨h.bad, h.hel, h.told, fun e => (by cases e), by have := h.len; simp [refL]; omega, h.byr, h.byt.append hc, h.byh⟩⟩
  | false =>
    have ha := h.all rfl
    subst ha
    have hb := h.bad
    have hh := h.hel
    have ht := h.told
    simp only [heldOf] at hh
    have hap := split_append ra.length ra c (Nat.le_refl _) hb
    rw [hh] at hap
    have hbs : Byt (splitL (held ++ c)).2.1 := fun x hx => by
      have he := split_eq (held ++ c)
      have : x ∈ held ++ c := by rw [← he]; simp [hx]
      exact (h.byh.append hc) x this
    refine ⟨fun _ => (by rw [hap, ht]; simp), ?_, ?_, ⟨?_, ?_, rfl, fun _ => rfl, Nat.le_refl _, h.byt.append hc, h.byt.append hc, ?_⟩⟩
    · simp only [feedL, refL]; rw [hap, ht]; simp
    · simp only [feedL, refL]; rw [hap]
    · simp only [feedL, refL]; rw [hap]
    · simp only [feedL, refL]; rw [hap]
    · simp only [feedL]
      cases (splitL (held ++ c)).2.2 with
      | true => exact Byt.nil
      | false => exact hbs

theorem wpListIn_append_bs {F : Fence} {nn : Nat} (w : World) {ops : Array Oper} {rest : List Oper} {o : Oper} {a : Act} {Q : Exit → Act → World → Prop} (hgd : o.guard = none) (s x : Operand)
    (ho : o.op = .call { callee := .builtin .append, args := #[s, x], argTypes := #[27, 27] }) (base : Nat)
    (v : Value) (n : Nat) (xs : List Value) (hs : a.eval s = v) (hown : w.ownsRow base 5 1 v n xs)
    (u : Value) (l : List Int) (Av : Nat → Prop) (hx : a.eval x = u) (hb : Bs w Av u l) (hn : n + l.length ≤ 1000000000) (hbase : base ≤ w.heap.size)
    (h : ∀ v' w', w'.ownsRow base 5 1 v' (n + l.length) (xs ++ l.map (.int .u8)) → w.grownBy w' v.ownBlock → (v'.ownBlock = v.ownBlock ∨ v'.ownBlock = some w.heap.size) → wpListIn F nn Try.prog ops Q rest (a.put o.dst v') w') : wpListIn F nn Try.prog ops Q (o :: rest) a w := by
  obtain ⟨i0, hi, hz0, hz1, hz2⟩ := info_parts Try.info5
  obtain ⟨q, cap, rfl, hcp, hb⟩ := hb
  by_cases hl : l = []
  · subst hl
    cases q with
    | some ad =>
      exact wpListIn_append_own_at w hgd s x 27 ho base 5 i0 (.int .u8 0) 1 1 Try.underlying27 hi hz0 hz1 hz2 rfl (by decide) v n xs hs hown ad 0 cap [] hx rfl (fun j u h => by simp at h) (fun u h => by simp at h) (by unfold maxLen; simp at hn ⊢; omega) (by simp at hn ⊢; omega) hbase
        (fun v' w' h1 h2 _ h3 => h v' w' (by simpa using h1) h2 h3)
    | none =>
      refine wpListIn_plain hgd fun K hK => ?_
      have hrun := run_append_nothing (P := Try.prog) (w := w) base 27 o.type 5 i0 1 Try.underlying27 hi v n xs hown cap
      unfold Oper.wpIn
      refine ⟨by simp [Oper.about, ho, resolve, Target.leads, Sem.run_pure], ?_⟩
      rw [Oper.semAt_plain F _ _ (by rw [ho]; intro c hc'; cases hc')]
      simp [execOp, ho, resolve, invoke, builtin, hs, hx, hrun, Result.andThen]
      exact hK _ _ (h v w (by simpa using hown) ⟨rfl, rfl, rfl, Nat.le_refl _, fun _ _ _ => rfl⟩ (.inl rfl))
  · obtain ⟨b, off, rfl, _, _, hc⟩ := hb hl
    exact wpListIn_append_own_at w hgd s x 27 ho base 5 i0 (.int .u8 0) 1 1 Try.underlying27 hi hz0 hz1 hz2 rfl (by decide) v n xs hs hown ⟨b, off, none⟩ l.length cap (l.map (.int .u8)) hx (by simp) (fun j u hj => by
        simp only [List.getElem?_map, Option.map_eq_some_iff] at hj
        obtain ⟨y, hy, rfl⟩ := hj
        rw [Go.WideShapes.add_plain]
        exact hc j y hy) (ints_oneCell .u8 l) (by unfold maxLen; omega) (by omega) hbase
      (fun v' w' h1 h2 _ h3 => h v' w' h1 h2 h3)
end Go.Proofs.Ytlacngdbembkkaa
