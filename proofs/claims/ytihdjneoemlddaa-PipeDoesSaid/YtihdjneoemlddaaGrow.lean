/- append of bytes to a row of one's own: where it lies then. -/
import Derived.Test.YtihdjneoemlddaaOps
import Derived.Maps.AppendAt
import Derived.Laws.OwnMore
namespace Go.Proofs.Ytihdjneoemlddaa
open Go.RowKit Go.Conc

theorem run_append_nothing {P : Program} {w : World} (base : Nat) (t ty e : TypeId) (i : TypeInfo) (size : Nat) (ht : P.underlying t = some (.slice e)) (hi : P.info? e = some i)
    (v : Value) (n : Nat) (xs : List Value) (hown : w.ownsRow base e size v n xs) (c : Nat) :
    (Builtin.append_ #[t, t] ty #[v, .slice none 0 c]).run P w = .ok v w := by
  rcases hown.2 with ⟨rfl, rfl⟩ | ⟨g, cap, cur, rfl, _, _, hnc, _⟩
  · simp [Builtin.append_, run_underlying ht, sizeOf, typeInfo, hi, Builtin.lenOf, Builtin.firstCells]
  · simp [Builtin.append_, run_underlying ht, sizeOf, typeInfo, hi, Builtin.lenOf, Builtin.firstCells, hnc, storeCells]

theorem wpList_append_bs (w : World) {ops : Array Oper} {rest : List Oper} {o : Oper} {a : Act} {Q : Exit → Act → World → Prop} (hgd : o.guard = none) (s x : Operand)
    (ho : o.op = .call { callee := .builtin .append, args := #[s, x], argTypes := #[30, 30] }) (base : Nat)
    (v : Value) (n : Nat) (xs : List Value) (hs : a.eval s = v) (hown : w.ownsRow base 5 1 v n xs)
    (u : Value) (l : List Int) (Av : Nat → Prop) (hx : a.eval x = u) (hb : Bs w Av u l) (hn : n + l.length ≤ 1000000000) (hbase : base ≤ w.heap.size)
    (h : ∀ v' w', w'.ownsRow base 5 1 v' (n + l.length) (xs ++ l.map (.int .u8)) → w.grownBy w' v.ownBlock → (v'.ownBlock = v.ownBlock ∨ v'.ownBlock = some w.heap.size) → wpList Try.prog ops Q rest (a.put o.dst v') w') : wpList Try.prog ops Q (o :: rest) a w := by
  obtain ⟨i0, hi, hz0, hz1, hz2⟩ := info_parts Try.info5
  obtain ⟨q, cap, rfl, hcp, hb⟩ := hb
  by_cases hl : l = []
  · subst hl
    cases q with
    | some ad =>
      exact wpList_append_own_at w hgd s x 30 ho base 5 i0 (.int .u8 0) 1 1 Try.underlying30 hi hz0 hz1 hz2 rfl (by decide) v n xs hs hown ad 0 cap [] hx rfl (fun j u h => by simp at h) (fun u h => by simp at h) (by unfold maxLen; simp at hn ⊢; omega) (by simp at hn ⊢; omega) hbase
        (fun v' w' h1 h2 _ h3 => h v' w' (by simpa using h1) h2 h3)
    | none =>
      refine wpList_plain hgd fun K hK => ?_
      have hrun := run_append_nothing (P := Try.prog) (w := w) base 30 o.type 5 i0 1 Try.underlying30 hi v n xs hown cap
      unfold Oper.wp
      simp [execOp, ho, resolve, invoke, builtin, hs, hx, hrun, Result.andThen]
      exact hK _ _ (h v w (by simpa using hown) ⟨rfl, rfl, rfl, Nat.le_refl _, fun _ _ _ => rfl⟩ (.inl rfl))
  · obtain ⟨b, off, rfl, _, _, hc⟩ := hb hl
    exact wpList_append_own_at w hgd s x 30 ho base 5 i0 (.int .u8 0) 1 1 Try.underlying30 hi hz0 hz1 hz2 rfl (by decide) v n xs hs hown ⟨b, off, none⟩ l.length cap (l.map (.int .u8)) hx (by simp) (fun j u hj => by
        simp only [List.getElem?_map, Option.map_eq_some_iff] at hj
        obtain ⟨y, hy, rfl⟩ := hj
        rw [Go.WideShapes.add_plain]
        exact hc j y hy) (ints_oneCell .u8 l) (by unfold maxLen; omega) (by omega) hbase
      (fun v' w' h1 h2 _ h3 => h v' w' h1 h2 h3)

/-- A row of one's own, in none of the blocks that are not Av. -/
def Row (w : World) (B : Nat) (Av : Nat → Prop) (v : Value) (l : List Int) : Prop :=
  w.ownsRow B 5 1 v l.length (l.map (.int .u8)) ∧ ∀ k, v.ownBlock = some k → Av k

theorem Row.nil (w : World) (B : Nat) (Av : Nat → Prop) : Row w B Av (.slice none 0 0) [] := ⟨World.ownsRow_nil _ _ _ _, fun k h => by simp [Value.ownBlock] at h⟩
theorem Row.keep {w w' : World} {B : Nat} {Av Av' S : Nat → Prop} {v : Value} {l : List Int} (h : Row w B Av v l) (hx : Ext S w w') (hs : ∀ k, v.ownBlock = some k → ¬ S k) (ha : ∀ k, Av k → Av' k) : Row w' B Av' v l := by
  refine ⟨⟨h.1.1, ?_⟩, fun k e => ha k (h.2 k e)⟩
  rcases h.1.2 with hn | ⟨g, cap, cur, hv, hb, hg, rest⟩
  · exact .inl hn
  · exact .inr ⟨g, cap, cur, hv, hb, (hx.block g (lt_of_block hg) (hs g (by rw [hv]; rfl))).trans hg, rest⟩
theorem Row.bs {w : World} {B : Nat} {Av : Nat → Prop} {v : Value} {l : List Int} (h : Row w B Av v l) : Bs w (fun k => ¬ Av k ∨ k < B ∨ v.ownBlock ≠ some k) v l := by
  rcases h.1.2 with ⟨rfl, h0⟩ | ⟨g, cap, cur, rfl, hb, hg, hc, hm, hsz, ht⟩
  · exact ⟨none, 0, by rw [h0], by omega, fun hl => absurd (List.length_eq_zero_iff.1 h0) hl⟩
  · refine ⟨some ⟨g, 0, none⟩, cap, rfl, hc, fun hl => ⟨g, 0, rfl, ?_, lt_of_block hg, fun j x hj => ?_⟩⟩
    · rintro (s | s | s)
      · exact s (h.2 g rfl)
      · omega
      · exact s rfl
    · have : (cur.toList.take (l.length * 1))[j]? = some (.int .u8 x) := by rw [ht]; simp [hj]
      have hjl : j < l.length := (List.getElem?_eq_some_iff.1 hj).1
      rw [List.getElem?_take_of_lt (by omega)] at this
      simp only [World.cell?, hg]
      simpa using this
theorem Row.lt {w : World} {B : Nat} {Av : Nat → Prop} {v : Value} {l : List Int} (h : Row w B Av v l) : ∀ k, v.ownBlock = some k → B ≤ k ∧ k < w.heap.size := h.1.lt
theorem Row.len {w : World} {B : Nat} {Av : Nat → Prop} {v : Value} {l : List Int} (h : Row w B Av v l) : ∃ q cap, v = .slice q l.length cap := by
  rcases h.1.2 with ⟨rfl, h0⟩ | ⟨g, cap, cur, rfl, _⟩
  · exact ⟨none, 0, by rw [h0]⟩
  · exact ⟨_, cap, rfl⟩
end Go.Proofs.Ytihdjneoemlddaa
