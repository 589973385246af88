/- A piece of code that the plain walk shows, on the way of a lone goroutine that comes to a select. -/
import Derived.Test.YtihdjneoemlddaaRows
import Derived.WalkKit
import Derived.WalkSpells
import Derived.Deep.QuietTactic
import Derived.BigQuiet
import Derived.Conc.LoneSelect
namespace Go.Proofs.Ytihdjneoemlddaa
open Go.Conc Go.RowKit

section
variable {P : Program} {R : Goroutine → World → Prop} {b : Frame} {k : List Item} {cs : List Frame}

/-- What a piece of code comes to, on this road. -/
def Next (P : Program) (R : Goroutine → World → Prop) (b : Frame) (k : List Item) (cs : List Frame) : Exit → Act → World → Prop
  | .normal, a, w => LoneTo P R (G (b.at a k) cs) w
  | .ret, a, w => ∀ todo, LoneTo P R (G { b.at a todo with mode := .returning } cs) w
  | _, _, _ => False

theorem LoneTo.steps {g g' : Goroutine} {w w' : World} (h : Steps P (solo g w) (solo g' w')) (h' : LoneTo P R g' w') : LoneTo P R g w :=
  let ⟨g₂, w₂, hs, hq⟩ := h'; ⟨g₂, w₂, Steps.trans h hs, hq⟩

theorem LoneTo.code {c : Code} {a : Act} {w : World} (h : c.wp P (Next P R b k cs) a w) : LoneTo P R (G (b.at a (.code c :: k)) cs) w := by
  obtain ⟨e, a', w', hq, harr⟩ := h b k cs
  cases e with
  | normal => exact LoneTo.steps harr hq
  | ret => obtain ⟨todo, hs⟩ := harr; exact LoneTo.steps hs (hq todo)
  | exit id => exact hq.elim
  | goto l => exact hq.elim
  | panic ch => exact hq.elim
  | outgrown => exact hq.elim

/-- What is left of a region. -/
theorem LoneTo.ops {ops : Array Oper} {l : List Nat} {a : Act} {w : World} (h : wpOps P ops (Next P R b k cs) l a w) : LoneTo P R (G (b.at a (.inRegion ops l :: k)) cs) w := by
  obtain ⟨e, a', w', hq, harr⟩ := wp_ops l a w h b k cs
  cases e with
  | normal => exact LoneTo.steps harr hq
  | ret => obtain ⟨todo, hs⟩ := harr; exact LoneTo.steps hs (hq todo)
  | exit id => exact hq.elim
  | goto l => exact hq.elim
  | panic ch => exact hq.elim
  | outgrown => exact hq.elim

/-- Into a sequence. -/
theorem LoneTo.seq {c d : Code} {a : Act} {w : World} (h : LoneTo P R (G (b.at a (.code c :: .code d :: k)) cs) w) : LoneTo P R (G (b.at a (.code (c.seq d) :: k)) cs) w := by
  refine LoneTo.goes (n := 1) ?_
  s_c stepG_seq
  s_stop
  exact h
end
end Go.Proofs.Ytihdjneoemlddaa
