/- 'AliveOver', for every input: true, the input reads as it did. -/
import Derived.Test.YtaenaiffjpjioaaShut
import Derived.Test.YtaenaiffjpjioaaOver
import Derived.OpenShut
namespace Go.Proofs.Ytaenaiffjpjioaa
open Go.ChangeShapes Go.WideShapes Go.ChangeAt Go.RowKit

theorem Try.own : ownKnob Try.prog.godebug = none := by kernel_rfl
theorem Try.laidOut : laidOutB Try.prog = true := by kernel_rfl
theorem Try.cells4 : Try.prog.cellsOf 4 = 1 := by kernel_rfl

set_option maxRecDepth 100000 in
theorem over_lifted (os : Os) (started : os.Started) (H : Type) (enc : TypeId × Value → H) :
    ReturnsInHanded {} Try.checked os 3 .any (Rows.aliveOverSpec.pre6 enc Try.prog Try.f3 Rows.aliveOverRow.domain false) (Rows.aliveOverSpec.post enc Try.prog Try.f3 false true false false) := by
  refine returnsInHanded_of_change (C := Try.checked) Try.own started (by kernel_rfl) Try.func3
    (ChangeSpec.witness6 (enc := enc) (C := Try.checked) false ⟨#[], #[.int .u8 0, .int .u8 0, .slice none 0 0], []⟩ 8 (by kernel_rfl) (by kernel_rfl) (by kernel_rfl) (by kernel_rfl)) ?_
  intro W base args ds gs before hval0 hW hcnd _
  have hval : ∀ (j : Nat) t v, Try.f3.params[j]? = some t → args[j]? = some v → Value.okWide Try.prog W .any base t v := hval0
  have hW' := hW
  obtain ⟨p, q, hA0, hV, rfl, hfz, hnd⟩ := hW
  have hA : DataW.TrodAll enc Try.prog W 0 (fun _ => true) true Try.f3.params.toList args.toList ds p := hA0
  have hA' := hA
  have hlt : ∀ x ∈ p, x.block < W.heap.size := fun x hx => hW'.lt x (by simp [hx])
  rw [Try.params3] at hA hval
  obtain ⟨v0, v1, v2, d0, d1, d2, p0, p1, p2, rfl, rfl, rfl, h0, h1, h2⟩ := trodAll_three hA
  obtain ⟨rfl, rfl⟩ := trodVars_none hV
  obtain ⟨a, rfl, rfl, rfl, wa⟩ := open_int Try.underlying5 (hval 0 5 v0 rfl rfl) h0
  obtain ⟨b, rfl, rfl, rfl, wb⟩ := open_int Try.underlying5 (hval 1 5 v1 rfl rfl) h1
  have ba : 0 ≤ a ∧ a < 256 := by have := bounds_u8 wa; omega
  have bb : 0 ≤ b ∧ b < 256 := by have := bounds_u8 wb; omega
  have fin : (Calls Try.prog 3 #[.int .u8 a, .int .u8 b, v2] W fun e w' => e = .returned (.bool true) ∧ Below W.heap.size W w') → Calls Try.checked.prog 3 #[.int .u8 a, .int .u8 b, v2] W fun e W' => ∃ v, e = .returned v ∧ Rows.aliveOverSpec.post enc Try.prog Try.f3 false true false false W #[.int .u8 a, .int .u8 b, v2] v W' := by
    intro hcall
    refine hcall.mono fun e W' ⟨he, hB⟩ => ?_
    subst he
    exact ⟨_, rfl, post_true Try.laidOut hW' hA' hlt (by rw [Try.params3]; decide) rfl Try.underlying4 rfl rfl hB⟩
  obtain ⟨a0, len, cap, rfl⟩ := okWide_slice Try.underlying22 (hval 2 22 v2 rfl rfl)
  obtain ⟨fuel, hf⟩ := h2
  rcases Go.Deep.open_bools Try.underlying22 Try.underlying4 Try.cells4 hf with ⟨hcs, hx⟩ | ⟨a1, len', cap', B, hcs, _, hl, hm, hx, hcell⟩
  · simp only [Value.cells, List.cons.injEq, Value.slice.injEq, and_true] at hcs
    obtain ⟨rfl, rfl, rfl⟩ := hcs
    exact fin (Alive.over_nilS a b none 0 W ba.1 ba.2 bb.1 bb.2)
  · simp only [Value.cells, List.cons.injEq, Value.slice.injEq, and_true] at hcs
    obtain ⟨rfl, rfl, rfl⟩ := hcs
    simp only [Prod.mk.injEq] at hx
    obtain ⟨_, rfl⟩ := hx
    by_cases h0 : len = 0
    · subst h0
      exact fin (Alive.over_nilS a b _ _ W ba.1 ba.2 bb.1 bb.2)
    · have hc0 := hcell 0 (by omega)
      obtain ⟨b1, o1, f1⟩ := a1
      have : f1 = none := by simpa [Addr.add] using World.cell?_spot hc0
      subst this
      exact fin (Alive.over_any a b b1 o1 len cap ((List.range cap).map B) W ba.1 ba.2 bb.1 bb.2 (fun _ => World.block_lt_of_cell? _ _ hc0) (fun k hk => by
        rw [show ((List.range cap).map B).getD k false = B k by simp [List.getD, show k < cap by omega]]
        rw [← Go.WideShapes.add_plain]; exact hcell k (by omega)))

theorem over_holds : Rows.AliveOverSaid :=
  OpenClaim.holds_of_wide 3 Try.f3 rfl rfl rfl rfl rfl rfl rfl ⟨rfl, rfl, rfl, rfl, rfl⟩ rfl rfl rfl rfl rfl (by kernel_rfl) Try.func3 (by kernel_rfl)
    (of_decide_eq_true (by kernel_rfl)) (by unfold Func.isWrapper; rw [if_neg (by decide +kernel)]; exact ⟨rfl, rfl⟩)
    (fun os started H enc _ => over_lifted os started H enc)
end Go.Proofs.Ytaenaiffjpjioaa
