/- 'AliveTicks', for every input: true, the input reads as it did. -/
import Derived.Test.YtaenaiffjpjioaaShut
import Derived.Test.YtaenaiffjpjioaaTicks
import Derived.OpenShut
namespace Go.Proofs.Ytaenaiffjpjioaa
open Go.ChangeShapes Go.WideShapes Go.ChangeAt Go.RowKit

theorem Try.own : ownKnob Try.prog.godebug = none := by kernel_rfl
theorem Try.laidOut : laidOutB Try.prog = true := by kernel_rfl
theorem Try.cells4 : Try.prog.cellsOf 4 = 1 := by kernel_rfl

set_option maxRecDepth 100000 in
theorem ticks_lifted (os : Os) (started : os.Started) (H : Type) (enc : TypeId × Value → H) :
    ReturnsInHanded {} Try.checked os 5 .any (Rows.aliveTicksSpec.pre6 enc Try.prog Try.f5 Rows.aliveTicksRow.domain false) (Rows.aliveTicksSpec.post enc Try.prog Try.f5 false true false false) := by
  refine returnsInHanded_of_change (C := Try.checked) Try.own started (by kernel_rfl) Try.func5
    (ChangeSpec.witness6 (enc := enc) (C := Try.checked) false ⟨#[], #[.int .i64 0, .int .i64 0, .slice none 0 0], []⟩ 8 (by kernel_rfl) (by kernel_rfl) (by kernel_rfl) (by kernel_rfl)) ?_
  intro W base args ds gs before hval0 hW hcnd _
  have hval : ∀ (j : Nat) t v, Try.f5.params[j]? = some t → args[j]? = some v → Value.okWide Try.prog W .any base t v := hval0
  have hW' := hW
  obtain ⟨p, q, hA0, hV, rfl, hfz, hnd⟩ := hW
  have hA : DataW.TrodAll enc Try.prog W 0 (fun _ => true) true Try.f5.params.toList args.toList ds p := hA0
  have hA' := hA
  have hlt : ∀ x ∈ p, x.block < W.heap.size := fun x hx => hW'.lt x (by simp [hx])
  rw [Try.params5] at hA hval
  obtain ⟨v0, v1, v2, d0, d1, d2, p0, p1, p2, rfl, rfl, rfl, h0, h1, h2⟩ := trodAll_three hA
  obtain ⟨rfl, rfl⟩ := trodVars_none hV
  obtain ⟨a, rfl, rfl, rfl, wa⟩ := open_int Try.underlying3 (hval 0 3 v0 rfl rfl) h0
  obtain ⟨b, rfl, rfl, rfl, wb⟩ := open_int Try.underlying3 (hval 1 3 v1 rfl rfl) h1
  have fin : (Calls Try.prog 5 #[.int .i64 a, .int .i64 b, v2] W fun e w' => e = .returned (.bool true) ∧ Below W.heap.size W w') → Calls Try.checked.prog 5 #[.int .i64 a, .int .i64 b, v2] W fun e W' => ∃ v, e = .returned v ∧ Rows.aliveTicksSpec.post enc Try.prog Try.f5 false true false false W #[.int .i64 a, .int .i64 b, v2] v W' := by
    intro hcall
    refine hcall.mono fun e W' ⟨he, hB⟩ => ?_
    subst he
    exact ⟨_, rfl, post_true Try.laidOut hW' hA' hlt (by rw [Try.params5]; decide) rfl Try.underlying4 rfl rfl hB⟩
  obtain ⟨a0, len, cap, rfl⟩ := okWide_slice Try.underlying22 (hval 2 22 v2 rfl rfl)
  obtain ⟨fuel, hf⟩ := h2
  rcases Go.Deep.open_bools Try.underlying22 Try.underlying4 Try.cells4 hf with ⟨hcs, hx⟩ | ⟨a1, len', cap', B, hcs, _, hl, hm, hx, hcell⟩
  · simp only [Value.cells, List.cons.injEq, Value.slice.injEq, and_true] at hcs
    obtain ⟨rfl, rfl, rfl⟩ := hcs
    exact fin (Alive.ticks_nilS a b none 0 W)
  · simp only [Value.cells, List.cons.injEq, Value.slice.injEq, and_true] at hcs
    obtain ⟨rfl, rfl, rfl⟩ := hcs
    simp only [Prod.mk.injEq] at hx
    obtain ⟨_, rfl⟩ := hx
    by_cases h0 : len = 0
    · subst h0
      exact fin (Alive.ticks_nilS a b _ _ W )
    · have hc0 := hcell 0 (by omega)
      obtain ⟨b1, o1, f1⟩ := a1
      have : f1 = none := by simpa [Addr.add] using World.cell?_spot hc0
      subst this
      exact fin (Alive.ticks_any a b b1 o1 len cap ((List.range cap).map B) W  (fun _ => World.block_lt_of_cell? _ _ hc0) (fun k hk => by
        rw [show ((List.range cap).map B).getD k false = B k by simp [List.getD, show k < cap by omega]]
        rw [← Go.WideShapes.add_plain]; exact hcell k (by omega)))

theorem ticks_holds : Rows.AliveTicksSaid :=
  OpenClaim.holds_of_wide 5 Try.f5 rfl rfl rfl rfl rfl rfl rfl ⟨rfl, rfl, rfl, rfl, rfl⟩ rfl rfl rfl rfl rfl (by kernel_rfl) Try.func5 (by kernel_rfl)
    (of_decide_eq_true (by kernel_rfl)) (by unfold Func.isWrapper; rw [if_neg (by decide +kernel)]; exact ⟨rfl, rfl⟩)
    (fun os started H enc _ => ticks_lifted os started H enc)
end Go.Proofs.Ytaenaiffjpjioaa
