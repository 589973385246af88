/- 'PendingDoes', for every input: true, the input reads as it did. -/
import Derived.Test.YthminmcdkcnkpaaShut
import Derived.Test.YthminmcdkcnkpaaOpened
import Derived.Test.YthminmcdkcnkpaaDoes
namespace Go.Proofs.Ythminmcdkcnkpaa
open Go.ChangeShapes Go.WideShapes Go.ChangeAt Go.RowKit

theorem Try.own : ownKnob Try.prog.godebug = none := by kernel_rfl
theorem Try.laidOut : laidOutB Try.prog = true := by kernel_rfl

set_option maxRecDepth 100000 in
theorem does_lifted (os : Os) (started : os.Started) (H : Type) (enc : TypeId × Value → H) :
    ReturnsInHanded {} Try.checked os 4 .any (Rows.pendingDoesSpec.pre6 enc Try.prog Try.f4 Rows.pendingDoesRow.domain false) (Rows.pendingDoesSpec.post enc Try.prog Try.f4 false true false false) := by
  refine returnsInHanded_of_change (C := Try.checked) Try.own started (by kernel_rfl) Try.func4
    (ChangeSpec.witness6 (enc := enc) (C := Try.checked) false ⟨#[], #[.int .i64 0, .int .u32 0, .slice none 0 0], []⟩ 8 (by kernel_rfl) (by kernel_rfl) (by kernel_rfl) (by kernel_rfl)) ?_
  intro W base args ds gs before hval0 hW hcnd _
  have hval : ∀ (j : Nat) t v, Try.f4.params[j]? = some t → args[j]? = some v → Value.okWide Try.prog W .any base t v := hval0
  have hW' := hW
  obtain ⟨p, q, hA0, hV, rfl, hfz, hnd⟩ := hW
  have hA : DataW.TrodAll enc Try.prog W 0 (fun _ => true) true Try.f4.params.toList args.toList ds p := hA0
  have hA' := hA
  have hlt : ∀ x ∈ p, x.block < W.heap.size := fun x hx => hW'.lt x (by simp [hx])
  rw [Try.params4] at hA hval
  obtain ⟨v0, v1, v2, d0, d1, d2, p0, p1, p2, rfl, rfl, rfl, h0, h1, h2⟩ := trodAll_three hA
  obtain ⟨rfl, rfl⟩ := trodVars_none hV
  obtain ⟨a, rfl, rfl, rfl, wa⟩ := open_int Try.underlying3 (hval 0 3 v0 rfl rfl) h0
  obtain ⟨b, rfl, rfl, rfl, wb⟩ := open_int Try.underlying22 (hval 1 22 v1 rfl rfl) h1
  have bb : 0 ≤ b ∧ b < 4294967296 := wf32_inv wb
  have fin : (Calls Try.prog 4 #[.int .i64 a, .int .u32 b, v2] W fun e w' => e = .returned (.bool true) ∧ Below W.heap.size W w') → Calls Try.checked.prog 4 #[.int .i64 a, .int .u32 b, v2] W fun e W' => ∃ v, e = .returned v ∧ Rows.pendingDoesSpec.post enc Try.prog Try.f4 false true false false W #[.int .i64 a, .int .u32 b, v2] v W' := by
    intro hcall
    refine hcall.mono fun e W' ⟨he, hB⟩ => ?_
    subst he
    exact ⟨_, rfl, post_true Try.laidOut hW' hA' hlt (by rw [Try.params4]; decide) rfl Try.underlying4 rfl rfl hB⟩
  obtain ⟨a0, len, cap, rfl⟩ := okWide_slice Try.underlying23 (hval 2 23 v2 rfl rfl)
  obtain ⟨fuel, hf⟩ := h2
  obtain ⟨v, l, hcs, hO, hl⟩ := open_acts hf
  simp only [Value.cells, List.cons.injEq, and_true] at hcs
  subst hcs
  exact fin (does_ok hO hl a b bb)

theorem does_holds : Rows.PendingDoesSaid :=
  OpenClaim.holds_of_wide 4 Try.f4 rfl rfl rfl rfl rfl rfl rfl ⟨rfl, rfl, rfl, rfl, rfl⟩ rfl rfl rfl rfl rfl (by kernel_rfl) Try.func4 (by kernel_rfl)
    (of_decide_eq_true (by kernel_rfl)) (by unfold Func.isWrapper; rw [if_neg (by decide +kernel)]; exact ⟨rfl, rfl⟩)
    (fun os started H enc _ => does_lifted os started H enc)
end Go.Proofs.Ythminmcdkcnkpaa
