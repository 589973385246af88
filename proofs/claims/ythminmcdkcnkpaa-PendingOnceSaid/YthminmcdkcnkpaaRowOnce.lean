/- 'PendingOnce', for every input: true, the input reads as it did. -/
import Derived.Test.YthminmcdkcnkpaaShut
import Derived.Test.YthminmcdkcnkpaaOpened
import Derived.Test.YthminmcdkcnkpaaOnce
namespace Go.Proofs.Ythminmcdkcnkpaa
open Go.ChangeShapes Go.WideShapes Go.ChangeAt Go.RowKit

theorem Try.own : ownKnob Try.prog.godebug = none := by kernel_rfl
theorem Try.laidOut : laidOutB Try.prog = true := by kernel_rfl

set_option maxRecDepth 100000 in
theorem once_lifted (os : Os) (started : os.Started) (H : Type) (enc : TypeId × Value → H) :
    ReturnsInHanded {} Try.checked os 3 .any (Rows.pendingOnceSpec.pre6 enc Try.prog Try.f3 Rows.pendingOnceRow.domain false) (Rows.pendingOnceSpec.post enc Try.prog Try.f3 false true false false) := by
  refine returnsInHanded_of_change (C := Try.checked) Try.own started (by kernel_rfl) Try.func3
    (ChangeSpec.witness6 (enc := enc) (C := Try.checked) false ⟨#[], #[.int .u8 0, .int .u32 0, .slice none 0 0], []⟩ 8 (by kernel_rfl) (by kernel_rfl) (by kernel_rfl) (by kernel_rfl)) ?_
  intro W base args ds gs before hval0 hW hcnd _
  have hval : ∀ (j : Nat) t v, Try.f3.params[j]? = some t → args[j]? = some v → Value.okWide Try.prog W .any base t v := hval0
  have hW' := hW
  obtain ⟨p, q, hA0, hV, rfl, hfz, hnd⟩ := hW
  have hA : DataW.TrodAll enc Try.prog W 0 (fun _ => true) true Try.f3.params.toList args.toList ds p := hA0
  have hA' := hA
  have hlt : ∀ x ∈ p, x.block < W.heap.size := fun x hx => hW'.lt x (by simp [hx])
  rw [Try.params3] at hA hval
  obtain ⟨v0, v1, v2, d0, d1, d2, p0, p1, p2, rfl, rfl, rfl, h0, h1, h2⟩ := trodAll_three hA
  obtain ⟨rfl, rfl⟩ := trodVars_none hV
  obtain ⟨a, rfl, rfl, rfl, wa⟩ := open_int Try.underlying5 (hval 0 5 v0 rfl rfl) h0
  obtain ⟨b, rfl, rfl, rfl, wb⟩ := open_int Try.underlying22 (hval 1 22 v1 rfl rfl) h1
  have bb : 0 ≤ b ∧ b < 4294967296 := wf32_inv wb
  have fin : (Calls Try.prog 3 #[.int .u8 a, .int .u32 b, v2] W fun e w' => e = .returned (.bool true) ∧ Below W.heap.size W w') → Calls Try.checked.prog 3 #[.int .u8 a, .int .u32 b, v2] W fun e W' => ∃ v, e = .returned v ∧ Rows.pendingOnceSpec.post enc Try.prog Try.f3 false true false false W #[.int .u8 a, .int .u32 b, v2] v W' := by
    intro hcall
    refine hcall.mono fun e W' ⟨he, hB⟩ => ?_
    subst he
    exact ⟨_, rfl, post_true Try.laidOut hW' hA' hlt (by rw [Try.params3]; decide) rfl Try.underlying4 rfl rfl hB⟩
  obtain ⟨a0, len, cap, rfl⟩ := okWide_slice Try.underlying23 (hval 2 23 v2 rfl rfl)
  obtain ⟨fuel, hf⟩ := h2
  obtain ⟨v, l, hcs, hO, hl⟩ := open_acts hf
  simp only [Value.cells, List.cons.injEq, and_true] at hcs
  subst hcs
  exact fin (once_ok hO hl a (by have := bounds_u8 wa; omega) b bb)

theorem once_holds : Rows.PendingOnceSaid :=
  OpenClaim.holds_of_wide 3 Try.f3 rfl rfl rfl rfl rfl rfl rfl ⟨rfl, rfl, rfl, rfl, rfl⟩ rfl rfl rfl rfl rfl (by kernel_rfl) Try.func3 (by kernel_rfl)
    (of_decide_eq_true (by kernel_rfl)) (by unfold Func.isWrapper; rw [if_neg (by decide +kernel)]; exact ⟨rfl, rfl⟩)
    (fun os started H enc _ => once_lifted os started H enc)
end Go.Proofs.Ythminmcdkcnkpaa
