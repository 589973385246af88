/- 'FrameFeeds', for every input: true, the input reads as it did. -/
import Derived.Test.YtlacngdbembkkaaShut
import Derived.Test.YtlacngdbembkkaaOpen
import Derived.Test.YtlacngdbembkkaaFeeds
namespace Go.Proofs.Ytlacngdbembkkaa
open Go.ChangeShapes Go.WideShapes Go.ChangeAt Go.RowKit

theorem Try.own : ownKnob Try.prog.godebug = none := by kernel_rfl
theorem Try.laidOut : laidOutB Try.prog = true := by kernel_rfl

set_option maxRecDepth 100000 in
theorem feeds_lifted (os : Os) (started : os.Started) (H : Type) (enc : TypeId × Value → H) :
    ReturnsInHanded {} Try.checked os 3 .any (Rows.frameFeedsSpec.pre6 enc Try.prog Try.f3 Rows.frameFeedsRow.domain false) (Rows.frameFeedsSpec.post enc Try.prog Try.f3 false true false false) := by
  refine returnsInHanded_of_change_sized (C := Try.checked) Try.own started (by kernel_rfl) Try.func3
    (ChangeSpec.witness6 (enc := enc) (C := Try.checked) false ⟨#[], #[.slice none 0 0], []⟩ 8 (by kernel_rfl) (by kernel_rfl) (by kernel_rfl) (by kernel_rfl)) ?_
  intro W base args ds gs before hval0 hW hcnd hsz _
  have hval : ∀ (j : Nat) t v, Try.f3.params[j]? = some t → args[j]? = some v → Value.okWide Try.prog W .any base t v := hval0
  have hW' := hW
  obtain ⟨p, q, hA0, hV, rfl, hfz, hnd⟩ := hW
  have hA : DataW.TrodAll enc Try.prog W 0 (fun _ => true) true Try.f3.params.toList args.toList ds p := hA0
  have hA' := hA
  have hlt : ∀ x ∈ p, x.block < W.heap.size := fun x hx => hW'.lt x (by simp [hx])
  rw [Try.params3] at hA hval
  obtain ⟨v0, d0, rfl, rfl, h0⟩ := trodAll_one hA
  obtain ⟨rfl, rfl⟩ := trodVars_none hV
  have hw0 : ∀ n ∈ d0.weights Try.prog 22, n ≤ reachBytes := fun n hn => by
    have := List.all_eq_true.1 hsz n (DataW.weights_mem_each (j := 0) (t := 22) (by rfl) rfl n hn)
    simpa using this
  have fin : (Calls Try.prog 3 #[v0] W fun e w' => e = .returned (.bool true) ∧ Below W.heap.size W w') → Calls Try.checked.prog 3 #[v0] W fun e W' => ∃ v, e = .returned v ∧ Rows.frameFeedsSpec.post enc Try.prog Try.f3 false true false false W #[v0] v W' := by
    intro hcall
    refine hcall.mono fun e W' ⟨he, hB⟩ => ?_
    subst he
    exact ⟨_, rfl, post_true Try.laidOut hW' hA' hlt (by rw [Try.params3]; decide) rfl Try.underlying4 rfl rfl hB⟩
  obtain ⟨a0, len, cap, rfl⟩ := okWide_slice Try.underlying22 (hval 0 22 v0 rfl rfl)
  obtain ⟨fuel, hf⟩ := h0
  obtain ⟨v, l, hcs, hO, hl, hby, hwt⟩ := open_fs hf
  simp only [Value.cells, List.cons.injEq, and_true] at hcs
  subst hcs
  exact fin (feeds_ok hO hl (fun x hx => Nat.le_trans (hwt hw0 x hx) (by decide)) hby)

theorem feeds_holds : Rows.FrameFeedsSaid :=
  OpenClaim.holds_of_wide 3 Try.f3 rfl rfl rfl rfl rfl rfl rfl ⟨rfl, rfl, rfl, rfl, rfl⟩ rfl rfl rfl rfl rfl (by kernel_rfl) Try.func3 (by kernel_rfl)
    (of_decide_eq_true (by kernel_rfl)) (by unfold Func.isWrapper; rw [if_neg (by decide +kernel)]; exact ⟨rfl, rfl⟩)
    (fun os started H enc _ => feeds_lifted os started H enc)
end Go.Proofs.Ytlacngdbembkkaa
