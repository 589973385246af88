/- 'FrameChunks', for every input: true, the input reads as it did. -/
import Derived.Test.YtlacngdbembkkaaShut
import Derived.Test.YtlacngdbembkkaaOpen
import Derived.Test.YtlacngdbembkkaaChunks
namespace Go.Proofs.Ytlacngdbembkkaa
open Go.ChangeShapes Go.WideShapes Go.ChangeAt Go.RowKit

theorem Try.own : ownKnob Try.prog.godebug = none := by kernel_rfl
theorem Try.laidOut : laidOutB Try.prog = true := by kernel_rfl

set_option maxRecDepth 100000 in
theorem chunks_lifted (os : Os) (started : os.Started) (H : Type) (enc : TypeId × Value → H) :
    ReturnsInHanded {} Try.checked os 4 .any (Rows.frameChunksSpec.pre6 enc Try.prog Try.f4 Rows.frameChunksRow.domain false) (Rows.frameChunksSpec.post enc Try.prog Try.f4 false true false false) := by
  refine returnsInHanded_of_change_sized (C := Try.checked) Try.own started (by kernel_rfl) Try.func4
    (ChangeSpec.witness6 (enc := enc) (C := Try.checked) false ⟨#[], #[.slice none 0 0, .slice none 0 0, .slice none 0 0], []⟩ 8 (by kernel_rfl) (by kernel_rfl) (by kernel_rfl) (by kernel_rfl)) ?_
  intro W base args ds gs before hval0 hW hcnd hsz _
  have hval : ∀ (j : Nat) t v, Try.f4.params[j]? = some t → args[j]? = some v → Value.okWide Try.prog W .any base t v := hval0
  have hW' := hW
  obtain ⟨p, q, hA0, hV, rfl, hfz, hnd⟩ := hW
  have hA : DataW.TrodAll enc Try.prog W 0 (fun _ => true) true Try.f4.params.toList args.toList ds p := hA0
  have hA' := hA
  have hlt : ∀ x ∈ p, x.block < W.heap.size := fun x hx => hW'.lt x (by simp [hx])
  obtain ⟨argl⟩ := args
  rw [Try.params4] at hA hval
  obtain ⟨v0, vs0, d0, ds0, p0, q0, e0, f0, g0, h0, r0⟩ := trodAll_cons hA
  obtain ⟨v1, vs1, d1, ds1, p1, q1, e1, f1, g1, h1, r1⟩ := trodAll_cons r0
  obtain ⟨v2, vs2, d2, ds2, p2, q2, e2, f2, g2, h2, r2⟩ := trodAll_cons r1
  obtain ⟨en, fn, gn⟩ := trodAll_nil r2
  subst en fn gn
  subst f2 g2
  subst e2
  subst f1 g1
  subst e1
  subst f0 g0
  simp only at e0
  subst e0
  obtain ⟨rfl, rfl⟩ := trodVars_none hV
  have hw0 : ∀ n ∈ d0.weights Try.prog 27, n ≤ reachBytes := fun n hn => by
    have := List.all_eq_true.1 hsz n (DataW.weights_mem_each (j := 0) (t := 27) (by rfl) rfl n hn)
    simpa using this
  have hw1 : ∀ n ∈ d1.weights Try.prog 27, n ≤ reachBytes := fun n hn => by
    have := List.all_eq_true.1 hsz n (DataW.weights_mem_each (j := 1) (t := 27) (by rfl) rfl n hn)
    simpa using this
  have hw2 : ∀ n ∈ d2.weights Try.prog 27, n ≤ reachBytes := fun n hn => by
    have := List.all_eq_true.1 hsz n (DataW.weights_mem_each (j := 2) (t := 27) (by rfl) rfl n hn)
    simpa using this
  have fin : (Calls Try.prog 4 #[v0, v1, v2] W fun e w' => e = .returned (.bool true) ∧ Below W.heap.size W w') → Calls Try.checked.prog 4 #[v0, v1, v2] W fun e W' => ∃ v, e = .returned v ∧ Rows.frameChunksSpec.post enc Try.prog Try.f4 false true false false W #[v0, v1, v2] v W' := by
    intro hcall
    refine hcall.mono fun e W' ⟨he, hB⟩ => ?_
    subst he
    exact ⟨_, rfl, post_true Try.laidOut hW' hA' hlt (by rw [Try.params4]; decide) rfl Try.underlying4 rfl rfl hB⟩
  obtain ⟨a0, len0, cap0, rfl⟩ := okWide_slice Try.underlying27 (hval 0 27 v0 rfl rfl)
  obtain ⟨fuel0, hf0⟩ := h0
  obtain ⟨u0, l0, hcs0, hO0, hby0, hwt0⟩ := open_bs hf0
  simp only [Value.cells, List.cons.injEq, and_true] at hcs0
  subst hcs0
  obtain ⟨a1, len1, cap1, rfl⟩ := okWide_slice Try.underlying27 (hval 1 27 v1 rfl rfl)
  obtain ⟨fuel1, hf1⟩ := h1
  obtain ⟨u1, l1, hcs1, hO1, hby1, hwt1⟩ := open_bs hf1
  simp only [Value.cells, List.cons.injEq, and_true] at hcs1
  subst hcs1
  obtain ⟨a2, len2, cap2, rfl⟩ := okWide_slice Try.underlying27 (hval 2 27 v2 rfl rfl)
  obtain ⟨fuel2, hf2⟩ := h2
  obtain ⟨u2, l2, hcs2, hO2, hby2, hwt2⟩ := open_bs hf2
  simp only [Value.cells, List.cons.injEq, and_true] at hcs2
  subst hcs2
  exact fin (chunks_ok hO0 (Nat.le_trans (hwt0 hw0) (by decide)) hby0 hO1 (Nat.le_trans (hwt1 hw1) (by decide)) hby1 hO2 (Nat.le_trans (hwt2 hw2) (by decide)) hby2)

theorem chunks_holds : Rows.FrameChunksSaid :=
  OpenClaim.holds_of_wide 4 Try.f4 rfl rfl rfl rfl rfl rfl rfl ⟨rfl, rfl, rfl, rfl, rfl⟩ rfl rfl rfl rfl rfl (by kernel_rfl) Try.func4 (by kernel_rfl)
    (of_decide_eq_true (by kernel_rfl)) (by unfold Func.isWrapper; rw [if_neg (by decide +kernel)]; exact ⟨rfl, rfl⟩)
    (fun os started H enc _ => chunks_lifted os started H enc)
end Go.Proofs.Ytlacngdbembkkaa
