/- The acts that came in, opened: they lie in memory as 'Ops' says. -/
import Derived.Test.YtihdjneoemlddaaOps
import Derived.Deep.Slices
import Derived.OpenShut
namespace Go.Proofs.Ytihdjneoemlddaa
open Go.ChangeShapes Go.WideShapes Go.RowKit

theorem Try.cells32 : Try.prog.cellsOf 32 = 3 := by kernel_rfl
theorem Try.cells5 : Try.prog.cellsOf 5 = 1 := by kernel_rfl
theorem Try.cells3 : Try.prog.cellsOf 3 = 1 := by kernel_rfl
theorem Try.cells30 : Try.prog.cellsOf 30 = 1 := by kernel_rfl

section
variable {H : Type} {enc : TypeId × Value → H} {W : World}

theorem open_bs {fuel : Nat} {cs : List Value} {x : DataW H × List MemPlace} (h : DataW.trod enc Try.prog W 0 (fun _ => true) true fuel 30 cs = some x) :
    ∃ v l, cs = [v] ∧ Bs W (fun k => W.heap.size ≤ k) v l ∧ l.length ≤ 9223372036854775807 := by
  rcases open_ints Try.underlying30 Try.underlying5 Try.cells5 h with ⟨rfl, _⟩ | ⟨a, len, cap, zs, rfl, _, hl, hm, hz, _, hc, _⟩
  · exact ⟨_, [], rfl, ⟨none, 0, rfl, Nat.le_refl _, fun h => absurd rfl h⟩, by simp⟩
  · simp only [if_true] at hz
    have hlen : (zs.take len).length = len := by simp; omega
    refine ⟨_, zs.take len, rfl, ⟨some a, cap, by rw [hlen], by omega, fun hne => ?_⟩, by unfold maxLen at hm; omega⟩
    have h0 : 0 < len := by rw [← hlen]; exact Nat.pos_of_ne_zero fun e => hne (List.length_eq_zero_iff.1 e)
    have c0 := hc 0 (by omega)
    obtain ⟨b, off, f⟩ := a
    have : f = none := by simpa [Addr.add] using World.cell?_spot c0
    subst this
    have hb := World.block_lt_of_cell? _ _ c0
    refine ⟨b, off, rfl, by simpa [Addr.add] using hb, by simpa [Addr.add] using hb, fun j y hj => ?_⟩
    have hj' := (List.getElem?_eq_some_iff.1 hj).1
    rw [hlen] at hj'
    have := hc j (by omega)
    rw [Go.WideShapes.add_plain] at this
    rw [List.getElem?_take_of_lt hj'] at hj
    rw [this]
    simp [List.getD, hj]

theorem open_op {fuel : Nat} {cs : List Value} {x : DataW H × List MemPlace} (h : DataW.trod enc Try.prog W 0 (fun _ => true) true fuel 32 cs = some x) :
    ∃ (k n : Int) (v : Value) (l : List Int), cs = [.int .i64 k, .int .i64 n, v] ∧ Bs W (fun k => W.heap.size ≤ k) v l ∧ k ≤ 9223372036854775807 ∧ -9223372036854775808 ≤ k ∧ n ≤ 9223372036854775807 ∧ -9223372036854775808 ≤ n ∧ l.length ≤ 9223372036854775807 := by
  obtain ⟨xs, n, _, _, hlen, hxl, hf⟩ := DataW.trod_struct Try.underlying32 h
  rw [Try.cells32] at hlen
  have g0 := hf 0 _ rfl
  have g1 := hf 1 _ rfl
  have g2 := hf 2 _ rfl
  match cs, hlen, xs, hxl with
  | [v0, v1, v2], _, [x0, x1, x2], _ =>
    simp [Try.cells3, Try.cells30] at g0 g1 g2
    obtain ⟨k, e0, _, w0⟩ := DataW.trod_int Try.underlying3 g0
    obtain ⟨m, e1, _, w1⟩ := DataW.trod_int Try.underlying3 g1
    obtain ⟨v, l, e2, hb, hl⟩ := open_bs g2
    cases e0; cases e1; cases e2
    have b0 := bounds_i64 w0
    have b1 := bounds_i64 w1
    exact ⟨k, m, v2, l, rfl, hb, by omega, by omega, by omega, by omega, hl⟩

instance : Inhabited (Int × Int × List Int) := ⟨(0, 0, [])⟩

theorem open_ops {fuel : Nat} {cs : List Value} {x : DataW H × List MemPlace} (h : DataW.trod enc Try.prog W 0 (fun _ => true) true fuel 22 cs = some x) :
    ∃ v l, cs = [v] ∧ Ops W W.heap.size v l ∧ l.length ≤ 9223372036854775807 := by
  rcases Go.Deep.open_slice Try.underlying22 h with ⟨rfl, _⟩ | ⟨a, len, cap, m, n, D, Pl, rfl, _, hl, hm, hmm, _, hx⟩
  · exact ⟨_, [], rfl, ⟨none, 0, rfl, Nat.le_refl _, fun h => absurd rfl h⟩, by simp⟩
  · simp only [if_true] at hmm
    subst hmm
    rw [Try.cells32] at hx
    have each : ∀ i, i < m → ∃ y : Int × Int × List Int, W.cell? (a.add (i * 3)) = some (.int .i64 y.1) ∧ W.cell? ((a.add (i * 3)).add 1) = some (.int .i64 y.2.1) ∧ (∃ v, W.cell? ((a.add (i * 3)).add 2) = some v ∧ Bs W (fun k => W.heap.size ≤ k) v y.2.2) ∧
        y.1 ≤ 9223372036854775807 ∧ -9223372036854775808 ≤ y.1 ∧ y.2.1 ≤ 9223372036854775807 ∧ -9223372036854775808 ≤ y.2.1 ∧ y.2.2.length ≤ 9223372036854775807 := by
      intro i hi
      obtain ⟨cs', h1, h2⟩ := hx i hi
      obtain ⟨_, hlen, hcell⟩ := World.cells?_some h1
      obtain ⟨k, nn, v, l, rfl, hb, r⟩ := open_op h2
      have e0 := hcell 0 (by omega)
      have e1 := hcell 1 (by omega)
      have e2 := hcell 2 (by omega)
      exact ⟨(k, nn, l), by simpa [Addr.add] using e0, by simpa using e1, ⟨v, by simpa using e2, hb⟩, r⟩
    obtain ⟨y, hy⟩ := Go.Deep.choose_lt each
    refine ⟨_, (List.range len).map y, rfl, ⟨some a, m, by simp, by simpa using hl, fun hne => ?_⟩, by simp; unfold maxLen at hm; omega⟩
    have h0 : 0 < len := Nat.pos_of_ne_zero fun e => hne (by simp [e])
    have c0 := (hy 0 (by omega)).1
    obtain ⟨b, off, f⟩ := a
    have : f = none := by simpa [Addr.add] using World.cell?_spot c0
    subst this
    have hb := World.block_lt_of_cell? _ _ c0
    refine ⟨b, off, rfl, by simpa [Addr.add] using hb, by simpa [Addr.add] using hb, fun j z hj => ?_⟩
    have hj' := (List.getElem?_eq_some_iff.1 hj).1
    simp at hj'
    have hz : z = y j := by simp [hj'] at hj; exact hj.symm
    subst hz
    obtain ⟨a0, a1, a2, a3⟩ := hy j (by omega)
    simp only [Go.WideShapes.add_plain] at a0 a1 a2
    exact ⟨a0, a1, a2, a3⟩
end
end Go.Proofs.Ytihdjneoemlddaa
