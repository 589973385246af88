/- The acts that came in, opened: they lie in memory as 'Acts' says. -/
import Derived.Test.YthminmcdkcnkpaaActs
import Derived.Deep.Slices
import Derived.OpenShut
namespace Go.Proofs.Ythminmcdkcnkpaa
open Go.ChangeShapes Go.WideShapes Go.RowKit

theorem Try.cells29 : Try.prog.cellsOf 29 = 4 := by kernel_rfl
theorem Try.cells3 : Try.prog.cellsOf 3 = 1 := by kernel_rfl
theorem Try.cells22 : Try.prog.cellsOf 22 = 1 := by kernel_rfl

section
variable {H : Type} {enc : TypeId × Value → H} {W : World}

theorem wf32_inv {x : Int} (hw : (Lit.int .u32 x).wf = true) : 0 ≤ x ∧ x < 4294967296 := by
  simp [Lit.wf, IntKind.min, IntKind.max, IntKind.bits, IntKind.signed] at hw
  omega

theorem open_act {fuel : Nat} {cs : List Value} {x : DataW H × List MemPlace} (h : DataW.trod enc Try.prog W 0 (fun _ => true) true fuel 29 cs = some x) :
    ∃ (d k n y : Int), cs = [.int .i64 d, .int .i64 k, .int .i64 n, .int .u32 y] ∧ (0 ≤ y ∧ y < 4294967296) := by
  obtain ⟨xs, n, _, _, hlen, hxl, hf⟩ := DataW.trod_struct Try.underlying29 h
  rw [Try.cells29] at hlen
  have g0 := hf 0 _ rfl
  have g1 := hf 1 _ rfl
  have g2 := hf 2 _ rfl
  have g3 := hf 3 _ rfl
  match cs, hlen, xs, hxl with
  | [v0, v1, v2, v3], _, [x0, x1, x2, x3], _ =>
    simp [Try.cells3, Try.cells22] at g0 g1 g2 g3
    obtain ⟨d, e0, _, _⟩ := DataW.trod_int Try.underlying3 g0
    obtain ⟨k, e1, _, _⟩ := DataW.trod_int Try.underlying3 g1
    obtain ⟨m, e2, _, _⟩ := DataW.trod_int Try.underlying3 g2
    obtain ⟨y, e3, _, w3⟩ := DataW.trod_int Try.underlying22 g3
    cases e0; cases e1; cases e2; cases e3
    exact ⟨d, k, m, y, rfl, wf32_inv w3⟩

instance : Inhabited (Int × Int × Int × Int) := ⟨(0, 0, 0, 0)⟩

theorem open_acts {fuel : Nat} {cs : List Value} {x : DataW H × List MemPlace} (h : DataW.trod enc Try.prog W 0 (fun _ => true) true fuel 23 cs = some x) :
    ∃ v l, cs = [v] ∧ Acts W W.heap.size v l ∧ l.length ≤ 9223372036854775807 := by
  rcases Go.Deep.open_slice Try.underlying23 h with ⟨rfl, _⟩ | ⟨a, len, cap, m, n, D, Pl, rfl, _, hl, hm, hmm, _, hx⟩
  · exact ⟨_, [], rfl, ⟨none, 0, rfl, Nat.le_refl _, fun h => absurd rfl h⟩, by simp⟩
  · simp only [if_true] at hmm
    subst hmm
    rw [Try.cells29] at hx
    have each : ∀ i, i < m → ∃ y : Int × Int × Int × Int, W.cell? (a.add (i * 4)) = some (.int .i64 y.1) ∧ W.cell? ((a.add (i * 4)).add 1) = some (.int .i64 y.2.1) ∧ W.cell? ((a.add (i * 4)).add 2) = some (.int .i64 y.2.2.1) ∧ W.cell? ((a.add (i * 4)).add 3) = some (.int .u32 y.2.2.2) ∧
        (0 ≤ y.2.2.2 ∧ y.2.2.2 < 4294967296) := by
      intro i hi
      obtain ⟨cs', h1, h2⟩ := hx i hi
      obtain ⟨_, hlen, hcell⟩ := World.cells?_some h1
      obtain ⟨d, k, nn, y, rfl, r⟩ := open_act h2
      have e0 := hcell 0 (by omega)
      have e1 := hcell 1 (by omega)
      have e2 := hcell 2 (by omega)
      have e3 := hcell 3 (by omega)
      exact ⟨(d, k, nn, y), by simpa [Addr.add] using e0, by simpa using e1, by simpa using e2, by simpa using e3, r⟩
    obtain ⟨y, hy⟩ := Go.Deep.choose_lt each
    refine ⟨_, (List.range len).map y, rfl, ⟨some a, m, by simp, by simpa using hl, fun hne => ?_⟩, by simp; unfold maxLen at hm; omega⟩
    have h0 : 0 < len := Nat.pos_of_ne_zero fun e => hne (by simp [e])
    have c0 := (hy 0 (by omega)).1
    obtain ⟨b, off, f⟩ := a
    have : f = none := by simpa [Addr.add] using World.cell?_spot c0
    subst this
    have hb := World.block_lt_of_cell? _ _ c0
    refine ⟨b, off, rfl, by simpa [Addr.add] using hb, by simpa [Addr.add] using hb, fun j z hj => ?_⟩
    have hj' := (List.getElem?_eq_some_iff.1 hj).1
    simp at hj'
    have hz : z = y j := by simp [hj'] at hj; exact hj.symm
    subst hz
    obtain ⟨a0, a1, a2, a3, a4⟩ := hy j (by omega)
    simp only [Go.WideShapes.add_plain] at a0 a1 a2 a3
    exact ⟨a0, a1, a2, a3, a4⟩
end
end Go.Proofs.Ythminmcdkcnkpaa
