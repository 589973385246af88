/- What came in, opened: bytes, and pieces, lie in memory as 'Bs' and 'Fs' say. -/
import Derived.Test.YtlacngdbembkkaaFew
import Derived.Deep.Slices
import Derived.OpenShut
import Derived.SizedLaws
namespace Go.Proofs.Ytlacngdbembkkaa
open Go.ChangeShapes Go.WideShapes Go.RowKit

theorem Try.cells27 : Try.prog.cellsOf 27 = 1 := by kernel_rfl
theorem Try.cells5 : Try.prog.cellsOf 5 = 1 := by kernel_rfl
theorem Try.bytes5 : Try.prog.bytesOf 5 = 1 := by kernel_rfl

section
variable {H : Type} {enc : TypeId × Value → H} {W : World}

theorem open_bs {fuel : Nat} {cs : List Value} {x : DataW H × List MemPlace} (h : DataW.trod enc Try.prog W 0 (fun _ => true) true fuel 27 cs = some x) :
    ∃ v l, cs = [v] ∧ Bs W (fun k => W.heap.size ≤ k) v l ∧ Byt l ∧ ((∀ n ∈ x.1.weights Try.prog 27, n ≤ reachBytes) → l.length ≤ reachBytes) := by
  rcases open_ints Try.underlying27 Try.underlying5 Try.cells5 h with ⟨rfl, rfl⟩ | ⟨a, len, cap, zs, rfl, _, hl, hm, hz, rfl, hc, hwf⟩
  · exact ⟨_, [], rfl, ⟨none, 0, rfl, Nat.le_refl _, fun h => absurd rfl h⟩, Byt.nil, fun _ => Nat.zero_le _⟩
  · simp only [if_true] at hz
    have hlen : (zs.take len).length = len := by simp; omega
    refine ⟨_, zs.take len, rfl, ⟨some a, cap, by rw [hlen], by omega, fun hne => ?_⟩, fun y hy => ?_, fun hw => ?_⟩
    · have h0 : 0 < len := by rw [← hlen]; exact Nat.pos_of_ne_zero fun e => hne (List.length_eq_zero_iff.1 e)
      have c0 := hc 0 (by omega)
      obtain ⟨b, off, f⟩ := a
      have : f = none := by simpa [Addr.add] using World.cell?_spot c0
      subst this
      have hb := World.block_lt_of_cell? _ _ c0
      refine ⟨b, off, rfl, by simpa [Addr.add] using hb, by simpa [Addr.add] using hb, fun j y hj => ?_⟩
      have hj' := (List.getElem?_eq_some_iff.1 hj).1
      rw [hlen] at hj'
      have := hc j (by omega)
      rw [Go.WideShapes.add_plain] at this
      rw [List.getElem?_take_of_lt hj'] at hj
      rw [this]
      simp [List.getD, hj]
    · have := hwf y (List.mem_of_mem_take hy)
      simp [Lit.wf] at this
      have e0 : IntKind.u8.min = 0 := rfl
      have e1 : IntKind.u8.max = 255 := rfl
      omega
    · have := hw ((len + (zs.drop len).length) * 1) (by simp [DataW.weights, Try.underlying27, Try.bytes5, lits]; omega)
      rw [hlen]; omega

theorem weightsAll_mem {P : Program} {e : TypeId} : ∀ {ds : List (DataW H)} {d : DataW H}, d ∈ ds → ∀ n ∈ d.weights P e, n ∈ DataW.weightsAll P e ds
  | d0 :: r, d, hd, n, hn => by
    simp only [DataW.weightsAll, List.mem_append]
    rcases List.mem_cons.1 hd with rfl | hd
    · exact .inl hn
    · exact .inr (weightsAll_mem hd n hn)

theorem open_fs {fuel : Nat} {cs : List Value} {x : DataW H × List MemPlace} (h : DataW.trod enc Try.prog W 0 (fun _ => true) true fuel 22 cs = some x) :
    ∃ v l, cs = [v] ∧ Fs W (fun k => W.heap.size ≤ k) v l ∧ l.length ≤ 9223372036854775807 ∧ (∀ y ∈ l, Byt y) ∧ ((∀ n ∈ x.1.weights Try.prog 22, n ≤ reachBytes) → ∀ y ∈ l, y.length ≤ reachBytes) := by
  rcases Go.Deep.open_slice1 Try.underlying22 Try.cells27 h with ⟨rfl, rfl⟩ | ⟨a, len, cap, m, n, V, D, Pl, rfl, _, hl, hm, hmm, rfl, hx⟩
  · exact ⟨_, [], rfl, ⟨none, 0, rfl, Nat.le_refl _, fun h => absurd rfl h⟩, by simp, fun y hy => (by cases hy), fun _ y hy => (by cases hy)⟩
  · simp only [if_true] at hmm
    subst hmm
    have each : ∀ i, i < m → ∃ y : List Int, W.cell? (a.add i) = some (V i) ∧ Bs W (fun k => W.heap.size ≤ k) (V i) y ∧ Byt y ∧ ((∀ n ∈ (D i).weights Try.prog 27, n ≤ reachBytes) → y.length ≤ reachBytes) := by
      intro i hi
      obtain ⟨h1, h2⟩ := hx i hi
      obtain ⟨v, l, e, hb, hby, hwt⟩ := open_bs h2
      cases e
      exact ⟨l, h1, hb, hby, hwt⟩
    obtain ⟨y, hy⟩ := Go.Deep.choose_lt each
    refine ⟨_, (List.range len).map y, rfl, ⟨some a, m, by simp, by simpa using hl, fun hne => ?_⟩, by simp; unfold maxLen at hm; omega, fun z hz => ?_, fun hw z hz => ?_⟩
    · have h0 : 0 < len := Nat.pos_of_ne_zero fun e => hne (by simp [e])
      have c0 := (hy 0 (by omega)).1
      obtain ⟨b, off, f⟩ := a
      have : f = none := by simpa [Addr.add] using World.cell?_spot c0
      subst this
      have hb := World.block_lt_of_cell? _ _ c0
      refine ⟨b, off, rfl, by simpa [Addr.add] using hb, by simpa [Addr.add] using hb, fun j z hj => ?_⟩
      have hj' := (List.getElem?_eq_some_iff.1 hj).1
      simp at hj'
      have hz : z = y j := by simp [hj'] at hj; exact hj.symm
      subst hz
      obtain ⟨a0, a1, _⟩ := hy j (by omega)
      rw [Go.WideShapes.add_plain] at a0
      exact ⟨_, a0, a1⟩
    · obtain ⟨j, hj, rfl⟩ := List.mem_map.1 hz
      exact (hy j (by have := List.mem_range.1 hj; omega)).2.2.1
    · obtain ⟨j, hj, rfl⟩ := List.mem_map.1 hz
      have hjl := List.mem_range.1 hj
      refine (hy j (by omega)).2.2.2 fun n hn => hw n ?_
      simp only [DataW.weights, Try.underlying22, List.mem_cons, List.mem_append]
      exact .inr (.inl (weightsAll_mem (List.mem_map.2 ⟨j, hj, rfl⟩) n hn))
end
end Go.Proofs.Ytlacngdbembkkaa
