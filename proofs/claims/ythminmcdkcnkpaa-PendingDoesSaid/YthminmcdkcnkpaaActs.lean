/- The acts in memory; the law's own map. -/
import Derived.Test.YthminmcdkcnkpaaSure
namespace Go.Proofs.Ythminmcdkcnkpaa
open Go.RowKit Go.Maps

def intOf : Value → Int
  | .int _ x => x
  | _ => 0

/-- Acts in memory: all of it below B. -/
def Acts (w : World) (B : Nat) (v : Value) (l : List (Int × Int × Int × Int)) : Prop :=
  ∃ q cap, v = .slice q l.length cap ∧ l.length ≤ cap ∧ (l ≠ [] → ∃ b off, q = some ⟨b, off, none⟩ ∧ b < B ∧ b < w.heap.size ∧ ∀ j x, l[j]? = some x →
    w.cell? ⟨b, off + j * 4, none⟩ = some (.int .i64 x.1) ∧ w.cell? ⟨b, off + j * 4 + 1, none⟩ = some (.int .i64 x.2.1) ∧ w.cell? ⟨b, off + j * 4 + 2, none⟩ = some (.int .i64 x.2.2.1) ∧ w.cell? ⟨b, off + j * 4 + 3, none⟩ = some (.int .u32 x.2.2.2) ∧
    (0 ≤ x.2.2.2 ∧ x.2.2.2 < 4294967296))

theorem Acts.keep {w w' : World} {B : Nat} {v : Value} {l : List (Int × Int × Int × Int)} {S : Nat → Prop} (h : Acts w B v l) (hx : Ext S w w') (hs : ∀ k, S k → B ≤ k) : Acts w' B v l := by
  obtain ⟨q, cap, rfl, hc, h⟩ := h
  refine ⟨q, cap, rfl, hc, fun hl => ?_⟩
  obtain ⟨b, off, rfl, h1, h2, h3⟩ := h hl
  refine ⟨b, off, rfl, h1, Nat.lt_of_lt_of_le h2 hx.size, fun j x e => ?_⟩
  have hn : ¬ S b := fun s => by have := hs b s; omega
  obtain ⟨g0, g1, g2, g3, g4⟩ := h3 j x e
  exact ⟨(hx.cell (by exact h2) hn).trans g0, (hx.cell (by exact h2) hn).trans g1, (hx.cell (by exact h2) hn).trans g2, (hx.cell (by exact h2) hn).trans g3, g4⟩

/-- The law's own map: 1 at each number that waits. -/
def Wm (w : World) (m n : Nat) (L : List En) : Prop := ∃ D : Dt, w.ownsMap Try.prog 22 (plainElem Try.prog 3) m n D ∧ Mp one D L

section
variable {w w' : World} {m n : Nat} {L : List En}
theorem Wm.keep {S : Nat → Prop} (h : Wm w m n L) (hx : Ext S w w') (hm : ¬ S m) : Wm w' m n L := by
  obtain ⟨D, h, hM⟩ := h
  exact ⟨D, ownsMap_ext h hx hm, hM⟩
theorem Wm.mono {n' : Nat} (h : Wm w m n L) (hn : n ≤ n') : Wm w m n' L := by
  obtain ⟨D, h, hM⟩ := h
  exact ⟨D, h.mono hn, hM⟩
theorem Wm.lt (h : Wm w m n L) : m < w.heap.size := by
  obtain ⟨D, h, hM⟩ := h
  exact h.lt
theorem Wm.look (h : Wm w m n L) {x : Int} (hx : 0 ≤ x ∧ x < 4294967296) : (Instr.lookup 27 (.map (some m)) (.int .u32 x) false).run Try.prog w = .ok (.int .i64 (if x ∈ keys L then 1 else 0)) w := by
  obtain ⟨D, h, hM⟩ := h
  obtain ⟨c, hrun, hat, _⟩ := h.lookup_int key22 Try.underlying27 Try.underlying3 (Try.zeroValue3 w) (keyOf32 hx)
  rw [hrun]
  by_cases hk : x ∈ keys L
  · obtain ⟨e, he, rfl⟩ := mem_keys.1 hk
    rw [hM.val e he] at hat
    simp only [one] at hat
    have : (1 : Int) = c := by injection hat with h1; injection h1
    simp [hk, ← this]
  · rw [hM.miss hk] at hat
    have : (0 : Int) = c := by injection hat with h1; injection h1
    simp [hk, ← this]
theorem Wm.len (h : Wm w m n L) (ty : TypeId) : (Builtin.len_ #[27] ty #[.map (some m)]).run Try.prog w = .ok (.int .i64 (L.length : Nat)) w := by
  obtain ⟨D, h, hM⟩ := h
  rw [h.len Try.underlying27, hM.size]
end
end Go.Proofs.Ythminmcdkcnkpaa
