/- The acts in memory; what few tells. -/
import Derived.Test.YtihdjneoemlddaaSure
namespace Go.Proofs.Ytihdjneoemlddaa
open Go.RowKit Go.Conc

/-- Acts in memory: all of it below B. -/
def Ops (w : World) (B : Nat) (v : Value) (l : List (Int × Int × List Int)) : Prop :=
  ∃ q cap, v = .slice q l.length cap ∧ l.length ≤ cap ∧ (l ≠ [] → ∃ b off, q = some ⟨b, off, none⟩ ∧ b < B ∧ b < w.heap.size ∧ ∀ j x, l[j]? = some x →
    w.cell? ⟨b, off + j * 3, none⟩ = some (.int .i64 x.1) ∧ w.cell? ⟨b, off + j * 3 + 1, none⟩ = some (.int .i64 x.2.1) ∧ (∃ v, w.cell? ⟨b, off + j * 3 + 2, none⟩ = some v ∧ Bs w (fun k => B ≤ k) v x.2.2) ∧
    x.1 ≤ 9223372036854775807 ∧ -9223372036854775808 ≤ x.1 ∧ x.2.1 ≤ 9223372036854775807 ∧ -9223372036854775808 ≤ x.2.1 ∧ x.2.2.length ≤ 9223372036854775807)

theorem Ops.keep {w w' : World} {B : Nat} {v : Value} {l : List (Int × Int × List Int)} {S : Nat → Prop} (h : Ops w B v l) (hx : Ext S w w') (hs : ∀ k, S k → B ≤ k) : Ops w' B v l := by
  obtain ⟨q, cap, rfl, hc, h⟩ := h
  refine ⟨q, cap, rfl, hc, fun hl => ?_⟩
  obtain ⟨b, off, rfl, h1, h2, h3⟩ := h hl
  refine ⟨b, off, rfl, h1, Nat.lt_of_lt_of_le h2 hx.size, fun j x e => ?_⟩
  have hn : ¬ S b := fun s => by have := hs b s; omega
  obtain ⟨g0, g1, ⟨v, g2, g3⟩, g4⟩ := h3 j x e
  exact ⟨(hx.cell (by exact h2) hn).trans g0, (hx.cell (by exact h2) hn).trans g1, ⟨v, (hx.cell (by exact h2) hn).trans g2, g3.keep hx (fun k _ s => hs k s)⟩, g4⟩

set_option maxHeartbeats 1600000 in
theorem few_eq {w : World} {B : Nat} {v : Value} {l : List (Int × Int × List Int)} (h : Ops w B v l) (hn : l.length ≤ 9223372036854775807) :
    Calls Try.prog 5 #[v] w fun e w' => e = .returned (.bool (decide (l.length ≤ 100) && l.all fun x => decide (x.2.2.length ≤ 300))) ∧ ∃ n, w' = w.drewN n := by
  obtain ⟨q, cap, rfl, hc, h⟩ := h
  go_enter Try.func5, Try.ntmps5
  go_wp2_with fail
  go_loopw [3] (fun i wr => ∃ k m : Nat, k ≤ l.length ∧ i = .int .i64 k ∧ (∀ j x, j < k → l[j]? = some x → x.2.2.length ≤ 300) ∧ wr = w.drewN m) (fun i _ => (l.length - intOf i).toNat)
  case atStart => exact ⟨0, 0, by omega, rfl, fun j x hj => by omega, rfl⟩
  case round =>
    obtain ⟨k, m, hk, rfl, hall, rfl⟩ := hrel
    by_cases hkn : k < l.length
    · obtain ⟨b, off, rfl, _, _, g⟩ := h (by intro h; simp [h] at hkn)
      obtain ⟨x, hx⟩ : ∃ x, l[k]? = some x := ⟨_, List.getElem?_eq_getElem hkn⟩
      obtain ⟨g0, g1, ⟨bv, g2, qb, cb, rfl, _, _⟩, _, _, _, _, g7⟩ := g k x hx
      clear h g
      by_cases hb : x.2.2.length ≤ 300
      · go_wp2_with fail
        go_roundw
        case rel => exact ⟨k + 1, _, by omega, by go_num, fun j y hj e => by
          rcases Nat.lt_succ_iff_lt_or_eq.1 hj with h | rfl
          · exact hall j y h e
          · rw [hx] at e; cases e; exact hb, rfl⟩
        case measure => simp [intOf]; omega
      · go_wp2_with fail
        go_ret
        refine ⟨?_, _, rfl⟩
        have : (l.all fun x => decide (x.2.2.length ≤ 300)) = false := by
          rw [List.all_eq_false]
          exact ⟨x, List.mem_of_getElem? hx, by simpa using hb⟩
        simp [this]
    · have he : (l.all fun x => decide (x.2.2.length ≤ 300)) = true := by
        rw [List.all_eq_true]
        intro x hx
        obtain ⟨j, hj⟩ := List.mem_iff_getElem?.1 hx
        have hjl := (List.getElem?_eq_some_iff.1 hj).1
        simpa using hall j x (by omega) hj
      by_cases h100 : l.length ≤ 100
      · go_wp2
        go_ret
        exact ⟨by rw [he]; simp [h100]; omega, _, rfl⟩
      · go_wp2
        go_ret
        exact ⟨by rw [he]; simp [h100]; omega, _, rfl⟩
end Go.Proofs.Ytihdjneoemlddaa
