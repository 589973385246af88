/- Frames in memory; few, Same, Value. -/
import Derived.Test.YtlacngdbembkkaaSplit
namespace Go.Proofs.Ytlacngdbembkkaa
open Go.RowKit

/-- Pieces in memory, in no block of Av. -/
def Fs (w : World) (Av : Nat → Prop) (v : Value) (fs : List (List Int)) : Prop :=
  ∃ p cap, v = .slice p fs.length cap ∧ fs.length ≤ cap ∧ (fs ≠ [] → ∃ b off, p = some ⟨b, off, none⟩ ∧ ¬ Av b ∧ b < w.heap.size ∧ ∀ j x, fs[j]? = some x → ∃ u, w.cell? ⟨b, off + j, none⟩ = some u ∧ Bs w Av u x)
theorem Fs.keep {w w' : World} {Av S : Nat → Prop} {v : Value} {l : List (List Int)} (h : Fs w Av v l) (hx : Ext S w w') (hs : ∀ k, k < w.heap.size → S k → Av k) : Fs w' Av v l := by
  obtain ⟨p, cap, rfl, hcp, h⟩ := h
  refine ⟨p, cap, rfl, hcp, fun hl => ?_⟩
  obtain ⟨b, off, rfl, h1, h2, h3⟩ := h hl
  refine ⟨b, off, rfl, h1, Nat.lt_of_lt_of_le h2 hx.size, fun j x e => ?_⟩
  obtain ⟨u, hu, hb⟩ := h3 j x e
  exact ⟨u, (hx.cell (p := ⟨b, off + j, none⟩) h2 (fun s => h1 (hs b h2 s))).trans hu, hb.keep hx hs⟩
theorem Fs.mono {w : World} {Av Av' : Nat → Prop} {v : Value} {l : List (List Int)} (h : Fs w Av v l) (hs : ∀ k, k < w.heap.size → Av' k → Av k) : Fs w Av' v l := by
  obtain ⟨p, cap, rfl, hcp, h⟩ := h
  refine ⟨p, cap, rfl, hcp, fun hl => ?_⟩
  obtain ⟨b, off, rfl, h1, h2, h3⟩ := h hl
  refine ⟨b, off, rfl, fun s => h1 (hs b h2 s), h2, fun j x e => ?_⟩
  obtain ⟨u, hu, hb⟩ := h3 j x e
  exact ⟨u, hu, hb.mono hs⟩
theorem Fs.drop {w : World} {Av : Nat → Prop} {b off cap : Nat} {l : List (List Int)} (h : Fs w Av (.slice (some ⟨b, off, none⟩) l.length cap) l) (k : Nat) (a : Option Addr) (ha : k < l.length → a = some ⟨b, off + k, none⟩) (c : Nat) (hc : l.length - k ≤ c) : Fs w Av (.slice a (l.length - k) c) (l.drop k) := by
  obtain ⟨p, cap, e, hcp, h⟩ := h
  cases e
  refine ⟨a, c, by rw [List.length_drop], by rw [List.length_drop]; exact hc, fun hne => ?_⟩
  have hlt : k < l.length := Nat.lt_of_not_le fun hle => hne (List.drop_eq_nil_iff.2 hle)
  obtain ⟨b', off', e, h1, h2, h3⟩ := h (by intro e; simp [e] at hlt)
  cases e
  refine ⟨b, off + k, ha hlt, h1, h2, fun j x hj => ?_⟩
  rw [List.getElem?_drop] at hj
  have := h3 (k + j) x hj
  rwa [show off + (k + j) = off + k + j by omega] at this

theorem ownsRow_cell {w : World} {B e g cap n : Nat} {xs : List Value} (h : w.ownsRow B e 1 (.slice (some ⟨g, 0, none⟩) n cap) n xs) (j : Nat) (u : Value) (hj : xs[j]? = some u) : w.cell? ⟨g, j, none⟩ = some u := by
  have hl : xs.length = n := by have := h.1; omega
  rw [World.ownsRow.cellAt h j (by have := (List.getElem?_eq_some_iff.1 hj).1; omega)]
  exact hj

theorem Fr27.fs {W : World} {B : Nat} {v : Value} {fs : List (List Int)} (h : Fr27 W B v fs) : Fs W (fun k => k < B) v fs := by
  obtain ⟨us, hrow, hlen, hu⟩ := h
  rcases hrow.2 with ⟨rfl, h0⟩ | ⟨g, cap, cur, rfl, hb, hg, hc, _⟩
  · exact ⟨none, 0, by rw [h0], by omega, fun hl => absurd (List.length_eq_zero_iff.1 h0) hl⟩
  · refine ⟨some ⟨g, 0, none⟩, cap, rfl, hc, fun _ => ⟨g, 0, rfl, by omega, lt_of_block hg, fun j x hj => ?_⟩⟩
    obtain ⟨u, hu1, hu2⟩ := hu j x hj
    refine ⟨u, ?_, hu2.bs⟩
    have := ownsRow_cell hrow j u hu1
    rwa [Nat.zero_add]

def total (l : List (List Int)) : Nat := (l.map List.length).sum
theorem total_take_succ (l : List (List Int)) (k : Nat) (x : List Int) (h : l[k]? = some x) : total (l.take (k + 1)) = total (l.take k) + x.length := by
  unfold total
  rw [List.take_add_one, h]
  simp
theorem total_bound (M : Nat) : ∀ (l : List (List Int)), (∀ x ∈ l, x.length ≤ M) → total l ≤ l.length * M
  | [], _ => by simp [total]
  | x :: l, h => by
    have h1 := total_bound M l (fun y hy => h y (by simp [hy]))
    have h2 := h x (by simp)
    simp only [total, List.map_cons, List.sum_cons, List.length_cons, Nat.add_mul, Nat.one_mul] at h1 ⊢
    omega

set_option maxHeartbeats 1600000 in
theorem few_ok {w : World} {Av : Nat → Prop} {v : Value} {l : List (List Int)} (h : Fs w Av v l) (hn : l.length ≤ 9223372036854775807) (hb : ∀ x ∈ l, x.length ≤ 140737488355328) :
    Calls Try.prog 7 #[v] w fun e w' => ∃ b : Bool, e = .returned (.bool b) ∧ w' = w ∧ (b = true → l.length ≤ 60 ∧ total l ≤ 3000) := by
  obtain ⟨q, cap, rfl, hc, h⟩ := h
  go_enter Try.func7, Try.ntmps7
  go_wp2_with fail
  go_loopw [3, 4] (fun nv i wr => ∃ k : Nat, ∃ m : Int, k ≤ l.length ∧ i = .int .i64 k ∧ nv = .int .i64 m ∧ (k ≤ 60 → m = total (l.take k)) ∧ wr = w) (fun _ i _ => (l.length - intOf i).toNat)
  case atStart => exact ⟨0, 0, by omega, rfl, rfl, fun _ => rfl, rfl⟩
  case round =>
    obtain ⟨k, m, hk, rfl, rfl, hm, rfl⟩ := hrel
    by_cases hkn : k < l.length
    · obtain ⟨x, hx⟩ : ∃ x, l[k]? = some x := ⟨_, List.getElem?_eq_getElem hkn⟩
      obtain ⟨b, off, rfl, h1, h2, h3⟩ := h (by intro e; simp [e] at hkn)
      obtain ⟨u, hu, hbs⟩ := h3 k x hx
      obtain ⟨p2, cap2, rfl, _, _⟩ := hbs
      have hxl := hb x (List.mem_of_getElem? hx)
      have hka : (k : Int) < (l.length : Int) := by omega
      clear h3
      by_cases hk60 : k < 60
      · have hm' := hm (by omega)
        have htb := total_bound 140737488355328 (l.take k) (fun y hy => hb y (List.mem_of_mem_take hy))
        have htl : (l.take k).length ≤ 60 := by rw [List.length_take]; omega
        have htb2 : total (l.take k) ≤ 60 * 140737488355328 := Nat.le_trans htb (Nat.mul_le_mul_right _ htl)
        have hts := total_take_succ l k x hx
        subst hm'
        generalize total (l.take k) = t at *
        have hfit : (t : Int) + (x.length : Int) < 9223372036854775808 := by omega
        go_wp2_with fail
        go_roundw
        case rel => exact ⟨k + 1, _, by omega, by go_num, rfl, fun _ => by rw [hts]; simp, trivial⟩
        case measure => simp [intOf]; omega
      · go_wp2_with fail
        go_roundw
        case rel => exact ⟨k + 1, _, by omega, by go_num, rfl, fun h => by omega, trivial⟩
        case measure => simp [intOf]; omega
    · have he : k = l.length := by omega
      by_cases hl60 : (l.length : Int) ≤ 60
      · go_wp2
        go_ret
        refine ⟨_, rfl, rfl, fun hb => ?_⟩
        have hm' := hm (by omega)
        rw [he, List.take_length] at hm'
        simp at hb
        omega
      · go_wp2
        go_ret
        exact .inl ⟨rfl, rfl⟩
end Go.Proofs.Ytlacngdbembkkaa
