/- Open of both tables, whatever comes of it. -/
import Derived.Test.YthminmcdkcnkpaaOpWalk
import Derived.Test.YthminmcdkcnkpaaRefOpen
namespace Go.Proofs.Ythminmcdkcnkpaa
open Go.RowKit Go.Maps

/-- What an Open comes to: the turns, the last number, the number that is told, the code, the list. -/
inductive Opn (room turns last : Int) (L : List En) (kind : Int) : Int → Int → Int → Int → List En → Prop
  | no (c : Int) (h : (isAsk kind = false ∧ c = 10001) ∨ (isAsk kind = true ∧ room ≤ L.length ∧ c = 10006)) : Opn room turns last L kind turns last 0 c L
  | ok (h : isAsk kind = true) (hr : (L.length : Int) < room) : Opn room turns last L kind (turns + 1) (nx (keys L) last) (nx (keys L) last) 0 (L ++ [(nx (keys L) last, kind, turns)])

section
variable {w : World} {Av : Nat → Prop} {v : Value} {L L' : List En} {p b k : Nat} {room turns last kind turns' last' y c : Int}

theorem opn_ex (room turns last : Int) (L : List En) (kind : Int) : ∃ turns' last' y c L', Opn room turns last L kind turns' last' y c L' := by
  cases hk : isAsk kind with
  | false => exact ⟨_, _, _, _, _, .no 10001 (.inl ⟨hk, rfl⟩)⟩
  | true =>
    by_cases hr : room ≤ L.length
    · exact ⟨_, _, _, _, _, .no 10006 (.inr ⟨hk, hr, rfl⟩)⟩
    · exact ⟨_, _, _, _, _, .ok hk (by omega)⟩

theorem refOpen_all (hO : Opn room turns last L kind turns' last' y c L') (h : Rl w Av v L) (hl : L.length < 998) (hr : 0 ≤ last ∧ last < 4294967296) :
    Calls Try.prog 21 #[.agg #[.int .i64 room, .int .u32 last, v], .int .i64 kind] w fun e w' => ∃ v', e = .returned (.tuple #[.agg #[.int .i64 room, .int .u32 last', v'], .int .u32 y, .int .i64 c]) ∧ Rl w' (fun j => Av j ∧ j < w.heap.size) v' L' ∧ Below w.heap.size w w' := by
  cases hO with
  | no c hc =>
    refine (refOpen_no h room last kind (by omega) hc).mono ?_
    rintro e w' ⟨rfl, hB⟩
    exact ⟨v, rfl, (h.keep (Ext.of_below (S := fun _ => False) hB) (fun _ _ h => h.elim)).mono (fun _ _ h => h.1), hB⟩
  | ok hk hroom =>
    refine (refOpen_ok h room last kind turns hl hr hk hroom).mono ?_
    rintro e w' ⟨v', rfl, hR, hB⟩
    exact ⟨v', rfl, hR.mono (fun _ _ h => h.2), hB⟩

theorem open_all (hO : Opn room turns last L kind turns' last' y c L') (h : Tab w p b k room turns last L) (hl : L.length < 998) (hr : 0 ≤ last ∧ last < 4294967296) (hk : k < 1000000) (ht : 0 ≤ turns ∧ turns < 1000000) :
    Calls Try.prog 7 #[.pointer (some ⟨p, 0, none⟩), .int .i64 kind] w fun e w' => e = .returned (.tuple #[.int .u32 y, .int .i64 c]) ∧ Tab w' p b (k + 1) room turns' last' L' ∧ Ext (fun j => j = p ∨ j = b) w w' := by
  cases hO with
  | no c hc =>
    rcases hc with ⟨h1, rfl⟩ | ⟨h1, h2, rfl⟩
    · refine (open_arg h h1).mono ?_
      rintro e w' ⟨rfl, hw⟩
      subst hw
      exact ⟨rfl, h.mono (by omega), Ext.refl _ _⟩
    · refine (open_full h h1 h2).mono ?_
      rintro e w' ⟨rfl, hX⟩
      exact ⟨rfl, (h.keep hX (fun h => h) (fun h => h)).mono (by omega), hX.mono (fun _ _ h => h.elim)⟩
  | ok hka hroom => exact open_ok h hr hka hroom hl hk ht

theorem Opn.ord (hO : Opn room turns last L kind turns' last' y c L') (h : Ord L) (ht : ∀ e ∈ L, e.2.2 < turns) : Ord L' := by
  cases hO with
  | no c hc => exact h
  | ok hk hroom =>
    refine List.pairwise_append.2 ⟨h, List.pairwise_singleton _ _, fun a ha b hb => ?_⟩
    obtain rfl := List.mem_singleton.1 hb
    exact ht a ha
theorem Opn.tl (hO : Opn room turns last L kind turns' last' y c L') (ht : ∀ e ∈ L, e.2.2 < turns) : ∀ e ∈ L', e.2.2 < turns' := by
  cases hO with
  | no c hc => exact ht
  | ok hk hroom =>
    intro e he
    rcases List.mem_append.1 he with he | he
    · have := ht e he; omega
    · obtain rfl := List.mem_singleton.1 he
      show turns < turns + 1
      omega
theorem Opn.wf (hO : Opn room turns last L kind turns' last' y c L') (ht : ∀ e ∈ L, 0 ≤ e.1 ∧ e.1 < 4294967296) : ∀ e ∈ L', 0 ≤ e.1 ∧ e.1 < 4294967296 := by
  cases hO with
  | no c hc => exact ht
  | ok hk hroom =>
    intro e he
    rcases List.mem_append.1 he with he | he
    · exact ht e he
    · obtain rfl := List.mem_singleton.1 he
      exact nx_range _ _
theorem Opn.nums (hO : Opn room turns last L kind turns' last' y c L') (hr : 0 ≤ last ∧ last < 4294967296) (ht : 0 ≤ turns ∧ turns ≤ k) (hl : L.length ≤ k) : (0 ≤ turns' ∧ turns' ≤ (k + 1 : Nat)) ∧ (0 ≤ last' ∧ last' < 4294967296) ∧ L'.length ≤ k + 1 := by
  cases hO with
  | no c hc => exact ⟨⟨ht.1, by omega⟩, hr, by omega⟩
  | ok hk hroom => exact ⟨⟨by omega, by omega⟩, nx_range _ _, by simp; omega⟩
end
end Go.Proofs.Ythminmcdkcnkpaa
