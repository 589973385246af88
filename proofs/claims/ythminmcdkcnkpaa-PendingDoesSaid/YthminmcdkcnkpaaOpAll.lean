/- op, whatever the act is. -/
import Derived.Test.YthminmcdkcnkpaaOpC
import Derived.Test.YthminmcdkcnkpaaOpDropBC
import Derived.Test.YthminmcdkcnkpaaOpCloseBC
import Derived.Test.YthminmcdkcnkpaaOpOpenBC
import Derived.Test.YthminmcdkcnkpaaOpCloneBC
namespace Go.Proofs.Ythminmcdkcnkpaa
open Go.RowKit Go.Maps

theorem op_ok {B0 B : Nat} {w0 w : World} {p b k : Nat} {room turns last : Int} {L : List En} {v : Value} (hS : St B0 B w0 w p b k room turns last L v) (hk : k ≤ 500) (d kind near x : Int) (hx : 0 ≤ x ∧ x < 4294967296) :
    Calls Try.prog 10 #[.pointer (some ⟨p, 0, none⟩), .agg #[.int .i64 room, .int .u32 last, v], .agg #[.int .i64 d, .int .i64 kind, .int .i64 near, .int .u32 x]] w fun e w' =>
      ∃ (p' b' : Nat) (turns' last' : Int) (L' : List En) (v' : Value), e = .returned (.tuple #[.pointer (some ⟨p', 0, none⟩), .agg #[.int .i64 room, .int .u32 last', v'], .bool true]) ∧ St B0 B w0 w' p' b' (k + 1) room turns' last' L' v' := by
  by_cases hn : near < 0
  · by_cases h0 : d = 0
    · subst h0; exact op_openA hS hk kind near x hx hn
    · by_cases h1 : d = 1
      · subst h1; exact op_closeA hS hk kind near x hx hn
      · by_cases h2 : d = 2
        · subst h2; exact op_dropA hS hk kind near x hx hn
        · by_cases h3 : d = 3
          · subst h3; exact op_nextA hS hk kind near x hx hn
          · exact op_cloneA hS hk d kind near x (by simp [h0]) (by simp [h1]) (by simp [h2]) (by simp [h3]) hx hn
  · have hn0 : 0 ≤ near := by omega
    by_cases hl : (L.length : Int) ≤ near
    · by_cases h0 : d = 0
      · subst h0; exact op_openB hS hk kind near x hx hn0 hl
      · by_cases h1 : d = 1
        · subst h1; exact op_closeB hS hk kind near x hx hn0 hl
        · by_cases h2 : d = 2
          · subst h2; exact op_dropB hS hk kind near x hx hn0 hl
          · by_cases h3 : d = 3
            · subst h3; exact op_nextB hS hk kind near x hx hn0 hl
            · exact op_cloneB hS hk d kind near x (by simp [h0]) (by simp [h1]) (by simp [h2]) (by simp [h3]) hx hn0 hl
    · obtain ⟨j, rfl⟩ : ∃ j : Nat, near = j := ⟨near.toNat, by omega⟩
      have hj : j < L.length := by omega
      have he0 : L[j]? = some L[j] := List.getElem?_eq_getElem hj
      by_cases h0 : d = 0
      · subst h0; exact op_openC hS hk kind x j _ he0 hx
      · by_cases h1 : d = 1
        · subst h1; exact op_closeC hS hk kind x j _ he0 hx
        · by_cases h2 : d = 2
          · subst h2; exact op_dropC hS hk kind x j _ he0 hx
          · by_cases h3 : d = 3
            · subst h3; exact op_nextC hS hk kind x j _ he0 hx
            · exact op_cloneC hS hk d kind x j _ he0 (by simp [h0]) (by simp [h1]) (by simp [h2]) (by simp [h3]) hx
end Go.Proofs.Ythminmcdkcnkpaa
