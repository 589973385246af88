/- The names are finitely many: what is reckoned of all. -/
import Derived.Test.YtfdgflpkdidooaaDoorReadAny
namespace Go.Proofs.YtfdgflpkdidooaaDoor
open Go.RowKit

theorem fin_cut : ∀ (t : Fin 14) (c : Fin 16), Lib.cut (nameL t ++ [32] ++ dig c) [32] = (nameL t, dig c, true) := by decide +kernel
theorem fin_ok : ∀ (t : Fin 14) (c : Fin 16), ((nameL t ++ [32] ++ dig c) == [111, 107]) = false := by decide +kernel
theorem fin_atoi : ∀ (c : Fin 16), Lib.atoi (dig c) = some ((c : Nat) : Int) := by decide +kernel
theorem fin_idx : ∀ (t : Fin 14), Lib.idxOfS (List.take 14 nameList) ⟨(nameL t).toArray⟩ = ((t : Nat) : Int) := by decide +kernel
theorem own_cut : ∀ (c : Fin 16), Lib.cut ([111, 119, 110, 32] ++ dig c) [32] = ([111, 119, 110], dig c, true) := by decide +kernel
theorem own_ok : ∀ (c : Fin 16), (([111, 119, 110, 32] ++ dig c) == [111, 107]) = false := by decide +kernel

/-- The name of an error. -/
def nm (e : Int) : List UInt8 :=
  if prOk e = true then nameL (prT e).toNat ++ [32] ++ dig (prC e).toNat
  else if e = 0 then [111, 107]
  else if e = 10337 then [111, 119, 110, 32, 51, 51, 55]
  else if 10001 ≤ e ∧ e ≤ 10008 then [111, 119, 110, 32] ++ dig (e - 10000).toNat
  else []

theorem pr_yes {e : Int} (h : prOk e = true) : ∃ t c : Nat, t < 14 ∧ (c : Int) < cod t ∧ c < 16 ∧ e = 256 * (t : Int) + c + 1 ∧ prT e = t ∧ prC e = c := by
  have hy : 1 ≤ e ∧ (e - 1) % 256 < cod ((e - 1) / 256) := by simpa [prOk] using h
  have hcl := cod_le ((e - 1) / 256)
  have hin := cod_in (t := (e - 1) / 256) (by omega)
  refine ⟨((e - 1) / 256).toNat, ((e - 1) % 256).toNat, by omega, ?_, by omega, by omega, ?_, ?_⟩
  · rw [Int.toNat_of_nonneg (by omega), Int.toNat_of_nonneg (by omega)]; exact hy.2
  · simp only [prT]; rw [if_pos hy, Int.toNat_of_nonneg (by omega)]
  · simp only [prC]; rw [if_pos hy, Int.toNat_of_nonneg (by omega)]

/-- What a name leads back to. -/
def rd (l : List UInt8) : Int :=
  if l = [111, 107] then 0 else
  let p := Lib.cut l [32]
  let n := (Lib.atoi p.2.1).getD 0
  let i := Lib.idxOfS (List.take 14 nameList) ⟨p.1.toArray⟩
  if 0 ≤ i then mk i n else 10000 + n
theorem rd_own : ∀ (c : Fin 16), rd ([111, 119, 110, 32] ++ dig c) = 10000 + ((c : Nat) : Int) := by decide +kernel
theorem rd_nm (e : Int) (h : nm e ≠ []) : rd (nm e) = e := by
  by_cases hp : prOk e = true
  · obtain ⟨t, c, ht, hc, hc16, he, h1, h2⟩ := pr_yes hp
    have e1 : nm e = nameL t ++ [32] ++ dig c := by simp only [nm]; rw [if_pos hp, h1, h2]; rfl
    have hok := fin_ok ⟨t, ht⟩ ⟨c, hc16⟩
    simp only [beq_eq_false_iff_ne] at hok
    rw [e1, rd, if_neg hok]
    simp only [fin_cut ⟨t, ht⟩ ⟨c, hc16⟩, fin_atoi ⟨c, hc16⟩, fin_idx ⟨t, ht⟩, Option.getD_some]
    rw [if_pos (by omega), mk, if_pos ⟨by omega, hc⟩, he]
  · by_cases h0 : e = 0
    · subst h0; decide
    · by_cases h3 : e = 10337
      · subst h3; decide +kernel
      · by_cases h4 : 10001 ≤ e ∧ e ≤ 10008
        · have e1 : nm e = [111, 119, 110, 32] ++ dig (e - 10000).toNat := by simp only [nm]; rw [if_neg hp, if_neg h0, if_neg h3, if_pos h4]
          rw [e1, rd_own ⟨(e - 10000).toNat, by omega⟩]
          simp only
          omega
        · exfalso; apply h; simp only [nm]; rw [if_neg hp, if_neg h0, if_neg h3, if_neg h4]
theorem nm_inj {e f : Int} (h : nm e ≠ []) (he : nm e = nm f) : e = f := by
  rw [← rd_nm e h, he, rd_nm f (by rw [← he]; exact h)]
end Go.Proofs.YtfdgflpkdidooaaDoor
