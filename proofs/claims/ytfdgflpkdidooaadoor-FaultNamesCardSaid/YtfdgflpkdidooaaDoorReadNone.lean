/- Read of what is no name; the document's Read. -/
import Derived.Test.YtfdgflpkdidooaaDoorAtoi
namespace Go.Proofs.YtfdgflpkdidooaaDoor
open Go.RowKit

/-- No error has this name. -/
structure NoName (l : List UInt8) : Prop where
  no : ∀ e, nm e ≠ [] → nm e ≠ l

theorem NoName.name {l : List UInt8} (h : NoName l) {e : Int} (hl : l ≠ []) : nm e ≠ l := fun he => h.no e (by rw [he]; exact hl) he
theorem atoi_nil : (Lib.cut [] [32]).2.1 = [] := by decide
theorem nil_bad {v : Value} (h : AtE [] v) : ∃ n N, v = .tuple #[.int .i64 n, .iface 62 (.pointer (some ⟨N, 0, none⟩))] := by
  cases h with
  | good v h => cases h
  | bad v N => exact ⟨v, N, rfl⟩

set_option maxHeartbeats 3200000 in
theorem read_none (s : ByteArray) (hs : s.size ≤ 100) (hno : NoName s.data.toList) (w : World) (h : Full w) :
    Calls Tryd.prog 13 #[.string s] w fun e w' => e = .returned (.tuple #[.int .i64 0, .bool false]) ∧ Grew w w' := by
  obtain ⟨m, hm⟩ := h.max
  have hnil : ∀ w : World, (binOp .neq 46 .nilIface .nilIface).run Tryd.prog w = .ok (.bool false) w := fun _ => rfl
  have hnn : ∀ (N : Nat) (w : World), (binOp .neq 46 (.iface 62 (.pointer (some ⟨N, 0, none⟩))) .nilIface).run Tryd.prog w = .ok (.bool true) w := fun _ _ => rfl
  have hok : (s.toList == [111, 107]) = false := by
    have := hno.no 0 (by decide)
    rw [show nm 0 = [111, 107] by decide] at this
    rw [beq_eq_false_iff_ne, ByteArray.toList_eq]
    exact fun e => this e.symm
  have hsl : s.data.toList.length ≤ 100 := by rw [← Lib.size_eq]; exact hs
  have hcl := cut_len s.data.toList [32]
  have hnc : s.data.toList = [] → (Lib.cut s.data.toList [32]).2.1 = [] := fun e => by rw [e]; exact atoi_nil
  generalize hcut : Lib.cut s.data.toList [32] = cu at *
  obtain ⟨wd, dg, b⟩ := cu
  simp only at hcl hnc
  go_enter Tryd.func13, Tryd.ntmps13
  go_wp2_with fail
  go_at_call 18
  refine (Tryd.strings_Cut _ _ m w (by omega) hm).mono ?_
  rintro e w1 ⟨rfl, n1, hn1'⟩
  have hX : Grew w w1 := by rw [hn1']; exact (Ext.refl _ _).drewN n1
  have h1' := h.keep hX
  clear hn1' hm
  rw [show (ByteArray.data ⟨#[32]⟩).toList = [32] from rfl, hcut]
  go_wp2_with fail
  go_at_call 19
  refine (atoi_any ⟨dg.toArray⟩ (by simp only [ByteArray.size, List.size_toArray]; omega) w1 h1').mono ?_
  rintro e w2 ⟨⟨v, rfl, hv⟩, hX2⟩
  have h2 := h1'.keep hX2
  replace hX := hX.trans hX2
  clear hX2 hcut h1' hcl
  have hv' : AtE dg v := hv
  clear hv
  have hgood : (∃ n N, v = .tuple #[.int .i64 n, .iface 62 (.pointer (some ⟨N, 0, none⟩))]) ∨ (∃ n, v = .tuple #[.int .i64 n, .nilIface] ∧ s.data.toList ≠ [] ∧ -9223372036854775808 ≤ n ∧ n ≤ 9223372036854775807) := by
    cases hv' with
    | good n hn => exact .inr ⟨n, rfl, (fun e => by have := hnc e; subst this; cases hn), (Lib.atoiAll_bounds hn).1, (Lib.atoiAll_bounds hn).2⟩
    | bad n N => exact .inl ⟨n, N, rfl⟩
  clear hv'
  rcases hgood with ⟨n, N, rfl⟩ | ⟨n, rfl, hne, hn0, hn1⟩
  · have hnn' := hnn N
    clear hnn
    go_wp2
    go_ret2
    exact ⟨rfl, hX⟩
  · have hnm := fun e => NoName.name (e := e) hno hne
    clear hnn hno hok hsl hnc
    go_wp2_with fail
    go_at_call 20
    refine (names_eq w2).mono ?_
    rintro e w3 ⟨rfl, hX3⟩
    have h3 := h2.keep hX3
    replace hX := hX.trans hX3
    clear hX3 h2
    rw [show namesV = #[.string ⟨#[104, 101, 108, 108, 111]⟩, .string ⟨#[114, 101, 113, 117, 101, 115, 116]⟩, .string ⟨#[97, 99, 116, 105, 111, 110]⟩, .string ⟨#[105, 110, 115, 116, 114, 117, 99, 116, 105, 111, 110]⟩, .string ⟨#[109, 97, 116, 99, 104]⟩, .string ⟨#[102, 108, 111, 119]⟩, .string ⟨#[103, 114, 111, 117, 112]⟩, .string ⟨#[112, 111, 114, 116]⟩, .string ⟨#[116, 97, 98, 108, 101]⟩, .string ⟨#[113, 117, 101, 117, 101]⟩, .string ⟨#[99, 111, 110, 102, 105, 103]⟩, .string ⟨#[114, 111, 108, 101]⟩, .string ⟨#[109, 101, 116, 101, 114]⟩, .string ⟨#[102, 101, 97, 116, 117, 114, 101, 115]⟩] from rfl]
    go_wp2_with fail
    go_at_call 21
    refine (Tryd.slices_Index_string w3.heap.size 0 14 14 nameList ⟨wd.toArray⟩ _ (by decide) (by decide) (name_cells w3)).mono ?_
    rintro e w4 ⟨rfl, hw4⟩
    have hX4 : Grew w3 w4 := by rw [hw4]; exact (Ext.refl _ _).alloc _
    have h4 := h3.keep hX4
    replace hX := hX.trans hX4
    clear hw4 hX4 h3
    generalize Lib.idxOfS (List.take 14 nameList) ⟨wd.toArray⟩ = i at *
    by_cases hi : 0 ≤ i
    · have hm := make_eq i n w4
      go_wp2_with fail
      go_at_call 6
      refine hm.mono ?_
      rintro e w5 ⟨rfl, rfl⟩
      have hmb : -9223372036854775808 ≤ mk i n ∧ mk i n ≤ 9223372036854775807 := by
        have := cod_le i
        rw [mk]
        split
        · have := cod_in (t := i) (by omega)
          omega
        · omega
      clear hm
      generalize mk i n = e1 at *
      by_cases h0 : e1 = 0
      · subst h0
        clear hnm
        go_wp2
        go_ret2
        exact ⟨rfl, hX⟩
      · have hz : (e1 == 0) = false := by simp [h0]
        have hq : (nm e1 == s.toList) = false := by
          rw [beq_eq_false_iff_ne, ByteArray.toList_eq]; exact hnm e1
        clear h0 hnm
        go_wp2_with fail
        go_at_call 15
        refine (name_any e1 hmb.1 hmb.2 _ h4.toLain).mono ?_
        rintro e w6 ⟨rfl, hX6⟩
        go_wp2
        go_ret2
        exact ⟨rfl, hX.trans hX6⟩
    · have hwb : -9223372036854775808 ≤ wrap64 (10000 + n) ∧ wrap64 (10000 + n) ≤ 9223372036854775807 := by unfold wrap64; omega
      by_cases h0 : wrap64 (10000 + n) = 0
      · have hz : (wrap64 (10000 + n) == 0) = true := by simp [h0]
        clear hnm
        go_wp2
        go_ret2
        exact ⟨rfl, hX⟩
      · have hz : (wrap64 (10000 + n) == 0) = false := by simp [h0]
        have hq : (nm (wrap64 (10000 + n)) == s.toList) = false := by
          rw [beq_eq_false_iff_ne, ByteArray.toList_eq]; exact hnm _
        clear hnm
        go_wp2_with fail
        go_at_call 15
        refine (name_any _ hwb.1 hwb.2 _ h4.toLain).mono ?_
        rintro e w6 ⟨rfl, hX6⟩
        go_wp2
        go_ret2
        exact ⟨rfl, hX.trans hX6⟩
end Go.Proofs.YtfdgflpkdidooaaDoor
