/- Read of every name. -/
import Derived.Test.YtfdgflpkdidooaaDoorAny
namespace Go.Proofs.YtfdgflpkdidooaaDoor
open Go.RowKit

set_option maxHeartbeats 3200000 in
theorem read_named (s : ByteArray) (wd dg : List UInt8) (n i e0 : Int) (hok : (s.toList == [111, 107]) = false) (hs : s.size < 100) (hcut : Lib.cut s.data.toList [32] = (wd, dg, true)) (hlen : dg.length ≤ 18) (hat : Lib.atoi dg = some n)
    (hidx : Lib.idxOfS (List.take 14 nameList) ⟨wd.toArray⟩ = i) (hn : 0 ≤ n ∧ n ≤ 1000) (h0 : i < 0 → 10000 + n = e0) (h1 : 0 ≤ i → mk i n = e0) (hne : (e0 == 0) = false)
    (hname : ∀ w, Lain w → Calls Tryd.prog 15 #[.int .i64 e0] w fun e w' => e = .returned (.string s) ∧ Grew w w') (w : World) (h : Lain w) :
    Calls Tryd.prog 13 #[.string s] w fun e w' => e = .returned (.tuple #[.int .i64 e0, .bool true]) ∧ Grew w w' := by
  obtain ⟨m, hm⟩ := h.max
  have hnil : ∀ w : World, (binOp .neq 46 .nilIface .nilIface).run Tryd.prog w = .ok (.bool false) w := fun _ => rfl
  obtain ⟨hn0, hn1⟩ := hn
  go_enter Tryd.func13, Tryd.ntmps13
  go_wp2_with fail
  go_at_call 18
  refine (Tryd.strings_Cut _ _ m w (by omega) hm).mono ?_
  rintro e w1 ⟨rfl, n1, hn1'⟩
  have hX : Grew w w1 := by rw [hn1']; exact (Ext.refl _ _).drewN n1
  have h1' := h.keep hX
  clear hn1' hm
  rw [show (ByteArray.data ⟨#[32]⟩).toList = [32] from rfl, hcut]
  go_wp2_with fail
  go_at_call 19
  refine (Tryd.strconv_Atoi ⟨dg.toArray⟩ n (by simp only [ByteArray.size, List.size_toArray]; exact hlen) (by simpa using hat) w1).mono ?_
  rintro e w2 ⟨rfl, hw2⟩
  have hX2 : Grew w1 w2 := by
    obtain ⟨t, rfl⟩ := hw2
    exact bytes_grew _ _
  have h2 := h1'.keep hX2
  replace hX := hX.trans hX2
  clear hw2 hX2 hcut hat h1'
  go_wp2_with fail
  go_at_call 20
  refine (names_eq w2).mono ?_
  rintro e w3 ⟨rfl, hX3⟩
  have h3 := h2.keep hX3
  replace hX := hX.trans hX3
  clear hX3 h2
  rw [show namesV = #[.string ⟨#[104, 101, 108, 108, 111]⟩, .string ⟨#[114, 101, 113, 117, 101, 115, 116]⟩, .string ⟨#[97, 99, 116, 105, 111, 110]⟩, .string ⟨#[105, 110, 115, 116, 114, 117, 99, 116, 105, 111, 110]⟩, .string ⟨#[109, 97, 116, 99, 104]⟩, .string ⟨#[102, 108, 111, 119]⟩, .string ⟨#[103, 114, 111, 117, 112]⟩, .string ⟨#[112, 111, 114, 116]⟩, .string ⟨#[116, 97, 98, 108, 101]⟩, .string ⟨#[113, 117, 101, 117, 101]⟩, .string ⟨#[99, 111, 110, 102, 105, 103]⟩, .string ⟨#[114, 111, 108, 101]⟩, .string ⟨#[109, 101, 116, 101, 114]⟩, .string ⟨#[102, 101, 97, 116, 117, 114, 101, 115]⟩] from rfl]
  go_wp2_with fail
  go_at_call 21
  refine (Tryd.slices_Index_string w3.heap.size 0 14 14 nameList ⟨wd.toArray⟩ _ (by decide) (by decide) (name_cells w3)).mono ?_
  rintro e w4 ⟨rfl, hw4⟩
  have hX4 : Grew w3 w4 := by rw [hw4]; exact (Ext.refl _ _).alloc _
  have h4 := h3.keep hX4
  replace hX := hX.trans hX4
  clear hw4 hX4 h3
  rw [hidx]
  clear hidx
  by_cases hi : 0 ≤ i
  · have hm := make_eq i n w4
    have hmk := h1 hi
    clear h0 h1
    go_wp2_with fail
    go_at_call 6
    refine hm.mono ?_
    rintro e w5 ⟨rfl, rfl⟩
    rw [hmk]
    clear hmk hm
    go_wp2_with fail
    go_at_call 15
    refine (hname _ h4).mono ?_
    rintro e w6 ⟨rfl, hX6⟩
    go_wp2
    go_ret2
    exact ⟨rfl, hX.trans hX6⟩
  · have he := h0 (by omega)
    clear h0 h1
    subst he
    go_wp2_with fail
    go_at_call 15
    refine (hname _ h4).mono ?_
    rintro e w6 ⟨rfl, hX6⟩
    go_wp2
    go_ret2
    exact ⟨rfl, hX.trans hX6⟩
end Go.Proofs.YtfdgflpkdidooaaDoor
