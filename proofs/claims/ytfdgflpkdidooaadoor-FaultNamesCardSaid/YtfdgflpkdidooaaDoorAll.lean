/- The document's list of all errors that have a name. -/
import Derived.Test.YtfdgflpkdidooaaDoorDigits
namespace Go.Proofs.YtfdgflpkdidooaaDoor
open Go.RowKit

theorem Tryd.info3 : (Tryd.prog.info? 3).map (fun i => (i.zero, i.size, i.bytes)) = some (some (.int .i64 0), 1, 8) := by kernel_rfl

def rowOf (t n : Nat) : List Int := (List.range n).map fun (c : Nat) => 256 * (t : Int) + (c : Int) + 1
def baseL : List Int := [0, 10001, 10002, 10003, 10004, 10005, 10006, 10007, 10008, 10337]
def uptoT (t : Nat) : List Int := baseL ++ (List.range t).flatMap fun (t' : Nat) => rowOf t' (cod (t' : Int)).toNat
theorem uptoT_succ (t : Nat) : uptoT (t + 1) = uptoT t ++ rowOf t (cod (t : Int)).toNat := by
  simp [uptoT, List.range_succ, List.flatMap_append]
theorem rowOf_succ (t n : Nat) : rowOf t (n + 1) = rowOf t n ++ [256 * (t : Int) + (n : Int) + 1] := by
  simp [rowOf, List.range_succ]
theorem rowOf_len (t n : Nat) : (rowOf t n).length = n := by simp [rowOf]
theorem uptoT_len (t : Nat) : (uptoT t).length ≤ 10 + 16 * t := by
  induction t with
  | zero => simp [uptoT, baseL]
  | succ t ih =>
    rw [uptoT_succ, List.length_append, rowOf_len]
    have := cod_le (t : Int)
    omega
def allL : List Int := uptoT 14
theorem mem_all {e : Int} : e ∈ allL ↔ e ∈ baseL ∨ prOk e = true := by
  simp only [allL, uptoT, List.mem_append, List.mem_flatMap, List.mem_range, rowOf, List.mem_map]
  constructor
  · rintro (h | ⟨t, ht, c, hc, rfl⟩)
    · exact .inl h
    · exact .inr (pr_of (t := (t : Int)) (c := (c : Int)) (by omega) (by omega) (by have := cod_le (t : Int); omega)).2.2
  · rintro (h | h)
    · exact .inl h
    · obtain ⟨t, c, ht, hc, _, he, _, _⟩ := pr_yes h
      exact .inr ⟨t, ht, c, by omega, he.symm⟩

theorem Ext.grown {S : Nat → Prop} {a w w' : World} {row : Option Nat} (h : Ext S a w) (hg : w.grownBy w' row) (hrow : ∀ k, row = some k → S k ∨ a.heap.size ≤ k) : Ext S a w' :=
  ⟨hg.os.trans h.os, hg.tape.trans h.tape, hg.output.trans h.output, Nat.le_trans h.size hg.size, fun k hk ns =>
    (hg.block k (Nat.lt_of_lt_of_le hk h.size) (fun e => by rcases hrow k e.symm with s | s; exact ns s; omega)).trans (h.block k hk ns)⟩
theorem owns_grew {w w' : World} {base e size n : Nat} {v : Value} {xs : List Value} (h : w.ownsRow base e size v n xs) (hX : Grew w w') : w'.ownsRow base e size v n xs :=
  ⟨h.1, by
    rcases h.2 with hn | ⟨g, cap, cur, hv, hb, hg, rest⟩
    · exact .inl hn
    · exact .inr ⟨g, cap, cur, hv, hb, (hX.block g ((Array.getElem?_eq_some_iff.1 hg).1) (fun h => h)).trans hg, rest⟩⟩

set_option maxHeartbeats 3200000 in
set_option maxRecDepth 20000 in
theorem all_eq (w : World) : Calls Tryd.prog 22 #[] w fun e w' => ∃ v, e = .returned v ∧ w'.ownsRow w.heap.size 3 1 v allL.length (allL.map (.int .i64)) ∧ Grew w w' := by
  obtain ⟨i0, hi, hz0, hz1, hz2⟩ := info_parts Tryd.info3
  have hrow0 : (w.alloc (.cells #[.int .i64 0, .int .i64 10001, .int .i64 10002, .int .i64 10003, .int .i64 10004, .int .i64 10005, .int .i64 10006, .int .i64 10007, .int .i64 10008, .int .i64 10337] 3)).ownsRow w.heap.size 3 1 (.slice (some ⟨w.heap.size, 0, none⟩) 10 10) 10 (baseL.map (.int .i64)) := World.ownsRow_lit w _ 10 (Nat.le_refl _) (by decide) rfl
  have hX0 : Grew w (w.alloc (.cells #[.int .i64 0, .int .i64 10001, .int .i64 10002, .int .i64 10003, .int .i64 10004, .int .i64 10005, .int .i64 10006, .int .i64 10007, .int .i64 10008, .int .i64 10337] 3)) := (Ext.refl _ w).alloc _
  go_enter Tryd.func22, Tryd.ntmps22
  go_wp2_with fail
  generalize w.alloc (.cells #[.int .i64 0, .int .i64 10001, .int .i64 10002, .int .i64 10003, .int .i64 10004, .int .i64 10005, .int .i64 10006, .int .i64 10007, .int .i64 10008, .int .i64 10337] 3) = w0 at *
  go_loopw [1, 2] (fun v i wr => ∃ t : Nat, t ≤ 14 ∧ i = .int .i64 t ∧ wr.ownsRow w.heap.size 3 1 v (uptoT t).length ((uptoT t).map (.int .i64)) ∧ Grew w wr) (fun _ i _ => (14 - intOf i).toNat)
  case atStart => exact ⟨0, by omega, rfl, by rw [show uptoT 0 = baseL by simp [uptoT]]; exact hrow0, hX0⟩
  case round =>
    obtain ⟨t, ht, rfl, hrow, hX⟩ := hrel
    obtain ⟨wA, hwA⟩ : ∃ x, x = wr := ⟨_, rfl⟩
    subst hwA
    have hul := uptoT_len t
    by_cases ht14 : t < 14
    · have ht14' : (t : Int) < 14 := by omega
      have hcl := cod_le (t : Int)
      have hus := uptoT_succ t
      generalize hcd : cod (t : Int) = cd at *
      go_wp2_with fail
      go_loopw [1, 3] (fun v i wr => ∃ c : Nat, (c : Int) ≤ cd ∧ i = .int .i64 c ∧ wr.ownsRow w.heap.size 3 1 v (uptoT t ++ rowOf t c).length ((uptoT t ++ rowOf t c).map (.int .i64)) ∧ Grew w wr) (fun _ i _ => (cd - intOf i).toNat)
      case atStart => exact ⟨0, by simpa using hcl.1, rfl, by simpa [rowOf] using hrow, hX⟩
      case round =>
        obtain ⟨c, hc, rfl, hrow2, hX2⟩ := hrel
        have hcodes := refCodes_eq (t : Int) wr
        rw [hcd] at hcodes
        have hrl := rowOf_len t c
        by_cases hcc : (c : Int) < cd
        · go_wp2_with fail
          go_at_call 11
          refine hcodes.mono ?_
          rintro e w3 ⟨rfl, hX3⟩
          have hrow3 := owns_grew hrow2 hX3
          have hX23 := hX2.trans hX3
          have hrs := rowOf_succ t c
          clear hcodes hcd hrow2 hX2 hX3 hrow
          have hbase := hX23.size
          have hown : (w3.alloc (.cells #[.int .i64 (256 * (t : Int) + c + 1)] 3)).ownsRow w.heap.size 3 1 _ _ _ := hrow3.alloc _
          go_wp2_with (first
            | (at_builtin; refine wpList_append_own _ rfl (.tmp 15) (.tmp 21) 53 rfl w.heap.size 3 i0 (.int .i64 0) 1 8 Tryd.underlying53 hi hz0 hz1 hz2 rfl (by decide) _ _ _ rfl hown ⟨w3.heap.size, 0, none⟩ 1 1 [.int .i64 (256 * (t : Int) + c + 1)] rfl rfl (cell_one_new _ _ _) (fun u hu => by simp at hu; subst hu; rfl) (by unfold maxLen; simp; omega) (by simp; omega) (by simp; omega) ?_))
          intro v' w4 hown4 hgrow4 _
          have hX4 : Grew w w4 := Ext.grown (hX23.alloc _) hgrow4 (fun k e => .inr (hown.lt k e).1)
          clear hown hgrow4 hrow3
          go_wp2_with fail
          go_roundw
          case rel => exact ⟨c + 1, by omega, by go_num, by rw [hrs]; simpa [hrl, Nat.add_assoc] using hown4, hX4⟩
          case measure => simp [intOf]; omega
        · have hce : cd.toNat = c := by omega
          rw [hce] at hus
          go_wp2_with fail
          go_at_call 11
          refine hcodes.mono ?_
          rintro e w3 ⟨rfl, hX3⟩
          have hrow3 := owns_grew hrow2 hX3
          have hX23 := hX2.trans hX3
          clear hcodes hcd hrow2 hX2 hX3 hrow hce hrl hul
          rw [← hus] at hrow3
          go_wp2_with fail
          go_roundw
          case rel => exact ⟨t + 1, by omega, by go_num, hrow3, hX23⟩
          case measure => simp [intOf]; omega
    · have hte : t = 14 := by omega
      subst hte
      go_wp2_with fail
      go_ret
      exact ⟨_, rfl, hrow, hX⟩
end Go.Proofs.YtfdgflpkdidooaaDoor
