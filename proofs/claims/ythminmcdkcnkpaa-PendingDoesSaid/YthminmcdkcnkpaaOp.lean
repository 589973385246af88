/- op: one act on both tables. -/
import Derived.Test.YthminmcdkcnkpaaSame
import Derived.Test.YthminmcdkcnkpaaClone
namespace Go.Proofs.Ythminmcdkcnkpaa
open Go.RowKit Go.Maps
attribute [local go_sem] Oper.semAt_some

theorem Rl.own {w w' : World} {Av : Nat → Prop} {v : Value} {L : List En} (h : Rl w Av v L) (hB : Below w.heap.size w w') : Rl w' (fun j => Av j ∨ w.heap.size ≤ j) v L := by
  obtain ⟨q, cap, rfl, hc, h⟩ := h
  refine ⟨q, cap, rfl, hc, fun hl => ?_⟩
  obtain ⟨b, off, rfl, h1, h2, h3⟩ := h hl
  exact ⟨b, off, rfl, fun a => a.elim h1 (fun a => by omega), Nat.lt_of_lt_of_le h2 hB.size, fun j e he => ⟨(hB.cell (p := ⟨b, off + j * 2, none⟩) h2).trans (h3 j e he).1, (hB.cell (p := ⟨b, off + j * 2 + 1, none⟩) h2).trans (h3 j e he).2⟩⟩

/-- Both tables, beside the law's own block B. -/
structure St (B0 B : Nat) (w0 w : World) (p b k : Nat) (room turns last : Int) (L : List En) (v : Value) : Prop where
  tab : Tab w p b k room turns last L
  rl : Rl w (fun j => j = p ∨ j = b ∨ j = B) v L
  ord : Ord L
  tl : ∀ e ∈ L, e.2.2 < turns
  wf : ∀ e ∈ L, 0 ≤ e.1 ∧ e.1 < 4294967296
  t0 : 0 ≤ turns ∧ turns ≤ k
  lr : 0 ≤ last ∧ last < 4294967296
  len : L.length ≤ k
  ext : Ext (fun j => B0 ≤ j ∧ j ≠ B) w0 w
  low : B0 ≤ p ∧ B0 ≤ b ∧ p ≠ B ∧ b ≠ B ∧ B < w0.heap.size

section
variable {B0 B : Nat} {w0 w w' : World} {p b k : Nat} {room turns last : Int} {L : List En} {v : Value}
theorem St.nd (h : St B0 B w0 w p b k room turns last L v) : (keys L).Nodup := by
  obtain ⟨D, _, hM⟩ := h.tab.map
  exact hM.nd
theorem St.below (h : St B0 B w0 w p b k room turns last L v) (hB : Below w.heap.size w w') : St B0 B w0 w' p b k room turns last L v := by
  have hE : Ext (fun _ => False) w w' := Ext.of_below hB
  exact ⟨h.tab.keep hE (fun h => h) (fun h => h), h.rl.keep hE (fun _ _ h => h.elim), h.ord, h.tl, h.wf, h.t0, h.lr, h.len, h.ext.trans (hE.mono (fun _ _ h => h.elim)), h.low⟩
/-- What holds of both tables while op's own blocks change. -/
theorem St.turn {S Av : Nat → Prop} (h : St B0 B w0 w p b k room turns last L v) (hr : Rl w Av v L) (hx : Ext S w w') (ha : ∀ j, S j → Av j) (hp : ¬ S p ∧ ¬ S b) (h1 : ∀ j, j = p ∨ j = b ∨ j = B → Av j) (h0 : ∀ j, S j → B0 ≤ j ∧ j ≠ B) : St B0 B w0 w' p b k room turns last L v :=
  ⟨h.tab.keep hx hp.1 hp.2, (hr.keep hx (fun j _ hj => ha j hj)).mono (fun j _ hj => h1 j hj), h.ord, h.tl, h.wf, h.t0, h.lr, h.len, h.ext.trans (hx.mono (fun j _ hj => h0 j hj)), h.low⟩
theorem St.more {k' : Nat} (h : St B0 B w0 w p b k room turns last L v) (hk : k ≤ k') : St B0 B w0 w p b k' room turns last L v :=
  ⟨h.tab.mono hk, h.rl, h.ord, h.tl, h.wf, by have := h.t0; omega, h.lr, by have := h.len; omega, h.ext, h.low⟩
end

/-- op's own blocks: the table's box, the act's box, the result. -/
structure Th (w W : World) (room last : Int) (v : Value) (d kind x : Int) (r2 l2 : Int) (v2 : Value) : Prop where
  tb : Bx W w.heap.size room last v
  o0 : W.cell? ⟨w.heap.size + 1, 0, none⟩ = some (.int .i64 d)
  o1 : W.cell? ⟨w.heap.size + 1, 1, none⟩ = some (.int .i64 kind)
  o3 : W.cell? ⟨w.heap.size + 1, 3, none⟩ = some (.int .u32 x)
  of : ∀ i, W.frozen? ⟨w.heap.size + 1, i, none⟩ = false
  rs : Bx W (w.heap.size + 1 + 1) r2 l2 v2
theorem Th.keep {w W W' : World} {room last d kind x r2 l2 : Int} {v v2 : Value} {S : Nat → Prop} (h : Th w W room last v d kind x r2 l2 v2) (hx : Ext S W W') (hs : ∀ k, S k → k < w.heap.size ∨ w.heap.size + 2 < k) : Th w W' room last v d kind x r2 l2 v2 := by
  have hlt := h.rs.lt
  have n0 : ¬ S w.heap.size := fun s => by have := hs _ s; omega
  have n1 : ¬ S (w.heap.size + 1) := fun s => by have := hs _ s; omega
  have n2 : ¬ S (w.heap.size + 1 + 1) := fun s => by have := hs _ s; omega
  exact ⟨h.tb.keep hx n0, (hx.cell (p := ⟨w.heap.size + 1, 0, none⟩) (show w.heap.size + 1 < W.heap.size by omega) n1).trans h.o0, (hx.cell (p := ⟨w.heap.size + 1, 1, none⟩) (show w.heap.size + 1 < W.heap.size by omega) n1).trans h.o1, (hx.cell (p := ⟨w.heap.size + 1, 3, none⟩) (show w.heap.size + 1 < W.heap.size by omega) n1).trans h.o3, fun i => (hx.frozen (p := ⟨w.heap.size + 1, i, none⟩) (show w.heap.size + 1 < W.heap.size by omega) n1).trans (h.of i), h.rs.keep hx n2⟩

theorem Th.setX {w W : World} {room last d kind x r2 l2 : Int} {v v2 : Value} (h : Th w W room last v d kind x r2 l2 v2) (y : Int) : Th w (W.setCell ⟨w.heap.size + 1, 3, none⟩ (.int .u32 y)) room last v d kind y r2 l2 v2 := by
  have hx := ext_set1 (W := W) (B := w.heap.size + 1) 3 (.int .u32 y)
  refine ⟨h.tb.keep hx (by omega), ?_, ?_, World.cell?_setCell_same _ _ _ h.o3, fun i => by rw [World.frozen?_setCell]; exact h.of i, h.rs.keep hx (by omega)⟩
  · rw [World.cell?_setCell_other _ _ _ _ (by simp)]; exact h.o0
  · rw [World.cell?_setCell_other _ _ _ _ (by simp)]; exact h.o1

theorem th_start (w : World) (room last : Int) (v : Value) (d kind near x : Int) :
    Th w (((w.alloc (.cells #[.int .i64 room, .int .u32 last, v] 39)).alloc (.cells #[.int .i64 d, .int .i64 kind, .int .i64 near, .int .u32 x] 29)).alloc (.cells #[.int .i64 0, .int .u32 0, .slice none 0 0] 39)) room last v d kind x 0 0 (.slice none 0 0) ∧ Below w.heap.size w (((w.alloc (.cells #[.int .i64 room, .int .u32 last, v] 39)).alloc (.cells #[.int .i64 d, .int .i64 kind, .int .i64 near, .int .u32 x] 29)).alloc (.cells #[.int .i64 0, .int .u32 0, .slice none 0 0] 39)) := by
  have h1 := (MapKept.heap_alloc w (.cells #[.int .i64 room, .int .u32 last, v] 39)).1
  have h2 := (MapKept.heap_alloc (w.alloc (.cells #[.int .i64 room, .int .u32 last, v] 39)) (.cells #[.int .i64 d, .int .i64 kind, .int .i64 near, .int .u32 x] 29)).1
  have h3 := (MapKept.heap_alloc ((w.alloc (.cells #[.int .i64 room, .int .u32 last, v] 39)).alloc (.cells #[.int .i64 d, .int .i64 kind, .int .i64 near, .int .u32 x] 29)) (.cells #[.int .i64 0, .int .u32 0, .slice none 0 0] 39)).1
  have s1 : (w.alloc (.cells #[.int .i64 room, .int .u32 last, v] 39)).heap.size = w.heap.size + 1 := by simp
  have s2 : ((w.alloc (.cells #[.int .i64 room, .int .u32 last, v] 39)).alloc (.cells #[.int .i64 d, .int .i64 kind, .int .i64 near, .int .u32 x] 29)).heap.size = w.heap.size + 2 := by simp
  rw [s1] at h2
  rw [s2] at h3
  have k2 : ∀ o, (((w.alloc (.cells #[.int .i64 room, .int .u32 last, v] 39)).alloc (.cells #[.int .i64 d, .int .i64 kind, .int .i64 near, .int .u32 x] 29)).alloc o).heap[w.heap.size + 1]? = some (.cells #[.int .i64 d, .int .i64 kind, .int .i64 near, .int .u32 x] 29) := fun o => (Below.heap_alloc _ _ _ (by rw [s2]; omega)).trans h2
  refine ⟨⟨((Bx.of_obj h1).keep ((Ext.refl (fun _ => False) _).alloc _) (fun h => h)).keep ((Ext.refl (fun _ => False) _).alloc _) (fun h => h), ?_, ?_, ?_, fun i => ?_, Bx.of_obj h3⟩, (((Below.refl _ w).alloc (Nat.le_refl _) _).alloc (by simp) _).alloc (by simp; omega) _⟩
  · simp only [World.cell?, k2]; rfl
  · simp only [World.cell?, k2]; rfl
  · simp only [World.cell?, k2]; rfl
  · simp only [World.frozen?, k2]; rfl
end Go.Proofs.Ythminmcdkcnkpaa
