/- fixed of nameplatelaw16. -/
import Derived.Test.YtniambdfgojgeaaRmk
import Derived.Test.YtniambdfgojgeaaEck
import Derived.Laws.Tables
import Derived.Handy
namespace Go.Proofs.Ytniambdfgojgeaa
open Go.RowKit Go.PlainAid

/-- a store of a whole struct over a row -/
theorem wpList_store_row {P : Program} {w : World} {ops : Array Oper} {rest : List Oper} {o : Oper} {a : Act} {Q : Exit → Act → World → Prop} (hgd : o.guard = none) (ty : TypeId) (x y : Operand) (ho : o.op = .store ty x y)
    (g : Nat) (cells : Array Value) (hx : a.eval x = .pointer (some ⟨g, 0, none⟩)) (hy : a.eval y = .agg cells)
    (t : TypeId) (old : Array Value) (hg : w.heap[g]? = some (.cells old t (0, 0))) (hi : (P.info? ty).map (·.size) = some cells.size)
    (hold : old.size = cells.size) (h1 : cells.all (·.oneCell') = true)
    (h : wpList P ops Q rest (a.put o.dst undef) (w.setRow g cells)) : wpList P ops Q (o :: rest) a w :=
  wpList_plain hgd fun _ hK => wp_store_row ty x y ho g cells hx hy t old hg hi hold h1 (hK _ _ h)
theorem below_setRow {B b : Nat} {a w : World} {cs : Array Value} (h : Below B a w) (hb : B ≤ b) (hlt : b < w.heap.size) : Below B a (w.setRow b cs) :=
  h.grown (row := some b) ⟨rfl, rfl, rfl, by simp [World.setRow], fun k _ hn => setRow_other w b k cs (fun e => hn (by rw [e]))⟩ (by omega) (fun k e => by cases e; exact hb)

/-- a box that holds an entry, cell by cell -/
theorem box_cells {w : World} {b : Nat} {v0 v1 v2 v3 v4 v5 v6 : Value} (h : w.heap[b]? = some (.cells #[v0, v1, v2, v3, v4, v5, v6] 52 (0, 0))) :
    w.cell? ⟨b, 0, none⟩ = some v0 ∧ w.cell? ⟨b, 1, none⟩ = some v1 ∧ w.cell? ⟨b, 2, none⟩ = some v2 ∧ w.cell? ⟨b, 3, none⟩ = some v3 ∧ w.cell? ⟨b, 4, none⟩ = some v4 ∧ w.cell? ⟨b, 5, none⟩ = some v5 ∧ w.cell? ⟨b, 6, none⟩ = some v6 ∧ ∀ j, w.frozen? ⟨b, j, none⟩ = false :=
  ⟨Lib.cell_of_heap h 0, Lib.cell_of_heap h 1, Lib.cell_of_heap h 2, Lib.cell_of_heap h 3, Lib.cell_of_heap h 4, Lib.cell_of_heap h 5, Lib.cell_of_heap h 6, fun j => Lib.frozen_of_heap h j⟩

/-- the rows of a fixed entry: its addresses, its ports -/
structure FixedAt (B ga gp : Nat) (w : World) : Prop where
  ra : w.heap[ga]? = some (.cells #[.bool false, .int .u64 0, .int .u64 16909060, .bool true, .int .u64 0, .int .u64 1] 56 (0, 0))
  rp : w.heap[gp]? = some (.cells #[.int .i64 80, .int .i64 443] 3 (0, 0))
  ba : B ≤ ga
  bp : B ≤ gp
abbrev hostBA : ByteArray := ⟨#[1, 98, 1, 97]⟩
abbrev textX : ByteArray := ⟨#[120]⟩
abbrev fixedV (ga gp : Nat) : Value := ev hostBA 1 textX (.slice (some ⟨ga, 0, none⟩) 2 2) ByteArray.empty (.slice (some ⟨gp, 0, none⟩) 2 2) 30

set_option maxRecDepth 100000 in
set_option maxHeartbeats 2000000 in
theorem fixed_any (w : World) :
    Calls Try.prog 21 #[] w fun e w' => ∃ ga gp, e = .returned (fixedV ga gp) ∧ FixedAt w.heap.size ga gp w' ∧ Below w.heap.size w w' := by
  go_enter Try.func21, Try.ntmps21
  go_wp2_with fail
  have hh := host_two 98 97 (w.alloc (.cells #[.string ByteArray.empty, .int .i64 0, .string ByteArray.empty, .slice none 0 0, .string ByteArray.empty, .slice none 0 0, .int .u32 0] 52))
  rw [World.size_alloc] at hh
  refine hh.mono ?_
  rintro e w1 ⟨rfl, hb⟩
  have hbx := (hb.block w.heap.size (by omega)).trans (heap_alloc_new w (.cells #[.string ByteArray.empty, .int .i64 0, .string ByteArray.empty, .slice none 0 0, .string ByteArray.empty, .slice none 0 0, .int .u32 0] 52))
  have hB : Below w.heap.size w w1 := ((Below.refl _ w).alloc (Nat.le_refl _) _).trans (hb.mono (by omega))
  have hlt := lt_of_heap hbx
  obtain ⟨A, hA⟩ : ∃ o : Obj, o = .cells #[.bool false, .int .u64 0, .int .u64 16909060, .bool true, .int .u64 0, .int .u64 1] 56 := ⟨_, rfl⟩
  obtain ⟨P, hP⟩ : ∃ o : Obj, o = .cells #[.int .i64 80, .int .i64 443] 3 := ⟨_, rfl⟩
  have hx2 : ((w1.alloc A).alloc P).heap[w.heap.size]? = _ := (Below.heap_alloc _ P _ (by simp; omega)).trans ((Below.heap_alloc w1 A _ hlt).trans hbx)
  have ha2 : ((w1.alloc A).alloc P).heap[w1.heap.size]? = some A := (Below.heap_alloc _ P _ (by simp)).trans (heap_alloc_new w1 A)
  have hp2 : ((w1.alloc A).alloc P).heap[w1.heap.size + 1]? = some P := by
    have := heap_alloc_new (w1.alloc A) P
    rwa [World.size_alloc] at this
  have hB2 : Below w.heap.size w ((w1.alloc A).alloc P) := (hB.alloc hB.size A).alloc (by simp; have := hB.size; omega) P
  have hs2 : ((w1.alloc A).alloc P).heap.size = w1.heap.size + 2 := by simp
  rw [hA, hP] at hx2 ha2 hp2 hB2 hs2
  have HX := Lib.hid hx2
  have HA := Lib.hid ha2
  have HP := Lib.hid hp2
  have HB := Lib.hid hB2
  have HS := Lib.hid hs2
  clear hb hbx hB hh hA hP hx2 ha2 hp2 hB2 hs2
  have hl1 : w.heap.size ≠ w1.heap.size := by omega
  have hl2 : w.heap.size ≠ w1.heap.size + 1 := by omega
  go_wp2_with (refine wpList_store_row rfl 52 _ _ rfl w.heap.size #[.string hostBA, .int .i64 1, .string textX, .slice (some ⟨w1.heap.size, 0, none⟩) 2 2, .string ByteArray.empty, .slice (some ⟨w1.heap.size + 1, 0, none⟩) 2 2, .int .u32 30] rfl rfl 52 _ HX.out (by kernel_rfl) rfl (by simp [Value.oneCell']) ?_; generalize hW2 : World.setRow _ w.heap.size _ = W2; have hxr := setRow_heap _ w.heap.size _ #[.string hostBA, .int .i64 1, .string textX, .slice (some ⟨w1.heap.size, 0, none⟩) 2 2, .string ByteArray.empty, .slice (some ⟨w1.heap.size + 1, 0, none⟩) 2 2, .int .u32 30] 52 _ HX.out; have hfa := (setRow_other _ w.heap.size w1.heap.size #[.string hostBA, .int .i64 1, .string textX, .slice (some ⟨w1.heap.size, 0, none⟩) 2 2, .string ByteArray.empty, .slice (some ⟨w1.heap.size + 1, 0, none⟩) 2 2, .int .u32 30] (Ne.symm hl1)).trans HA.out; have hfp := (setRow_other _ w.heap.size (w1.heap.size + 1) #[.string hostBA, .int .i64 1, .string textX, .slice (some ⟨w1.heap.size, 0, none⟩) 2 2, .string ByteArray.empty, .slice (some ⟨w1.heap.size + 1, 0, none⟩) 2 2, .int .u32 30] (Ne.symm hl2)).trans HP.out; have hbw := below_setRow (cs := #[.string hostBA, .int .i64 1, .string textX, .slice (some ⟨w1.heap.size, 0, none⟩) 2 2, .string ByteArray.empty, .slice (some ⟨w1.heap.size + 1, 0, none⟩) 2 2, .int .u32 30]) HB.out (Nat.le_refl _) (lt_of_heap HX.out); rw [hW2] at hxr hfa hfp hbw; obtain ⟨k0, k1, k2, k3, k4, k5, k6, kf⟩ := box_cells hxr)
  refine bodyPost_ret (v := fixedV w1.heap.size (w1.heap.size + 1)) (by simp [results, Try.results21, go_sem, k0, k1, k2, k3, k4, k5, k6]; try rfl) rfl ?_
  exact ⟨_, _, rfl, ⟨hfa, hfp, by have := hbw.size; omega, by omega⟩, hbw⟩
end Go.Proofs.Ytniambdfgojgeaa
