/- entry.addrs of two addresses. -/
import Derived.Test.YtniambdfgojgeaaEad
import Derived.BigQuiet
namespace Go.Proofs.Ytniambdfgojgeaa
open Go.RowKit

/-- a row of two addresses -/
structure TwoAddrs (g : Nat) (a c : Bool) (x y z t : Int) (w : World) : Prop where
  lt : g < w.heap.size
  c0 : w.cell? ⟨g, 0, none⟩ = some (.bool a)
  c1 : w.cell? ⟨g, 1, none⟩ = some (.int .u64 x)
  c2 : w.cell? ⟨g, 2, none⟩ = some (.int .u64 y)
  c3 : w.cell? ⟨g, 3, none⟩ = some (.bool c)
  c4 : w.cell? ⟨g, 4, none⟩ = some (.int .u64 z)
  c5 : w.cell? ⟨g, 5, none⟩ = some (.int .u64 t)
theorem TwoAddrs.later {g : Nat} {a c : Bool} {x y z t : Int} {w w' : World} (h : TwoAddrs g a c x y z t w) (hb : Below w.heap.size w w') : TwoAddrs g a c x y z t w' where
  lt := Nat.lt_of_lt_of_le h.lt hb.size
  c0 := (hb.cell (p := ⟨g, 0, none⟩) h.lt).trans h.c0
  c1 := (hb.cell (p := ⟨g, 1, none⟩) h.lt).trans h.c1
  c2 := (hb.cell (p := ⟨g, 2, none⟩) h.lt).trans h.c2
  c3 := (hb.cell (p := ⟨g, 3, none⟩) h.lt).trans h.c3
  c4 := (hb.cell (p := ⟨g, 4, none⟩) h.lt).trans h.c4
  c5 := (hb.cell (p := ⟨g, 5, none⟩) h.lt).trans h.c5

theorem below_setHeap {B b : Nat} {a w : World} {o o' : Obj} (h : Below B a w) (hb : B ≤ b) (_ho : w.heap[b]? = some o) : Below B a { w with heap := w.heap.setIfInBounds b o' } :=
  h.grown (row := some b) ⟨rfl, rfl, rfl, by simp, fun k _ hn => by
    show (w.heap.setIfInBounds b o')[k]? = w.heap[k]?
    rw [Array.getElem?_setIfInBounds]
    split
    · rename_i e
      exact absurd (by rw [e]) hn
    · rfl⟩ (by have := lt_of_heap _ho; omega) (fun k e => by cases e; exact hb)

/-- the map as the rounds go -/
def SetAt (q : Bool) (i : Nat) (a : Bool) (x y : Int) (w wr : World) : Prop :=
  (i = 0 ∧ wr.heap[w.heap.size]? = some (.map #[] 0)) ∨ (i = 1 ∧ wr.heap[w.heap.size]? = some (.map #[entryOf (av a x y) 0] 1)) ∨ (i = 2 ∧ q = false)

set_option maxRecDepth 100000 in
set_option maxHeartbeats 2000000 in
theorem addrs_two (g cap : Nat) (a c : Bool) (x y z t : Int) (w : World) (h : TwoAddrs g a c x y z t w) (ha : AChecks (av a x y)) (hc : AChecks (av c z t)) (q : Bool) (hq : (c == a && z == x && t == y) = q) (_hcap : 2 ≤ cap) :
    Calls Try.prog 79 #[.slice (some ⟨g, 0, none⟩) 2 cap] w fun e w' => e = .returned (.bool (!q)) ∧ Below w.heap.size w w' := by
  have H := Lib.hid h
  have HA := Lib.hid ha
  have HC := Lib.hid hc
  have HQ := Lib.hid hq
  clear h ha hc hq
  have hmm : (Instr.makeMap 147 none).run Try.prog w = .ok (.map (some w.heap.size)) (w.alloc (.map #[] 0)) := by simp [Instr.makeMap]
  go_enter Try.func79, Try.ntmps79
  go_wp2_with fail
  go_loopw [9] (fun v wr => ∃ i : Nat, v = .int .i64 i ∧ i ≤ 2 ∧ SetAt q i a x y w wr ∧ Below w.heap.size w wr) (fun v _ => 2 - (intOf v).toNat)
  case atStart => exact ⟨0, rfl, by omega, .inl ⟨rfl, heap_alloc_new w _⟩, (Below.refl _ w).alloc (Nat.le_refl _) _⟩
  case round =>
    obtain ⟨i, rfl, hi, hS, hB⟩ := hrel
    have hT := H.out.later hB
    rcases hS with ⟨rfl, hm⟩ | ⟨rfl, hm⟩ | ⟨rfl, rfl⟩
    · have HT := Lib.hid hT
      have c0 := hT.c0
      have c1 := hT.c1
      have c2 := hT.c2
      obtain ⟨W, hW⟩ : ∃ W, wr.alloc (.cells #[.bool a, .int .u64 x, .int .u64 y] 56) = W := ⟨_, rfl⟩
      have hbW : Below wr.heap.size wr W := by rw [← hW]; exact (Below.refl _ wr).alloc (Nat.le_refl _) _
      have hmW := (hbW.block _ (lt_of_heap hm)).trans hm
      have hl := look_none w.heap.size a x y W 0 hmW
      have k0 : W.heap[wr.heap.size]? = some (.cells #[.bool a, .int .u64 x, .int .u64 y] 56 (0, 0)) := by rw [← hW]; exact heap_alloc_new wr _
      have hlt := lt_of_heap k0
      have b0 := Lib.cell_of_heap k0 0
      have b1 := Lib.cell_of_heap k0 1
      have b2 := Lib.cell_of_heap k0 2
      simp only [List.getElem?_toArray, List.getElem?_cons_zero, List.getElem?_cons_succ] at b0 b1 b2
      have hB2 : Below w.heap.size w W := hB.trans (hbW.mono hB.size)
      have HB := Lib.hid hB2
      have HM := Lib.hid hmW
      have HK := Lib.hid k0
      clear hT hB hB2 hm hbW hmW k0
      go_wp2_with fail
      refine (HA.out _).mono ?_
      rintro e W2 ⟨rfl, hb2⟩
      have hm2 := (hb2.block _ (lt_of_heap HM.out)).trans HM.out
      have d0 := (hb2.cell (p := ⟨wr.heap.size, 0, none⟩) hlt).trans b0
      have d1 := (hb2.cell (p := ⟨wr.heap.size, 1, none⟩) hlt).trans b1
      have d2 := (hb2.cell (p := ⟨wr.heap.size, 2, none⟩) hlt).trans b2
      have hp := put_none w.heap.size a x y W2 0 hm2
      have HB2 := Lib.hid (HB.out.trans (hb2.mono HB.out.size))
      have HM2 := Lib.hid hm2
      clear hb2 hm2 b0 b1 b2
      go_wp2_with fail
      go_roundw
      case rel =>
        refine ⟨1, by simp, by omega, .inr (.inl ⟨rfl, ?_⟩), below_setHeap HB2.out (Nat.le_refl _) HM2.out⟩
        show (W2.heap.setIfInBounds w.heap.size _)[w.heap.size]? = _
        rw [Array.getElem?_setIfInBounds_self_of_lt (lt_of_heap HM2.out)]
      case measure => simp [intOf]
    · have HT := Lib.hid hT
      have c0 := hT.c3
      have c1 := hT.c4
      have c2 := hT.c5
      obtain ⟨W, hW⟩ : ∃ W, wr.alloc (.cells #[.bool c, .int .u64 z, .int .u64 t] 56) = W := ⟨_, rfl⟩
      have hbW : Below wr.heap.size wr W := by rw [← hW]; exact (Below.refl _ wr).alloc (Nat.le_refl _) _
      have hmW := (hbW.block _ (lt_of_heap hm)).trans hm
      have hl := look_one w.heap.size c a z t x y W 1 0 hmW
      have k0 : W.heap[wr.heap.size]? = some (.cells #[.bool c, .int .u64 z, .int .u64 t] 56 (0, 0)) := by rw [← hW]; exact heap_alloc_new wr _
      have hlt := lt_of_heap k0
      have b0 := Lib.cell_of_heap k0 0
      have b1 := Lib.cell_of_heap k0 1
      have b2 := Lib.cell_of_heap k0 2
      simp only [List.getElem?_toArray, List.getElem?_cons_zero, List.getElem?_cons_succ] at b0 b1 b2
      have hB2 : Below w.heap.size w W := hB.trans (hbW.mono hB.size)
      have HB := Lib.hid hB2
      have HM := Lib.hid hmW
      have HK := Lib.hid k0
      clear hT hB hB2 hm hbW hmW k0
      rw [HQ.out] at hl
      cases q with
      | true =>
        go_wp2_with fail
        go_ret
        exact ⟨rfl, HB.out⟩
      | false =>
        go_wp2_with fail
        refine (HC.out _).mono ?_
        rintro e W2 ⟨rfl, hb2⟩
        have hm2 := (hb2.block _ (lt_of_heap HM.out)).trans HM.out
        have d0 := (hb2.cell (p := ⟨wr.heap.size, 0, none⟩) hlt).trans b0
        have d1 := (hb2.cell (p := ⟨wr.heap.size, 1, none⟩) hlt).trans b1
        have d2 := (hb2.cell (p := ⟨wr.heap.size, 2, none⟩) hlt).trans b2
        have hp := put_one w.heap.size c a z t x y W2 1 0 HQ.out hm2
        have HB2 := Lib.hid (HB.out.trans (hb2.mono HB.out.size))
        have HM2 := Lib.hid hm2
        clear hb2 hm2 b0 b1 b2
        go_wp2_with fail
        go_roundw
        case rel => exact ⟨2, by simp, by omega, .inr (.inr ⟨rfl, rfl⟩), below_setHeap HB2.out (Nat.le_refl _) HM2.out⟩
        case measure => simp [intOf]
    · have HB := Lib.hid hB
      clear hB hT
      go_wp2_with fail
      go_ret
      exact ⟨rfl, HB.out⟩
end Go.Proofs.Ytniambdfgojgeaa
