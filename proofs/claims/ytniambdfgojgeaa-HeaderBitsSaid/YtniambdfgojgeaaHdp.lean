/- header: Put. -/
import Derived.Test.YtniambdfgojgeaaHdf
import Derived.LoopTactic
namespace Go.Proofs.Ytniambdfgojgeaa
open Go.RowKit

/-- a header's cells -/
def hc (id : Int) (r : Bool) (op : Int) (aa tc rd ra ad cd : Bool) (rc c0 c1 c2 c3 : Int) : Array Value :=
  #[.int .u16 id, .bool r, .int .i64 op, .bool aa, .bool tc, .bool rd, .bool ra, .bool ad, .bool cd, .int .i64 rc, .int .i64 c0, .int .i64 c1, .int .i64 c2, .int .i64 c3]
/-- two numbers, and the first of four more -/
def hPre (id bts c0 c1 c2 c3 : Int) : Nat → ByteArray
  | 0 => ByteArray.empty ++ two id ++ two bts
  | 1 => ByteArray.empty ++ two id ++ two bts ++ two c0
  | 2 => ByteArray.empty ++ two id ++ two bts ++ two c0 ++ two c1
  | 3 => ByteArray.empty ++ two id ++ two bts ++ two c0 ++ two c1 ++ two c2
  | _ => ByteArray.empty ++ two id ++ two bts ++ two c0 ++ two c1 ++ two c2 ++ two c3
theorem hPre_size (id bts c0 c1 c2 c3 : Int) (k : Nat) (h : k ≤ 3) : (hPre id bts c0 c1 c2 c3 k).size = 4 + 2 * k := by
  match k, h with
  | 0, _ | 1, _ | 2, _ | 3, _ => simp [hPre, ByteArray.size_append, two_size]
/-- the octets of a header -/
def hOct (id : Int) (r : Bool) (op : Int) (aa tc rd ra ad cd : Bool) (rc c0 c1 c2 c3 : Int) : ByteArray :=
  hPre id (fs op rc r aa tc rd ra ad cd 7) c0 c1 c2 c3 4

set_option maxRecDepth 100000 in
set_option maxHeartbeats 4000000 in
theorem hPut_ok (id : Int) (r : Bool) (op : Int) (aa tc rd ra ad cd : Bool) (rc c0 c1 c2 c3 : Int) (w : World) (hi : 0 ≤ id) (hi' : id ≤ 65535) (ho : 0 ≤ op) (ho' : op ≤ 15) (hr : 0 ≤ rc) (hr' : rc ≤ 15)
   (h0 : 0 ≤ c0) (h0' : c0 ≤ 65535) (h1 : 0 ≤ c1) (h1' : c1 ≤ 65535) (h2 : 0 ≤ c2) (h2' : c2 ≤ 65535) (h3 : 0 ≤ c3) (h3' : c3 ≤ 65535) :
    Calls Try.prog 8 #[.agg #[.int .u16 id, .bool r, .int .i64 op, .bool aa, .bool tc, .bool rd, .bool ra, .bool ad, .bool cd, .int .i64 rc, .int .i64 c0, .int .i64 c1, .int .i64 c2, .int .i64 c3]] w
      fun x w' => x = .returned (.tuple #[.string (hOct id r op aa tc rd ra ad cd rc c0 c1 c2 c3), .int .i64 0]) ∧ Below w.heap.size w w' := by
  go_enter Try.func8, Try.ntmps8
  go_wp2_with fail
  refine (hCheck_ok id r op aa tc rd ra ad cd rc c0 c1 c2 c3 _ ho ho' hr hr' h0 h0' h1 h1' h2 h2' h3 h3').mono ?_
  rintro e w1 ⟨rfl, hb1⟩
  have hH1 : w1.heap[w.heap.size]? = some (.cells (hc id r op aa tc rd ra ad cd rc c0 c1 c2 c3) 25 (0, 0)) := (hb1.block _ (by simp)).trans (heap_alloc_new w _)
  have hB1 : Below w.heap.size w w1 := ((Below.refl _ w).alloc (Nat.le_refl _) _).trans (hb1.mono (by simp))
  have d2 : w1.cell? ⟨w.heap.size, 2, none⟩ = some (.int .i64 op) := by rw [Lib.cell_of_heap hH1]; rfl
  have d9 : w1.cell? ⟨w.heap.size, 9, none⟩ = some (.int .i64 rc) := by rw [Lib.cell_of_heap hH1]; rfl
  have hor := or_start op rc ho ho' hr hr'
  have HH1 := Lib.hid hH1
  have HB1 := Lib.hid hB1
  clear hH1 hB1 hb1
  go_wp2_with fail
  refine (flags_any w.heap.size _ _ HH1.out rfl).mono ?_
  rintro e w2 ⟨rfl, hb2⟩
  have hH2 : w2.heap[w.heap.size]? = some (.cells (hc id r op aa tc rd ra ad cd rc c0 c1 c2 c3) 25 (0, 0)) := (hb2.block _ (lt_of_heap HH1.out)).trans HH1.out
  have hB2 : Below w.heap.size w w2 := HB1.out.trans (hb2.mono HB1.out.size)
  clear hb2 HH1 HB1 d2 d9
  go_wp2_with fail
  clear hor
  go_loopw [5, 25] (fun bts i wr => ∃ k : Nat, k ≤ 7 ∧ i = .int .i64 k ∧ bts = .int .u32 (fs op rc r aa tc rd ra ad cd k) ∧ wr.heap[w.heap.size]? = some (.cells (hc id r op aa tc rd ra ad cd rc c0 c1 c2 c3) 25 (0, 0)) ∧ Below w.heap.size w wr) (fun _ i _ => 7 - (intOf i).toNat)
  case atStart => exact ⟨0, by omega, rfl, rfl, hH2, hB2⟩
  case round =>
    obtain ⟨k, hk, rfl, rfl, hH, hB⟩ := hrel
    have hlt := lt_of_heap hH
    clear hH2 hB2
    obtain rfl | rfl | rfl | rfl | rfl | rfl | rfl | rfl : k = 0 ∨ k = 1 ∨ k = 2 ∨ k = 3 ∨ k = 4 ∨ k = 5 ∨ k = 6 ∨ k = 7 := by omega
    · have hx : ∀ u, (Instr.index 72 (.agg #[.int .u32 32768, .pointer (some ⟨w.heap.size, 1, none⟩), .int .u32 1024, .pointer (some ⟨w.heap.size, 3, none⟩), .int .u32 512, .pointer (some ⟨w.heap.size, 4, none⟩), .int .u32 256, .pointer (some ⟨w.heap.size, 5, none⟩), .int .u32 128, .pointer (some ⟨w.heap.size, 6, none⟩), .int .u32 32, .pointer (some ⟨w.heap.size, 7, none⟩), .int .u32 16, .pointer (some ⟨w.heap.size, 8, none⟩)]) (.int .i64 0)).run Try.prog u = .ok (.agg #[.int .u32 32768, .pointer (some ⟨w.heap.size, 1, none⟩)]) u := fun _ => by kernel_rfl
      cases r
      · have hcell : ∀ o, (wr.alloc o).cell? ⟨w.heap.size, 1, none⟩ = some (.bool false) := fun o => cell_alloc_old hH o 1
        have HH := Lib.hid hH
        clear hH
        go_wp2
        go_roundw
        case rel => exact ⟨1, by omega, rfl, by rw [fs_no0], (Below.heap_alloc wr _ _ hlt).trans HH.out, hB.alloc (by omega) _⟩
        case measure => simp [intOf]
      · have hcell : ∀ o, (wr.alloc o).cell? ⟨w.heap.size, 1, none⟩ = some (.bool true) := fun o => cell_alloc_old hH o 1
        have HH := Lib.hid hH
        clear hH
        have hor := fs_or0 op rc true aa tc rd ra ad cd ho ho' hr hr'
        go_wp2
        go_roundw
        case rel => exact ⟨1, by omega, rfl, rfl, (Below.heap_alloc wr _ _ hlt).trans HH.out, hB.alloc (by omega) _⟩
        case measure => simp [intOf]
    · have hx : ∀ u, (Instr.index 72 (.agg #[.int .u32 32768, .pointer (some ⟨w.heap.size, 1, none⟩), .int .u32 1024, .pointer (some ⟨w.heap.size, 3, none⟩), .int .u32 512, .pointer (some ⟨w.heap.size, 4, none⟩), .int .u32 256, .pointer (some ⟨w.heap.size, 5, none⟩), .int .u32 128, .pointer (some ⟨w.heap.size, 6, none⟩), .int .u32 32, .pointer (some ⟨w.heap.size, 7, none⟩), .int .u32 16, .pointer (some ⟨w.heap.size, 8, none⟩)]) (.int .i64 1)).run Try.prog u = .ok (.agg #[.int .u32 1024, .pointer (some ⟨w.heap.size, 3, none⟩)]) u := fun _ => by kernel_rfl
      cases aa
      · have hcell : ∀ o, (wr.alloc o).cell? ⟨w.heap.size, 3, none⟩ = some (.bool false) := fun o => cell_alloc_old hH o 3
        have HH := Lib.hid hH
        clear hH
        go_wp2
        go_roundw
        case rel => exact ⟨2, by omega, rfl, by rw [fs_no1], (Below.heap_alloc wr _ _ hlt).trans HH.out, hB.alloc (by omega) _⟩
        case measure => simp [intOf]
      · have hcell : ∀ o, (wr.alloc o).cell? ⟨w.heap.size, 3, none⟩ = some (.bool true) := fun o => cell_alloc_old hH o 3
        have HH := Lib.hid hH
        clear hH
        have hor := fs_or1 op rc r true tc rd ra ad cd ho ho' hr hr'
        go_wp2
        go_roundw
        case rel => exact ⟨2, by omega, rfl, rfl, (Below.heap_alloc wr _ _ hlt).trans HH.out, hB.alloc (by omega) _⟩
        case measure => simp [intOf]
    · have hx : ∀ u, (Instr.index 72 (.agg #[.int .u32 32768, .pointer (some ⟨w.heap.size, 1, none⟩), .int .u32 1024, .pointer (some ⟨w.heap.size, 3, none⟩), .int .u32 512, .pointer (some ⟨w.heap.size, 4, none⟩), .int .u32 256, .pointer (some ⟨w.heap.size, 5, none⟩), .int .u32 128, .pointer (some ⟨w.heap.size, 6, none⟩), .int .u32 32, .pointer (some ⟨w.heap.size, 7, none⟩), .int .u32 16, .pointer (some ⟨w.heap.size, 8, none⟩)]) (.int .i64 2)).run Try.prog u = .ok (.agg #[.int .u32 512, .pointer (some ⟨w.heap.size, 4, none⟩)]) u := fun _ => by kernel_rfl
      cases tc
      · have hcell : ∀ o, (wr.alloc o).cell? ⟨w.heap.size, 4, none⟩ = some (.bool false) := fun o => cell_alloc_old hH o 4
        have HH := Lib.hid hH
        clear hH
        go_wp2
        go_roundw
        case rel => exact ⟨3, by omega, rfl, by rw [fs_no2], (Below.heap_alloc wr _ _ hlt).trans HH.out, hB.alloc (by omega) _⟩
        case measure => simp [intOf]
      · have hcell : ∀ o, (wr.alloc o).cell? ⟨w.heap.size, 4, none⟩ = some (.bool true) := fun o => cell_alloc_old hH o 4
        have HH := Lib.hid hH
        clear hH
        have hor := fs_or2 op rc r aa true rd ra ad cd ho ho' hr hr'
        go_wp2
        go_roundw
        case rel => exact ⟨3, by omega, rfl, rfl, (Below.heap_alloc wr _ _ hlt).trans HH.out, hB.alloc (by omega) _⟩
        case measure => simp [intOf]
    · have hx : ∀ u, (Instr.index 72 (.agg #[.int .u32 32768, .pointer (some ⟨w.heap.size, 1, none⟩), .int .u32 1024, .pointer (some ⟨w.heap.size, 3, none⟩), .int .u32 512, .pointer (some ⟨w.heap.size, 4, none⟩), .int .u32 256, .pointer (some ⟨w.heap.size, 5, none⟩), .int .u32 128, .pointer (some ⟨w.heap.size, 6, none⟩), .int .u32 32, .pointer (some ⟨w.heap.size, 7, none⟩), .int .u32 16, .pointer (some ⟨w.heap.size, 8, none⟩)]) (.int .i64 3)).run Try.prog u = .ok (.agg #[.int .u32 256, .pointer (some ⟨w.heap.size, 5, none⟩)]) u := fun _ => by kernel_rfl
      cases rd
      · have hcell : ∀ o, (wr.alloc o).cell? ⟨w.heap.size, 5, none⟩ = some (.bool false) := fun o => cell_alloc_old hH o 5
        have HH := Lib.hid hH
        clear hH
        go_wp2
        go_roundw
        case rel => exact ⟨4, by omega, rfl, by rw [fs_no3], (Below.heap_alloc wr _ _ hlt).trans HH.out, hB.alloc (by omega) _⟩
        case measure => simp [intOf]
      · have hcell : ∀ o, (wr.alloc o).cell? ⟨w.heap.size, 5, none⟩ = some (.bool true) := fun o => cell_alloc_old hH o 5
        have HH := Lib.hid hH
        clear hH
        have hor := fs_or3 op rc r aa tc true ra ad cd ho ho' hr hr'
        go_wp2
        go_roundw
        case rel => exact ⟨4, by omega, rfl, rfl, (Below.heap_alloc wr _ _ hlt).trans HH.out, hB.alloc (by omega) _⟩
        case measure => simp [intOf]
    · have hx : ∀ u, (Instr.index 72 (.agg #[.int .u32 32768, .pointer (some ⟨w.heap.size, 1, none⟩), .int .u32 1024, .pointer (some ⟨w.heap.size, 3, none⟩), .int .u32 512, .pointer (some ⟨w.heap.size, 4, none⟩), .int .u32 256, .pointer (some ⟨w.heap.size, 5, none⟩), .int .u32 128, .pointer (some ⟨w.heap.size, 6, none⟩), .int .u32 32, .pointer (some ⟨w.heap.size, 7, none⟩), .int .u32 16, .pointer (some ⟨w.heap.size, 8, none⟩)]) (.int .i64 4)).run Try.prog u = .ok (.agg #[.int .u32 128, .pointer (some ⟨w.heap.size, 6, none⟩)]) u := fun _ => by kernel_rfl
      cases ra
      · have hcell : ∀ o, (wr.alloc o).cell? ⟨w.heap.size, 6, none⟩ = some (.bool false) := fun o => cell_alloc_old hH o 6
        have HH := Lib.hid hH
        clear hH
        go_wp2
        go_roundw
        case rel => exact ⟨5, by omega, rfl, by rw [fs_no4], (Below.heap_alloc wr _ _ hlt).trans HH.out, hB.alloc (by omega) _⟩
        case measure => simp [intOf]
      · have hcell : ∀ o, (wr.alloc o).cell? ⟨w.heap.size, 6, none⟩ = some (.bool true) := fun o => cell_alloc_old hH o 6
        have HH := Lib.hid hH
        clear hH
        have hor := fs_or4 op rc r aa tc rd true ad cd ho ho' hr hr'
        go_wp2
        go_roundw
        case rel => exact ⟨5, by omega, rfl, rfl, (Below.heap_alloc wr _ _ hlt).trans HH.out, hB.alloc (by omega) _⟩
        case measure => simp [intOf]
    · have hx : ∀ u, (Instr.index 72 (.agg #[.int .u32 32768, .pointer (some ⟨w.heap.size, 1, none⟩), .int .u32 1024, .pointer (some ⟨w.heap.size, 3, none⟩), .int .u32 512, .pointer (some ⟨w.heap.size, 4, none⟩), .int .u32 256, .pointer (some ⟨w.heap.size, 5, none⟩), .int .u32 128, .pointer (some ⟨w.heap.size, 6, none⟩), .int .u32 32, .pointer (some ⟨w.heap.size, 7, none⟩), .int .u32 16, .pointer (some ⟨w.heap.size, 8, none⟩)]) (.int .i64 5)).run Try.prog u = .ok (.agg #[.int .u32 32, .pointer (some ⟨w.heap.size, 7, none⟩)]) u := fun _ => by kernel_rfl
      cases ad
      · have hcell : ∀ o, (wr.alloc o).cell? ⟨w.heap.size, 7, none⟩ = some (.bool false) := fun o => cell_alloc_old hH o 7
        have HH := Lib.hid hH
        clear hH
        go_wp2
        go_roundw
        case rel => exact ⟨6, by omega, rfl, by rw [fs_no5], (Below.heap_alloc wr _ _ hlt).trans HH.out, hB.alloc (by omega) _⟩
        case measure => simp [intOf]
      · have hcell : ∀ o, (wr.alloc o).cell? ⟨w.heap.size, 7, none⟩ = some (.bool true) := fun o => cell_alloc_old hH o 7
        have HH := Lib.hid hH
        clear hH
        have hor := fs_or5 op rc r aa tc rd ra true cd ho ho' hr hr'
        go_wp2
        go_roundw
        case rel => exact ⟨6, by omega, rfl, rfl, (Below.heap_alloc wr _ _ hlt).trans HH.out, hB.alloc (by omega) _⟩
        case measure => simp [intOf]
    · have hx : ∀ u, (Instr.index 72 (.agg #[.int .u32 32768, .pointer (some ⟨w.heap.size, 1, none⟩), .int .u32 1024, .pointer (some ⟨w.heap.size, 3, none⟩), .int .u32 512, .pointer (some ⟨w.heap.size, 4, none⟩), .int .u32 256, .pointer (some ⟨w.heap.size, 5, none⟩), .int .u32 128, .pointer (some ⟨w.heap.size, 6, none⟩), .int .u32 32, .pointer (some ⟨w.heap.size, 7, none⟩), .int .u32 16, .pointer (some ⟨w.heap.size, 8, none⟩)]) (.int .i64 6)).run Try.prog u = .ok (.agg #[.int .u32 16, .pointer (some ⟨w.heap.size, 8, none⟩)]) u := fun _ => by kernel_rfl
      cases cd
      · have hcell : ∀ o, (wr.alloc o).cell? ⟨w.heap.size, 8, none⟩ = some (.bool false) := fun o => cell_alloc_old hH o 8
        have HH := Lib.hid hH
        clear hH
        go_wp2
        go_roundw
        case rel => exact ⟨7, by omega, rfl, by rw [fs_no6], (Below.heap_alloc wr _ _ hlt).trans HH.out, hB.alloc (by omega) _⟩
        case measure => simp [intOf]
      · have hcell : ∀ o, (wr.alloc o).cell? ⟨w.heap.size, 8, none⟩ = some (.bool true) := fun o => cell_alloc_old hH o 8
        have HH := Lib.hid hH
        clear hH
        have hor := fs_or6 op rc r aa tc rd ra ad true ho ho' hr hr'
        go_wp2
        go_roundw
        case rel => exact ⟨7, by omega, rfl, rfl, (Below.heap_alloc wr _ _ hlt).trans HH.out, hB.alloc (by omega) _⟩
        case measure => simp [intOf]
    · have HH := Lib.hid hH
      clear hH
      obtain ⟨wo, rfl⟩ : ∃ wo : World, wo = wr := ⟨_, rfl⟩
      have hlt' : w.heap.size < wo.heap.size := hlt
      go_wp2_with fail
      refine (newWriter_any 12 (by decide) (by decide) wo).mono ?_
      rintro e w3 ⟨rfl, hw3⟩
      have hb3 : w3.heap[wo.heap.size]? = some (.cells #[.slice none 0 0, .int .i64 12, .int .i64 0] 115 (0, 0)) := by rw [← hw3]; exact heap_alloc_new wo _
      have hv3 : WAt w.heap.size wo.heap.size (.slice none 0 0) ByteArray.empty 12 0 w3 := ⟨hb3, World.ownsRow_nil _ _ _ _⟩
      have hH3 : w3.heap[w.heap.size]? = some (.cells (hc id r op aa tc rd ra ad cd rc c0 c1 c2 c3) 25 (0, 0)) := by rw [← hw3]; exact (Below.heap_alloc wo _ _ hlt).trans HH.out
      have hB3 : Below w.heap.size w w3 := by rw [← hw3]; exact hB.alloc (by omega) _
      have hz3 : wo.heap.size < w3.heap.size := lt_of_heap hb3
      have d0 : w3.cell? ⟨w.heap.size, 0, none⟩ = some (.int .u16 id) := by rw [Lib.cell_of_heap hH3]; rfl
      have HH3 := Lib.hid hH3
      have HV3 := Lib.hid hv3
      obtain ⟨bts, hbts⟩ : ∃ x, x = fs op rc r aa tc rd ra ad cd 7 := ⟨_, rfl⟩
      have hbb := fs_bd op rc r aa tc rd ra ad cd ho ho' hr hr' 7
      rw [← hbts] at hbb ⊢
      obtain ⟨hb0, hb1⟩ := hbb
      have HBT := Lib.hid hbts
      clear hw3 hb3 hv3 hH3 HH hB hlt hk hbts
      go_wp2_with fail
      refine (wNum2_ok w.heap.size wo.heap.size _ _ 12 id hi (by omega) w3 HV3.out (by decide) (by decide) (by omega)).mono ?_
      rintro e w4 ⟨rfl, hl4⟩
      have hH4 := hl4.other HV3.out HH3.out (by decide) (by omega)
      have hB4 := hl4.below HV3.out hB3 (by omega)
      have hz4 := hl4.size
      obtain ⟨v4, hv4, _⟩ := hl4
      have HH4 := Lib.hid hH4
      have HV4 := Lib.hid hv4
      clear hv4 hH4 HH3 HV3 d0 hB3
      go_wp2_with fail
      refine (wNum2_ok w.heap.size wo.heap.size _ _ 12 bts hb0 hb1 w4 HV4.out (by rw [ByteArray.size_append, two_size]; decide) (by decide) (by omega)).mono ?_
      rintro e w5 ⟨rfl, hl5⟩
      have hH5 := hl5.other HV4.out HH4.out (by decide) (by omega)
      have hB5 := hl5.below HV4.out hB4 (by omega)
      have hz5 := hl5.size
      obtain ⟨v5, hv5, _⟩ := hl5
      have HV5 := Lib.hid hv5
      have e0 : w5.cell? ⟨w.heap.size, 10, none⟩ = some (.int .i64 c0) := by rw [Lib.cell_of_heap hH5]; rfl
      have e1 : w5.cell? ⟨w.heap.size, 11, none⟩ = some (.int .i64 c1) := by rw [Lib.cell_of_heap hH5]; rfl
      have e2 : w5.cell? ⟨w.heap.size, 12, none⟩ = some (.int .i64 c2) := by rw [Lib.cell_of_heap hH5]; rfl
      have e3 : w5.cell? ⟨w.heap.size, 13, none⟩ = some (.int .i64 c3) := by rw [Lib.cell_of_heap hH5]; rfl
      clear hv5 hH5 HH4 HV4 hB4
      go_wp2_with fail
      clear e0 e1 e2 e3
      obtain ⟨i0, i1, i2, i3⟩ := run_idx4 c0 c1 c2 c3
      go_loopw [48] (fun i wr => ∃ k : Nat, k ≤ 4 ∧ i = .int .i64 k ∧ (∃ v, WAt w.heap.size wo.heap.size v (hPre id bts c0 c1 c2 c3 k) 12 0 wr) ∧ Below w.heap.size w wr) (fun i _ => 4 - (intOf i).toNat)
      case atStart => exact ⟨0, by omega, rfl, ⟨v5, HV5.out⟩, hB5⟩
      case round =>
        obtain ⟨k, hk, rfl, ⟨v, hv⟩, hBq⟩ := hrel
        have hlt := lt_of_heap hv.1
        have HV := Lib.hid hv
        clear hv HV5 hB5
        obtain rfl | rfl | rfl | rfl | rfl : k = 0 ∨ k = 1 ∨ k = 2 ∨ k = 3 ∨ k = 4 := by omega
        · have hf := hPre_size id bts c0 c1 c2 c3 0 (by omega)
          go_wp2_with fail
          refine (wNum2_ok w.heap.size wo.heap.size v _ 12 c0 h0 (by omega) wr HV.out (by rw [hf]; decide) (by decide) (by omega)).mono ?_
          rintro e wr' ⟨rfl, hl⟩
          have hB' := hl.below HV.out hBq (by omega)
          have HL := Lib.hid hl
          clear hl hf
          go_wp2
          go_roundw
          case rel => exact ⟨1, by omega, rfl, by obtain ⟨v', hv', _⟩ := HL.out; exact ⟨v', hv'⟩, hB'⟩
          case measure => simp [intOf]
        · have hf := hPre_size id bts c0 c1 c2 c3 1 (by omega)
          go_wp2_with fail
          refine (wNum2_ok w.heap.size wo.heap.size v _ 12 c1 h1 (by omega) wr HV.out (by rw [hf]; decide) (by decide) (by omega)).mono ?_
          rintro e wr' ⟨rfl, hl⟩
          have hB' := hl.below HV.out hBq (by omega)
          have HL := Lib.hid hl
          clear hl hf
          go_wp2
          go_roundw
          case rel => exact ⟨2, by omega, rfl, by obtain ⟨v', hv', _⟩ := HL.out; exact ⟨v', hv'⟩, hB'⟩
          case measure => simp [intOf]
        · have hf := hPre_size id bts c0 c1 c2 c3 2 (by omega)
          go_wp2_with fail
          refine (wNum2_ok w.heap.size wo.heap.size v _ 12 c2 h2 (by omega) wr HV.out (by rw [hf]; decide) (by decide) (by omega)).mono ?_
          rintro e wr' ⟨rfl, hl⟩
          have hB' := hl.below HV.out hBq (by omega)
          have HL := Lib.hid hl
          clear hl hf
          go_wp2
          go_roundw
          case rel => exact ⟨3, by omega, rfl, by obtain ⟨v', hv', _⟩ := HL.out; exact ⟨v', hv'⟩, hB'⟩
          case measure => simp [intOf]
        · have hf := hPre_size id bts c0 c1 c2 c3 3 (by omega)
          go_wp2_with fail
          refine (wNum2_ok w.heap.size wo.heap.size v _ 12 c3 h3 (by omega) wr HV.out (by rw [hf]; decide) (by decide) (by omega)).mono ?_
          rintro e wr' ⟨rfl, hl⟩
          have hB' := hl.below HV.out hBq (by omega)
          have HL := Lib.hid hl
          clear hl hf
          go_wp2
          go_roundw
          case rel => exact ⟨4, by omega, rfl, by obtain ⟨v', hv', _⟩ := HL.out; exact ⟨v', hv'⟩, hB'⟩
          case measure => simp [intOf]
        · go_wp2_with fail
          refine (wText_any w.heap.size wo.heap.size v _ 12 0 wr HV.out).mono ?_
          rintro e wr' ⟨rfl, rfl⟩
          go_wp2
          go_ret2
          rw [HBT.out]
          exact ⟨rfl, hBq⟩
end Go.Proofs.Ytniambdfgojgeaa
