/- The law HeaderBits: its walk behind a header that may be. -/
import Derived.Test.YtniambdfgojgeaaHbw
import Derived.BigQuiet
namespace Go.Proofs.Ytniambdfgojgeaa
open Go.RowKit Go.PlainAid

theorem byte_hi (v : Int) (h0 : 0 ≤ v) (h1 : v ≤ 65535) : ((UInt8.ofNat (v / 256).toNat).toNat : Int) * 256 + ((UInt8.ofNat (v % 256).toNat).toNat : Int) = v := by
  rw [UInt8.toNat_ofNat', UInt8.toNat_ofNat']
  omega

/-- what the law knows of the octets -/
structure Octs (s : ByteArray) (id f c0 c1 c2 c3 : Int) : Prop where
  size : s.size = 12
  id : bt s 0 * 256 + bt s 1 = id
  f : bt s 2 * 256 + bt s 3 = f
  c0 : bt s 4 * 256 + bt s 5 = c0
  c1 : bt s 6 * 256 + bt s 7 = c1
  c2 : bt s 8 * 256 + bt s 9 = c2
  c3 : bt s 10 * 256 + bt s 11 = c3
theorem octs_of (id f c0 c1 c2 c3 : Int) (hi : 0 ≤ id ∧ id ≤ 65535) (hf : 0 ≤ f ∧ f ≤ 65535) (h0 : 0 ≤ c0 ∧ c0 ≤ 65535) (h1 : 0 ≤ c1 ∧ c1 ≤ 65535) (h2 : 0 ≤ c2 ∧ c2 ≤ 65535) (h3 : 0 ≤ c3 ∧ c3 ≤ 65535) :
    Octs (hPre id f c0 c1 c2 c3 4) id f c0 c1 c2 c3 :=
  ⟨rfl, byte_hi id hi.1 hi.2, byte_hi f hf.1 hf.2, byte_hi c0 h0.1 h0.2, byte_hi c1 h1.1 h1.2, byte_hi c2 h2.1 h2.2, byte_hi c3 h3.1 h3.2⟩

set_option maxRecDepth 100000 in
set_option maxHeartbeats 4000000 in
theorem bits_walk (id : Int) (r : Bool) (op : Int) (aa tc rd ra ad cd : Bool) (rc c0 c1 c2 c3 : Int) (w : World) (hi : 0 ≤ id) (hi' : id ≤ 65535) :
    Calls Try.prog 3 #[.agg #[.int .u16 id, .bool r, .int .i64 op, .bool aa, .bool tc, .bool rd, .bool ra, .bool ad, .bool cd, .int .i64 rc, .int .i64 c0, .int .i64 c1, .int .i64 c2, .int .i64 c3]] w
      fun x w' => x = .returned (.bool true) ∧ Below w.heap.size w w' := by
  have hnot : ∀ (x : Bool) (w : World), (Op.unary .not (.bool x)).run Try.prog w = .ok (.bool (!x)) w := fun _ _ => rfl
  go_enter Try.func3, Try.ntmps3
  go_wp2_with fail
  refine (lives06 _).mono ?_
  rintro e w1 ⟨rfl, hb1⟩
  have hH1 : w1.heap[w.heap.size]? = some (.cells (hc id r op aa tc rd ra ad cd rc c0 c1 c2 c3) 25 (0, 0)) := (hb1.block _ (by simp)).trans (heap_alloc_new w _)
  have hB1 : Below w.heap.size w w1 := ((Below.refl _ w).alloc (Nat.le_refl _) _).trans (hb1.mono (by simp))
  have q := fun j => Lib.cell_of_heap hH1 j
  have d0 : w1.cell? ⟨w.heap.size, 0, none⟩ = some (.int .u16 id) := by rw [q]; rfl
  have d1 : w1.cell? ⟨w.heap.size, 1, none⟩ = some (.bool r) := by rw [q]; rfl
  have d2 : w1.cell? ⟨w.heap.size, 2, none⟩ = some (.int .i64 op) := by rw [q]; rfl
  have d3 : w1.cell? ⟨w.heap.size, 3, none⟩ = some (.bool aa) := by rw [q]; rfl
  have d4 : w1.cell? ⟨w.heap.size, 4, none⟩ = some (.bool tc) := by rw [q]; rfl
  have d5 : w1.cell? ⟨w.heap.size, 5, none⟩ = some (.bool rd) := by rw [q]; rfl
  have d6 : w1.cell? ⟨w.heap.size, 6, none⟩ = some (.bool ra) := by rw [q]; rfl
  have d7 : w1.cell? ⟨w.heap.size, 7, none⟩ = some (.bool ad) := by rw [q]; rfl
  have d8 : w1.cell? ⟨w.heap.size, 8, none⟩ = some (.bool cd) := by rw [q]; rfl
  have d9 : w1.cell? ⟨w.heap.size, 9, none⟩ = some (.int .i64 rc) := by rw [q]; rfl
  have d10 : w1.cell? ⟨w.heap.size, 10, none⟩ = some (.int .i64 c0) := by rw [q]; rfl
  have d11 : w1.cell? ⟨w.heap.size, 11, none⟩ = some (.int .i64 c1) := by rw [q]; rfl
  have d12 : w1.cell? ⟨w.heap.size, 12, none⟩ = some (.int .i64 c2) := by rw [q]; rfl
  have d13 : w1.cell? ⟨w.heap.size, 13, none⟩ = some (.int .i64 c3) := by rw [q]; rfl
  have HH1 := Lib.hid hH1
  clear hH1 hb1 q
  go_wp2_with fail
  clear d0 d1 d2 d3 d4 d5 d6 d7 d8 d9 d10 d11 d12 d13
  refine (hPut_any id r op aa tc rd ra ad cd rc c0 c1 c2 c3 w1 hi hi').mono ?_
  rintro e w2 ⟨hx, hb2⟩
  have hH2 := (hb2.block _ (lt_of_heap HH1.out)).trans HH1.out
  have hB2 : Below w.heap.size w w2 := hB1.trans (hb2.mono hB1.size)
  clear HH1 hB1 hb2
  rcases hx with rfl | ⟨hv, rfl⟩
  · go_wp2
    go_ret
    exact ⟨rfl, hB2⟩
  · obtain ⟨ho, ho', hr, hr', h0, h0', h1, h1', h2, h2', h3, h3'⟩ := hv
    have hfb := fs_bd op rc r aa tc rd ra ad cd ho ho' hr hr' 7
    have hO := octs_of id (fs op rc r aa tc rd ra ad cd 7) c0 c1 c2 c3 ⟨hi, hi'⟩ ⟨hfb.1, by omega⟩ ⟨h0, h0'⟩ ⟨h1, h1'⟩ ⟨h2, h2'⟩ ⟨h3, h3'⟩
    unfold hOct
    obtain ⟨s, hs⟩ : ∃ s, s = hPre id (fs op rc r aa tc rd ra ad cd 7) c0 c1 c2 c3 4 := ⟨_, rfl⟩
    rw [← hs] at hO ⊢
    clear hs
    have HO := Lib.hid hO
    have hz : ((s.size : Int) != 12) = false := by rw [hO.size]; rfl
    have hsz : 12 ≤ s.size := by rw [hO.size]; decide
    have hbt := get_bt s
    have hf := hO.f
    obtain ⟨⟨t0, t1, t2, t3⟩, ⟨t4, t5, t6⟩, t7, t8, t9⟩ := fs_tests op rc r aa tc rd ra ad cd ho ho' hr hr'
    have u0 : (bt s 4 * 256 + bt s 5 != c0) = false := by rw [hO.c0]; simp
    have u1 : (bt s 6 * 256 + bt s 7 != c1) = false := by rw [hO.c1]; simp
    have u2 : (bt s 8 * 256 + bt s 9 != c2) = false := by rw [hO.c2]; simp
    have u3 : (bt s 10 * 256 + bt s 11 != c3) = false := by rw [hO.c3]; simp
    have u4 : (bt s 0 * 256 + bt s 1 == id) = true := by rw [hO.id]; simp
    clear hO
    obtain ⟨hf0, hf1⟩ := hfb
    have l0 := bt_nonneg s 0
    have m0 := bt_le s 0
    have l1 := bt_nonneg s 1
    have m1 := bt_le s 1
    have l2 := bt_nonneg s 2
    have m2 := bt_le s 2
    have l3 := bt_nonneg s 3
    have m3 := bt_le s 3
    have l4 := bt_nonneg s 4
    have m4 := bt_le s 4
    have l5 := bt_nonneg s 5
    have m5 := bt_le s 5
    have l6 := bt_nonneg s 6
    have m6 := bt_le s 6
    have l7 := bt_nonneg s 7
    have m7 := bt_le s 7
    have l8 := bt_nonneg s 8
    have m8 := bt_le s 8
    have l9 := bt_nonneg s 9
    have m9 := bt_le s 9
    have l10 := bt_nonneg s 10
    have m10 := bt_le s 10
    have l11 := bt_nonneg s 11
    have m11 := bt_le s 11
    have HH := Lib.hid hH2
    clear hH2
    go_wp2_with fail
    go_quiet (fail)
    have q := fun j => Lib.cell_of_heap HH.out j
    have d1 : w2.cell? ⟨w.heap.size, 1, none⟩ = some (.bool r) := by rw [q]; rfl
    have d3 : w2.cell? ⟨w.heap.size, 3, none⟩ = some (.bool aa) := by rw [q]; rfl
    have d4 : w2.cell? ⟨w.heap.size, 4, none⟩ = some (.bool tc) := by rw [q]; rfl
    have d5 : w2.cell? ⟨w.heap.size, 5, none⟩ = some (.bool rd) := by rw [q]; rfl
    have d6 : w2.cell? ⟨w.heap.size, 6, none⟩ = some (.bool ra) := by rw [q]; rfl
    have d7 : w2.cell? ⟨w.heap.size, 7, none⟩ = some (.bool ad) := by rw [q]; rfl
    have d8 : w2.cell? ⟨w.heap.size, 8, none⟩ = some (.bool cd) := by rw [q]; rfl
    clear q
    go_wp2_with fail
    have hA0 : (((w2.drewN nq).alloc (.cells #[.bool r, .bool aa, .bool tc, .bool rd, .bool ra, .bool ad, .bool cd] 4)).alloc (.cells #[.int .i64 15, .int .i64 10, .int .i64 9, .int .i64 8, .int .i64 7, .int .i64 5, .int .i64 4] 3)).heap[w2.heap.size]? = some (.cells #[.bool r, .bool aa, .bool tc, .bool rd, .bool ra, .bool ad, .bool cd] 4 (0, 0)) :=
      (Below.heap_alloc _ _ _ (by simp)).trans (heap_alloc_new (w2.drewN nq) _)
    have hI0 : (((w2.drewN nq).alloc (.cells #[.bool r, .bool aa, .bool tc, .bool rd, .bool ra, .bool ad, .bool cd] 4)).alloc (.cells #[.int .i64 15, .int .i64 10, .int .i64 9, .int .i64 8, .int .i64 7, .int .i64 5, .int .i64 4] 3)).heap[w2.heap.size + 1]? = some (.cells #[.int .i64 15, .int .i64 10, .int .i64 9, .int .i64 8, .int .i64 7, .int .i64 5, .int .i64 4] 3 (0, 0)) := by
      have := heap_alloc_new ((w2.drewN nq).alloc (.cells #[.bool r, .bool aa, .bool tc, .bool rd, .bool ra, .bool ad, .bool cd] 4)) (.cells #[.int .i64 15, .int .i64 10, .int .i64 9, .int .i64 8, .int .i64 7, .int .i64 5, .int .i64 4] 3)
      simpa using this
    have hG0 : Below w.heap.size w (((w2.drewN nq).alloc (.cells #[.bool r, .bool aa, .bool tc, .bool rd, .bool ra, .bool ad, .bool cd] 4)).alloc (.cells #[.int .i64 15, .int .i64 10, .int .i64 9, .int .i64 8, .int .i64 7, .int .i64 5, .int .i64 4] 3)) := ((below_drewN hB2 nq).alloc (by simp; exact hB2.size) _).alloc (by simp; have := hB2.size; omega) _
    have hF0 : (((w2.drewN nq).alloc (.cells #[.bool r, .bool aa, .bool tc, .bool rd, .bool ra, .bool ad, .bool cd] 4)).alloc (.cells #[.int .i64 15, .int .i64 10, .int .i64 9, .int .i64 8, .int .i64 7, .int .i64 5, .int .i64 4] 3)).heap[w.heap.size]? = some (.cells (hc id r op aa tc rd ra ad cd rc c0 c1 c2 c3) 25 (0, 0)) := (Below.heap_alloc _ _ _ (by have := lt_of_heap HH.out; simp; omega)).trans ((Below.heap_alloc _ _ _ (lt_of_heap HH.out)).trans HH.out)
    obtain ⟨w3, hw3⟩ : ∃ x, x = (((w2.drewN nq).alloc (.cells #[.bool r, .bool aa, .bool tc, .bool rd, .bool ra, .bool ad, .bool cd] 4)).alloc (.cells #[.int .i64 15, .int .i64 10, .int .i64 9, .int .i64 8, .int .i64 7, .int .i64 5, .int .i64 4] 3)) := ⟨_, rfl⟩
    rw [← hw3] at hA0 hI0 hG0 hF0 ⊢
    clear hw3 d1 d3 d4 d5 d6 d7 d8
    go_loopw [8] (fun i wr => ∃ k : Nat, k ≤ 7 ∧ i = .int .i64 k ∧ wr.heap[w2.heap.size]? = some (.cells #[.bool r, .bool aa, .bool tc, .bool rd, .bool ra, .bool ad, .bool cd] 4 (0, 0)) ∧
      wr.heap[w2.heap.size + 1]? = some (.cells #[.int .i64 15, .int .i64 10, .int .i64 9, .int .i64 8, .int .i64 7, .int .i64 5, .int .i64 4] 3 (0, 0)) ∧
      wr.heap[w.heap.size]? = some (.cells (hc id r op aa tc rd ra ad cd rc c0 c1 c2 c3) 25 (0, 0)) ∧ Below w.heap.size w wr) (fun i _ => 7 - (intOf i).toNat)
    case atStart => exact ⟨0, by omega, rfl, hA0, hI0, hF0, hG0⟩
    case round =>
      obtain ⟨k, hk, rfl, hA, hI, hF, hG⟩ := hrel
      clear hA0 hI0 hF0 hG0
      obtain rfl | rfl | rfl | rfl | rfl | rfl | rfl | rfl : k = 0 ∨ k = 1 ∨ k = 2 ∨ k = 3 ∨ k = 4 ∨ k = 5 ∨ k = 6 ∨ k = 7 := by omega
      · have e1 : wr.cell? ⟨w2.heap.size, 0, none⟩ = some (.bool r) := by rw [Lib.cell_of_heap hA]; rfl
        have e2 : wr.cell? ⟨w2.heap.size + 1, 0, none⟩ = some (.int .i64 15) := by rw [Lib.cell_of_heap hI]; rfl
        have HA := Lib.hid hA
        have HI := Lib.hid hI
        have HF := Lib.hid hF
        clear hA hI hF
        go_wp2_with fail
        go_quiet (fail)
        go_wp2_with fail
        go_roundw
        case rel => exact ⟨1, by omega, rfl, HA.out, HI.out, HF.out, below_drewN hG _⟩
        case measure => simp [intOf]
      · have e1 : wr.cell? ⟨w2.heap.size, 1, none⟩ = some (.bool aa) := by rw [Lib.cell_of_heap hA]; rfl
        have e2 : wr.cell? ⟨w2.heap.size + 1, 1, none⟩ = some (.int .i64 10) := by rw [Lib.cell_of_heap hI]; rfl
        have HA := Lib.hid hA
        have HI := Lib.hid hI
        have HF := Lib.hid hF
        clear hA hI hF
        go_wp2_with fail
        go_quiet (fail)
        go_wp2_with fail
        go_roundw
        case rel => exact ⟨2, by omega, rfl, HA.out, HI.out, HF.out, below_drewN hG _⟩
        case measure => simp [intOf]
      · have e1 : wr.cell? ⟨w2.heap.size, 2, none⟩ = some (.bool tc) := by rw [Lib.cell_of_heap hA]; rfl
        have e2 : wr.cell? ⟨w2.heap.size + 1, 2, none⟩ = some (.int .i64 9) := by rw [Lib.cell_of_heap hI]; rfl
        have HA := Lib.hid hA
        have HI := Lib.hid hI
        have HF := Lib.hid hF
        clear hA hI hF
        go_wp2_with fail
        go_quiet (fail)
        go_wp2_with fail
        go_roundw
        case rel => exact ⟨3, by omega, rfl, HA.out, HI.out, HF.out, below_drewN hG _⟩
        case measure => simp [intOf]
      · have e1 : wr.cell? ⟨w2.heap.size, 3, none⟩ = some (.bool rd) := by rw [Lib.cell_of_heap hA]; rfl
        have e2 : wr.cell? ⟨w2.heap.size + 1, 3, none⟩ = some (.int .i64 8) := by rw [Lib.cell_of_heap hI]; rfl
        have HA := Lib.hid hA
        have HI := Lib.hid hI
        have HF := Lib.hid hF
        clear hA hI hF
        go_wp2_with fail
        go_quiet (fail)
        go_wp2_with fail
        go_roundw
        case rel => exact ⟨4, by omega, rfl, HA.out, HI.out, HF.out, below_drewN hG _⟩
        case measure => simp [intOf]
      · have e1 : wr.cell? ⟨w2.heap.size, 4, none⟩ = some (.bool ra) := by rw [Lib.cell_of_heap hA]; rfl
        have e2 : wr.cell? ⟨w2.heap.size + 1, 4, none⟩ = some (.int .i64 7) := by rw [Lib.cell_of_heap hI]; rfl
        have HA := Lib.hid hA
        have HI := Lib.hid hI
        have HF := Lib.hid hF
        clear hA hI hF
        go_wp2_with fail
        go_quiet (fail)
        go_wp2_with fail
        go_roundw
        case rel => exact ⟨5, by omega, rfl, HA.out, HI.out, HF.out, below_drewN hG _⟩
        case measure => simp [intOf]
      · have e1 : wr.cell? ⟨w2.heap.size, 5, none⟩ = some (.bool ad) := by rw [Lib.cell_of_heap hA]; rfl
        have e2 : wr.cell? ⟨w2.heap.size + 1, 5, none⟩ = some (.int .i64 5) := by rw [Lib.cell_of_heap hI]; rfl
        have HA := Lib.hid hA
        have HI := Lib.hid hI
        have HF := Lib.hid hF
        clear hA hI hF
        go_wp2_with fail
        go_quiet (fail)
        go_wp2_with fail
        go_roundw
        case rel => exact ⟨6, by omega, rfl, HA.out, HI.out, HF.out, below_drewN hG _⟩
        case measure => simp [intOf]
      · have e1 : wr.cell? ⟨w2.heap.size, 6, none⟩ = some (.bool cd) := by rw [Lib.cell_of_heap hA]; rfl
        have e2 : wr.cell? ⟨w2.heap.size + 1, 6, none⟩ = some (.int .i64 4) := by rw [Lib.cell_of_heap hI]; rfl
        have HA := Lib.hid hA
        have HI := Lib.hid hI
        have HF := Lib.hid hF
        clear hA hI hF
        go_wp2_with fail
        go_quiet (fail)
        go_wp2_with fail
        go_roundw
        case rel => exact ⟨7, by omega, rfl, HA.out, HI.out, HF.out, below_drewN hG _⟩
        case measure => simp [intOf]
      · have HF := Lib.hid hF
        clear hF hA hI
        obtain ⟨w4, rfl⟩ : ∃ x : World, x = wr := ⟨_, rfl⟩
        clear t0 t1 t2 t3 t4 t5 t6
        go_wp2_with fail
        go_loopw [9] (fun i wr => ∃ k : Nat, k ≤ 4 ∧ i = .int .i64 k ∧
          wr.heap[w.heap.size]? = some (.cells (hc id r op aa tc rd ra ad cd rc c0 c1 c2 c3) 25 (0, 0)) ∧ Below w.heap.size w wr) (fun i _ => 4 - (intOf i).toNat)
        case atStart => exact ⟨0, by omega, rfl, HF.out, hG⟩
        case round =>
        obtain ⟨k, hk, rfl, hF, hG⟩ := hrel
        obtain rfl | rfl | rfl | rfl | rfl : k = 0 ∨ k = 1 ∨ k = 2 ∨ k = 3 ∨ k = 4 := by omega
        · have e1 : wr.cell? ⟨w.heap.size, 10, none⟩ = some (.int .i64 c0) := by rw [Lib.cell_of_heap hF]; rfl
          have HF := Lib.hid hF
          clear hF
          go_wp2_with fail
          go_quiet (fail)
          go_wp2_with fail
          go_roundw
          case rel => exact ⟨1, by omega, rfl, HF.out, below_drewN hG _⟩
          case measure => simp [intOf]
        · have e1 : wr.cell? ⟨w.heap.size, 11, none⟩ = some (.int .i64 c1) := by rw [Lib.cell_of_heap hF]; rfl
          have HF := Lib.hid hF
          clear hF
          go_wp2_with fail
          go_quiet (fail)
          go_wp2_with fail
          go_roundw
          case rel => exact ⟨2, by omega, rfl, HF.out, below_drewN hG _⟩
          case measure => simp [intOf]
        · have e1 : wr.cell? ⟨w.heap.size, 12, none⟩ = some (.int .i64 c2) := by rw [Lib.cell_of_heap hF]; rfl
          have HF := Lib.hid hF
          clear hF
          go_wp2_with fail
          go_quiet (fail)
          go_wp2_with fail
          go_roundw
          case rel => exact ⟨3, by omega, rfl, HF.out, below_drewN hG _⟩
          case measure => simp [intOf]
        · have e1 : wr.cell? ⟨w.heap.size, 13, none⟩ = some (.int .i64 c3) := by rw [Lib.cell_of_heap hF]; rfl
          have HF := Lib.hid hF
          clear hF
          go_wp2_with fail
          go_quiet (fail)
          go_wp2_with fail
          go_roundw
          case rel => exact ⟨4, by omega, rfl, HF.out, below_drewN hG _⟩
          case measure => simp [intOf]
        · have e1 : wr.cell? ⟨w.heap.size, 2, none⟩ = some (.int .i64 op) := by rw [Lib.cell_of_heap hF]; rfl
          have e2 : wr.cell? ⟨w.heap.size, 9, none⟩ = some (.int .i64 rc) := by rw [Lib.cell_of_heap hF]; rfl
          have e3 : wr.cell? ⟨w.heap.size, 0, none⟩ = some (.int .u16 id) := by rw [Lib.cell_of_heap hF]; rfl
          clear hF
          go_wp2_with fail
          go_quiet (fail)
          go_wp2_with fail
          go_ret
          exact ⟨rfl, below_drewN hG _⟩
end Go.Proofs.Ytniambdfgojgeaa
