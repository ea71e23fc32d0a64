/- octets.Writer.Patch: two octets over what stands. -/
import Derived.Test.YtniambdfgojgeaaOct
import Derived.Deep.RegionWith
import Derived.Laws.CopyOwn
namespace Go.Proofs.Ytniambdfgojgeaa
open Go.RowKit

/-- t laid over s from place at on -/
def bput (s : ByteArray) (k : Nat) (t : ByteArray) : ByteArray := ⟨(s.data.toList.take k ++ t.data.toList ++ s.data.toList.drop (k + t.size)).toArray⟩
theorem blen (s : ByteArray) : s.data.toList.length = s.size := by rw [Array.length_toList]; rfl
theorem bput_size (s : ByteArray) (k : Nat) (t : ByteArray) (h : k + t.size ≤ s.size) : (bput s k t).size = s.size := by
  show (List.toArray _).size = _
  have := blen s; have := blen t
  simp only [List.size_toArray, List.length_append, List.length_take, List.length_drop]
  omega
theorem bput_cells (s : ByteArray) (k : Nat) (t : ByteArray) : Lib.strCells (bput s k t) = (Lib.strCells s).take k ++ Lib.strCells t ++ (Lib.strCells s).drop (k + t.size) := by
  simp [Lib.strCells, bput, List.map_take, List.map_drop]
theorem twoCells (n : Int) (h0 : 0 ≤ n) (h1 : n < 65536) : Lib.strCells (two n) = [.int .u8 (n / 256), .int .u8 (n % 256)] := by
  have e1 : (UInt8.ofNat (n / 256).toNat).toNat = (n / 256).toNat := by rw [UInt8.toNat_ofNat']; omega
  have e2 : (UInt8.ofNat (n % 256).toNat).toNat = (n % 256).toNat := by rw [UInt8.toNat_ofNat']; omega
  simp only [two, Lib.strCells, List.map_cons, List.map_nil, e1, e2]
  rw [Int.toNat_of_nonneg (by omega), Int.toNat_of_nonneg (by omega)]

theorem take_splice (L : List Value) (k n : Nat) (a b : Value) (hk : k + 2 ≤ n) (hL : n ≤ L.length) : (L.take k ++ a :: b :: L.drop (k + 2)).take n = (L.take n).take k ++ [a, b] ++ (L.take n).drop (k + 2) := by
  have hlen : (L.take k).length = k := by rw [List.length_take]; omega
  rw [List.take_append, hlen, List.take_of_length_le (by omega), List.take_take, Nat.min_eq_left (by omega)]
  obtain ⟨m, rfl⟩ : ∃ m, n = k + 2 + m := ⟨n - (k + 2), by omega⟩
  rw [show k + 2 + m - k = m + 1 + 1 from by omega, List.take_succ_cons, List.take_succ_cons, List.drop_take, show k + 2 + m - (k + 2) = m from by omega]
  simp
theorem patch_left (B b g k cap : Nat) (s : ByteArray) (most : Int) (cur : Array Value) (n : Int) (w : World) (hb : w.heap[b]? = some (.cells #[.slice (some ⟨g, 0, none⟩) s.size cap, .int .i64 most, .int .i64 0] 115 (0, 0)))
    (hBg : B ≤ g) (hg : w.heap[g]? = some (.cells cur 5 (0, 0))) (hnc : s.size ≤ cap) (hcm : cap ≤ maxLen) (hcs : cur.size = cap * 1) (htake : cur.toList.take (s.size * 1) = Lib.strCells s) (hk : k + 2 ≤ s.size) (h0 : 0 ≤ n) (h1 : n < 65536) :
    WLeft B b (.slice (some ⟨g, 0, none⟩) s.size cap) (bput s k (two n)) most 0 w
      ((w.alloc (.cells #[.int .u8 (n / 256), .int .u8 (n % 256)] 5)).drew.setRow g (cur.toList.take k ++ .int .u8 (n / 256) :: .int .u8 (n % 256) :: cur.toList.drop (k + 2)).toArray) := by
  have hne : b ≠ g := by
    rintro rfl
    rw [hb] at hg
    simp at hg
  have hlt := lt_of_heap hg
  have hsz : (bput s k (two n)).size = s.size := bput_size s k _ (by rw [two_size]; exact hk)
  have hg' : ((w.alloc (.cells #[.int .u8 (n / 256), .int .u8 (n % 256)] 5)).drew).heap[g]? = some (.cells cur 5 (0, 0)) := (Below.heap_alloc w _ g hlt).trans hg
  have hL : cur.toList.length = cap := by rw [Array.length_toList]; omega
  refine ⟨.slice (some ⟨g, 0, none⟩) s.size cap, ⟨?_, ?_⟩, ?_, Placed.refl _ _⟩
  · exact (setRow_other _ g b _ hne).trans ((Below.heap_alloc w _ b (lt_of_heap hb)).trans hb)
  · rw [hsz]
    refine ⟨by rw [Lib.strCells_length, hsz, Nat.mul_one], .inr ⟨g, cap, _, rfl, hBg, setRow_heap _ g cur _ 5 _ hg', hnc, hcm, ?_, ?_⟩⟩
    · simp only [List.size_toArray, List.length_append, List.length_take, List.length_cons, List.length_drop]
      omega
    · rw [Nat.mul_one] at htake ⊢
      show List.take s.size (cur.toList.take k ++ .int .u8 (n / 256) :: .int .u8 (n % 256) :: cur.toList.drop (k + 2)) = _
      rw [take_splice _ k s.size _ _ hk (by omega), htake, bput_cells, twoCells n h0 h1, two_size]
  · refine ⟨rfl, rfl, rfl, by simp [World.setRow], fun j hj hn => ?_⟩
    exact (setRow_other _ g j _ (fun e => hn (.inr (by rw [e]; rfl)))).trans (Below.heap_alloc w _ j hj)

set_option maxRecDepth 100000 in
set_option maxHeartbeats 800000 in
theorem wPatch2_ok (B b : Nat) (v : Value) (s : ByteArray) (most : Int) (k : Nat) (n : Int) (w : World) (h : WAt B b v s most 0 w) (hk : k + 2 ≤ s.size) (hs : s.size ≤ 100000) (h0 : 0 ≤ n) (h1 : n < 65536) :
    Calls Try.prog 38 #[.pointer (some ⟨b, 0, none⟩), .int .i64 k, .int .u32 n, .int .i64 2] w fun x w' => x = .returned (.int .i64 0) ∧ WLeft B b v (bput s k (two n)) most 0 w w' := by
  obtain ⟨hb, hown⟩ := h
  have hlen := hown.1
  rcases hown.2 with ⟨rfl, hz⟩ | ⟨g, cap, cur, rfl, hBg, hg, hnc, hcm, hcs, htake⟩
  · omega
  have c0 : w.cell? ⟨b, 0, none⟩ = some (.slice (some ⟨g, 0, none⟩) s.size cap) := by rw [Lib.cell_of_heap hb]; rfl
  have c2 : w.cell? ⟨b, 2, none⟩ = some (.int .i64 0) := by rw [Lib.cell_of_heap hb]; rfl
  have n1 : ¬ ((k : Int) < 0) := by omega
  have n2 : ¬ ((s.size : Int) - 2 < (k : Int)) := by omega
  have hmc : cap ≤ 9223372036854775807 := hcm
  have hcp := run_copy_row (P := Try.prog) (w.alloc (.cells #[.int .u8 (n / 256), .int .u8 (n % 256)] 5)).drew 113 113 3 5 g k (s.size - k) (cap - k) ⟨w.heap.size, 0, none⟩ 2 2 cur 5 [.int .u8 (n / 256), .int .u8 (n % 256)]
    Try.underlying113 (by kernel_rfl) ((Below.heap_alloc w _ g (lt_of_heap hg)).trans hg) (by show 2 = min 2 (s.size - k); omega)
    (fun j u hj => by
      match j, hj with
      | 0, hj => simp at hj; subst hj; exact Lib.cell_of_heap (heap_alloc_new w _) 0
      | 1, hj => simp at hj; subst hj; exact Lib.cell_of_heap (heap_alloc_new w _) 1)
    (by show k + 2 ≤ cur.size; omega) (by intro u hu; simp at hu; rcases hu with rfl | rfl <;> rfl)
  have hgl := lt_of_heap hg
  have c0' : ∀ o, (w.alloc o).cell? ⟨b, 0, none⟩ = some (.slice (some ⟨g, 0, none⟩) s.size cap) := fun o => cell_alloc_old hb o 0
  have HO := Lib.hid hown
  have HG := Lib.hid hg
  have HT := Lib.hid htake
  have HC := Lib.hid hcs
  have HL := Lib.hid hlen
  clear hown hg htake hcs hlen
  go_enter Try.func38, Try.ntmps38
  go_wp2_with (first | (go_at_call 60; refine (wErr_any b 0 _ c2).mono ?_; rintro e w' ⟨rfl, rfl⟩) | (go_at_call 61; refine (fits2 n h0 h1 _).mono ?_; rintro e w' ⟨rfl, rfl⟩))
  go_region_with ((go_at_call 62; refine (cut2 n h0 h1 _).mono ?_; rintro e w' ⟨rfl, rfl⟩))
  all_goals go_wp2
  all_goals go_ret
  all_goals refine ⟨rfl, ?_⟩
  all_goals exact patch_left B b g k cap s most cur n w hb hBg HG.out hnc hcm HC.out HT.out hk h0 h1
end Go.Proofs.Ytniambdfgojgeaa
