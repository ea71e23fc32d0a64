/- The reference's Make; host of nameplatelaw16. -/
import Derived.Test.YtniambdfgojgeaaMat
import Derived.BigQuiet
namespace Go.Proofs.Ytniambdfgojgeaa
open Go.RowKit Go.PlainAid

set_option maxHeartbeats 800000 in
theorem rcheck_ok (s : ByteArray) (h1 : 1 ≤ s.size) (h2 : s.size ≤ 63) (w : World) :
    Calls Try.prog 77 #[.string s] w fun e w' => e = .returned (.int .i64 0) ∧ w = w' := by
  have hne := not_empty_list (s := s) (by omega)
  go_enter Try.func77, Try.ntmps77
  go_wp2
  go_ret
  exact ⟨rfl, rfl⟩

theorem run_one (b n : Nat) (h : n ≤ 255) (W : World) (hb : W.heap[b]? = some (.cells #[.int .u8 n] 5 (0, 0))) : (convert 113 9 (.slice (some ⟨b, 0, none⟩) 1 1)).run Try.prog W = .ok (.string ⟨#[UInt8.ofNat n]⟩) W := by
  have e1 : (UInt8.ofNat n).toNat = n := by rw [UInt8.toNat_ofNat']; omega
  refine run_text (B := 0) (s := ⟨#[UInt8.ofNat n]⟩) ⟨rfl, .inr ⟨b, 1, _, rfl, Nat.zero_le _, hb, Nat.le_refl _, by unfold maxLen; omega, rfl, ?_⟩⟩
  simp only [Lib.strCells, List.map_cons, List.map_nil, e1]
  rfl

theorem enc_text (ls : List (List UInt8)) (i : Nat) (l : List UInt8) (hi : ls[i]? = some l) : ofL (enc (ls.take i)) ++ ⟨#[UInt8.ofNat (ofL l).size]⟩ ++ ofL l = ofL (enc (ls.take (i + 1))) := by
  have : ls.take (i + 1) = ls.take i ++ [l] := by rw [List.take_add_one, hi]; rfl
  rw [this, enc_append, ofL_size]
  apply bl_inj
  simp [bl, ofL, enc, enc1, ByteArray.data_append]

set_option maxRecDepth 100000 in
set_option maxHeartbeats 1600000 in
theorem rmake_some (g cap : Nat) (ls : List (List UInt8)) (hlab : ∀ l ∈ ls, Lab l) (h254 : (enc ls).length ≤ 254) (w : World) (hg : g < w.heap.size) (_hn : ls.length ≤ cap)
    (hc : ∀ i l, ls[i]? = some l → w.cell? ⟨g, i, none⟩ = some (.string (ofL l))) :
    Calls Try.prog 46 #[.slice (some ⟨g, 0, none⟩) ls.length cap] w fun e w' => e = .returned (.tuple #[.string (ofL (enc ls)), .int .i64 0]) ∧ Below w.heap.size w w' := by
  have hlen : ls.length ≤ 254 := Nat.le_trans (enc_len ls) h254
  have HC := Lib.hid hc
  have HL := Lib.hid hlab
  clear hc hlab
  go_enter Try.func46, Try.ntmps46
  go_wp2_with fail
  go_loopw [5] (fun v wr => ∃ i : Nat, v = .int .i64 i ∧ i ≤ ls.length ∧ w = wr) (fun v _ => ls.length - (intOf v).toNat)
  case atStart => exact ⟨0, rfl, Nat.zero_le _, rfl⟩
  case round =>
    obtain ⟨i, rfl, hi, rfl⟩ := hrel
    by_cases hlt : i < ls.length
    · obtain ⟨l, hl⟩ : ∃ l, ls[i]? = some l := ⟨_, List.getElem?_eq_getElem hlt⟩
      have hcell := HC.out i l hl
      have hL := HL.out l (List.mem_of_getElem? hl)
      have hs1 : 1 ≤ (ofL l).size := by rw [ofL_size]; exact hL.1
      have hs2 : (ofL l).size ≤ 63 := by rw [ofL_size]; exact hL.2
      clear hL hl
      go_wp2_with fail
      refine (rcheck_ok (ofL l) hs1 hs2 _).mono ?_
      rintro e w1 ⟨rfl, rfl⟩
      go_wp2_with fail
      go_roundw
      case rel => exact ⟨i + 1, by simp, by omega, by trivial⟩
      case measure => simp [intOf] <;> omega
    · obtain rfl : i = ls.length := by omega
      go_wp2_with fail
      go_loopw [4, 7] (fun t v wr => ∃ i : Nat, t = .string (ofL (enc (ls.take i))) ∧ v = .int .i64 i ∧ i ≤ ls.length ∧ Below w.heap.size w wr) (fun _ v _ => ls.length - (intOf v).toNat)
      case atStart => exact ⟨0, rfl, rfl, Nat.zero_le _, Below.refl _ w⟩
      case round =>
        obtain ⟨i, rfl, rfl, hi, hBl⟩ := hrel
        by_cases hlt : i < ls.length
        · obtain ⟨l, hl⟩ : ∃ l, ls[i]? = some l := ⟨_, List.getElem?_eq_getElem hlt⟩
          have hcell := (hBl.cell (p := ⟨g, i, none⟩) hg).trans (HC.out i l hl)
          have hL := HL.out l (List.mem_of_getElem? hl)
          have hs2 : (ofL l).size ≤ 63 := by rw [ofL_size]; exact hL.2
          have ew : IntKind.u8.wrap ((ofL l).size : Int) = (ofL l).size := IntWalk.u8_in _ (by omega)
          have hstep := enc_text ls i l hl
          have hle := enc_take_le ls i
          have hle1 := enc_take_le ls (i + 1)
          have hz : (ofL (enc (ls.take i))).size ≤ 254 := by rw [ofL_size]; omega
          have hz1 : (ofL (enc (ls.take (i + 1)))).size ≤ 254 := by rw [ofL_size]; omega
          have hr1 := run_one wr.heap.size (ofL l).size (by omega) (wr.alloc (.cells #[.int .u8 (ofL l).size] 5)) (heap_alloc_new wr _)
          have hr2 := run_one wr.heap.size (ofL l).size (by omega) (wr.alloc (.cells #[.int .u8 (ofL l).size] 5)).drew (heap_alloc_new wr _)
          have hws := hBl.size
          have hcell2 : ∀ o, (wr.alloc o).cell? ⟨g, i, none⟩ = some (.string (ofL l)) := fun o => (World.cell?_of_block (w := wr) (Below.heap_alloc wr o g (by omega))).trans hcell
          have HBl := Lib.hid hBl
          have HS := Lib.hid hstep
          clear hBl hL hl hstep hle hle1
          go_wp2_with fail
          go_region
          rw [HS.out]
          go_wp2_with fail
          go_roundw
          case rel => exact ⟨i + 1, rfl, by simp, by omega, (HBl.out.alloc hws _).drew⟩
          case measure => simp [intOf] <;> omega
        · obtain rfl : i = ls.length := by omega
          rw [List.take_length]
          have HB := Lib.hid hBl
          clear hBl
          go_wp2_with fail
          go_ret2
          exact ⟨rfl, HB.out⟩

set_option maxHeartbeats 800000 in
theorem host_any (g cap : Nat) (ls : List (List UInt8)) (hlab : ∀ l ∈ ls, Lab l) (h254 : (enc ls).length ≤ 254) (w : World) (hg : g < w.heap.size) (hn : ls.length ≤ cap)
    (hc : ∀ i l, ls[i]? = some l → w.cell? ⟨g, i, none⟩ = some (.string (ofL l))) :
    Calls Try.prog 20 #[.slice (some ⟨g, 0, none⟩) ls.length cap] w fun e w' => e = .returned (.string (ofL (enc ls))) ∧ Below w.heap.size w w' := by
  have HM := Lib.hid (rmake_some g cap ls hlab h254 w hg hn hc)
  clear hc hlab
  go_enter Try.func20, Try.ntmps20
  go_wp2_with fail
  refine HM.out.mono ?_
  rintro e w1 ⟨rfl, hb⟩
  have HB := Lib.hid hb
  clear hb
  go_wp2
  go_ret
  exact ⟨rfl, HB.out⟩

/-- host of one letter, of two, as a caller calls it: its labels in a new row -/
theorem host_one (a : UInt8) (W : World) : Calls Try.prog 20 #[.slice (some ⟨W.heap.size, 0, none⟩) 1 1] (W.alloc (.cells #[.string ⟨#[a]⟩] 9)) fun e w' => e = .returned (.string ⟨#[1, a]⟩) ∧ Below W.heap.size W w' := by
  refine (host_any W.heap.size 1 [[a]] (by simp [Lab]) (by simp [enc, enc1]) _ (by simp) (Nat.le_refl _) (fun i l hi => ?_)).mono ?_
  · match i, hi with
    | 0, hi => cases hi; exact Lib.cell_of_heap (heap_alloc_new W _) 0
  · rintro e w' ⟨rfl, hb⟩
    exact ⟨rfl, ((Below.refl _ W).alloc (Nat.le_refl _) _).trans (hb.mono (by simp))⟩
theorem host_two (a b : UInt8) (W : World) : Calls Try.prog 20 #[.slice (some ⟨W.heap.size, 0, none⟩) 2 2] (W.alloc (.cells #[.string ⟨#[a]⟩, .string ⟨#[b]⟩] 9)) fun e w' => e = .returned (.string ⟨#[1, a, 1, b]⟩) ∧ Below W.heap.size W w' := by
  refine (host_any W.heap.size 2 [[a], [b]] (by simp [Lab]) (by simp [enc, enc1]) _ (by simp) (Nat.le_refl _) (fun i l hi => ?_)).mono ?_
  · match i, hi with
    | 0, hi => cases hi; exact Lib.cell_of_heap (heap_alloc_new W _) 0
    | 1, hi => cases hi; exact Lib.cell_of_heap (heap_alloc_new W _) 1
  · rintro e w' ⟨rfl, hb⟩
    exact ⟨rfl, ((Below.refl _ W).alloc (Nat.le_refl _) _).trans (hb.mono (by simp))⟩
end Go.Proofs.Ytniambdfgojgeaa
