/- name.Make: labels put together. -/
import Derived.Test.YtniambdfgojgeaaBld
import Derived.Test.YtniambdfgojgeaaEch
namespace Go.Proofs.Ytniambdfgojgeaa
open Go.RowKit Go.PlainAid

set_option maxHeartbeats 800000 in
theorem lcheck_ok (s : ByteArray) (h1 : 1 ≤ s.size) (h2 : s.size ≤ 63) (w : World) :
    Calls Try.prog 70 #[.string s] w fun e w' => e = .returned (.int .i64 0) ∧ w = w' := by
  go_enter Try.func70, Try.ntmps70
  go_wp2
  go_ret
  exact ⟨rfl, rfl⟩

theorem enc_append (a b : List (List UInt8)) : enc (a ++ b) = enc a ++ enc b := by simp [enc]
theorem ofL_size (l : List UInt8) : (ofL l).size = l.length := by
  rw [← bl_length, bl_ofL]
theorem enc_step (ls : List (List UInt8)) (i : Nat) (l : List UInt8) (hi : ls[i]? = some l) (hl : l.length ≤ 63) :
    Lib.byteCells (enc (ls.take (i + 1))) = (Lib.byteCells (enc (ls.take i)) ++ [.int .u8 ((ofL l).size : Int)]) ++ Lib.strCells (ofL l) := by
  have hlt : i < ls.length := (List.getElem?_eq_some_iff.1 hi).1
  have : ls.take (i + 1) = ls.take i ++ [l] := by rw [List.take_add_one, hi]; rfl
  rw [this, enc_append, Lib.byteCells_append, List.append_assoc]
  congr 1
  have e : (UInt8.ofNat l.length).toNat = l.length := by rw [UInt8.toNat_ofNat']; omega
  rw [ofL_size]
  simp only [enc, enc1, List.flatMap_cons, List.flatMap_nil, List.append_nil, Lib.byteCells, List.map_cons, e, Lib.strCells, ofL, List.singleton_append]
theorem enc_take_le (ls : List (List UInt8)) (i : Nat) : (enc (ls.take i)).length ≤ (enc ls).length := by
  conv => rhs; rw [← List.take_append_drop i ls, enc_append, List.length_append]
  omega

theorem txs_get (xs : List (List UInt8)) (i : Nat) (l : List UInt8) (h : xs[i]? = some l) : (txs xs)[i]? = some (.string (ofL l)) := by
  unfold txs; rw [List.getElem?_map, h]; rfl

/-- what Make takes: a row of texts, somewhere -/
def HasTexts (v : Value) (xs : List (List UInt8)) (w : World) : Prop :=
  ∃ a cap, v = .slice a xs.length cap ∧ (0 < xs.length → ∃ g, a = some ⟨g, 0, none⟩ ∧ g < w.heap.size ∧ xs.length ≤ cap ∧ ∀ i l, xs[i]? = some l → w.cell? ⟨g, i, none⟩ = some (.string (ofL l)))
theorem has_of_owns {B : Nat} {v : Value} {xs : List (List UInt8)} {w : World} (h : w.ownsRow B 9 1 v xs.length (txs xs)) : HasTexts v xs w := by
  rcases h.2 with ⟨rfl, h0⟩ | ⟨g, cap, cur, rfl, hB, hg, hn, hr⟩
  · exact ⟨none, 0, by rw [h0], fun h => by omega⟩
  · exact ⟨some ⟨g, 0, none⟩, cap, rfl, fun _ => ⟨g, rfl, lt_of_heap hg, hn, fun i l hi => by
      exact (by cases i <;> simp [Addr.add] : w.cell? ((⟨g, 0, none⟩ : Addr).add i) = w.cell? ⟨g, i, none⟩).symm.trans (h.cells (g := g) rfl i _ (txs_get xs i l hi))⟩⟩

set_option maxRecDepth 100000 in
set_option maxHeartbeats 1600000 in
theorem make_nil (a : Option Addr) (cap : Nat) (w : World) :
    Calls Try.prog 43 #[.slice a 0 cap] w fun e w' => e = .returned (.tuple #[.string ByteArray.empty, .int .i64 0]) ∧ Below w.heap.size w w' := by
  go_enter Try.func43, Try.ntmps43
  go_wp2_with fail
  go_loopw [12] (fun v wr => v = .int .i64 0 ∧ w = wr) (fun _ _ => 0)
  case atStart => exact ⟨rfl, rfl⟩
  obtain ⟨rfl, rfl⟩ := hrel
  go_wp2_with fail
  go_loopw [24] (fun v wr => v = .int .i64 0 ∧ w.alloc (.cells #[.pointer none, .slice none 0 0] 128) = wr) (fun _ _ => 0)
  case atStart => exact ⟨rfl, rfl⟩
  obtain ⟨rfl, rfl⟩ := hrel
  go_wp2_with fail
  refine (bLen_any w.heap.size w.heap.size [] _ (Lib.fresh_isBuilder 128 5 w)).mono ?_
  rintro e w1 ⟨rfl, rfl⟩
  go_wp2_with fail
  refine (bString_none w.heap.size w.heap.size _ (show Lib.BuilderAt _ _ _ _ _ _ _ from ⟨Nat.le_refl _, .slice none 0 0, heap_alloc_new w _, World.ownsRow_nil _ _ _ _, by simp [Value.ownBlock]⟩) (Lib.cell_of_heap (heap_alloc_new w _) 1)).mono ?_
  rintro e w1 ⟨rfl, hb⟩
  have HB := Lib.hid (((Below.refl _ w).alloc (Nat.le_refl _) _).trans hb)
  clear hb
  go_wp2
  go_ret2
  exact ⟨rfl, HB.out⟩

set_option maxRecDepth 100000 in
set_option maxHeartbeats 1600000 in
theorem make_some (g cap : Nat) (ls : List (List UInt8)) (h0 : 0 < ls.length) (hlab : ∀ l ∈ ls, Lab l) (h254 : (enc ls).length ≤ 254) (w : World) (hg : g < w.heap.size) (_hn : ls.length ≤ cap)
    (hc : ∀ i l, ls[i]? = some l → w.cell? ⟨g, i, none⟩ = some (.string (ofL l))) :
    Calls Try.prog 43 #[.slice (some ⟨g, 0, none⟩) ls.length cap] w fun e w' => e = .returned (.tuple #[.string (ofL (enc ls)), .int .i64 0]) ∧ Below w.heap.size w w' := by
  have hlen : ls.length ≤ 254 := Nat.le_trans (enc_len ls) h254
  have HC := Lib.hid hc
  have HL := Lib.hid hlab
  clear hc hlab
  go_enter Try.func43, Try.ntmps43
  go_wp2_with fail
  go_loopw [12] (fun v wr => ∃ i : Nat, v = .int .i64 i ∧ i ≤ ls.length ∧ w = wr) (fun v _ => ls.length - (intOf v).toNat)
  case atStart => exact ⟨0, rfl, Nat.zero_le _, rfl⟩
  case round =>
    obtain ⟨i, rfl, hi, rfl⟩ := hrel
    by_cases hlt : i < ls.length
    · obtain ⟨l, hl⟩ : ∃ l, ls[i]? = some l := ⟨_, List.getElem?_eq_getElem hlt⟩
      have hcell := HC.out i l hl
      have hL := HL.out l (List.mem_of_getElem? hl)
      have hs1 : 1 ≤ (ofL l).size := by rw [ofL_size]; exact hL.1
      have hs2 : (ofL l).size ≤ 63 := by rw [ofL_size]; exact hL.2
      clear hL hl
      go_wp2_with fail
      refine (lcheck_ok (ofL l) hs1 hs2 _).mono ?_
      rintro e w1 ⟨rfl, rfl⟩
      go_wp2_with fail
      go_roundw
      case rel => exact ⟨i + 1, by simp, by omega, by trivial⟩
      case measure => simp [intOf] <;> omega
    · obtain rfl : i = ls.length := by omega
      obtain ⟨W, hW⟩ : ∃ W, w.alloc (.cells #[.pointer none, .slice none 0 0] 128) = W := ⟨_, rfl⟩
      have hB0 : BAt w.heap.size w.heap.size (Lib.byteCells (enc (ls.take 0))) W := by rw [← hW]; exact Lib.fresh_isBuilder 128 5 w
      have hBe : Below w.heap.size w W := by rw [← hW]; exact (Below.refl _ w).alloc (Nat.le_refl _) _
      have hWs : w.heap.size ≤ W.heap.size := hBe.size
      have HB0 := Lib.hid hB0
      have HBe := Lib.hid hBe
      clear hB0 hBe
      go_wp2_with fail
      go_loopw [24] (fun v wr => ∃ i : Nat, v = .int .i64 i ∧ i ≤ ls.length ∧ BAt w.heap.size w.heap.size (Lib.byteCells (enc (ls.take i))) wr ∧ Below w.heap.size w wr) (fun v _ => ls.length - (intOf v).toNat)
      case atStart => exact ⟨0, rfl, Nat.zero_le _, HB0.out, HBe.out⟩
      case round =>
        obtain ⟨i, rfl, hi, hB, hBl⟩ := hrel
        by_cases hlt : i < ls.length
        · obtain ⟨l, hl⟩ : ∃ l, ls[i]? = some l := ⟨_, List.getElem?_eq_getElem hlt⟩
          have hcell := (hBl.cell (p := ⟨g, i, none⟩) hg).trans (HC.out i l hl)
          have hL := HL.out l (List.mem_of_getElem? hl)
          have hs2 : (ofL l).size ≤ 63 := by rw [ofL_size]; exact hL.2
          have ew : IntKind.u8.wrap ((ofL l).size : Int) = (ofL l).size := IntWalk.u8_in _ (by omega)
          have hstep := enc_step ls i l hl hL.2
          have hle := enc_take_le ls i
          have hcl : (Lib.byteCells (enc (ls.take i))).length ≤ 254 := by rw [Lib.byteCells_length]; omega
          have hws := hBl.size
          have HB := Lib.hid hB
          have HBl := Lib.hid hBl
          have HS := Lib.hid hstep
          clear hB hBl hL hl hstep hle
          go_wp2_with fail
          refine (bByte_any w.heap.size w.heap.size _ ((ofL l).size : Int) _ HB.out (by omega) (by omega)).mono ?_
          rintro e w1 ⟨rfl, hu, hb⟩
          have hws1 := hb.size
          have HU := Lib.hid hu
          have HB1 := Lib.hid hb
          clear hu hb
          go_wp2_with fail
          refine (bText_any w.heap.size w.heap.size _ (ofL l) _ (.inr HU.out) (by rw [List.length_append]; simp only [List.length_cons, List.length_nil]; omega) (by omega)).mono ?_
          rintro e w2 ⟨rfl, hu, hb⟩
          have HU2 := Lib.hid hu
          have HB2 := Lib.hid hb
          clear hu hb
          go_wp2_with fail
          go_roundw
          case rel => exact ⟨i + 1, by simp, by omega, by rw [HS.out]; exact .inr HU2.out, (HBl.out.trans HB1.out).trans HB2.out⟩
          case measure => simp [intOf] <;> omega
        · obtain rfl : i = ls.length := by omega
          rw [List.take_length] at hB
          have hne : enc ls ≠ [] := by
            intro e
            have := enc_len ls
            rw [e, List.length_nil] at this
            omega
          have hcl := Lib.byteCells_length (enc ls)
          have hq : ¬ ((254 : Int) < ((Lib.byteCells (enc ls)).length : Int)) := by rw [hcl]; omega
          have HB := Lib.hid hB
          have HBl := Lib.hid hBl
          have HN := Lib.hid hne
          clear hB hBl hne hcl
          go_wp2_with fail
          refine (bLen_any w.heap.size w.heap.size _ _ HB.out).mono ?_
          rintro e w1 ⟨rfl, rfl⟩
          go_wp2_with fail
          refine (bString_some w.heap.size w.heap.size _ _ HB.out HN.out).mono ?_
          rintro e w1 ⟨rfl, hb⟩
          have HB2 := Lib.hid hb
          clear hb
          go_wp2
          go_ret2
          exact ⟨rfl, HBl.out.trans HB2.out⟩

theorem make_any (v : Value) (ls : List (List UInt8)) (hlab : ∀ l ∈ ls, Lab l) (h254 : (enc ls).length ≤ 254) (w : World) (h : HasTexts v ls w) :
    Calls Try.prog 43 #[v] w fun e w' => e = .returned (.tuple #[.string (ofL (enc ls)), .int .i64 0]) ∧ Below w.heap.size w w' := by
  obtain ⟨a, cap, rfl, hs⟩ := h
  cases ls with
  | nil => exact make_nil a cap w
  | cons l r =>
    obtain ⟨g, rfl, hg, hn, hc⟩ := hs (by simp)
    exact make_some g cap (l :: r) (by simp) hlab h254 w hg hn hc
end Go.Proofs.Ytniambdfgojgeaa
