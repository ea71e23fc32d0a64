/- name.Fold. -/
import Derived.Test.YtniambdfgojgeaaMak
import Derived.Test.YtniambdfgojgeaaFld
namespace Go.Proofs.Ytniambdfgojgeaa
open Go.RowKit Go.PlainAid

structure NFolding (g : Nat) (xs : List (List UInt8)) (i : Nat) (w wr : World) : Prop where
  cell : ∀ j l, xs[j]? = some l → wr.cell? ⟨g, j, none⟩ = some (.string (ofL (if j < i then foldL l else l)))
  free : ∀ j, wr.frozen? ⟨g, j, none⟩ = false
  lt : g < wr.heap.size
  own : w.heap.size ≤ g
  below : Below w.heap.size w wr
theorem frozen_block {w w' : World} {g : Nat} (h : w'.heap[g]? = w.heap[g]?) (j : Nat) : w'.frozen? ⟨g, j, none⟩ = w.frozen? ⟨g, j, none⟩ := by
  simp only [World.frozen?, h]
theorem NFolding.later {g : Nat} {xs : List (List UInt8)} {i : Nat} {w wr w1 : World} (h : NFolding g xs i w wr) (hb : Below wr.heap.size wr w1) : NFolding g xs i w w1 where
  cell := fun j l hj => (hb.cell (p := ⟨g, j, none⟩) h.lt).trans (h.cell j l hj)
  free := fun j => (frozen_block (hb.block g h.lt) j).trans (h.free j)
  lt := Nat.lt_of_lt_of_le h.lt hb.size
  own := h.own
  below := h.below.trans (hb.mono h.below.size)
theorem NFolding.next {g : Nat} {xs : List (List UInt8)} {i : Nat} {w wr : World} (h : NFolding g xs i w wr) {l : List UInt8} (hi : xs[i]? = some l) : NFolding g xs (i + 1) w (wr.setCell ⟨g, i, none⟩ (.string (ofL (foldL l)))) where
  cell := fun j x hj => by
    by_cases hij : j = i
    · subst hij
      obtain rfl : l = x := by rw [hi] at hj; cases hj; rfl
      refine (World.cell?_setCell_same _ _ _ (h.cell j l hj)).trans ?_
      rw [if_pos (by omega)]
    · refine (World.cell?_setCell_other _ _ _ _ (by intro e; cases e; exact hij rfl)).trans ?_
      rw [h.cell j x hj]
      by_cases hlt : j < i
      · rw [if_pos hlt, if_pos (by omega)]
      · rw [if_neg hlt, if_neg (by omega)]
  free := fun j => (World.frozen?_setCell _ _ _ _).trans (h.free j)
  lt := by have := h.lt; simpa [World.setCell] using this
  own := h.own
  below := h.below.setCell (p := ⟨g, i, none⟩) h.own _
theorem NFolding.has {g : Nat} {xs : List (List UInt8)} {w wr : World} (h : NFolding g xs xs.length w wr) {cap : Nat} (hn : xs.length ≤ cap) : HasTexts (.slice (some ⟨g, 0, none⟩) xs.length cap) (xs.map foldL) wr := by
  refine ⟨some ⟨g, 0, none⟩, cap, by rw [List.length_map], fun _ => ⟨g, rfl, h.lt, by rw [List.length_map]; exact hn, fun i l hi => ?_⟩⟩
  rw [List.getElem?_map] at hi
  cases hx : xs[i]? with
  | none => rw [hx] at hi; cases hi
  | some x =>
    rw [hx] at hi
    cases hi
    rw [h.cell i x hx, if_pos (List.getElem?_eq_some_iff.1 hx).1]

theorem enc_fold : ∀ xs : List (List UInt8), (enc (xs.map foldL)).length = (enc xs).length
  | [] => rfl
  | x :: xs => by
    have := enc_fold xs
    show (enc1 (foldL x) ++ enc (xs.map foldL)).length = (enc1 x ++ enc xs).length
    rw [List.length_append, List.length_append, this]
    unfold enc1
    rw [List.length_cons, List.length_cons, foldL_length]
theorem lab_fold {xs : List (List UInt8)} (h : ∀ l ∈ xs, Lab l) : ∀ l ∈ xs.map foldL, Lab l := by
  intro l hl
  obtain ⟨x, hx, rfl⟩ := List.mem_map.1 hl
  unfold Lab
  rw [foldL_length]
  exact h x hx

/-- a name lowered -/
def foldN (xs : List (List UInt8)) : ByteArray := ofL (enc (xs.map foldL))

set_option maxRecDepth 100000 in
set_option maxHeartbeats 1600000 in
theorem nfold_ok (s : ByteArray) (xs : List (List UInt8)) (hs : nm s = some xs) (h : s.size ≤ 254) (w : World) :
    Calls Try.prog 17 #[.string s] w fun e w' => e = .returned (.string (foldN xs)) ∧ Below w.heap.size w w' := by
  have hxl := nm_len hs
  have he : (enc xs).length ≤ 254 := by
    rw [← dec_eq hs, bl_length]
    exact h
  have hlab := lab_fold (dec_lab hs)
  have hel : (enc (xs.map foldL)).length ≤ 254 := by rw [enc_fold]; exact he
  have HS := Lib.hid hs
  have HLB := Lib.hid hlab
  have HL := Lib.hid (fun l hl => (dec_lab hs l hl).2)
  clear hs hlab
  go_enter Try.func17, Try.ntmps17
  go_wp2_with fail
  refine (labels_ok s xs HS.out h _).mono ?_
  rintro e w1 ⟨v, rfl, ho, hb⟩
  rcases ho.2 with ⟨rfl, h0⟩ | ⟨g, cap, cur, rfl, hB, hg, hn, hr⟩
  · obtain rfl : xs = [] := List.eq_nil_of_length_eq_zero h0
    have HB := Lib.hid hb
    clear hb ho
    go_wp2_with fail
    go_loopw [12] (fun v wr => v = .int .i64 0 ∧ w1 = wr) (fun _ _ => 0)
    case atStart => exact ⟨rfl, rfl⟩
    obtain ⟨rfl, rfl⟩ := hrel
    go_wp2_with fail
    refine (make_nil none 0 _).mono ?_
    rintro e w2 ⟨rfl, hb2⟩
    have HB2 := Lib.hid hb2
    clear hb2
    go_wp2
    go_ret
    exact ⟨rfl, HB.out.trans (HB2.out.mono HB.out.size)⟩
  · have h0 : NFolding g xs 0 w w1 := ⟨fun j l hj => by
      rw [if_neg (by omega)]
      exact (by cases j <;> simp [Addr.add] : w1.cell? ((⟨g, 0, none⟩ : Addr).add j) = w1.cell? ⟨g, j, none⟩).symm.trans (ho.cells (g := g) rfl j _ (txs_get xs j l hj)), fun j => Lib.frozen_of_heap hg j, lt_of_heap hg, hB, hb⟩
    have H0 := Lib.hid h0
    clear h0 ho hb hr hg
    go_wp2_with fail
    go_loopw [12] (fun v wr => ∃ i : Nat, v = .int .i64 i ∧ i ≤ xs.length ∧ NFolding g xs i w wr) (fun v _ => xs.length - (intOf v).toNat)
    case atStart => exact ⟨0, rfl, Nat.zero_le _, H0.out⟩
    case round =>
      obtain ⟨i, rfl, hi, hI⟩ := hrel
      by_cases hlt : i < xs.length
      · obtain ⟨l, hl⟩ : ∃ l, xs[i]? = some l := ⟨_, List.getElem?_eq_getElem hlt⟩
        have hc := hI.cell i l hl
        rw [if_neg (by omega)] at hc
        have hl63 := HL.out l (List.mem_of_getElem? hl)
        have HI := Lib.hid hI
        have HLL := Lib.hid hl
        clear hI hl
        go_wp2_with fail
        refine (lfold_any (ofL l) (by rw [ofL_size]; omega) _).mono ?_
        rintro e w2 ⟨rfl, hb⟩
        have hI2 := HI.out.later hb
        have hc2 := hI2.cell i l HLL.out
        have hf2 := hI2.free i
        have heq : (⟨(foldL (bl (ofL l))).toArray⟩ : ByteArray) = ofL (foldL l) := by rw [bl_ofL]; rfl
        have HI2 := Lib.hid hI2
        clear hI2 hb
        go_wp2_with fail
        go_roundw
        case rel => exact ⟨i + 1, by simp, by omega, by have := HI2.out.next HLL.out; first | exact this | (rw [← heq] at this; exact this)⟩
        case measure => simp [intOf] <;> omega
      · obtain rfl : i = xs.length := by omega
        have hh := hI.has hn
        have HI := Lib.hid hI
        have HH := Lib.hid hh
        clear hI hh
        go_wp2_with fail
        refine (make_any _ _ HLB.out hel _ HH.out).mono ?_
        rintro e w2 ⟨rfl, hb2⟩
        have HB2 := Lib.hid hb2
        clear hb2
        go_wp2
        go_ret
        exact ⟨rfl, HI.out.below.trans (HB2.out.mono HI.out.below.size)⟩

/-- a text that is no name -/
def noName (s : ByteArray) : Prop := 254 < s.size ∨ nm s = none
theorem labels_no (s : ByteArray) (h : noName s) (w : World) :
    Calls Try.prog 18 #[.string s] w fun e w' => e = .returned (.slice none 0 0) ∧ ∃ k, w.drewN k = w' := by
  by_cases hl : 254 < s.size
  · refine (labels_long s hl w).mono ?_
    rintro e w' ⟨rfl, rfl⟩
    exact ⟨rfl, 0, rfl⟩
  · exact labels_bad s (h.resolve_left hl) (by omega) w

set_option maxRecDepth 100000 in
set_option maxHeartbeats 1600000 in
theorem nfold_no (s : ByteArray) (h : noName s) (w : World) :
    Calls Try.prog 17 #[.string s] w fun e w' => e = .returned (.string ByteArray.empty) ∧ Below w.heap.size w w' := by
  go_enter Try.func17, Try.ntmps17
  go_wp2_with fail
  refine (labels_no s h _).mono ?_
  rintro e w1 ⟨rfl, k, rfl⟩
  go_wp2_with fail
  go_loopw [12] (fun v wr => v = .int .i64 0 ∧ w.drewN k = wr) (fun _ _ => 0)
  case atStart => exact ⟨rfl, rfl⟩
  obtain ⟨rfl, rfl⟩ := hrel
  go_wp2_with fail
  refine (make_nil none 0 _).mono ?_
  rintro e w2 ⟨rfl, hb2⟩
  have HB2 := Lib.hid hb2
  clear hb2
  go_wp2
  go_ret
  exact ⟨rfl, (below_drewN (Below.refl _ w) k).trans HB2.out⟩
end Go.Proofs.Ytniambdfgojgeaa
