/- NameFolds: the walk behind lives. -/
import Derived.Test.YtniambdfgojgeaaNfo
import Derived.BigQuiet
namespace Go.Proofs.Ytniambdfgojgeaa
open Go.RowKit Go.PlainAid

theorem foldB_small (n : Nat) (h : n ≤ 63) : foldB (UInt8.ofNat n) = UInt8.ofNat n := by
  have : (UInt8.ofNat n).toNat = n := by rw [UInt8.toNat_ofNat']; omega
  unfold foldB
  rw [if_neg (by rw [this]; omega)]
theorem enc_map : ∀ xs : List (List UInt8), (∀ l ∈ xs, Lab l) → enc (xs.map foldL) = (enc xs).map foldB
  | [], _ => rfl
  | x :: xs, h => by
    show enc1 (foldL x) ++ enc (xs.map foldL) = (enc1 x ++ enc xs).map foldB
    rw [List.map_append, enc_map xs (fun l hl => h l (by simp [hl]))]
    congr 1
    unfold enc1
    rw [List.map_cons, foldL_length, foldB_small _ (h x (by simp)).2]
    rfl
theorem bl_foldN (xs : List (List UInt8)) : bl (foldN xs) = enc (xs.map foldL) := bl_ofL _
theorem nm_foldN {xs : List (List UInt8)} (h : ∀ l ∈ xs, Lab l) : nm (foldN xs) = some (xs.map foldL) := by
  unfold nm
  rw [bl_foldN]
  exact dec_enc _ (lab_fold h)
theorem foldN_size {s : ByteArray} {xs : List (List UInt8)} (h : nm s = some xs) : (foldN xs).size = s.size := by
  rw [← bl_length, bl_foldN, enc_fold, ← dec_eq h, bl_length]
theorem bt_of_get {s : ByteArray} {i : Nat} {c : UInt8} (h : (bl s)[i]? = some c) : bt s i = c.toNat := by
  have hi : i < s.size := by rw [← bl_length]; exact (List.getElem?_eq_some_iff.1 h).1
  rw [bl_bt s i hi] at h
  cases h
  unfold bt
  rw [dif_pos hi]
theorem foldN_bt {s : ByteArray} {xs : List (List UInt8)} (h : nm s = some xs) (i : Nat) (hi : i < s.size) : bt (foldN xs) i = foldI (bt s i) := by
  have hb := bl_bt s i hi
  have : (bl (foldN xs))[i]? = some (foldB (s[i]'hi)) := by
    rw [bl_foldN, enc_map xs (dec_lab h), ← dec_eq h, List.getElem?_map]
    unfold nm at h
    rw [hb]
    rfl
  rw [bt_of_get this, foldB_toNat, bt_of_get hb]
theorem fold_label_bt (l : List UInt8) (j : Nat) (hj : j < l.length) : bt (ofL (foldL l)) j < 65 ∨ 90 < bt (ofL (foldL l)) j := by
  have : (bl (ofL (foldL l)))[j]? = some (foldB (l[j])) := by
    rw [bl_ofL]
    unfold foldL
    rw [List.getElem?_map, List.getElem?_eq_getElem hj]
    rfl
  rw [bt_of_get this, foldB_toNat]
  unfold foldI
  split <;> omega

/-- what lives leaves -/
def Lives (n : Nat) (w : World) : Prop := Calls Try.prog n #[] w fun e w' => e = .returned (.bool true) ∧ Below w.heap.size w w'

set_option maxRecDepth 100000 in
set_option maxHeartbeats 1600000 in
theorem folds_long (s : ByteArray) (h : 400 < s.size) (w : World) (hl : Lives 15 w) :
    Calls Try.prog 5 #[.string s] w fun e w' => e = .returned (.bool true) ∧ Below w.heap.size w w' := by
  go_enter Try.func5, Try.ntmps5
  go_wp2_with fail
  refine hl.mono ?_
  rintro e w1 ⟨rfl, hb⟩
  have HB := Lib.hid hb
  clear hb
  go_wp2
  go_ret
  exact ⟨rfl, HB.out⟩

theorem check_no (s : ByteArray) (h : noName s) (w : World) :
    Calls Try.prog 16 #[.string s] w fun x w' => ∃ c, (c = 3 ∨ c = 4) ∧ x = .returned (.int .i64 c) ∧ ∃ n, w.drewN n = w' := by
  by_cases hl : 254 < s.size
  · refine (check_long s hl w).mono ?_
    rintro e w' ⟨rfl, rfl⟩
    exact ⟨3, .inl rfl, rfl, 0, rfl⟩
  · refine (check_short s (by omega) w).mono ?_
    rintro e w' ⟨rfl, n, rfl⟩
    refine ⟨4, .inr rfl, ?_, n, rfl⟩
    unfold chk
    rw [h.resolve_left hl]
    rfl

set_option maxRecDepth 100000 in
set_option maxHeartbeats 1600000 in
theorem folds_no (s : ByteArray) (h : s.size ≤ 400) (hn : noName s) (w : World) (hl : Lives 15 w) :
    Calls Try.prog 5 #[.string s] w fun e w' => e = .returned (.bool true) ∧ Below w.heap.size w w' := by
  have HN := Lib.hid hn
  clear hn
  go_enter Try.func5, Try.ntmps5
  go_wp2_with fail
  refine hl.mono ?_
  rintro e w1 ⟨rfl, hb⟩
  have HB := Lib.hid hb
  clear hb
  go_wp2_with fail
  refine (check_no s HN.out _).mono ?_
  rintro e w2 ⟨c, hc, rfl, k, rfl⟩
  have hc' : (c != 0) = true := by simp; omega
  clear hc
  go_wp2_with fail
  refine (nfold_no s HN.out _).mono ?_
  rintro e w2 ⟨rfl, hb⟩
  have HB2 := Lib.hid hb
  clear hb
  go_wp2
  go_ret
  exact ⟨rfl, (below_drewN HB.out k).trans (HB2.out.mono HB.out.size)⟩

theorem HasTexts.later {v : Value} {xs : List (List UInt8)} {w w' : World} (h : HasTexts v xs w) (hb : Below w.heap.size w w') : HasTexts v xs w' := by
  obtain ⟨a, cap, rfl, hs⟩ := h
  refine ⟨a, cap, rfl, fun h0 => ?_⟩
  obtain ⟨g, rfl, hg, hn, hc⟩ := hs h0
  exact ⟨g, rfl, Nat.lt_of_lt_of_le hg hb.size, hn, fun i l hi => (hb.cell (p := ⟨g, i, none⟩) hg).trans (hc i l hi)⟩

set_option maxRecDepth 100000 in
set_option maxHeartbeats 4000000 in
theorem folds_ok (s : ByteArray) (xs : List (List UInt8)) (hs : nm s = some xs) (h : s.size ≤ 254) (w : World) (hl : Lives 15 w) :
    Calls Try.prog 5 #[.string s] w fun e w' => e = .returned (.bool true) ∧ Below w.heap.size w w' := by
  have hck : chk s = 0 := by unfold chk; rw [hs]; rfl
  obtain ⟨F, hF⟩ : ∃ F, foldN xs = F := ⟨_, rfl⟩
  have hFs : F.size = s.size := by rw [← hF]; exact foldN_size hs
  have hFn : nm F = some (xs.map foldL) := by rw [← hF]; exact nm_foldN (dec_lab hs)
  have hFb : ∀ i, i < s.size → bt F i = foldI (bt s i) := by rw [← hF]; exact fun i hi => foldN_bt hs i hi
  have hckF : chk F = 0 := by unfold chk; rw [hFn]; rfl
  have hxl := nm_len hs
  have HS := Lib.hid hs
  have HFN := Lib.hid hFn
  have HFB := Lib.hid hFb
  have HFF := Lib.hid hF
  clear hs hFn hFb hF
  go_enter Try.func5, Try.ntmps5
  go_wp2_with fail
  refine hl.mono ?_
  rintro e w1 ⟨rfl, hb⟩
  have HB := Lib.hid hb
  clear hb hl
  go_wp2_with fail
  refine (check_short s h _).mono ?_
  rintro e w2 ⟨rfl, k, rfl⟩
  go_wp2_with fail
  refine (nfold_ok s xs HS.out h _).mono ?_
  rintro e w3 ⟨rfl, hb⟩
  rw [HFF.out]
  have HB2 := Lib.hid ((below_drewN HB.out k).trans (hb.mono HB.out.size))
  clear hb
  go_wp2_with fail
  refine (check_short F (by omega) _).mono ?_
  rintro e w2 ⟨rfl, k2, rfl⟩
  go_wp2_with fail
  go_loopw [4] (fun v wr => ∃ i n : Nat, v = .int .i64 i ∧ i ≤ s.size ∧ wr = w3.drewN n) (fun v _ => s.size - (intOf v).toNat)
  case atStart => exact ⟨0, k2, rfl, Nat.zero_le _, rfl⟩
  case round =>
    obtain ⟨i, n, rfl, hi, rfl⟩ := hrel
    by_cases hlt : i < s.size
    · have hltF : i < F.size := by omega
      have hfb := HFB.out i hlt
      have hbs := get_bt s
      have hbF := get_bt F
      have b0 := bt_nonneg s i
      have b1 := bt_le s i
      by_cases hu : 65 ≤ bt s i ∧ bt s i ≤ 90
      · have hf : bt F i = bt s i + 32 := by rw [hfb]; exact if_pos hu
        have ew : IntKind.u8.wrap (bt s i + 32) = bt s i + 32 := IntWalk.u8_in _ (by omega)
        have d1 : decide (bt s i < 65) = false := decide_eq_false (by omega)
        have d2 : decide (90 < bt s i) = false := decide_eq_false (by omega)
        have d3 : bt s i + 32 ≠ bt s i := by omega
        clear hu hfb
        go_wp2_with fail
        go_quiet (fail)
        go_wp2_with fail
        go_roundw
        case rel => exact ⟨i + 1, _, by simp, by omega, rfl⟩
        case measure => simp [intOf] <;> omega
      · have hf : bt F i = bt s i := by rw [hfb]; exact if_neg hu
        clear hu hfb
        go_wp2_with fail
        go_quiet (fail)
        go_wp2_with fail
        go_roundw
        case rel => exact ⟨i + 1, _, by simp, by omega, rfl⟩
        case measure => simp [intOf] <;> omega
    · obtain rfl : i = s.size := by omega
      go_wp2_with fail
      refine (labels_ok s xs HS.out h _).mono ?_
      rintro e w4 ⟨v1, rfl, ho1, hb1⟩
      have ht1 := has_of_owns ho1
      have HT1 := Lib.hid ht1
      have HB4 := Lib.hid ((below_drewN HB2.out n).trans (hb1.mono HB2.out.size))
      clear ho1 hb1 ht1
      go_wp2_with fail
      refine (labels_ok F (xs.map foldL) HFN.out (by omega) _).mono ?_
      rintro e w5 ⟨v2, rfl, ho2, hb2⟩
      obtain ⟨a2, c2, rfl, hs2⟩ := has_of_owns ho2
      obtain ⟨a1, c1, rfl, hs1⟩ := HT1.out.later hb2
      rw [List.length_map] at hs2 ⊢
      have HB5 := Lib.hid (HB4.out.trans (hb2.mono HB4.out.size))
      have H1 := Lib.hid hs1
      have H2 := Lib.hid hs2
      clear ho2 hb2 hs1 hs2
      go_wp2_with fail
      go_loopw [7] (fun v wr => ∃ i n : Nat, v = .int .i64 i ∧ i ≤ xs.length ∧ wr = w5.drewN n) (fun v _ => xs.length - (intOf v).toNat)
      case atStart => exact ⟨0, 0, rfl, Nat.zero_le _, rfl⟩
      case round =>
        obtain ⟨i, n, rfl, hi, rfl⟩ := hrel
        by_cases hlt : i < xs.length
        · obtain ⟨l, hl⟩ : ∃ l, xs[i]? = some l := ⟨_, List.getElem?_eq_getElem hlt⟩
          obtain ⟨g1, rfl, hg1, hn1, hc1⟩ := H1.out (by omega)
          obtain ⟨g2, rfl, hg2, hn2, hc2⟩ := H2.out (by omega)
          have k1 := hc1 i l hl
          have k2 := hc2 i (foldL l) (by rw [List.getElem?_map, hl]; rfl)
          have el : (ofL (foldL l)).size = (ofL l).size := by rw [ofL_size, ofL_size, foldL_length]
          have hbt := Lib.hid (fold_label_bt l)
          have hl63 : (ofL l).size ≤ 63 := by rw [ofL_size]; exact (dec_lab HS.out l (List.mem_of_getElem? hl)).2
          have esz := ofL_size l
          clear hc1 hc2 hl
          go_wp2_with fail
          go_quiet (fail)
          go_wp2_with fail
          go_loopw [8] (fun v wr => ∃ j n : Nat, v = .int .i64 j ∧ j ≤ (ofL l).size ∧ wr = w5.drewN n) (fun v _ => (ofL l).size - (intOf v).toNat)
          case atStart => exact ⟨0, _, rfl, Nat.zero_le _, World.drewN_drewN _ _ _⟩
          case round =>
            obtain ⟨j, n, rfl, hj, rfl⟩ := hrel
            by_cases hlt2 : j < (ofL l).size
            · have hj2 : j < (ofL (foldL l)).size := by omega
              have hgb := get_bt (ofL (foldL l))
              have hcase := hbt.out j (by omega)
              by_cases hd : 65 ≤ bt (ofL (foldL l)) j
              · have d1 : decide (65 ≤ bt (ofL (foldL l)) j) = true := decide_eq_true hd
                have d2 : decide (bt (ofL (foldL l)) j ≤ 90) = false := decide_eq_false (by omega)
                clear hcase hd
                go_wp2_with fail
                go_roundw
                case rel => exact ⟨j + 1, _, by simp, by omega, rfl⟩
                case measure => simp [intOf] <;> omega
              · have d1 : decide (65 ≤ bt (ofL (foldL l)) j) = false := decide_eq_false hd
                clear hcase hd
                go_wp2_with fail
                go_roundw
                case rel => exact ⟨j + 1, _, by simp, by omega, rfl⟩
                case measure => simp [intOf] <;> omega
            · obtain rfl : j = (ofL l).size := by omega
              go_wp2_with fail
              go_roundw
              case rel => exact ⟨i + 1, _, by simp, by omega, rfl⟩
              case measure => simp [intOf] <;> omega
        · obtain rfl : i = xs.length := by omega
          go_wp2
          go_ret
          exact ⟨rfl, below_drewN HB5.out n⟩
end Go.Proofs.Ytniambdfgojgeaa
