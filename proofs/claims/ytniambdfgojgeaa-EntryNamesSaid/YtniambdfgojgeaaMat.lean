/- name.Matches of a wildcard and a name under it; lives of nameplatelaw02. -/
import Derived.Test.YtniambdfgojgeaaUnd
import Derived.Test.YtniambdfgojgeaaNrd
namespace Go.Proofs.Ytniambdfgojgeaa
open Go.RowKit Go.PlainAid

theorem head_of_some {s : ByteArray} {l : List UInt8} {ys : List (List UInt8)} (h : nm s = some (l :: ys)) : 0 < s.size ∧ okHead s ∧ nm (s.extract (1 + bt s 0).toNat s.size) = some ys := by
  have hp : 0 < s.size := by
    have := nm_len h
    simp only [List.length_cons] at this
    omega
  have hh : okHead s := by
    by_cases hh : okHead s
    · exact hh
    · rw [nm_bad hp hh] at h
      cases h
  refine ⟨hp, hh, ?_⟩
  rw [nm_step hp hh] at h
  cases hn : nm (s.extract (1 + bt s 0).toNat s.size) with
  | none => rw [hn] at h; cases h
  | some rest =>
    rw [hn] at h
    cases h
    rfl

set_option maxHeartbeats 800000 in
theorem parent_ok (s : ByteArray) (l : List UInt8) (ys : List (List UInt8)) (hs : nm s = some (l :: ys)) (h : s.size ≤ 254) (w : World) :
    Calls Try.prog 65 #[.string s] w fun e w' => ∃ p : ByteArray, nm p = some ys ∧ p.size ≤ 254 ∧ e = .returned (.tuple #[.string p, .bool true]) ∧ ∃ n, w.drewN n = w' := by
  have hck : chk s = 0 := by unfold chk; rw [hs]; rfl
  obtain ⟨hp, hh, ht⟩ := head_of_some hs
  have HH := Lib.hid hh
  have HT := Lib.hid ht
  clear hh ht hs
  go_enter Try.func65, Try.ntmps65
  go_wp2_with fail
  refine (check_short s h _).mono ?_
  rintro e w1 ⟨rfl, k, rfl⟩
  go_wp2_with fail
  refine (cut_ok s hp HH.out _).mono ?_
  rintro e w1 ⟨rfl, k2, rfl⟩
  go_wp2
  go_ret2
  exact ⟨_, HT.out, by rw [ByteArray.size_extract]; omega, rfl, _, rfl⟩

theorem star_head {s : ByteArray} {ys : List (List UInt8)} (h : nm s = some ([42] :: ys)) : 2 ≤ s.size ∧ s.extract 0 2 = ⟨#[1, 42]⟩ := by
  have e : bl s = 1 :: 42 :: enc ys := dec_eq h
  constructor
  · rw [← bl_length, e]
    simp
  · apply bl_inj
    rw [bl_extract, e]
    rfl

set_option maxHeartbeats 800000 in
theorem prefix_star (s : ByteArray) (h : 2 ≤ s.size) (hx : s.extract 0 2 = ⟨#[1, 42]⟩) (w : World) :
    Calls Try.prog 87 #[.string s, .string ⟨#[1, 42]⟩] w fun e w' => e = .returned (.bool true) ∧ w = w' := by
  go_enter Try.func87, Try.ntmps87
  go_wp2
  go_ret
  exact ⟨rfl, rfl⟩
set_option maxHeartbeats 800000 in
theorem sprefix_star (s : ByteArray) (h : 2 ≤ s.size) (hx : s.extract 0 2 = ⟨#[1, 42]⟩) (w : World) :
    Calls Try.prog 82 #[.string s, .string ⟨#[1, 42]⟩] w fun e w' => e = .returned (.bool true) ∧ w = w' := by
  go_enter Try.func82, Try.ntmps82
  go_wp2_with fail
  refine (prefix_star s h hx _).mono ?_
  rintro e w1 ⟨rfl, rfl⟩
  go_wp2
  go_ret
  exact ⟨rfl, rfl⟩
set_option maxHeartbeats 800000 in
theorem wild_ok (s : ByteArray) (ys : List (List UInt8)) (hs : nm s = some ([42] :: ys)) (h : s.size ≤ 254) (w : World) :
    Calls Try.prog 66 #[.string s] w fun e w' => e = .returned (.bool true) ∧ ∃ n, w.drewN n = w' := by
  have hck : chk s = 0 := by unfold chk; rw [hs]; rfl
  obtain ⟨h2, hx⟩ := star_head hs
  have HX := Lib.hid hx
  clear hx hs
  go_enter Try.func66, Try.ntmps66
  go_wp2_with fail
  refine (check_short s h _).mono ?_
  rintro e w1 ⟨rfl, k, rfl⟩
  go_wp2_with fail
  refine (sprefix_star s h2 HX.out _).mono ?_
  rintro e w1 ⟨rfl, rfl⟩
  go_wp2
  go_ret
  exact ⟨rfl, k, rfl⟩

set_option maxRecDepth 100000 in
set_option maxHeartbeats 1600000 in
theorem matches_any (s t : ByteArray) (xs ys : List (List UInt8)) (hs : nm s = some ([42] :: ys)) (ht : nm t = some xs) (h : s.size ≤ 254) (h' : t.size ≤ 254) (h0 : 0 < ys.length) (hle : ys.length ≤ xs.length)
    (hsame : ∀ j y, ys[j]? = some y → ∃ x, xs[xs.length - ys.length + j]? = some x ∧ foldL y = foldL x) (w : World) :
    Calls Try.prog 40 #[.string s, .string t] w fun e w' => e = .returned (.bool (decide (ys.length < xs.length))) ∧ Below w.heap.size w w' := by
  have HS := Lib.hid hs
  have HT := Lib.hid ht
  have HSM := Lib.hid hsame
  clear hs ht hsame
  go_enter Try.func40, Try.ntmps40
  go_wp2_with fail
  refine (parent_ok s [42] ys HS.out h _).mono ?_
  rintro e w1 ⟨p, hp, hps, rfl, k, rfl⟩
  have HP := Lib.hid hp
  clear hp
  go_wp2_with fail
  refine (wild_ok s ys HS.out h _).mono ?_
  rintro e w1 ⟨rfl, k2, rfl⟩
  go_wp2_with fail
  refine (callsIn_wide.1 (under_yes t p xs ys HT.out HP.out h' hps h0 hle HSM.out _)).mono ?_
  rintro e w1 ⟨rfl, hb⟩
  have HB := Lib.hid (show Below w.heap.size w w1 from ⟨hb.os, hb.tape, hb.output, hb.size, hb.block⟩)
  clear hb
  go_wp2_with fail
  refine (labels_ok t xs HT.out h' _).mono ?_
  rintro e w2 ⟨v1, rfl, ho1, hb1⟩
  obtain ⟨a1, c1, rfl, -⟩ := has_of_owns ho1
  have HB1 := Lib.hid (HB.out.trans (hb1.mono HB.out.size))
  clear ho1 hb1
  go_wp2_with fail
  refine (labels_ok p ys HP.out hps _).mono ?_
  rintro e w3 ⟨v2, rfl, ho2, hb2⟩
  obtain ⟨a2, c2, rfl, -⟩ := has_of_owns ho2
  have HB2 := Lib.hid (HB1.out.trans (hb2.mono HB1.out.size))
  clear ho2 hb2
  go_wp2
  go_ret
  refine ⟨?_, HB2.out⟩
  by_cases hc : ys.length < xs.length
  · simp [hc]
  · simp [hc]

set_option maxRecDepth 100000 in
set_option maxHeartbeats 1600000 in
theorem lives02_any (w : World) : Lives 15 w := by
  have hlit : ofL (enc [[119, 119, 119], [97]]) = ⟨#[3, 119, 119, 119, 1, 97]⟩ := rfl
  have hr1 : ∀ w, Calls Try.prog 39 #[.string ⟨#[119, 119, 119, 46, 97, 46]⟩] w fun e w' => e = .returned (.tuple #[.string ⟨#[3, 119, 119, 119, 1, 97]⟩, .int .i64 0]) ∧ Below w.heap.size w w' := fun w =>
    nread_any ⟨#[119, 119, 119, 46, 97, 46]⟩ [[119, 119, 119], [97]] (.inl rfl) (by decide) (by unfold Lab; decide) (by unfold Plain; decide) (by decide) (by decide) w
  have hr2 : ∀ w, Calls Try.prog 39 #[.string ⟨#[119, 119, 119, 46, 97]⟩] w fun e w' => e = .returned (.tuple #[.string ⟨#[3, 119, 119, 119, 1, 97]⟩, .int .i64 0]) ∧ Below w.heap.size w w' := fun w =>
    nread_any ⟨#[119, 119, 119, 46, 97]⟩ [[119, 119, 119], [97]] (.inr rfl) (by decide) (by unfold Lab; decide) (by unfold Plain; decide) (by decide) (by decide) w
  have hm1 : ∀ w, Calls Try.prog 40 #[.string ⟨#[1, 42, 1, 97]⟩, .string ⟨#[1, 98, 1, 99, 1, 97]⟩] w fun e w' => e = .returned (.bool true) ∧ Below w.heap.size w w' := fun w =>
    matches_any ⟨#[1, 42, 1, 97]⟩ ⟨#[1, 98, 1, 99, 1, 97]⟩ [[98], [99], [97]] [[97]] (by kernel_rfl) (by kernel_rfl) (by decide) (by decide) (by decide) (by decide)
      (fun j y hj => by
        match j, hj with
        | 0, hj => cases hj; exact ⟨_, rfl, rfl⟩) w
  have hm2 : ∀ w, Calls Try.prog 40 #[.string ⟨#[1, 42, 1, 97]⟩, .string ⟨#[1, 97]⟩] w fun e w' => e = .returned (.bool false) ∧ Below w.heap.size w w' := fun w =>
    matches_any ⟨#[1, 42, 1, 97]⟩ ⟨#[1, 97]⟩ [[97]] [[97]] (by kernel_rfl) (by kernel_rfl) (by decide) (by decide) (by decide) (by decide)
      (fun j y hj => by
        match j, hj with
        | 0, hj => cases hj; exact ⟨_, rfl, rfl⟩) w
  have R1 := Lib.hid hr1
  have R2 := Lib.hid hr2
  have M1 := Lib.hid hm1
  have M2 := Lib.hid hm2
  clear hr1 hr2 hm1 hm2 hlit
  unfold Lives
  go_enter Try.func15, Try.ntmps15
  go_wp2_with fail
  refine (R1.out _).mono ?_
  rintro e w1 ⟨rfl, hb⟩
  have HB1 := Lib.hid hb
  clear hb
  go_wp2_with fail
  refine (R2.out _).mono ?_
  rintro e w2 ⟨rfl, hb⟩
  have HB2 := Lib.hid (HB1.out.trans (hb.mono HB1.out.size))
  clear hb
  go_wp2_with fail
  refine (M1.out _).mono ?_
  rintro e w3 ⟨rfl, hb⟩
  have HB3 := Lib.hid (HB2.out.trans (hb.mono HB2.out.size))
  clear hb
  go_wp2_with fail
  refine (M2.out _).mono ?_
  rintro e w4 ⟨rfl, hb⟩
  have HB4 := Lib.hid (HB3.out.trans (hb.mono HB3.out.size))
  clear hb
  go_wp2
  go_ret
  exact ⟨rfl, HB4.out⟩
end Go.Proofs.Ytniambdfgojgeaa
