/- entry.ports, entry.may, entry.Check. -/
import Derived.Test.YtniambdfgojgeaaEas
import Derived.Test.YtniambdfgojgeaaMat
namespace Go.Proofs.Ytniambdfgojgeaa
open Go.RowKit Go.PlainAid

/-- an entry's value -/
abbrev ev (host : ByteArray) (kind : Int) (cluster : ByteArray) (addrs : Value) (alia : ByteArray) (ports : Value) (ttl : Int) : Value :=
  .agg #[.string host, .int .i64 kind, .string cluster, addrs, .string alia, ports, .int .u32 ttl]

set_option maxHeartbeats 800000 in
theorem ports_nil (a : Option Addr) (cap : Nat) (w : World) :
    Calls Try.prog 56 #[.slice a 0 cap] w fun e w' => e = .returned (.bool true) ∧ w = w' := by
  go_enter Try.func56, Try.ntmps56
  go_wp2_with fail
  go_loopw [7] (fun v wr => v = .int .i64 0 ∧ w = wr) (fun _ _ => 0)
  case atStart => exact ⟨rfl, rfl⟩
  obtain ⟨rfl, rfl⟩ := hrel
  go_wp2_with fail
  go_ret
  exact ⟨rfl, rfl⟩

set_option maxHeartbeats 1600000 in
theorem ports_two (g cap : Nat) (p q : Int) (w : World) (h0 : w.cell? ⟨g, 0, none⟩ = some (.int .i64 p)) (h1 : w.cell? ⟨g, 1, none⟩ = some (.int .i64 q)) (hp : 1 ≤ p ∧ p ≤ 65535) (hq : 1 ≤ q ∧ q ≤ 65535) (_hcap : 2 ≤ cap) :
    Calls Try.prog 56 #[.slice (some ⟨g, 0, none⟩) 2 cap] w fun e w' => e = .returned (.bool (decide (p < q))) ∧ w = w' := by
  obtain ⟨p1, p2⟩ := hp
  obtain ⟨q1, q2⟩ := hq
  have d1 : decide (p < 1) = false := decide_eq_false (by omega)
  have d2 : decide (65535 < p) = false := decide_eq_false (by omega)
  have d3 : decide (q < 1) = false := decide_eq_false (by omega)
  have d4 : decide (65535 < q) = false := decide_eq_false (by omega)
  go_enter Try.func56, Try.ntmps56
  go_wp2_with fail
  go_loopw [7] (fun v wr => ∃ i : Nat, v = .int .i64 i ∧ (i ≤ 1 ∨ (i = 2 ∧ p < q)) ∧ w = wr) (fun v _ => 2 - (intOf v).toNat)
  case atStart => exact ⟨0, rfl, by omega, rfl⟩
  case round =>
    obtain ⟨i, rfl, hi, rfl⟩ := hrel
    rcases (by omega : i = 0 ∨ i = 1 ∨ (i = 2 ∧ p < q)) with rfl | rfl | ⟨rfl, hpq⟩
    · go_wp2_with fail
      go_roundw
      case rel => exact ⟨1, by simp, by omega, by trivial⟩
      case measure => simp [intOf]
    · by_cases hpq : p < q
      · have d5 : decide (q ≤ p) = false := decide_eq_false (by omega)
        go_wp2_with fail
        go_roundw
        case rel => exact ⟨2, by simp, by omega, by trivial⟩
        case measure => simp [intOf]
      · have d5 : decide (q ≤ p) = true := decide_eq_true (by omega)
        have d6 : decide (p < q) = false := decide_eq_false hpq
        go_wp2_with fail
        go_ret
        exact ⟨by simp, rfl⟩
    · have d6 : decide (p < q) = true := decide_eq_true hpq
      go_wp2_with fail
      go_ret
      exact ⟨by simp, rfl⟩

/-- what a walk of may leaves -/
def MayIs (e : Value) (b : Bool) (w : World) : Prop := Calls Try.prog 57 #[e] w fun x w' => x = .returned (.bool b) ∧ Below w.heap.size w w'

set_option maxRecDepth 100000 in
set_option maxHeartbeats 1600000 in
theorem may_auto (host cl : ByteArray) (po : Value) (ttl : Int) (h1 : 1 ≤ cl.size) (h2 : cl.size ≤ 63) (w : World) : MayIs (ev host 2 cl (.slice none 0 0) ByteArray.empty po ttl) true w := by
  unfold MayIs
  go_enter Try.func57, Try.ntmps57
  go_wp2_with fail
  refine (lcheck_ok cl h1 h2 _).mono ?_
  rintro e w1 ⟨rfl, rfl⟩
  go_wp2
  go_ret
  exact ⟨rfl, (Below.refl _ w).alloc (Nat.le_refl _) _⟩

set_option maxRecDepth 100000 in
set_option maxHeartbeats 1600000 in
theorem may_fixed (host cl : ByteArray) (g cap : Nat) (po : Value) (ttl : Int) (h1 : 1 ≤ cl.size) (h2 : cl.size ≤ 63) (w : World) (q : Bool)
    (ha : ∀ W, Below w.heap.size w W → Calls Try.prog 79 #[.slice (some ⟨g, 0, none⟩) 2 cap] W fun e w' => e = .returned (.bool q) ∧ Below W.heap.size W w') :
    MayIs (ev host 1 cl (.slice (some ⟨g, 0, none⟩) 2 cap) ByteArray.empty po ttl) q w := by
  unfold MayIs
  have HA := Lib.hid ha
  clear ha
  go_enter Try.func57, Try.ntmps57
  go_wp2_with fail
  have hbw : Below w.heap.size w (w.alloc (.cells #[.string host, .int .i64 1, .string cl, .slice (some ⟨g, 0, none⟩) 2 cap, .string ByteArray.empty, po, .int .u32 ttl] 52)) := (Below.refl _ w).alloc (Nat.le_refl _) _
  refine (HA.out _ hbw).mono ?_
  rintro e w1 ⟨rfl, hb⟩
  have hbx := (hb.block w.heap.size (by simp)).trans (heap_alloc_new w (.cells #[.string host, .int .i64 1, .string cl, .slice (some ⟨g, 0, none⟩) 2 cap, .string ByteArray.empty, po, .int .u32 ttl] 52))
  have hB1 := hbw.trans (hb.mono hbw.size)
  have k2 := Lib.cell_of_heap hbx 2
  have k3 := Lib.cell_of_heap hbx 3
  have k4 := Lib.cell_of_heap hbx 4
  have f3 := Lib.frozen_of_heap hbx 3
  simp only [List.getElem?_toArray, List.getElem?_cons_zero, List.getElem?_cons_succ] at k2 k3 k4
  have HB := Lib.hid hB1
  clear hb hbx hB1 hbw
  cases q with
  | false =>
    go_wp2_with fail
    go_ret
    exact ⟨rfl, HB.out⟩
  | true =>
    go_wp2_with fail
    refine (lcheck_ok cl h1 h2 _).mono ?_
    rintro e w1 ⟨rfl, rfl⟩
    go_wp2
    go_ret
    exact ⟨rfl, HB.out.setCell (p := ⟨w.heap.size, 3, none⟩) (Nat.le_refl _) _⟩

theorem not_star {s : ByteArray} {xs : List (List UInt8)} (hs : nm s = some xs) (hx : ∀ ys, xs ≠ [42] :: ys) (_h2 : 2 ≤ s.size) : s.extract 0 2 ≠ ⟨#[1, 42]⟩ := by
  intro he
  have e : bl s = enc xs := dec_eq hs
  have e2 : (bl s).take 2 = [1, 42] := by
    have := bl_extract s 0 2
    rw [he] at this
    exact this.symm
  cases xs with
  | nil => rw [e] at e2; cases e2
  | cons l r =>
    rw [e] at e2
    have hl := dec_lab hs l (by simp)
    cases l with
    | nil => exact absurd hl.1 (by simp)
    | cons c l =>
      have e3 : ([UInt8.ofNat (c :: l).length, c] : List UInt8) = [1, 42] := e2
      have h1 := (List.cons.inj e3).1
      have h4 := (List.cons.inj (List.cons.inj e3).2).1
      have hn : (UInt8.ofNat (c :: l).length).toNat = (c :: l).length := by rw [UInt8.toNat_ofNat']; have := hl.2; omega
      rw [h1] at hn
      have hz : l = [] := by
        have : (1 : UInt8).toNat = 1 := rfl
        rw [this] at hn
        simp only [List.length_cons] at hn
        exact List.eq_nil_of_length_eq_zero (by omega)
      exact hx r (by rw [hz, h4])

set_option maxHeartbeats 800000 in
theorem prefix_no (s : ByteArray) (h : s.extract 0 2 ≠ ⟨#[1, 42]⟩) (w : World) :
    Calls Try.prog 87 #[.string s, .string ⟨#[1, 42]⟩] w fun e w' => e = .returned (.bool false) ∧ w = w' := by
  have hq : ((s.extract 0 2).toList == [1, 42]) = false := by
    refine Bool.eq_false_iff.2 fun hh => h (bl_inj ?_)
    have := eq_of_beq hh
    rw [Lib.toList_data] at this
    exact this
  by_cases h2 : 2 ≤ s.size
  · go_enter Try.func87, Try.ntmps87
    go_wp2
    go_ret
    exact ⟨rfl, rfl⟩
  · go_enter Try.func87, Try.ntmps87
    go_wp2
    go_ret
    exact ⟨rfl, rfl⟩
set_option maxHeartbeats 800000 in
theorem sprefix_no (s : ByteArray) (h : s.extract 0 2 ≠ ⟨#[1, 42]⟩) (w : World) :
    Calls Try.prog 82 #[.string s, .string ⟨#[1, 42]⟩] w fun e w' => e = .returned (.bool false) ∧ w = w' := by
  go_enter Try.func82, Try.ntmps82
  go_wp2_with fail
  refine (prefix_no s h _).mono ?_
  rintro e w1 ⟨rfl, rfl⟩
  go_wp2
  go_ret
  exact ⟨rfl, rfl⟩
set_option maxHeartbeats 800000 in
theorem wild_no (s : ByteArray) (xs : List (List UInt8)) (hs : nm s = some xs) (hx : ∀ ys, xs ≠ [42] :: ys) (h2 : 2 ≤ s.size) (h : s.size ≤ 254) (w : World) :
    Calls Try.prog 66 #[.string s] w fun e w' => e = .returned (.bool false) ∧ ∃ n, w.drewN n = w' := by
  have hck : chk s = 0 := by unfold chk; rw [hs]; rfl
  have HX := Lib.hid (not_star hs hx h2)
  clear hs
  go_enter Try.func66, Try.ntmps66
  go_wp2_with fail
  refine (check_short s h _).mono ?_
  rintro e w1 ⟨rfl, k, rfl⟩
  go_wp2_with fail
  refine (sprefix_no s HX.out _).mono ?_
  rintro e w1 ⟨rfl, rfl⟩
  go_wp2
  go_ret
  exact ⟨rfl, k, rfl⟩

set_option maxRecDepth 100000 in
set_option maxHeartbeats 1600000 in
theorem may_alias (host al : ByteArray) (ttl : Int) (xs : List (List UInt8)) (hs : nm al = some xs) (h0 : 0 < al.size) (h : al.size ≤ 254) (b : Bool) (w : World)
    (hw : ∀ W, Calls Try.prog 66 #[.string al] W fun e w' => e = .returned (.bool b) ∧ ∃ n, W.drewN n = w') :
    MayIs (ev host 3 ByteArray.empty (.slice none 0 0) al (.slice none 0 0) ttl) (!b) w := by
  unfold MayIs
  have hck : chk al = 0 := by unfold chk; rw [hs]; rfl
  have hne := not_empty_list h0
  have HW := Lib.hid hw
  clear hw hs
  go_enter Try.func57, Try.ntmps57
  go_wp2_with fail
  refine (check_short al h _).mono ?_
  rintro e w1 ⟨rfl, k, rfl⟩
  go_wp2_with fail
  refine (HW.out _).mono ?_
  rintro e w1 ⟨rfl, k2, rfl⟩
  go_wp2
  go_ret
  exact ⟨rfl, below_drewN ((Below.refl _ w).alloc (Nat.le_refl _) _) _⟩
end Go.Proofs.Ytniambdfgojgeaa
