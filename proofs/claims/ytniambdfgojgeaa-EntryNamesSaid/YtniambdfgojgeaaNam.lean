/- name: cut, Check. -/
import Derived.Test.YtniambdfgojgeaaDec
import Derived.BigQuiet
namespace Go.Proofs.Ytniambdfgojgeaa
open Go.RowKit Go.PlainAid

set_option maxHeartbeats 800000 in
theorem cut_empty (s : ByteArray) (h : s.size = 0) (w : World) :
    Calls Try.prog 41 #[.string s] w fun x w' => x = .returned (.tuple #[.string ByteArray.empty, .string ByteArray.empty, .bool false]) ∧ w = w' := by
  obtain rfl := empty_bytes h
  clear h
  go_enter Try.func41, Try.ntmps41
  go_wp2
  go_ret3
  exact ⟨rfl, rfl⟩

set_option maxHeartbeats 800000 in
theorem cut_bad (s : ByteArray) (h : 0 < s.size) (hh : ¬ okHead s) (w : World) :
    Calls Try.prog 41 #[.string s] w fun x w' => x = .returned (.tuple #[.string ByteArray.empty, .string s, .bool false]) ∧ w = w' := by
  have hbt := get_bt s
  have hn := not_empty_list h
  have b0 := bt_nonneg s 0
  have b1 := bt_le s 0
  have hcs : bt s 0 < 1 ∨ 63 < bt s 0 ∨ (s.size : Int) ≤ bt s 0 := by
    unfold okHead at hh
    omega
  clear hh
  by_cases g1 : bt s 0 < 1
  · have d1 : decide (bt s 0 < 1) = true := decide_eq_true g1
    clear hcs
    go_enter Try.func41, Try.ntmps41
    go_wp2
    all_goals go_ret3
    all_goals exact ⟨rfl, rfl⟩
  · have d1 : decide (bt s 0 < 1) = false := decide_eq_false g1
    by_cases g2 : 63 < bt s 0
    · have d2 : decide (63 < bt s 0) = true := decide_eq_true g2
      clear hcs
      go_enter Try.func41, Try.ntmps41
      go_wp2
      all_goals go_ret3
      all_goals exact ⟨rfl, rfl⟩
    · have d2 : decide (63 < bt s 0) = false := decide_eq_false g2
      have g3 : (s.size : Int) ≤ bt s 0 := by omega
      have d3 : decide ((s.size : Int) ≤ bt s 0) = true := decide_eq_true g3
      clear hcs
      go_enter Try.func41, Try.ntmps41
      go_wp2
      all_goals go_ret3
      all_goals exact ⟨rfl, rfl⟩

set_option maxHeartbeats 800000 in
theorem cut_ok (s : ByteArray) (h : 0 < s.size) (hh : okHead s) (w : World) :
    Calls Try.prog 41 #[.string s] w fun x w' => x = .returned (.tuple #[.string (s.extract 1 (1 + bt s 0).toNat), .string (s.extract (1 + bt s 0).toNat s.size), .bool true]) ∧ ∃ n, w.drewN n = w' := by
  have hbt := get_bt s
  have hn := not_empty_list h
  have b0 := bt_nonneg s 0
  have b1 := bt_le s 0
  obtain ⟨h1, h2, h3⟩ := hh
  have d1 : decide (bt s 0 < 1) = false := decide_eq_false (by omega)
  have d2 : decide (63 < bt s 0) = false := decide_eq_false (by omega)
  have d3 : decide ((s.size : Int) ≤ bt s 0) = false := decide_eq_false (by omega)
  go_enter Try.func41, Try.ntmps41
  go_wp2
  go_quiet (fail)
  go_wp2
  go_ret3
  exact ⟨rfl, nq, rfl⟩

/-- the length of a text in a slot -/
def strLen : Value → Nat | .string s => s.size | _ => 0

set_option maxHeartbeats 800000 in
theorem check_long (s : ByteArray) (h : 254 < s.size) (w : World) :
    Calls Try.prog 16 #[.string s] w fun x w' => x = .returned (.int .i64 3) ∧ w = w' := by
  go_enter Try.func16, Try.ntmps16
  go_wp2
  go_ret
  exact ⟨rfl, rfl⟩

/-- what Check tells of a name that is not too long -/
def chk (s : ByteArray) : Int := if (nm s).isSome then 0 else 4
theorem chk_step {s : ByteArray} (h : 0 < s.size) (hh : okHead s) : chk s = chk (s.extract (1 + bt s 0).toNat s.size) := by
  unfold chk
  rw [nm_step h hh]
  cases nm (s.extract (1 + bt s 0).toNat s.size) <;> rfl
theorem chk_bad {s : ByteArray} (h : 0 < s.size) (hh : ¬ okHead s) : chk s = 4 := by
  unfold chk
  rw [nm_bad h hh]
  rfl
theorem chk_end {s : ByteArray} (h : s.size = 0) : chk s = 0 := by
  unfold chk
  rw [nm_empty h]
  rfl

set_option maxHeartbeats 1600000 in
theorem check_short (s : ByteArray) (h : s.size ≤ 254) (w : World) :
    Calls Try.prog 16 #[.string s] w fun x w' => x = .returned (.int .i64 (chk s)) ∧ ∃ n, w.drewN n = w' := by
  go_enter Try.func16, Try.ntmps16
  go_wp2_with fail
  go_loopw [0] (fun v wr => ∃ (t : ByteArray) (n : Nat), v = .string t ∧ t.size ≤ 254 ∧ chk s = chk t ∧ wr = w.drewN n) (fun v _ => strLen v)
  case atStart => exact ⟨s, 0, rfl, h, rfl, rfl⟩
  case round =>
    obtain ⟨t, n, rfl, ht, hc, rfl⟩ := hrel
    have HC := Lib.hid hc
    clear hc
    by_cases hz : t.size = 0
    · have hq := chk_end hz
      obtain rfl := empty_bytes hz
      clear hz
      have HQ := Lib.hid hq
      clear hq
      go_wp2
      go_ret
      rw [HC.out, HQ.out]
      exact ⟨rfl, n, rfl⟩
    · have hp : 0 < t.size := by omega
      clear hz
      have hne : (!t.toList.isEmpty) = true := by rw [not_empty_list hp]; rfl
      have hne' := not_empty_list hp
      by_cases hh : okHead t
      · go_wp2_with fail
        refine (cut_ok t hp hh _).mono ?_
        rintro e w' ⟨rfl, k, rfl⟩
        have hs := chk_step hp hh
        have h1 := hh.1
        have HS := Lib.hid hs
        clear hs
        go_wp2_with fail
        go_roundw
        case rel => exact ⟨_, n + k, rfl, by rw [ByteArray.size_extract]; omega, by rw [HC.out, HS.out], rfl⟩
        case measure => simp only [strLen, ByteArray.size_extract]; omega
      · go_wp2_with fail
        refine (cut_bad t hp hh _).mono ?_
        rintro e w' ⟨rfl, rfl⟩
        go_wp2
        go_ret
        rw [HC.out, chk_bad hp hh]
        exact ⟨rfl, n, rfl⟩
end Go.Proofs.Ytniambdfgojgeaa
