/- label.Same of two labels that are the same but for case. -/
import Derived.Test.YtniambdfgojgeaaFld
import Derived.Lib.Bytealg
import Derived.Laws.Externs
namespace Go.Proofs.Ytniambdfgojgeaa
open Go.RowKit Go.PlainAid

theorem compare_self : ∀ l : List UInt8, Lib.compareBytes l l = 0
  | [] => rfl
  | x :: l => by
    have := compare_self l
    simp [Lib.compareBytes, this]

set_option maxRecDepth 100000 in
set_option maxHeartbeats 800000 in
theorem bcmp_any (a b : ByteArray) (w : World) :
    Calls Try.prog 92 #[.string a, .string b] w fun e w' => e = .returned (.int .i64 (Lib.compareBytes a.data.toList b.data.toList)) ∧ w = w' := by
  go_enter Try.func92, Try.ntmps92
  go_wp2
  rw [run_callFunc_extern Try.func93 (by kernel_rfl) (by kernel_rfl) (by kernel_rfl) (e := Extern.BytealgCompare.compare) (by kernel_rfl)]
  rw [Lib.run_compareString]
  simp only [Result.andThen]
  rw [Oper.upon_value]
  go_wp2
  go_ret
  exact ⟨rfl, rfl⟩

set_option maxHeartbeats 800000 in
theorem scmp_any (a b : ByteArray) (w : World) :
    Calls Try.prog 91 #[.string a, .string b] w fun e w' => e = .returned (.int .i64 (Lib.compareBytes a.data.toList b.data.toList)) ∧ w = w' := by
  go_enter Try.func91, Try.ntmps91
  go_wp2_with fail
  refine (bcmp_any a b _).mono ?_
  rintro e w1 ⟨rfl, rfl⟩
  go_wp2
  go_ret
  exact ⟨rfl, rfl⟩

set_option maxHeartbeats 800000 in
theorem lcmp_same (a b : ByteArray) (ha : a.size ≤ 1000) (hb : b.size ≤ 1000) (h : foldL (bl a) = foldL (bl b)) (w : World) :
    Calls Try.prog 89 #[.string a, .string b] w fun e w' => e = .returned (.int .i64 0) ∧ Below w.heap.size w w' := by
  have HH := Lib.hid h
  clear h
  go_enter Try.func89, Try.ntmps89
  go_wp2_with fail
  refine (lfold_any a ha _).mono ?_
  rintro e w1 ⟨rfl, h1⟩
  have H1 := Lib.hid h1
  clear h1
  go_wp2_with fail
  refine (lfold_any b hb _).mono ?_
  rintro e w2 ⟨rfl, h2⟩
  have H2 := Lib.hid (H1.out.trans (h2.mono H1.out.size))
  clear h2
  go_wp2_with fail
  refine (scmp_any _ _ _).mono ?_
  rintro e w3 ⟨rfl, rfl⟩
  rw [HH.out, compare_self]
  go_wp2
  go_ret
  exact ⟨rfl, H2.out⟩

set_option maxHeartbeats 800000 in
theorem lsame_yes (a b : ByteArray) (ha : a.size ≤ 1000) (hb : b.size ≤ 1000) (h : foldL (bl a) = foldL (bl b)) (w : World) :
    Calls Try.prog 84 #[.string a, .string b] w fun e w' => e = .returned (.bool true) ∧ Below w.heap.size w w' := by
  have HH := Lib.hid h
  clear h
  go_enter Try.func84, Try.ntmps84
  go_wp2_with fail
  refine (lcmp_same a b ha hb HH.out _).mono ?_
  rintro e w1 ⟨rfl, h1⟩
  have H1 := Lib.hid h1
  clear h1
  go_wp2
  go_ret
  exact ⟨rfl, H1.out⟩
end Go.Proofs.Ytniambdfgojgeaa
