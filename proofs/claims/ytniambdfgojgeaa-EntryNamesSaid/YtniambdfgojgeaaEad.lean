/- entry.addrs: a set of addresses. -/
import Derived.Test.YtniambdfgojgeaaBase
import Derived.Laws.StructEq
import Derived.Laws.Alloc2
import Derived.MapKept
import Derived.ChangeMaps4
namespace Go.Proofs.Ytniambdfgojgeaa
open Go.RowKit

/-- an address's value -/
abbrev av (six : Bool) (hi lo : Int) : Value := .agg #[.bool six, .int .u64 hi, .int .u64 lo]

theorem eqAddr (a c : Bool) (x y z t : Int) (w : World) : (Op.equalIn 10000 56 (av a x y) (av c z t)).run Try.prog w = .ok (a == c && x == z && y == t) w := by
  have hS : Try.prog.underlying 56 = some (.struct (Try.prog.fieldsOf 56)) := by kernel_rfl
  rw [show (10000 : Nat) = 9999 + 1 from rfl, run_equalIn_agg w 9999 56 _ _ hS (by kernel_rfl)]
  simp only [Program.fieldsOf, Try.underlying56]
  go_simp
  by_cases h1 : a = c <;> by_cases h2 : x = z <;> by_cases h3 : y = t <;> simp [h1, h2, h3]

theorem checkAddr (em : Bool) (a : Bool) (x y : Int) (w : World) : (Instr.checkKey em 10000 56 (av a x y)).run Try.prog w = .ok () w := by
  have h4 : Try.prog.underlying 4 = some .bool := Try.underlying4
  rw [show (10000 : Nat) = 9998 + 1 + 1 from rfl]
  generalize 9998 = N
  rw [Instr.checkKey]
  simp only [Sem.run_bind, run_underlying Try.underlying56, Result.andThen_ok]
  rw [← Array.forIn_toList]
  simp only [List.forIn_cons, List.forIn_nil, Sem.run_bind, Sem.run_ite]
  go_simp
  simp [Instr.checkKey, run_underlying Try.underlying4, run_underlying Try.underlying54]

abbrev entryOf (k : Value) (n : Nat) : MapEntry := { key := k, val := .bool true, born := n }

theorem look_none (b : Nat) (a : Bool) (x y : Int) (w : World) (clock : Nat) (hb : w.heap[b]? = some (.map #[] clock)) :
    (Instr.lookup 147 (.map (some b)) (av a x y) false).run Try.prog w = .ok (.bool false) w := by
  have hg := MapKept.run_getObj_map (P := Try.prog) hb
  simp [Instr.lookup, run_underlying Try.underlying147, hg, checkAddr, Instr.findKey, run_underlying Try.underlying56, Instr.findNow, Try.zeroValue4]
theorem look_one (b : Nat) (a c : Bool) (x y z t : Int) (w : World) (clock n : Nat) (hb : w.heap[b]? = some (.map #[entryOf (av c z t) n] clock)) :
    (Instr.lookup 147 (.map (some b)) (av a x y) false).run Try.prog w = .ok (.bool (a == c && x == z && y == t)) w := by
  have hg := MapKept.run_getObj_map (P := Try.prog) hb
  have he : (Op.equal 56 (av a x y) (av c z t)).run Try.prog w = .ok (a == c && x == z && y == t) w := eqAddr a c x y z t w
  cases hq : (a == c && x == z && y == t) <;> rw [hq] at he <;>
  simp [Instr.lookup, run_underlying Try.underlying147, hg, checkAddr, Instr.findKey, run_underlying Try.underlying56, Instr.findNow, Instr.sameNow, Instr.findAsking, he, Try.zeroValue4]
theorem put_none (b : Nat) (a : Bool) (x y : Int) (w : World) (clock : Nat) (hb : w.heap[b]? = some (.map #[] clock)) :
    (Instr.mapUpdate 147 (.map (some b)) (av a x y) (.bool true)).run Try.prog w = .ok () { w with heap := w.heap.setIfInBounds b (.map #[entryOf (av a x y) clock] (clock + 1)) } := by
  have hg := MapKept.run_getObj_map (P := Try.prog) hb
  simp [Instr.mapUpdate, run_underlying Try.underlying147, hg, checkAddr, Instr.findKey, run_underlying Try.underlying56, Instr.findNow, MapKept.run_setObj_map _ hb]
theorem put_one (b : Nat) (a c : Bool) (x y z t : Int) (w : World) (clock n : Nat) (hq : (a == c && x == z && y == t) = false) (hb : w.heap[b]? = some (.map #[entryOf (av c z t) n] clock)) :
    (Instr.mapUpdate 147 (.map (some b)) (av a x y) (.bool true)).run Try.prog w = .ok () { w with heap := w.heap.setIfInBounds b (.map #[entryOf (av c z t) n, entryOf (av a x y) clock] (clock + 1)) } := by
  have hg := MapKept.run_getObj_map (P := Try.prog) hb
  have he : (Op.equal 56 (av a x y) (av c z t)).run Try.prog w = .ok (a == c && x == z && y == t) w := eqAddr a c x y z t w
  rw [hq] at he
  simp [Instr.mapUpdate, run_underlying Try.underlying147, hg, checkAddr, Instr.findKey, run_underlying Try.underlying56, Instr.findNow, Instr.sameNow, Instr.findAsking, he, MapKept.run_setObj_map _ hb]

/-- what a check of an address leaves -/
def AChecks (v : Value) : Prop := ∀ w, Calls Try.prog 78 #[v] w fun e w' => e = .returned (.int .i64 0) ∧ Below w.heap.size w w'

set_option maxHeartbeats 800000 in
theorem acheck_six (hi lo : Int) : AChecks (av true hi lo) := by
  intro w
  go_enter Try.func78, Try.ntmps78
  go_wp2
  all_goals go_ret
  all_goals exact ⟨rfl, (Below.refl _ w).alloc (Nat.le_refl _) _⟩
set_option maxHeartbeats 800000 in
theorem acheck_four (lo : Int) (h0 : 0 ≤ lo) (h1 : lo < 4294967296) : AChecks (av false 0 lo) := by
  intro w
  go_enter Try.func78, Try.ntmps78
  go_wp2
  all_goals go_ret
  all_goals exact ⟨rfl, (Below.refl _ w).alloc (Nat.le_refl _) _⟩
end Go.Proofs.Ytniambdfgojgeaa
