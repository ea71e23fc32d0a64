/- header: Check, flags, Put. -/
import Derived.Test.YtniambdfgojgeaaOct
import Derived.BigRegion
namespace Go.Proofs.Ytniambdfgojgeaa
open Go.RowKit

theorem run_idx4 (c0 c1 c2 c3 : Int) :
   (∀ w, (Instr.index 23 (.agg #[.int .i64 c0, .int .i64 c1, .int .i64 c2, .int .i64 c3]) (.int .i64 0)).run Try.prog w = .ok (.int .i64 c0) w) ∧
   (∀ w, (Instr.index 23 (.agg #[.int .i64 c0, .int .i64 c1, .int .i64 c2, .int .i64 c3]) (.int .i64 1)).run Try.prog w = .ok (.int .i64 c1) w) ∧
   (∀ w, (Instr.index 23 (.agg #[.int .i64 c0, .int .i64 c1, .int .i64 c2, .int .i64 c3]) (.int .i64 2)).run Try.prog w = .ok (.int .i64 c2) w) ∧
   (∀ w, (Instr.index 23 (.agg #[.int .i64 c0, .int .i64 c1, .int .i64 c2, .int .i64 c3]) (.int .i64 3)).run Try.prog w = .ok (.int .i64 c3) w) :=
  ⟨fun _ => by kernel_rfl, fun _ => by kernel_rfl, fun _ => by kernel_rfl, fun _ => by kernel_rfl⟩

set_option maxRecDepth 100000 in
set_option maxHeartbeats 800000 in
theorem hCheck_ok (id : Int) (r : Bool) (op : Int) (aa tc rd ra ad cd : Bool) (rc c0 c1 c2 c3 : Int) (w : World) (ho : 0 ≤ op) (ho' : op ≤ 15) (hr : 0 ≤ rc) (hr' : rc ≤ 15)
   (h0 : 0 ≤ c0) (h0' : c0 ≤ 65535) (h1 : 0 ≤ c1) (h1' : c1 ≤ 65535) (h2 : 0 ≤ c2) (h2' : c2 ≤ 65535) (h3 : 0 ≤ c3) (h3' : c3 ≤ 65535) :
    Calls Try.prog 27 #[.agg #[.int .u16 id, .bool r, .int .i64 op, .bool aa, .bool tc, .bool rd, .bool ra, .bool ad, .bool cd, .int .i64 rc, .int .i64 c0, .int .i64 c1, .int .i64 c2, .int .i64 c3]] w fun x w' => x = .returned (.int .i64 0) ∧ Below w.heap.size w w' := by
  obtain ⟨i0, i1, i2, i3⟩ := run_idx4 c0 c1 c2 c3
  go_enter Try.func27, Try.ntmps27
  go_wp2
  go_rounds 5
  go_ret
  exact ⟨rfl, (Below.refl _ _).alloc (Nat.le_refl _) _⟩

/-- what Check asks -/
def HVal (op rc c0 c1 c2 c3 : Int) : Prop := 0 ≤ op ∧ op ≤ 15 ∧ 0 ≤ rc ∧ rc ≤ 15 ∧ 0 ≤ c0 ∧ c0 ≤ 65535 ∧ 0 ≤ c1 ∧ c1 ≤ 65535 ∧ 0 ≤ c2 ∧ c2 ≤ 65535 ∧ 0 ≤ c3 ∧ c3 ≤ 65535
def HBad (op rc c0 c1 c2 c3 : Int) (x : Ending) (w w' : World) : Prop := (x = .returned (.int .i64 2) ∨ HVal op rc c0 c1 c2 c3) ∧ Below w.heap.size w w'

set_option maxRecDepth 100000 in
set_option maxHeartbeats 1600000 in
theorem hCheck_bad (id : Int) (r : Bool) (op : Int) (aa tc rd ra ad cd : Bool) (rc c0 c1 c2 c3 : Int) (w : World) :
    Calls Try.prog 27 #[.agg #[.int .u16 id, .bool r, .int .i64 op, .bool aa, .bool tc, .bool rd, .bool ra, .bool ad, .bool cd, .int .i64 rc, .int .i64 c0, .int .i64 c1, .int .i64 c2, .int .i64 c3]] w (HBad op rc c0 c1 c2 c3 · w) := by
  obtain ⟨i0, i1, i2, i3⟩ := run_idx4 c0 c1 c2 c3
  go_enter Try.func27, Try.ntmps27
  go_wp2
  all_goals go_rounds 5
  all_goals go_ret
  all_goals refine ⟨?_, (Below.refl _ _).alloc (Nat.le_refl _) _⟩
  all_goals first
    | exact .inl rfl
    | exact .inr (by unfold HVal; omega)
    | (rename_i hh; have hh' : c3 ≤ 65535 := by simpa using hh
       exact .inr (by unfold HVal; omega))
end Go.Proofs.Ytniambdfgojgeaa
