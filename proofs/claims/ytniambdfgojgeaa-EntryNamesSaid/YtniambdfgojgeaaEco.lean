/- The closures of entry.Records. -/
import Derived.Test.YtniambdfgojgeaaEar
namespace Go.Proofs.Ytniambdfgojgeaa
open Go.RowKit Go.PlainAid

/-- the cells of a datum: an address, a name, the third number -/
abbrev dcs (six : Bool) (hi lo : Int) (name : ByteArray) (n2 : Int) : Array Value :=
  #[.bool six, .int .u64 hi, .int .u64 lo, .string name, .string ⟨#[]⟩, .int .u32 0, .int .u32 0, .int .u32 n2, .int .u32 0, .int .u32 0, .slice none 0 0, .string ⟨#[]⟩]
abbrev dv (six : Bool) (hi lo : Int) (name : ByteArray) (n2 : Int) : Value := .agg (dcs six hi lo name n2)

set_option maxRecDepth 100000 in
set_option maxHeartbeats 1600000 in
theorem clo2 (ob : Nat) (owner : ByteArray) (p : Int) (hp : 0 ≤ p ∧ p ≤ 65535) (w : World) (h : w.cell? ⟨ob, 0, none⟩ = some (.string owner)) :
    Calls Try.prog 51 #[.int .i64 p, .pointer (some ⟨ob, 0, none⟩)] w fun e w' => e = .returned (.tuple #[dv false 0 0 owner p, .bool true]) ∧ Below w.heap.size w w' := by
  have ew : IntKind.u32.wrap p = p := IntWalk.u32_in _ (by omega)
  have hlt := World.block_lt_of_cell? w _ h
  go_enter Try.func51, Try.ntmps51
  go_wp2_with fail
  refine bodyPost_ret (v := .tuple #[dv false 0 0 owner p, .bool true]) (by simp [results, Try.results51, go_sem]; try rfl) rfl ?_
  exact ⟨rfl, (Below.refl _ w).alloc (Nat.le_refl _) _⟩

set_option maxRecDepth 100000 in
set_option maxHeartbeats 1600000 in
theorem clo1 (tb : Nat) (six : Bool) (hi lo t : Int) (w : World) (h : w.cell? ⟨tb, 0, none⟩ = some (.int .i64 t)) :
    Calls Try.prog 49 #[av six hi lo, .pointer (some ⟨tb, 0, none⟩)] w fun e w' => e = .returned (.tuple #[dv six hi lo ⟨#[]⟩ 0, .bool (six == (t == 28))]) ∧ Below w.heap.size w w' := by
  have hlt := World.block_lt_of_cell? w _ h
  go_enter Try.func49, Try.ntmps49
  go_wp2_with fail
  go_region
  all_goals
    go_wp2_with fail
    refine bodyPost_ret (v := .tuple #[dv six hi lo ⟨#[]⟩ 0, .bool (six == (t == 28))]) (by simp [results, Try.results49, go_sem]; try rfl) rfl ?_
    exact ⟨rfl, (((Below.refl _ w).alloc (Nat.le_refl _) _).alloc (by simp) _).drew⟩

set_option maxRecDepth 100000 in
set_option maxHeartbeats 1600000 in
theorem clo3 (eb : Nat) (name : ByteArray) (k : Int) (w : World) (h : w.cell? ⟨eb, 1, none⟩ = some (.int .i64 k)) :
    Calls Try.prog 53 #[.string name, .pointer (some ⟨eb, 0, none⟩)] w fun e w' => e = .returned (.tuple #[dv false 0 0 name 0, .bool (k == 3)]) ∧ Below w.heap.size w w' := by
  have hlt := World.block_lt_of_cell? w _ h
  go_enter Try.func53, Try.ntmps53
  go_wp2_with fail
  go_region
  all_goals
    go_wp2_with fail
    refine bodyPost_ret (v := .tuple #[dv false 0 0 name 0, .bool (k == 3)]) (by simp [results, Try.results53, go_sem]; try rfl) rfl ?_
    exact ⟨rfl, ((Below.refl _ w).alloc (Nat.le_refl _) _).drew⟩
end Go.Proofs.Ytniambdfgojgeaa
