/- header: flags, Put. -/
import Derived.Test.YtniambdfgojgeaaHdr
import Derived.Test.YtniambdfgojgeaaHdb
import Derived.BigRegion
namespace Go.Proofs.Ytniambdfgojgeaa
open Go.RowKit

set_option maxRecDepth 100000 in
set_option maxHeartbeats 1600000 in
theorem flags_any (b : Nat) (cs : Array Value) (w : World) (hb : w.heap[b]? = some (.cells cs 25 (0,0))) (hc : cs.size = 14) :
    Calls Try.prog 28 #[.pointer (some ⟨b, 0, none⟩)] w fun x w' => x = .returned (.agg #[.int .u32 32768, .pointer (some ⟨b, 1, none⟩), .int .u32 1024, .pointer (some ⟨b, 3, none⟩), .int .u32 512, .pointer (some ⟨b, 4, none⟩), .int .u32 256, .pointer (some ⟨b, 5, none⟩),
      .int .u32 128, .pointer (some ⟨b, 6, none⟩), .int .u32 32, .pointer (some ⟨b, 7, none⟩), .int .u32 16, .pointer (some ⟨b, 8, none⟩)]) ∧ Below w.heap.size w w' := by
  have n0 : w.cell? ⟨b, 0, none⟩ = some (cs[0]'(by omega)) := by rw [Lib.cell_of_heap hb]; simp
  go_enter Try.func28, Try.ntmps28
  go_wp2
  go_region
  go_wp2
  go_returns
  exact ⟨rfl, ((Below.refl _ _).alloc (Nat.le_refl _) _).drew⟩
end Go.Proofs.Ytniambdfgojgeaa
