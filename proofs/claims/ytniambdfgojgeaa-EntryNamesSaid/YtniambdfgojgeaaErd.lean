/- entry.each over no address. -/
import Derived.Test.YtniambdfgojgeaaErc
namespace Go.Proofs.Ytniambdfgojgeaa
open Go.RowKit Go.PlainAid

set_option maxRecDepth 100000 in
set_option maxHeartbeats 1600000 in
theorem each_addr_nil (f : Value) (name dn : ByteArray) (ty ttl : Int) (w : World) :
    Calls Try.prog 47 #[.slice none 0 0, f, .agg (hds name ty ttl ++ (dcs false 0 0 dn 0).toList).toArray] w fun e w' => e = .returned (.slice none 0 0) ∧ Below w.heap.size w w' := by
  go_enter Try.func47, Try.ntmps47
  go_wp2_with fail
  have hb0 : Below w.heap.size w (w.alloc (.cells #[.string name, .int .i64 ty, .int .i64 1, .int .u32 ttl, .bool false, .int .u64 0, .int .u64 0, .string dn, .string ⟨#[]⟩, .int .u32 0, .int .u32 0, .int .u32 0, .int .u32 0, .int .u32 0, .slice none 0 0, .string ⟨#[]⟩] 66)) := (Below.refl _ w).alloc (Nat.le_refl _) _
  have HB := Lib.hid hb0
  clear hb0
  go_loopw [7, 14] (fun u v wr => u = .slice none 0 0 ∧ v = .int .i64 0 ∧ Below w.heap.size w wr) (fun _ _ _ => 0)
  case atStart => exact ⟨rfl, rfl, HB.out⟩
  obtain ⟨rfl, rfl, hB⟩ := hrel
  have HB2 := Lib.hid hB
  clear hB
  go_wp2_with fail
  go_ret
  exact ⟨rfl, HB2.out⟩

theorem FixedAt.later {B ga gp : Nat} {w w' : World} (h : FixedAt B ga gp w) (hb : Below w.heap.size w w') : FixedAt B ga gp w' :=
  ⟨(hb.block ga (lt_of_heap h.ra)).trans h.ra, (hb.block gp (lt_of_heap h.rp)).trans h.rp, h.ba, h.bp⟩
theorem CheckIs.later {e : Value} {c : Int} {w w' : World} (h : CheckIs e c w) (hb : Below w.heap.size w w') : CheckIs e c w' := fun W hW => h W (hb.trans (hW.mono hb.size))
end Go.Proofs.Ytniambdfgojgeaa
