/- entry.Check. -/
import Derived.Test.YtniambdfgojgeaaEwl
namespace Go.Proofs.Ytniambdfgojgeaa
open Go.RowKit Go.PlainAid

/-- what a check leaves, from any later world -/
def CheckIs (e : Value) (c : Int) (w : World) : Prop := ∀ W, Below w.heap.size w W → Calls Try.prog 24 #[e] W fun x w' => x = .returned (.int .i64 c) ∧ Below W.heap.size W w'
/-- what of an entry's ports and kind -/
def PortsAre (p : Value) (b : Bool) (w : World) : Prop := ∀ W, Below w.heap.size w W → Calls Try.prog 56 #[p] W fun x w' => x = .returned (.bool b) ∧ W = w'
def MayBe (e : Value) (b : Bool) (w : World) : Prop := ∀ W, Below w.heap.size w W → MayIs e b W

set_option maxRecDepth 100000 in
set_option maxHeartbeats 1600000 in
theorem check_any (host cl al : ByteArray) (kind ttl : Int) (ad po : Value) (xs : List (List UInt8)) (hs : nm host = some xs) (h0 : 0 < host.size) (h : host.size ≤ 254) (ht : 0 ≤ ttl ∧ ttl ≤ 2147483647) (bp bm : Bool) (w : World)
    (hp : PortsAre po bp w) (hm : MayBe (ev host kind cl ad al po ttl) bm w) : CheckIs (ev host kind cl ad al po ttl) (if bp && bm then 0 else 2) w := by
  intro W hW
  have hck : chk host = 0 := by unfold chk; rw [hs]; rfl
  have hne := not_empty_list h0
  obtain ⟨t0, t1⟩ := ht
  have HP := Lib.hid hp
  have HM := Lib.hid hm
  clear hp hm hs
  go_enter Try.func24, Try.ntmps24
  go_wp2_with fail
  refine (check_short host h _).mono ?_
  rintro e w1 ⟨rfl, k, rfl⟩
  have hbw : Below w.heap.size w ((W.alloc (.cells #[.string host, .int .i64 kind, .string cl, ad, .string al, po, .int .u32 ttl] 52)).drewN k) := below_drewN (hW.alloc hW.size _) k
  have hbW : Below W.heap.size W ((W.alloc (.cells #[.string host, .int .i64 kind, .string cl, ad, .string al, po, .int .u32 ttl] 52)).drewN k) := below_drewN ((Below.refl _ W).alloc (Nat.le_refl _) _) k
  go_wp2_with fail
  refine (HP.out _ hbw).mono ?_
  rintro e w1 ⟨rfl, rfl⟩
  cases bp with
  | false =>
    go_wp2_with fail
    go_ret
    exact ⟨rfl, hbW⟩
  | true =>
    go_wp2_with fail
    refine (HM.out _ hbw).mono ?_
    rintro e w1 ⟨rfl, hb⟩
    have HB := Lib.hid (hbW.trans (hb.mono hbW.size))
    clear hb hbW hbw
    cases bm with
    | false =>
      go_wp2_with fail
      go_ret
      exact ⟨rfl, HB.out⟩
    | true =>
      go_wp2_with fail
      go_ret
      exact ⟨rfl, HB.out⟩

set_option maxRecDepth 100000 in
set_option maxHeartbeats 1600000 in
theorem check_empty (cl al : ByteArray) (kind ttl : Int) (ad po : Value) (w : World) : CheckIs (ev ByteArray.empty kind cl ad al po ttl) 2 w := by
  intro W hW
  have hck : chk ByteArray.empty = 0 := by unfold chk; rw [nm_empty rfl]; rfl
  go_enter Try.func24, Try.ntmps24
  go_wp2_with fail
  refine (check_short ByteArray.empty (by decide) _).mono ?_
  rintro e w1 ⟨rfl, k, rfl⟩
  go_wp2
  go_ret
  exact ⟨rfl, below_drewN ((Below.refl _ W).alloc (Nat.le_refl _) _) k⟩

set_option maxRecDepth 100000 in
set_option maxHeartbeats 1600000 in
theorem check_badhost (host cl al : ByteArray) (kind ttl : Int) (ad po : Value) (hs : nm host = none) (h : host.size ≤ 254) (w : World) : CheckIs (ev host kind cl ad al po ttl) 4 w := by
  intro W hW
  have hck : chk host = 4 := by unfold chk; rw [hs]; rfl
  clear hs
  go_enter Try.func24, Try.ntmps24
  go_wp2_with fail
  refine (check_short host h _).mono ?_
  rintro e w1 ⟨rfl, k, rfl⟩
  go_wp2
  go_ret
  exact ⟨rfl, below_drewN ((Below.refl _ W).alloc (Nat.le_refl _) _) k⟩
end Go.Proofs.Ytniambdfgojgeaa
