/- entry.Key, entry.Same. -/
import Derived.Test.YtniambdfgojgeaaEcl
namespace Go.Proofs.Ytniambdfgojgeaa
open Go.RowKit Go.PlainAid

set_option maxRecDepth 100000 in
set_option maxHeartbeats 800000 in
theorem key_any (host cl al : ByteArray) (kind ttl : Int) (ad po : Value) (xs : List (List UInt8)) (hs : nm host = some xs) (h : host.size ≤ 254) (w : World) :
    Calls Try.prog 25 #[ev host kind cl ad al po ttl] w fun e w' => e = .returned (.string (foldN xs)) ∧ Below w.heap.size w w' := by
  have HS := Lib.hid hs
  clear hs
  go_enter Try.func25, Try.ntmps25
  go_wp2_with fail
  refine (nfold_ok host xs HS.out h _).mono ?_
  rintro e w1 ⟨rfl, hb⟩
  have HB := Lib.hid (((Below.refl _ w).alloc (Nat.le_refl _) _).trans (hb.mono (by simp)))
  clear hb
  go_wp2
  go_ret
  exact ⟨rfl, HB.out⟩

set_option maxRecDepth 100000 in
set_option maxHeartbeats 1600000 in
/-- two entries that are the same but for their rows -/
theorem same_rows (host cl al : ByteArray) (kind ttl : Int) (ga gp ga' gp' ca cp ca' cp' : Nat) (w : World) (b : Bool)
    (ha : ∀ W, Below w.heap.size w W → Calls Try.prog 58 #[.slice (some ⟨ga, 0, none⟩) 2 ca, .slice (some ⟨ga', 0, none⟩) 2 ca'] W fun e w' => e = .returned (.bool b) ∧ ∃ n, W.drewN n = w')
    (hp : ∀ W, Below w.heap.size w W → Calls Try.prog 59 #[.slice (some ⟨gp, 0, none⟩) 2 cp, .slice (some ⟨gp', 0, none⟩) 2 cp'] W fun e w' => e = .returned (.bool true) ∧ ∃ n, W.drewN n = w') :
    Calls Try.prog 26 #[ev host kind cl (.slice (some ⟨ga, 0, none⟩) 2 ca) al (.slice (some ⟨gp, 0, none⟩) 2 cp) ttl, ev host kind cl (.slice (some ⟨ga', 0, none⟩) 2 ca') al (.slice (some ⟨gp', 0, none⟩) 2 cp') ttl] w
      fun e w' => e = .returned (.bool b) ∧ Below w.heap.size w w' := by
  have HA := Lib.hid ha
  have HP := Lib.hid hp
  clear ha hp
  go_enter Try.func26, Try.ntmps26
  go_wp2_with fail
  have hB : ∀ k, Below w.heap.size w (((w.alloc (.cells #[.string host, .int .i64 kind, .string cl, .slice (some ⟨ga, 0, none⟩) 2 ca, .string al, .slice (some ⟨gp, 0, none⟩) 2 cp, .int .u32 ttl] 52)).alloc (.cells #[.string host, .int .i64 kind, .string cl, .slice (some ⟨ga', 0, none⟩) 2 ca', .string al, .slice (some ⟨gp', 0, none⟩) 2 cp', .int .u32 ttl] 52)).drewN k) :=
    fun k => below_drewN (((Below.refl _ w).alloc (Nat.le_refl _) _).alloc (by simp) _) k
  refine (HA.out _ (hB 0)).mono ?_
  rintro e w1 ⟨rfl, k, rfl⟩
  cases b with
  | false =>
    go_wp2_with fail
    go_ret
    exact ⟨rfl, hB k⟩
  | true =>
    go_wp2_with fail
    refine (HP.out _ (hB k)).mono ?_
    rintro e w1 ⟨rfl, k2, rfl⟩
    go_wp2_with fail
    go_ret
    exact ⟨rfl, hB (k + k2)⟩
end Go.Proofs.Ytniambdfgojgeaa
