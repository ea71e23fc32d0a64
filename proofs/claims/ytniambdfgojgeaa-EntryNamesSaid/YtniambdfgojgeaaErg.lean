/- entry.Records at type A: of a fixed entry; of an auto entry that holds one address, or none. -/
import Derived.Test.YtniambdfgojgeaaEra
namespace Go.Proofs.Ytniambdfgojgeaa
open Go.RowKit Go.PlainAid

theorem then_of_clone {m : Nat} (hm : m = 1 ∨ m = 2) {owner : ByteArray} {ttl lo : Int} {tb B : Nat} {cells : List Value} (hc1 : cells.take 3 = [.bool false, .int .u64 0, .int .u64 lo]) (hc2 : m = 2 → cells.drop 3 = [.bool true, .int .u64 0, .int .u64 1]) {W : World} (hB : B ≤ W.heap.size) {e : Ending} {w' : World}
    (h : CloneIs W.heap.size 56 3 m cells W e w') : AddrsThen owner ttl tb (fun u w2 => w2.ownsRow B 66 16 u 1 (rcs owner 1 ttl false 0 lo ⟨#[]⟩ 0)) W e w' := by
  obtain ⟨v, rfl, hv, hb⟩ := h
  obtain ⟨g, cap, rfl, hcap, hg, hrow⟩ := own_row hv (by omega)
  refine ⟨_, rfl, hb, fun ht => ?_⟩
  refine (each_addr m g cap tb owner ⟨#[]⟩ 1 ttl lo w' hm (by rw [← hc1]; exact rangeAt_take hrow) (fun e2 => by rw [← hc2 e2]; exact rangeAt_drop hrow) ht hcap).mono ?_
  rintro e w2 ⟨u, rfl, hu, hb2⟩
  exact ⟨u, rfl, ownsRow_base hu (Nat.le_trans hB hb.size), hb2⟩

theorem recs_fixedA (B ga gp : Nat) (owner : ByteArray) (held : Value) (xs : List (List UInt8)) (ho : nm owner = some xs) (hz : owner.size ≤ 254) (w : World) (h : FixedAt B ga gp w) (hc : CheckIs (fixedV ga gp) 0 w) :
    Calls Try.prog 22 #[fixedV ga gp, .string owner, held, .int .i64 1] w (CloneIs w.heap.size 66 16 1 (rcs owner 1 30 false 0 16909060 ⟨#[]⟩ 0) w) :=
  recs_A (fun u w2 => w2.ownsRow w.heap.size 66 16 u 1 (rcs owner 1 30 false 0 16909060 ⟨#[]⟩ 0)) hostBA textX ByteArray.empty owner 1 30 _ _ held xs ho hz w hc
    fun W hW => (addrs_of_fixed B ga gp W (h.later hW) (hc.later hW) held).mono fun _ _ hq => then_of_clone (.inr rfl) rfl (fun _ => rfl) hW.size hq

theorem recs_auto1 (host cl al owner : ByteArray) (ttl : Int) (ad po : Value) (g cap : Nat) (lo : Int) (hlo : 0 ≤ lo ∧ lo < 4294967296) (hcap : 1 ≤ cap) (xs : List (List UInt8)) (ho : nm owner = some xs) (hz : owner.size ≤ 254) (w : World) (hc : CheckIs (ev host 2 cl ad al po ttl) 0 w)
    (hg : w.heap[g]? = some (.cells #[.bool false, .int .u64 0, .int .u64 lo] 56 (0, 0))) :
    Calls Try.prog 22 #[ev host 2 cl ad al po ttl, .string owner, .slice (some ⟨g, 0, none⟩) 1 cap, .int .i64 1] w (CloneIs w.heap.size 66 16 1 (rcs owner 1 ttl false 0 lo ⟨#[]⟩ 0) w) :=
  recs_A (fun u w2 => w2.ownsRow w.heap.size 66 16 u 1 (rcs owner 1 ttl false 0 lo ⟨#[]⟩ 0)) host cl al owner 2 ttl _ _ _ xs ho hz w hc
    fun W hW => (addrs_of_auto1 host cl al ttl ad po g cap lo hlo W (hc.later hW) ((hW.block g (lt_of_heap hg)).trans hg) hcap).mono fun _ _ hq => then_of_clone (.inl rfl) rfl (fun h => by omega) hW.size hq

theorem recs_auto0 (host cl al owner : ByteArray) (ttl : Int) (ad po : Value) (xs : List (List UInt8)) (ho : nm owner = some xs) (hz : owner.size ≤ 254) (w : World) (hc : CheckIs (ev host 2 cl ad al po ttl) 0 w) :
    Calls Try.prog 22 #[ev host 2 cl ad al po ttl, .string owner, .slice none 0 0, .int .i64 1] w fun e w' => e = .returned (.slice none 0 0) ∧ Below w.heap.size w w' :=
  (recs_A (fun u _ => u = .slice none 0 0) host cl al owner 2 ttl _ _ _ xs ho hz w hc
    fun W hW => (addrs_of_auto0 host cl al ttl ad po W (hc.later hW)).mono fun _ w2 hq => ⟨_, hq.1, hq.2, fun _ => (each_addr_nil _ owner ⟨#[]⟩ 1 ttl w2).mono fun _ _ h3 => ⟨_, h3.1, rfl, h3.2⟩⟩).mono fun _ _ ⟨u, h1, h2, h3⟩ => ⟨by rw [h1, h2], h3⟩
end Go.Proofs.Ytniambdfgojgeaa
