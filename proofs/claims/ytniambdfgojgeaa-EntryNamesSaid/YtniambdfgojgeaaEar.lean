/- entry.Addrs. -/
import Derived.Test.YtniambdfgojgeaaEcp
namespace Go.Proofs.Ytniambdfgojgeaa
open Go.RowKit Go.PlainAid

set_option maxRecDepth 100000 in
set_option maxHeartbeats 1600000 in
theorem addrs_of_fixed (B ga gp : Nat) (w : World) (h : FixedAt B ga gp w) (hc : CheckIs (fixedV ga gp) 0 w) (held : Value) :
    Calls Try.prog 48 #[fixedV ga gp, held] w (CloneIs w.heap.size 56 3 2 fixedA w) := by
  have hga := lt_of_heap h.ra
  have hca : ∀ W, Below w.heap.size w W → Calls Try.prog 54 #[.slice (some ⟨ga, 0, none⟩) 2 2] W (CloneIs W.heap.size 56 3 2 fixedA W) := fun W hW =>
    cloneA ga 2 2 fixedA W rfl (by omega) (fun j u hj => by
      have hr := (hW.block ga hga).trans h.ra
      rw [Lib.cell_of_heap hr]
      match j, hj with
      | 0, hj => cases hj; rfl
      | 1, hj => cases hj; rfl
      | 2, hj => cases hj; rfl
      | 3, hj => cases hj; rfl
      | 4, hj => cases hj; rfl
      | 5, hj => cases hj; rfl) (by simp [Value.oneCell']) (Nat.lt_of_lt_of_le hga hW.size)
  have HCA := Lib.hid hca
  have HC := Lib.hid hc
  clear hca hc h
  go_enter Try.func48, Try.ntmps48
  go_wp2_with fail
  have hb0 : Below w.heap.size w (w.alloc (.cells #[.string hostBA, .int .i64 1, .string textX, .slice (some ⟨ga, 0, none⟩) 2 2, .string ByteArray.empty, .slice (some ⟨gp, 0, none⟩) 2 2, .int .u32 30] 52)) := (Below.refl _ w).alloc (Nat.le_refl _) _
  have hx0 := heap_alloc_new w (.cells #[.string hostBA, .int .i64 1, .string textX, .slice (some ⟨ga, 0, none⟩) 2 2, .string ByteArray.empty, .slice (some ⟨gp, 0, none⟩) 2 2, .int .u32 30] 52)
  refine (HC.out _ hb0).mono ?_
  rintro e w1 ⟨rfl, hb⟩
  have hx1 := (hb.block w.heap.size (by simp)).trans hx0
  have hb1 := hb0.trans (hb.mono hb0.size)
  have k1 := Lib.cell_of_heap hx1 1
  have k3 := Lib.cell_of_heap hx1 3
  simp only [List.getElem?_toArray, List.getElem?_cons_zero, List.getElem?_cons_succ] at k1 k3
  have HB := Lib.hid hb1
  clear hb0 hx0 hb hx1 hb1
  go_wp2_with fail
  refine (HCA.out _ HB.out).mono ?_
  rintro e w2 ⟨v, rfl, ho, hb⟩
  have HO := Lib.hid (ownsRow_base ho HB.out.size)
  have HB2 := Lib.hid (HB.out.trans (hb.mono HB.out.size))
  clear ho hb
  go_wp2_with fail
  go_ret
  exact ⟨v, rfl, HO.out, HB2.out⟩

set_option maxRecDepth 100000 in
set_option maxHeartbeats 1600000 in
theorem addrs_of_auto0 (host cl al : ByteArray) (ttl : Int) (ad po : Value) (w : World) (hc : CheckIs (ev host 2 cl ad al po ttl) 0 w) :
    Calls Try.prog 48 #[ev host 2 cl ad al po ttl, .slice none 0 0] w fun e w' => e = .returned (.slice none 0 0) ∧ Below w.heap.size w w' := by
  have HC := Lib.hid hc
  clear hc
  go_enter Try.func48, Try.ntmps48
  go_wp2_with fail
  have hb0 : Below w.heap.size w (w.alloc (.cells #[.string host, .int .i64 2, .string cl, ad, .string al, po, .int .u32 ttl] 52)) := (Below.refl _ w).alloc (Nat.le_refl _) _
  have hx0 := heap_alloc_new w (.cells #[.string host, .int .i64 2, .string cl, ad, .string al, po, .int .u32 ttl] 52)
  refine (HC.out _ hb0).mono ?_
  rintro e w1 ⟨rfl, hb⟩
  have hx1 := (hb.block w.heap.size (by simp)).trans hx0
  have hb1 := hb0.trans (hb.mono hb0.size)
  have k1 := Lib.cell_of_heap hx1 1
  simp only [List.getElem?_toArray, List.getElem?_cons_zero, List.getElem?_cons_succ] at k1
  have HB := Lib.hid hb1
  clear hb0 hx0 hb hx1 hb1
  go_wp2_with fail
  go_loopw [5, 25] (fun u v wr => u = .slice none 0 0 ∧ v = .int .i64 0 ∧ w1 = wr) (fun _ _ _ => 0)
  case atStart => exact ⟨rfl, rfl, rfl⟩
  obtain ⟨rfl, rfl, rfl⟩ := hrel
  go_wp2_with fail
  go_ret
  exact ⟨rfl, HB.out⟩

set_option maxRecDepth 100000 in
set_option maxHeartbeats 1600000 in
theorem addrs_of_auto1 (host cl al : ByteArray) (ttl : Int) (ad po : Value) (g cap : Nat) (lo : Int) (hlo : 0 ≤ lo ∧ lo < 4294967296) (w : World) (hc : CheckIs (ev host 2 cl ad al po ttl) 0 w)
    (hg : w.heap[g]? = some (.cells #[.bool false, .int .u64 0, .int .u64 lo] 56 (0, 0))) (_hcap : 1 ≤ cap) :
    Calls Try.prog 48 #[ev host 2 cl ad al po ttl, .slice (some ⟨g, 0, none⟩) 1 cap] w (CloneIs w.heap.size 56 3 1 [.bool false, .int .u64 0, .int .u64 lo] w) := by
  obtain ⟨i0, hi, hz0, hz1, hz2⟩ := info_parts infoAddr
  have hgl := lt_of_heap hg
  have HC := Lib.hid hc
  have HG := Lib.hid hg
  clear hc hg
  go_enter Try.func48, Try.ntmps48
  go_wp2_with fail
  have hb0 : Below w.heap.size w (w.alloc (.cells #[.string host, .int .i64 2, .string cl, ad, .string al, po, .int .u32 ttl] 52)) := (Below.refl _ w).alloc (Nat.le_refl _) _
  have hx0 := heap_alloc_new w (.cells #[.string host, .int .i64 2, .string cl, ad, .string al, po, .int .u32 ttl] 52)
  refine (HC.out _ hb0).mono ?_
  rintro e w1 ⟨rfl, hb⟩
  have hx1 := (hb.block w.heap.size (by simp)).trans hx0
  have hb1 := hb0.trans (hb.mono hb0.size)
  have k1 := Lib.cell_of_heap hx1 1
  simp only [List.getElem?_toArray, List.getElem?_cons_zero, List.getElem?_cons_succ] at k1
  have HB := Lib.hid hb1
  clear hb0 hx0 hb hx1 hb1
  go_wp2_with fail
  go_loopw [5, 25] (fun u v wr => (u = .slice none 0 0 ∧ v = .int .i64 0 ∧ w1 = wr) ∨ (v = .int .i64 1 ∧ ∃ x, x = u ∧ wr.ownsRow w.heap.size 56 3 x 1 [.bool false, .int .u64 0, .int .u64 lo] ∧ Below w.heap.size w wr)) (fun _ v _ => 1 - (intOf v).toNat)
  case atStart => exact .inl ⟨rfl, rfl, rfl⟩
  case round =>
    rcases hrel with ⟨rfl, rfl, rfl⟩ | ⟨rfl, x, rfl, ho, hB⟩
    · have hr := (HB.out.block g hgl).trans HG.out
      have c0 := Lib.cell_of_heap hr 0
      have c1 := Lib.cell_of_heap hr 1
      have c2 := Lib.cell_of_heap hr 2
      simp only [List.getElem?_toArray, List.getElem?_cons_zero, List.getElem?_cons_succ] at c0 c1 c2
      clear hr
      go_wp2_with fail
      have hx2 := heap_alloc_new w1 (.cells #[.bool false, .int .u64 0, .int .u64 lo] 56)
      have hb2 : Below w.heap.size w (w1.alloc (.cells #[.bool false, .int .u64 0, .int .u64 lo] 56)) := HB.out.alloc HB.out.size _
      refine (acheck_four lo hlo.1 hlo.2 _).mono ?_
      rintro e w3 ⟨rfl, hb3⟩
      have hx3 := (hb3.block w1.heap.size (by simp)).trans hx2
      have hb4 := hb2.trans (hb3.mono hb2.size)
      have d0 := Lib.cell_of_heap hx3 0
      have d1 := Lib.cell_of_heap hx3 1
      have d2 := Lib.cell_of_heap hx3 2
      simp only [List.getElem?_toArray, List.getElem?_cons_zero, List.getElem?_cons_succ] at d0 d1 d2
      have HB4 := Lib.hid hb4
      clear hx2 hb2 hb3 hx3 hb4
      go_wp2_with (at_builtin; refine wpList_append_own _ rfl _ _ 49 rfl w.heap.size 56 i0 (av false 0 0) 3 24 Try.underlying49 hi hz0 hz1 hz2 rfl (by decide) _ _ _ rfl (World.ownsRow_nil _ _ _ _) ⟨w3.heap.size, 0, none⟩ 1 1 [.bool false, .int .u64 0, .int .u64 lo] rfl rfl ?c1 (by simp [Value.oneCell']) (by unfold maxLen; omega) (by omega) (by have := HB4.out.size; simp; omega) ?_)
      case c1 =>
        intro j u hj
        rw [row_add, Lib.cell_of_heap (heap_alloc_new w3 _)]
        match j, hj with
        | 0, hj => cases hj; rfl
        | 1, hj => cases hj; rfl
        | 2, hj => cases hj; rfl
      intro v' w4 hown' hgrow _
      have hB5 : Below w.heap.size w w4 := (HB4.out.alloc HB4.out.size _).grown hgrow (by have := HB4.out.size; simp; omega) (fun k hk => by cases hk)
      have HO := Lib.hid hown'
      have HB5 := Lib.hid hB5
      clear hown' hgrow hB5
      go_wp2_with fail
      go_roundw
      case rel => exact .inr ⟨by simp, _, rfl, HO.out, HB5.out⟩
      case measure => simp [intOf]
    · have HO := Lib.hid ho
      have HBB := Lib.hid hB
      clear ho hB
      go_wp2_with fail
      go_ret
      exact ⟨_, rfl, HO.out, HBB.out⟩
end Go.Proofs.Ytniambdfgojgeaa
