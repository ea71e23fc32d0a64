/- entry.Records at type A. -/
import Derived.Test.YtniambdfgojgeaaErd
import Derived.Deep.RegionHeld3
import Derived.Deep.DrawnRows
namespace Go.Proofs.Ytniambdfgojgeaa
open Go.RowKit Go.PlainAid

/-- a box that holds a record, cell by cell -/
theorem rec_cells {w : World} {b : Nat} {v0 v1 v2 v3 v4 v5 v6 v7 v8 v9 va vb vc vd ve vf : Value} (h : w.heap[b]? = some (.cells #[v0, v1, v2, v3, v4, v5, v6, v7, v8, v9, va, vb, vc, vd, ve, vf] 66 (0, 0))) :
    (w.cell? ⟨b, 0, none⟩ = some v0 ∧ w.cell? ⟨b, 1, none⟩ = some v1 ∧ w.cell? ⟨b, 2, none⟩ = some v2 ∧ w.cell? ⟨b, 3, none⟩ = some v3) ∧ (w.cell? ⟨b, 4, none⟩ = some v4 ∧ w.cell? ⟨b, 5, none⟩ = some v5 ∧ w.cell? ⟨b, 6, none⟩ = some v6 ∧ w.cell? ⟨b, 7, none⟩ = some v7)
      ∧ (w.cell? ⟨b, 8, none⟩ = some v8 ∧ w.cell? ⟨b, 9, none⟩ = some v9 ∧ w.cell? ⟨b, 10, none⟩ = some va ∧ w.cell? ⟨b, 11, none⟩ = some vb) ∧ (w.cell? ⟨b, 12, none⟩ = some vc ∧ w.cell? ⟨b, 13, none⟩ = some vd ∧ w.cell? ⟨b, 14, none⟩ = some ve ∧ w.cell? ⟨b, 15, none⟩ = some vf) :=
  ⟨⟨Lib.cell_of_heap h 0, Lib.cell_of_heap h 1, Lib.cell_of_heap h 2, Lib.cell_of_heap h 3⟩, ⟨Lib.cell_of_heap h 4, Lib.cell_of_heap h 5, Lib.cell_of_heap h 6, Lib.cell_of_heap h 7⟩,
   ⟨Lib.cell_of_heap h 8, Lib.cell_of_heap h 9, Lib.cell_of_heap h 10, Lib.cell_of_heap h 11⟩, ⟨Lib.cell_of_heap h 12, Lib.cell_of_heap h 13, Lib.cell_of_heap h 14, Lib.cell_of_heap h 15⟩⟩

theorem own_row {B size n : Nat} {e : TypeId} {v : Value} {xs : List Value} {w : World} (h : w.ownsRow B e size v n xs) (h0 : 0 < n) : ∃ g cap, v = .slice (some ⟨g, 0, none⟩) n cap ∧ n ≤ cap ∧ g < w.heap.size ∧ w.rangeAt g 0 xs := by
  rcases h.2 with ⟨_, hz⟩ | ⟨g, cap, cur, rfl, hB, hg, hn, hr⟩
  · omega
  · exact ⟨g, cap, rfl, hn, lt_of_heap hg, fun j u hj => by
      rw [Nat.zero_add, ← row_add]
      exact h.cells (g := g) rfl j u hj⟩
theorem rangeAt_take {w : World} {g n : Nat} {cs : List Value} (h : w.rangeAt g 0 cs) : w.rangeAt g 0 (cs.take n) := fun j u hj => by
  rw [List.getElem?_take] at hj
  split at hj
  · exact h j u hj
  · cases hj
theorem rangeAt_drop {w : World} {g n : Nat} {cs : List Value} (h : w.rangeAt g 0 cs) : w.rangeAt g n (cs.drop n) := fun j u hj => by
  rw [List.getElem?_drop] at hj
  have := h (n + j) u hj
  rw [Nat.zero_add] at this
  exact this

/-- the record that each begins with, at type A -/
abbrev recA (owner : ByteArray) (ttl : Int) : List Value := hds owner 1 ttl ++ (dcs false 0 0 ⟨#[]⟩ 0).toList
/-- what Addrs leaves: a row over which each has an answer U -/
def AddrsThen (owner : ByteArray) (ttl : Int) (tb : Nat) (U : Value → World → Prop) (w : World) (e : Ending) (w' : World) : Prop :=
  ∃ v, e = .returned v ∧ Below w.heap.size w w' ∧ (w'.cell? ⟨tb, 0, none⟩ = some (.int .i64 1) → Calls Try.prog 47 #[v, .func (.func 49) #[] #[.pointer (some ⟨tb, 0, none⟩)], .agg (recA owner ttl).toArray] w' fun e2 w2 => ∃ u, e2 = .returned u ∧ U u w2 ∧ Below w'.heap.size w' w2)

attribute [local go_sem ↓] Go.wp_at_zero Go.wp_at_succ
set_option maxRecDepth 100000 in
set_option maxHeartbeats 4000000 in
theorem recs_A (U : Value → World → Prop) (host cl al owner : ByteArray) (kind ttl : Int) (ad po held : Value) (xs : List (List UInt8)) (ho : nm owner = some xs) (hz : owner.size ≤ 254) (w : World) (hc : CheckIs (ev host kind cl ad al po ttl) 0 w)
    (ha : ∀ W, Below w.heap.size w W → Calls Try.prog 48 #[ev host kind cl ad al po ttl, held] W (AddrsThen owner ttl (w.heap.size + 2) U W)) :
    Calls Try.prog 22 #[ev host kind cl ad al po ttl, .string owner, held, .int .i64 1] w fun e w' => ∃ u, e = .returned u ∧ U u w' ∧ Below w.heap.size w w' := by
  have hck : chk owner = 0 := by unfold chk; rw [ho]; rfl
  have HC := Lib.hid hc
  have HA := Lib.hid ha
  clear hc ha
  go_enter Try.func22, Try.ntmps22
  go_wp2_with fail
  obtain ⟨⟨x1, x2, x3⟩, hsz, hb0⟩ := three_boxes w (.cells #[.string host, .int .i64 kind, .string cl, ad, .string al, po, .int .u32 ttl] 52) (.cells #[.string owner] 43) (.cells #[.int .i64 1] 3)
  refine (HC.out _ hb0).mono ?_
  rintro e w1 ⟨rfl, hb⟩
  have y1 := (hb.block _ (by omega)).trans x1
  have y2 := (hb.block _ (by omega)).trans x2
  have y3 := (hb.block _ (by omega)).trans x3
  have hb1 := hb0.trans (hb.mono hb0.size)
  have hs1 := hb.size
  have HB := Lib.hid hb1
  have HY1 := Lib.hid y1
  have HY2 := Lib.hid y2
  have HY3 := Lib.hid y3
  clear hb0 x1 x2 x3 hb hb1
  have q0 := Lib.cell_of_heap y2 0
  simp only [List.getElem?_toArray, List.getElem?_cons_zero] at q0
  clear y1 y2 y3
  go_wp2_with fail
  refine (check_short owner hz _).mono ?_
  rintro e w2 ⟨rfl, k, hk⟩
  clear q0
  have z1 := HY1.out
  rw [show w1.heap[w.heap.size]? = (w1.drewN k).heap[w.heap.size]? from rfl, hk] at z1
  have z2 := HY2.out
  rw [show w1.heap[w.heap.size + 1]? = (w1.drewN k).heap[w.heap.size + 1]? from rfl, hk] at z2
  have z3 := HY3.out
  rw [show w1.heap[w.heap.size + 2]? = (w1.drewN k).heap[w.heap.size + 2]? from rfl, hk] at z3
  have hs2 : w.heap.size + 3 ≤ w2.heap.size := by rw [← hk]; show _ ≤ w1.heap.size; omega
  have hB2 : Below w.heap.size w w2 := by rw [← hk]; exact below_drewN HB.out k
  clear hk
  obtain ⟨k0, k1, k2, k3, k4, k5, k6, _⟩ := box_cells z1
  have n0 := Lib.cell_of_heap z2 0
  have t0 := Lib.cell_of_heap z3 0
  simp only [List.getElem?_toArray, List.getElem?_cons_zero] at n0 t0
  have t1 : ∀ o, (w2.alloc o).cell? ⟨w.heap.size + 1 + 1, 0, none⟩ = some (.int .i64 1) := fun o => cell_alloc_old z3 o 0
  have HZ1 := Lib.hid z1
  have HZ3 := Lib.hid z3
  have HB2 := Lib.hid hB2
  clear z1 z2 z3 hB2
  go_wp2_with fail
  obtain ⟨w4, hw4⟩ : ∃ x, w2.alloc (.cells #[.string owner, .int .i64 1, .int .i64 1, .int .u32 ttl, .bool false, .int .u64 0, .int .u64 0, .string ⟨#[]⟩, .string ⟨#[]⟩, .int .u32 0, .int .u32 0, .int .u32 0, .int .u32 0, .int .u32 0, .slice none 0 0, .string ⟨#[]⟩] 66) = x := ⟨_, rfl⟩
  have r4 : w4.heap[w2.heap.size]? = some (.cells #[.string owner, .int .i64 1, .int .i64 1, .int .u32 ttl, .bool false, .int .u64 0, .int .u64 0, .string ⟨#[]⟩, .string ⟨#[]⟩, .int .u32 0, .int .u32 0, .int .u32 0, .int .u32 0, .int .u32 0, .slice none 0 0, .string ⟨#[]⟩] 66 (0, 0)) := by rw [← hw4]; exact heap_alloc_new w2 _
  have e4 : w4.heap[w.heap.size]? = some (.cells #[.string host, .int .i64 kind, .string cl, ad, .string al, po, .int .u32 ttl] 52 (0, 0)) := by rw [← hw4]; exact (Below.heap_alloc w2 _ _ (by omega)).trans HZ1.out
  have t4 : w4.heap[w.heap.size + 2]? = some (.cells #[.int .i64 1] 3 (0, 0)) := by rw [← hw4]; exact (Below.heap_alloc w2 _ _ (by omega)).trans HZ3.out
  have b4 : Below w.heap.size w w4 := by rw [← hw4]; exact HB2.out.alloc HB2.out.size _
  have s4 : w4.heap.size = w2.heap.size + 1 := by rw [← hw4]; simp
  rw [hw4]
  clear hw4 t1
  have hs4 : w.heap.size + 3 ≤ w2.heap.size := by omega
  have hS : ∀ W : World, W.heap[w.heap.size]? = some (.cells #[.string host, .int .i64 kind, .string cl, ad, .string al, po, .int .u32 ttl] 52 (0, 0)) → W.heap[w2.heap.size]? = some (.cells #[.string owner, .int .i64 1, .int .i64 1, .int .u32 ttl, .bool false, .int .u64 0, .int .u64 0, .string ⟨#[]⟩, .string ⟨#[]⟩, .int .u32 0, .int .u32 0, .int .u32 0, .int .u32 0, .int .u32 0, .slice none 0 0, .string ⟨#[]⟩] 66 (0, 0)) →
      W.cell? ⟨w.heap.size, 0, none⟩ = some (.string host) ∧ W.cell? ⟨w.heap.size, 1, none⟩ = some (.int .i64 kind) ∧ W.cell? ⟨w.heap.size, 2, none⟩ = some (.string cl) ∧ W.cell? ⟨w.heap.size, 3, none⟩ = some ad ∧ W.cell? ⟨w.heap.size, 4, none⟩ = some (.string al) ∧ W.cell? ⟨w.heap.size, 5, none⟩ = some po ∧ W.cell? ⟨w.heap.size, 6, none⟩ = some (.int .u32 ttl) ∧ W.cell? ⟨w2.heap.size, 0, none⟩ = some (.string owner) ∧ W.cell? ⟨w2.heap.size, 1, none⟩ = some (.int .i64 1) ∧ W.cell? ⟨w2.heap.size, 2, none⟩ = some (.int .i64 1) ∧ W.cell? ⟨w2.heap.size, 3, none⟩ = some (.int .u32 ttl) ∧ W.cell? ⟨w2.heap.size, 4, none⟩ = some (.bool false) ∧ W.cell? ⟨w2.heap.size, 5, none⟩ = some (.int .u64 0) ∧ W.cell? ⟨w2.heap.size, 6, none⟩ = some (.int .u64 0) ∧ W.cell? ⟨w2.heap.size, 7, none⟩ = some (.string ⟨#[]⟩) ∧ W.cell? ⟨w2.heap.size, 8, none⟩ = some (.string ⟨#[]⟩) ∧ W.cell? ⟨w2.heap.size, 9, none⟩ = some (.int .u32 0) ∧ W.cell? ⟨w2.heap.size, 10, none⟩ = some (.int .u32 0) ∧ W.cell? ⟨w2.heap.size, 11, none⟩ = some (.int .u32 0) ∧ W.cell? ⟨w2.heap.size, 12, none⟩ = some (.int .u32 0) ∧ W.cell? ⟨w2.heap.size, 13, none⟩ = some (.int .u32 0) ∧ W.cell? ⟨w2.heap.size, 14, none⟩ = some (.slice none 0 0) ∧ W.cell? ⟨w2.heap.size, 15, none⟩ = some (.string ⟨#[]⟩) := fun W h1 h2 => by
    obtain ⟨k0, k1, k2, k3, k4, k5, k6, _⟩ := box_cells h1
    obtain ⟨⟨r0, r1, r2, r3⟩, ⟨r4, r5, r6, r7⟩, ⟨r8, r9, ra, rb⟩, ⟨rc, rd, re, rf⟩⟩ := rec_cells h2
    exact ⟨k0, k1, k2, k3, k4, k5, k6, r0, r1, r2, r3, r4, r5, r6, r7, r8, r9, ra, rb, rc, rd, re, rf⟩
  have S4 := Lib.hid (hS w4 e4 r4)
  have HSS := Lib.hid hS
  have E4 := Lib.hid e4
  have R4 := Lib.hid r4
  have T4 := Lib.hid t4
  have B4 := Lib.hid b4
  clear hS e4 r4 t4 b4
  have hmf : ∀ (fn : Fn) (first cap : Array Value) (w : World), (Instr.makeFunc fn first cap).run Try.prog w = .ok (.func fn first cap) w := fun _ _ _ _ => rfl
  go_region_held3 (fun W => W.cell? ⟨w.heap.size, 0, none⟩ = some (.string host) ∧ W.cell? ⟨w.heap.size, 1, none⟩ = some (.int .i64 kind) ∧ W.cell? ⟨w.heap.size, 2, none⟩ = some (.string cl) ∧ W.cell? ⟨w.heap.size, 3, none⟩ = some ad ∧ W.cell? ⟨w.heap.size, 4, none⟩ = some (.string al) ∧ W.cell? ⟨w.heap.size, 5, none⟩ = some po ∧ W.cell? ⟨w.heap.size, 6, none⟩ = some (.int .u32 ttl) ∧ W.cell? ⟨w2.heap.size, 0, none⟩ = some (.string owner) ∧ W.cell? ⟨w2.heap.size, 1, none⟩ = some (.int .i64 1) ∧ W.cell? ⟨w2.heap.size, 2, none⟩ = some (.int .i64 1) ∧ W.cell? ⟨w2.heap.size, 3, none⟩ = some (.int .u32 ttl) ∧ W.cell? ⟨w2.heap.size, 4, none⟩ = some (.bool false) ∧ W.cell? ⟨w2.heap.size, 5, none⟩ = some (.int .u64 0) ∧ W.cell? ⟨w2.heap.size, 6, none⟩ = some (.int .u64 0) ∧ W.cell? ⟨w2.heap.size, 7, none⟩ = some (.string ⟨#[]⟩) ∧ W.cell? ⟨w2.heap.size, 8, none⟩ = some (.string ⟨#[]⟩) ∧ W.cell? ⟨w2.heap.size, 9, none⟩ = some (.int .u32 0) ∧ W.cell? ⟨w2.heap.size, 10, none⟩ = some (.int .u32 0) ∧ W.cell? ⟨w2.heap.size, 11, none⟩ = some (.int .u32 0) ∧ W.cell? ⟨w2.heap.size, 12, none⟩ = some (.int .u32 0) ∧ W.cell? ⟨w2.heap.size, 13, none⟩ = some (.int .u32 0) ∧ W.cell? ⟨w2.heap.size, 14, none⟩ = some (.slice none 0 0) ∧ W.cell? ⟨w2.heap.size, 15, none⟩ = some (.string ⟨#[]⟩))
    ((first | exact SE.out | exact SA.out | exact S4.out))
    ((first
    | (go_at_call 48; refine (HA.out _ B4.out.drew).mono ?_; rintro e Wa ⟨v, rfl, hba, hea⟩; have EA := Lib.hid ((hba.block _ (by show w.heap.size < w4.heap.size; omega)).trans E4.out); have RA := Lib.hid ((hba.block _ (by show w2.heap.size < w4.heap.size; omega)).trans R4.out); have SA := Lib.hid (HSS.out _ EA.out RA.out); have HEA := Lib.hid (hea (Lib.cell_of_heap ((hba.block _ (by show w.heap.size + 2 < w4.heap.size; omega)).trans T4.out) 0)); have HBA := Lib.hid (B4.out.drew.trans (hba.mono B4.out.size)); clear hba hea)
    | (go_at_call 47; refine HEA.out.mono ?_; rintro e We ⟨u, rfl, hu, hbe⟩; have SE := Lib.hid (HSS.out _ ((hbe.block _ (lt_of_heap EA.out)).trans EA.out) ((hbe.block _ (lt_of_heap RA.out)).trans RA.out)); have HU := Lib.hid hu; have HBE := Lib.hid (HBA.out.trans (hbe.mono HBA.out.size)); clear hu hbe)))
  all_goals go_wp2_with fail
  all_goals go_ret
  all_goals exact ⟨u, rfl, HU.out, HBE.out⟩
end Go.Proofs.Ytniambdfgojgeaa
