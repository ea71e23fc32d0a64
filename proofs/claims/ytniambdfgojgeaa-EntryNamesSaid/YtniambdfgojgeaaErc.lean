/- entry.Records. -/
import Derived.Test.YtniambdfgojgeaaEeh
namespace Go.Proofs.Ytniambdfgojgeaa
open Go.RowKit Go.PlainAid

theorem three_boxes (w : World) (o1 o2 o3 : Obj) : ((((w.alloc o1).alloc o2).alloc o3).heap[w.heap.size]? = some o1 ∧ (((w.alloc o1).alloc o2).alloc o3).heap[w.heap.size + 1]? = some o2 ∧ (((w.alloc o1).alloc o2).alloc o3).heap[w.heap.size + 2]? = some o3) ∧ (((w.alloc o1).alloc o2).alloc o3).heap.size = w.heap.size + 3 ∧ Below w.heap.size w (((w.alloc o1).alloc o2).alloc o3) := by
  have h2 := heap_alloc_new (w.alloc o1) o2
  have h3 := heap_alloc_new ((w.alloc o1).alloc o2) o3
  simp only [World.size_alloc] at h2 h3
  refine ⟨⟨?_, ?_, h3⟩, by simp, (((Below.refl _ w).alloc (Nat.le_refl _) _).alloc (by simp) _).alloc (by simp; omega) _⟩
  · exact (Below.heap_alloc _ _ _ (by simp; omega)).trans ((Below.heap_alloc _ _ _ (by simp)).trans (heap_alloc_new w o1))
  · exact (Below.heap_alloc _ _ _ (by simp)).trans h2

set_option maxRecDepth 100000 in
set_option maxHeartbeats 4000000 in
theorem recs_ports (B ga gp : Nat) (owner : ByteArray) (held : Value) (ho : nm owner = some [[98], [97]]) (hz : owner.size ≤ 254) (w : World) (h : FixedAt B ga gp w) (hc : CheckIs (fixedV ga gp) 0 w) :
    Calls Try.prog 22 #[fixedV ga gp, .string owner, held, .int .i64 33] w (CloneIs w.heap.size 66 16 2 (rcs owner 33 30 false 0 0 owner 80 ++ rcs owner 33 30 false 0 0 owner 443) w) := by
  have hck : chk owner = 0 := by unfold chk; rw [ho]; rfl
  have hgp := lt_of_heap h.rp
  have HC := Lib.hid hc
  have HP := Lib.hid h.rp
  clear hc h
  go_enter Try.func22, Try.ntmps22
  go_wp2_with fail
  obtain ⟨⟨x1, x2, x3⟩, hsz, hb0⟩ := three_boxes w (.cells #[.string hostBA, .int .i64 1, .string textX, .slice (some ⟨ga, 0, none⟩) 2 2, .string ByteArray.empty, .slice (some ⟨gp, 0, none⟩) 2 2, .int .u32 30] 52) (.cells #[.string owner] 43) (.cells #[.int .i64 33] 3)
  refine (HC.out _ hb0).mono ?_
  rintro e w1 ⟨rfl, hb⟩
  have y1 := (hb.block _ (by omega)).trans x1
  have y2 := (hb.block _ (by omega)).trans x2
  have y3 := (hb.block _ (by omega)).trans x3
  have hb1 := hb0.trans (hb.mono hb0.size)
  have hs1 := hb.size
  have HB := Lib.hid hb1
  have HY1 := Lib.hid y1
  have HY2 := Lib.hid y2
  have HY3 := Lib.hid y3
  clear hb0 x1 x2 x3 hb hb1
  have q0 := Lib.cell_of_heap y2 0
  simp only [List.getElem?_toArray, List.getElem?_cons_zero] at q0
  clear y1 y2 y3
  go_wp2_with fail
  refine (check_short owner hz _).mono ?_
  rintro e w2 ⟨rfl, k, hk⟩
  clear q0
  have z1 := HY1.out
  rw [show w1.heap[w.heap.size]? = (w1.drewN k).heap[w.heap.size]? from rfl, hk] at z1
  have z2 := HY2.out
  rw [show w1.heap[w.heap.size + 1]? = (w1.drewN k).heap[w.heap.size + 1]? from rfl, hk] at z2
  have z3 := HY3.out
  rw [show w1.heap[w.heap.size + 2]? = (w1.drewN k).heap[w.heap.size + 2]? from rfl, hk] at z3
  have hs2 : w.heap.size + 3 ≤ w2.heap.size := by rw [← hk]; show _ ≤ w1.heap.size; omega
  have hB2 : Below w.heap.size w w2 := by rw [← hk]; exact below_drewN HB.out k
  clear hk
  obtain ⟨k0, k1, k2, k3, k4, k5, k6, _⟩ := box_cells z1
  have n0 := Lib.cell_of_heap z2 0
  have t0 := Lib.cell_of_heap z3 0
  simp only [List.getElem?_toArray, List.getElem?_cons_zero] at n0 t0
  have t1 : ∀ o, (w2.alloc o).cell? ⟨w.heap.size + 1 + 1, 0, none⟩ = some (.int .i64 33) := fun o => cell_alloc_old z3 o 0
  have m5 : ∀ o, (w2.alloc o).cell? ⟨w.heap.size, 5, none⟩ = some (.slice (some ⟨gp, 0, none⟩) 2 2) := fun o => cell_alloc_old z1 o 5
  have m6 : ∀ o, (w2.alloc o).cell? ⟨w.heap.size + 1, 0, none⟩ = some (.string owner) := fun o => cell_alloc_old z2 o 0
  have g0 : ∀ o, (w2.alloc o).cell? ⟨gp, 0, none⟩ = some (.int .i64 80) := fun o => cell_alloc_old ((hB2.block gp hgp).trans HP.out) o 0
  have g1 : ∀ o, (w2.alloc o).cell? ⟨gp, 1, none⟩ = some (.int .i64 443) := fun o => cell_alloc_old ((hB2.block gp hgp).trans HP.out) o 1
  have HB2 := Lib.hid hB2
  have HE := Lib.hid (fun o => each_ports gp 2 (w.heap.size + 1) owner owner ⟨#[]⟩ 33 30 80 443 (by omega) (by omega) (w2.alloc o) (g0 o) (g1 o) (m6 o) (Nat.le_refl _))
  clear z1 z2 z3 hB2 g0 g1 m6
  go_wp2_with fail
  refine (HE.out _).mono ?_
  rintro e w3 ⟨v, rfl, hv, hb3⟩
  have hs3 : w.heap.size ≤ w2.heap.size := by omega
  have HV := Lib.hid (ownsRow_base (base' := w.heap.size) hv (by simp; omega))
  have HB3 := Lib.hid ((HB2.out.alloc HB2.out.size _).trans (hb3.mono (by simp; omega)))
  clear hv hb3
  go_wp2_with fail
  go_ret
  exact ⟨v, rfl, HV.out, HB3.out⟩

set_option maxRecDepth 100000 in
set_option maxHeartbeats 4000000 in
theorem recs_alias (host al owner : ByteArray) (held : Value) (ttl : Int) (xs : List (List UInt8)) (ho : nm owner = some xs) (hz : owner.size ≤ 254) (w : World) (hc : CheckIs (ev host 3 ByteArray.empty (.slice none 0 0) al (.slice none 0 0) ttl) 0 w) :
    Calls Try.prog 22 #[ev host 3 ByteArray.empty (.slice none 0 0) al (.slice none 0 0) ttl, .string owner, held, .int .i64 5] w (CloneIs w.heap.size 66 16 1 (rcs owner 5 ttl false 0 0 al 0) w) := by
  have hck : chk owner = 0 := by unfold chk; rw [ho]; rfl
  have HC := Lib.hid hc
  clear hc
  go_enter Try.func22, Try.ntmps22
  go_wp2_with fail
  obtain ⟨⟨x1, x2, x3⟩, hsz, hb0⟩ := three_boxes w (.cells #[.string host, .int .i64 3, .string ByteArray.empty, .slice none 0 0, .string al, .slice none 0 0, .int .u32 ttl] 52) (.cells #[.string owner] 43) (.cells #[.int .i64 5] 3)
  refine (HC.out _ hb0).mono ?_
  rintro e w1 ⟨rfl, hb⟩
  have y1 := (hb.block _ (by omega)).trans x1
  have y2 := (hb.block _ (by omega)).trans x2
  have y3 := (hb.block _ (by omega)).trans x3
  have hb1 := hb0.trans (hb.mono hb0.size)
  have hs1 := hb.size
  have HB := Lib.hid hb1
  have HY1 := Lib.hid y1
  have HY2 := Lib.hid y2
  have HY3 := Lib.hid y3
  clear hb0 x1 x2 x3 hb hb1
  have q0 := Lib.cell_of_heap y2 0
  simp only [List.getElem?_toArray, List.getElem?_cons_zero] at q0
  clear y1 y2 y3
  go_wp2_with fail
  refine (check_short owner hz _).mono ?_
  rintro e w2 ⟨rfl, k, hk⟩
  clear q0
  have z1 := HY1.out
  rw [show w1.heap[w.heap.size]? = (w1.drewN k).heap[w.heap.size]? from rfl, hk] at z1
  have z2 := HY2.out
  rw [show w1.heap[w.heap.size + 1]? = (w1.drewN k).heap[w.heap.size + 1]? from rfl, hk] at z2
  have z3 := HY3.out
  rw [show w1.heap[w.heap.size + 2]? = (w1.drewN k).heap[w.heap.size + 2]? from rfl, hk] at z3
  have hs2 : w.heap.size + 3 ≤ w2.heap.size := by rw [← hk]; show _ ≤ w1.heap.size; omega
  have hB2 : Below w.heap.size w w2 := by rw [← hk]; exact below_drewN HB.out k
  clear hk
  obtain ⟨k0, k1, k2, k3, k4, k5, k6, _⟩ := box_cells z1
  have n0 := Lib.cell_of_heap z2 0
  have t0 := Lib.cell_of_heap z3 0
  simp only [List.getElem?_toArray, List.getElem?_cons_zero] at n0 t0
  have t1 : ∀ o, (w2.alloc o).cell? ⟨w.heap.size + 1 + 1, 0, none⟩ = some (.int .i64 5) := fun o => cell_alloc_old z3 o 0
  have m5 : ∀ o, (w2.alloc o).cell? ⟨w.heap.size, 4, none⟩ = some (.string al) := fun o => cell_alloc_old z1 o 4
  have m6 : ∀ o o', ((w2.alloc o).alloc o').cell? ⟨w.heap.size, 1, none⟩ = some (.int .i64 3) := fun o o' => cell_alloc_old ((Below.heap_alloc w2 o _ (by omega)).trans z1) o' 1
  have HB2 := Lib.hid hB2
  have HE := Lib.hid (fun o => each_name (w2.heap.size + 1) 1 w.heap.size al owner ⟨#[]⟩ 5 ttl ((w2.alloc o).alloc (.cells #[.string al] 43)) (by
    have := heap_alloc_new (w2.alloc o) (.cells #[.string al] 43)
    rw [World.size_alloc] at this
    exact Lib.cell_of_heap this 0) (m6 o _) (Nat.le_refl _))
  have hmf : ∀ (fn : Fn) (first cap : Array Value) (w : World), (Instr.makeFunc fn first cap).run Try.prog w = .ok (.func fn first cap) w := fun _ _ _ _ => rfl
  clear z1 z2 z3 hB2 m6
  go_wp2_with fail
  refine (HE.out _).mono ?_
  rintro e w3 ⟨v, rfl, hv, hb3⟩
  have hs3 : w.heap.size ≤ w2.heap.size := by omega
  have HV := Lib.hid (ownsRow_base (base' := w.heap.size) hv (by simp; omega))
  have HB3 := Lib.hid (((HB2.out.alloc HB2.out.size _).alloc (by simp; omega) _).trans (hb3.mono (by simp; omega)))
  clear hv hb3
  go_wp2_with fail
  go_ret
  exact ⟨v, rfl, HV.out, HB3.out⟩
end Go.Proofs.Ytniambdfgojgeaa
