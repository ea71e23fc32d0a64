/- entry.Copy of a fixed entry. -/
import Derived.Test.YtniambdfgojgeaaEsm
import Derived.Deep.RegionWith
namespace Go.Proofs.Ytniambdfgojgeaa
open Go.RowKit Go.PlainAid

theorem slice_of {B e size : Nat} {n : Nat} {v : Value} {xs : List Value} {w : World} (h : w.ownsRow B e size v n xs) : ∃ a c, v = .slice a n c := by
  rcases h.2 with ⟨hv, h0⟩ | ⟨g, cap, cur, hv, _⟩
  · exact ⟨none, 0, by rw [hv, h0]⟩
  · exact ⟨_, _, hv⟩
theorem keeps_setRow {S : Nat → Prop} {a w : World} (h : Keeps S a w) {b : Nat} (_hlt : b < w.heap.size) (hb : a.heap.size ≤ b ∨ S b) (cs : Array Value) : Keeps S a (w.setRow b cs) :=
  h.grown (row := some b) ⟨rfl, rfl, rfl, by simp [World.setRow], fun k _ hn => setRow_other w b k cs (fun e => hn (by rw [e]))⟩ (fun k e => by cases e; exact hb)
abbrev fixedA : List Value := [.bool false, .int .u64 0, .int .u64 16909060, .bool true, .int .u64 0, .int .u64 1]
abbrev fixedP : List Value := [.int .i64 80, .int .i64 443]

set_option maxRecDepth 100000 in
set_option maxHeartbeats 4000000 in
theorem copy_any (B ga gp : Nat) (w : World) (h : FixedAt B ga gp w) :
    Calls Try.prog 23 #[fixedV ga gp] w fun e w' => ∃ va vp, e = .returned (ev hostBA 1 textX va ByteArray.empty vp 30) ∧ w'.ownsRow w.heap.size 56 3 va 2 fixedA ∧ w'.ownsRow w.heap.size 3 1 vp 2 fixedP ∧ Below w.heap.size w w' := by
  have hga := lt_of_heap h.ra
  have hgp := lt_of_heap h.rp
  have hca : ∀ W, Below w.heap.size w W → Calls Try.prog 54 #[.slice (some ⟨ga, 0, none⟩) 2 2] W (CloneIs W.heap.size 56 3 2 fixedA W) := fun W hW =>
    cloneA ga 2 2 fixedA W rfl (by omega) (fun j u hj => by
      have hr := (hW.block ga hga).trans h.ra
      rw [Lib.cell_of_heap hr]
      match j, hj with
      | 0, hj => cases hj; rfl
      | 1, hj => cases hj; rfl
      | 2, hj => cases hj; rfl
      | 3, hj => cases hj; rfl
      | 4, hj => cases hj; rfl
      | 5, hj => cases hj; rfl) (by simp [Value.oneCell']) (Nat.lt_of_lt_of_le hga hW.size)
  have hci : ∀ W, Below w.heap.size w W → Calls Try.prog 55 #[.slice (some ⟨gp, 0, none⟩) 2 2] W (CloneIs W.heap.size 3 1 2 fixedP W) := fun W hW =>
    cloneI gp 2 2 fixedP W rfl (by omega) (fun j u hj => by
      have hr := (hW.block gp hgp).trans h.rp
      rw [Lib.cell_of_heap hr]
      match j, hj with
      | 0, hj => cases hj; rfl
      | 1, hj => cases hj; rfl) (by simp [Value.oneCell']) (Nat.lt_of_lt_of_le hgp hW.size)
  have HCA := Lib.hid hca
  have HCI := Lib.hid hci
  clear hca hci h
  go_enter Try.func23, Try.ntmps23
  go_wp2_with fail
  obtain ⟨w1, hw1⟩ : ∃ x, (w.alloc (.cells #[.string hostBA, .int .i64 1, .string textX, .slice (some ⟨ga, 0, none⟩) 2 2, .string ByteArray.empty, .slice (some ⟨gp, 0, none⟩) 2 2, .int .u32 30] 52)).alloc (.cells #[.string ⟨#[]⟩, .int .i64 0, .string ⟨#[]⟩, .slice none 0 0, .string ⟨#[]⟩, .slice none 0 0, .int .u32 0] 52) = x := ⟨_, rfl⟩
  have hx1 : w1.heap[w.heap.size]? = some (.cells #[.string hostBA, .int .i64 1, .string textX, .slice (some ⟨ga, 0, none⟩) 2 2, .string ByteArray.empty, .slice (some ⟨gp, 0, none⟩) 2 2, .int .u32 30] 52 (0, 0)) := by
    rw [← hw1]
    exact (Below.heap_alloc _ _ _ (by simp)).trans (heap_alloc_new w _)
  have hx2 : w1.heap[w.heap.size + 1]? = some (.cells #[.string ⟨#[]⟩, .int .i64 0, .string ⟨#[]⟩, .slice none 0 0, .string ⟨#[]⟩, .slice none 0 0, .int .u32 0] 52 (0, 0)) := by
    rw [← hw1]
    have := heap_alloc_new (w.alloc (.cells #[.string hostBA, .int .i64 1, .string textX, .slice (some ⟨ga, 0, none⟩) 2 2, .string ByteArray.empty, .slice (some ⟨gp, 0, none⟩) 2 2, .int .u32 30] 52)) (.cells #[.string ⟨#[]⟩, .int .i64 0, .string ⟨#[]⟩, .slice none 0 0, .string ⟨#[]⟩, .slice none 0 0, .int .u32 0] 52)
    rwa [World.size_alloc] at this
  have hb1 : Below w.heap.size w w1 := by rw [← hw1]; exact ((Below.refl _ w).alloc (Nat.le_refl _) _).alloc (by simp) _
  rw [hw1]
  clear hw1
  have hl1 := lt_of_heap hx2
  have k3 := Lib.cell_of_heap hx1 3
  have k5 := Lib.cell_of_heap hx1 5
  simp only [List.getElem?_toArray, List.getElem?_cons_zero, List.getElem?_cons_succ] at k3 k5
  have HX1 := Lib.hid hx1
  have HX2 := Lib.hid hx2
  have HB1 := Lib.hid hb1
  clear hx1 hx2 hb1
  go_region_with (first
    | (go_at_call 54; refine (HCA.out _ HB1.out.drew).mono ?_; rintro e Wa ⟨va, rfl, hoa, hba⟩; obtain ⟨aa, ca, rfl⟩ := slice_of hoa; have k5a := (hba.cell (p := ⟨w.heap.size, 5, none⟩) (by show w.heap.size < w1.heap.size; omega)).trans k5; have HOA := Lib.hid hoa; have HBA := Lib.hid hba; clear hoa hba)
    | (go_at_call 55; refine (HCI.out _ (HB1.out.drew.trans (HBA.out.mono HB1.out.size))).mono ?_; rintro e Wi ⟨vp, rfl, hoi, hbi⟩; obtain ⟨ap, cp, rfl⟩ := slice_of hoi; have hxi := (hbi.block w.heap.size (by have := HBA.out.size; have : w1.heap.size ≤ Wa.heap.size := this; omega)).trans ((HBA.out.block w.heap.size (by show w.heap.size < w1.heap.size; omega)).trans HX1.out); have k3i := Lib.cell_of_heap hxi 3; have k5i := Lib.cell_of_heap hxi 5; have fi := Lib.frozen_of_heap hxi 3; have fi5 := Lib.frozen_of_heap hxi 5; simp only [List.getElem?_toArray, List.getElem?_cons_zero, List.getElem?_cons_succ] at k3i k5i; have HOI := Lib.hid hoi; have HBI := Lib.hid hbi; have HXI := Lib.hid hxi; clear hoi hbi hxi))
  all_goals
    have hxi := HXI.out
    have hsa := HBA.out.size
    have hsi := HBI.out.size
    have hdr : w1.drew.heap.size = w1.heap.size := rfl
    have e1 : (Wi.setCell ⟨w.heap.size, 3, none⟩ (.slice aa 2 ca)).heap[w.heap.size]? = some (.cells #[.string hostBA, .int .i64 1, .string textX, .slice aa 2 ca, .string ByteArray.empty, .slice (some ⟨gp, 0, none⟩) 2 2, .int .u32 30] 52 (0, 0)) := by
      rw [setCell_eq_setRow _ _ _ _ _ _ _ hxi]
      exact setRow_heap _ _ _ _ _ _ hxi
    have e2 : ((Wi.setCell ⟨w.heap.size, 3, none⟩ (.slice aa 2 ca)).setCell ⟨w.heap.size, 5, none⟩ (.slice ap 2 cp)).heap[w.heap.size]? = some (.cells #[.string hostBA, .int .i64 1, .string textX, .slice aa 2 ca, .string ByteArray.empty, .slice ap 2 cp, .int .u32 30] 52 (0, 0)) := by
      rw [setCell_eq_setRow _ _ _ _ _ _ _ e1]
      exact setRow_heap _ _ _ _ _ _ e1
    have kk : Keeps (fun k => k = w.heap.size ∨ k = w.heap.size + 1) Wi ((Wi.setCell ⟨w.heap.size, 3, none⟩ (.slice aa 2 ca)).setCell ⟨w.heap.size, 5, none⟩ (.slice ap 2 cp)) :=
      ((Keeps.refl _ Wi).setCell (p := ⟨w.heap.size, 3, none⟩) (.inr (.inl rfl)) _).setCell (p := ⟨w.heap.size, 5, none⟩) (.inr (.inl rfl)) _
    have hr2 : ((Wi.setCell ⟨w.heap.size, 3, none⟩ (.slice aa 2 ca)).setCell ⟨w.heap.size, 5, none⟩ (.slice ap 2 cp)).heap[w.heap.size + 1]? = some (.cells #[.string ⟨#[]⟩, .int .i64 0, .string ⟨#[]⟩, .slice none 0 0, .string ⟨#[]⟩, .slice none 0 0, .int .u32 0] 52 (0, 0)) := by
      refine (Below.heap_setCell _ ⟨w.heap.size, 5, none⟩ _ _ (by show w.heap.size + 1 ≠ w.heap.size; omega)).trans ((Below.heap_setCell _ ⟨w.heap.size, 3, none⟩ _ _ (by show w.heap.size + 1 ≠ w.heap.size; omega)).trans ?_)
      exact (HBI.out.block _ (by omega)).trans ((HBA.out.block _ (by show w.heap.size + 1 < w1.heap.size; omega)).trans HX2.out)
    obtain ⟨W5, hW5⟩ : ∃ x, (Wi.setCell ⟨w.heap.size, 3, none⟩ (.slice aa 2 ca)).setCell ⟨w.heap.size, 5, none⟩ (.slice ap 2 cp) = x := ⟨_, rfl⟩
    rw [hW5] at e2 kk hr2 ⊢
    clear e1 hW5 k3 k5 hxi
    obtain ⟨j0, j1, j2, j3, j4, j5, j6, jf⟩ := box_cells e2
    have HR := Lib.hid hr2
    have KK := Lib.hid kk
    clear e2 hr2 kk jf
    go_wp2_with (refine wpList_store_row rfl 52 _ _ rfl (w.heap.size + 1) #[.string hostBA, .int .i64 1, .string textX, .slice aa 2 ca, .string ByteArray.empty, .slice ap 2 cp, .int .u32 30] rfl rfl 52 _ HR.out (by kernel_rfl) rfl (by simp [Value.oneCell']) ?_; generalize hW2 : World.setRow _ (w.heap.size + 1) _ = W2; have hxr := setRow_heap _ (w.heap.size + 1) _ #[.string hostBA, .int .i64 1, .string textX, .slice aa 2 ca, .string ByteArray.empty, .slice ap 2 cp, .int .u32 30] 52 _ HR.out; have hkk := keeps_setRow KK.out (lt_of_heap HR.out) (.inr (.inr rfl)) #[.string hostBA, .int .i64 1, .string textX, .slice aa 2 ca, .string ByteArray.empty, .slice ap 2 cp, .int .u32 30]; rw [hW2] at hxr hkk; obtain ⟨k0, k1, k2, k3, k4, k5, k6, kf⟩ := box_cells hxr)
    refine bodyPost_ret (v := ev hostBA 1 textX (.slice aa 2 ca) ByteArray.empty (.slice ap 2 cp) 30) (by simp [results, Try.results23, go_sem, k0, k1, k2, k3, k4, k5, k6]; try rfl) rfl ?_
    have hoa1 := (Keeps.of_below HBI.out).owns HOA.out (fun k hk hge => by have := (HOA.out.lt k hk).2; omega)
    have hoa2 := hkk.owns hoa1 (fun k hk hge => by have := (hoa1.lt k hk).1; omega)
    have hoi2 := hkk.owns HOI.out (fun k hk hge => by have := (HOI.out.lt k hk).1; omega)
    have hbb : Below w.heap.size w Wi := (HB1.out.drew.trans (HBA.out.mono (by omega))).trans (HBI.out.mono (by omega))
    refine ⟨_, _, rfl, ownsRow_base hoa2 (by omega), ownsRow_base hoi2 (by omega), hbb.trans ⟨hkk.os, hkk.tape, hkk.output, hkk.size, fun k hk => hkk.block k (by omega) (by omega)⟩⟩
end Go.Proofs.Ytniambdfgojgeaa
