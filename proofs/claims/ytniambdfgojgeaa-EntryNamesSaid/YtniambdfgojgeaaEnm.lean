/- The body of EntryNames, first part. -/
import Derived.Test.YtniambdfgojgeaaEbx
import Derived.Deep.DeepCutAuto
namespace Go.Proofs.Ytniambdfgojgeaa
open Go.RowKit Go.PlainAid

attribute [local go_sem ↓] Go.wp_at_zero Go.wp_at_succ
set_option maxRecDepth 100000 in
set_option maxHeartbeats 20000000 in
theorem enames_any (w : World) :
    Calls Try.prog 6 #[] w fun e w' => e = .returned (.bool true) ∧ Below w.heap.size w w' := by
  go_enter Try.func6, Try.ntmps6
  go_wp2_with fail
  refine (elives_any _).mono ?_
  rintro e w1 ⟨rfl, hb⟩
  have B1 := Lib.hid hb
  clear hb
  go_wp2_with fail
  refine (host_one 65 w1).mono ?_
  rintro e w2 ⟨rfl, hb⟩
  have B2 := Lib.hid (B1.out.trans (hb.mono B1.out.size))
  clear hb
  go_wp2_with fail
  refine (host_one 98 w2).mono ?_
  rintro e w3 ⟨rfl, hb⟩
  have B3 := Lib.hid (B2.out.trans (hb.mono B2.out.size))
  have Q3 := Lib.hid (Boxes.nil w3)
  clear hb
  have tok1 : True := trivial
  go_wp2_with (have _t := tok1; refine wpList_store_row rfl 52 _ _ rfl w3.heap.size (ecs ⟨#[1, 65]⟩ 3 ByteArray.empty (.slice none 0 0) ⟨#[1, 98]⟩ (.slice none 0 0) 0) rfl rfl 52 _ (heap_alloc_new w3 _) (by kernel_rfl) rfl (by simp [Value.oneCell']) ?_; obtain ⟨hx, hb⟩ := box_new w3 (ecs ⟨#[1, 65]⟩ 3 ByteArray.empty (.slice none 0 0) ⟨#[1, 98]⟩ (.slice none 0 0) 0); generalize World.setRow _ w3.heap.size _ = w4 at hx hb ⊢; have B4 := Lib.hid (B3.out.trans (hb.mono B3.out.size)); have Q4 := Lib.hid (Q3.out.new hb hx (Nat.le_refl _)); clear tok1 hx hb)
  refine (host_two 42 120 w4).mono ?_
  rintro e w5 ⟨rfl, hb⟩
  have B5 := Lib.hid (B4.out.trans (hb.mono B4.out.size))
  have Q5 := Lib.hid (Q4.out.later hb)
  clear hb
  have tok2 : True := trivial
  have tok3 : True := trivial
  go_wp2_with (first | (have _t := tok2; refine wpList_store_row rfl 52 _ _ rfl w5.heap.size (ecs ⟨#[1, 42, 1, 120]⟩ 2 ⟨#[121]⟩ (.slice none 0 0) ByteArray.empty (.slice none 0 0) 0) rfl rfl 52 _ (heap_alloc_new w5 _) (by kernel_rfl) rfl (by simp [Value.oneCell']) ?_; obtain ⟨hx, hb⟩ := box_new w5 (ecs ⟨#[1, 42, 1, 120]⟩ 2 ⟨#[121]⟩ (.slice none 0 0) ByteArray.empty (.slice none 0 0) 0); generalize World.setRow _ w5.heap.size _ = w6 at hx hb ⊢; have B6 := Lib.hid (B5.out.trans (hb.mono B5.out.size)); have Q6 := Lib.hid (Q5.out.new hb hx (Nat.le_refl _)); clear tok2 hx hb; obtain ⟨k0, k1, k2, k3, k4, k5, k6, _⟩ := box_cells (Q6.out.g1)) | (have _t := tok3; refine wpList_store_row rfl 52 _ _ rfl w6.heap.size (ecs ⟨#[1, 65]⟩ 3 ByteArray.empty (.slice none 0 0) ⟨#[1, 98]⟩ (.slice none 0 0) 0) rfl rfl 52 _ (heap_alloc_new w6 _) (by kernel_rfl) rfl (by simp [Value.oneCell']) ?_; obtain ⟨hx, hb⟩ := box_new w6 (ecs ⟨#[1, 65]⟩ 3 ByteArray.empty (.slice none 0 0) ⟨#[1, 98]⟩ (.slice none 0 0) 0); generalize World.setRow _ w6.heap.size _ = w7 at hx hb ⊢; have B7 := Lib.hid (B6.out.trans (hb.mono B6.out.size)); have Q7 := Lib.hid (Q6.out.new hb hx (Nat.le_refl _)); clear tok3 hx hb))
  clear k0 k1 k2 k3 k4 k5 k6
  refine (host_two 42 98 w7).mono ?_
  rintro e w8 ⟨rfl, hb⟩
  have B8 := Lib.hid (B7.out.trans (hb.mono B7.out.size))
  have Q8 := Lib.hid (Q7.out.later hb)
  clear hb
  obtain ⟨k0, k1, k2, k3, k4, k5, k6, kf⟩ := box_cells (Q8.out.g0)
  have hz8 := B7.out.size
  have hl8 := lt_of_heap Q8.out.g0
  go_wp2_with fail
  clear k0 k1 k2 k3 k4 k5 k6 kf
  have hq9 := Q8.out.turn (l1 := []) (keeps_cell w8 w6.heap.size 4 (.string ⟨#[1, 42, 1, 98]⟩)) (cell_set Q8.out.g0 4 _)
  have hb9 := B8.out.setCell (p := ⟨w6.heap.size, 4, none⟩) B6.out.size (.string ⟨#[1, 42, 1, 98]⟩)
  generalize World.setCell w8 _ _ = w9 at hq9 hb9 ⊢
  have Q9 := Lib.hid hq9
  have B9 := Lib.hid hb9
  clear hq9 hb9 hz8 hl8
  refine (fixed_any w9).mono ?_
  rintro e w10 ⟨ga, gp, rfl, hf, hb⟩
  have B10 := Lib.hid (B9.out.trans (hb.mono B9.out.size))
  have Q10 := Lib.hid (Q9.out.fixed hb hf)
  clear hb hf
  have tok4 : True := trivial
  have hl9 := B10.out.size
  go_wp2_with (have _t := tok4; refine wpList_store_row rfl 52 _ _ rfl w10.heap.size (ecs hostBA 1 textX (.slice (some ⟨ga, 0, none⟩) 2 2) ByteArray.empty (.slice (some ⟨gp, 0, none⟩) 2 2) 30) rfl rfl 52 _ (heap_alloc_new w10 _) (by kernel_rfl) rfl (by simp [Value.oneCell']) ?_; obtain ⟨hx, hb⟩ := box_new w10 (ecs hostBA 1 textX (.slice (some ⟨ga, 0, none⟩) 2 2) ByteArray.empty (.slice (some ⟨gp, 0, none⟩) 2 2) 30); generalize World.setRow _ w10.heap.size _ = w11 at hx hb ⊢; have B11 := Lib.hid (B10.out.trans (hb.mono B10.out.size)); have Q11 := Lib.hid (Q10.out.new hb hx (Nat.le_refl _)); clear tok4 hx hb; have j5 : ∀ o, (w11.alloc o).cell? ⟨w10.heap.size, 5, none⟩ = some (.slice (some ⟨gp, 0, none⟩) 2 2) := fun o => cell_alloc_old Q11.out.g0 o 5; have jf : ∀ o, (w11.alloc o).frozen? ⟨w10.heap.size, 5, none⟩ = false := fun o => Lib.frozen_of_heap (cell_alloc_box Q11.out.g0 o) 5; have hl11 := lt_of_heap Q11.out.g0)
  clear j5 jf
  have hq11 := Q11.out.turn (l1 := []) (keeps_cell w11 w10.heap.size 5 (.slice (some ⟨w11.heap.size, 0, none⟩) 2 2)) (cell_set Q11.out.g0 5 _)
  have hn := heap_alloc_new (w11.setCell ⟨w10.heap.size, 5, none⟩ (.slice (some ⟨w11.heap.size, 0, none⟩) 2 2)) (oPorts 443 80)
  rw [size_set] at hn
  have hq12 := hq11.new ((Below.refl _ _).alloc (Nat.le_refl _) (oPorts 443 80)) hn (by rw [size_set]; exact Nat.le_refl _)
  have hb12 := (B11.out.setCell (p := ⟨w10.heap.size, 5, none⟩) B10.out.size (.slice (some ⟨w11.heap.size, 0, none⟩) 2 2)).alloc (by rw [size_set]; exact B11.out.size) (oPorts 443 80)
  clear hn hq11
  generalize World.alloc (World.setCell w11 _ _) _ = w12 at hq12 hb12 ⊢
  have Q12 := Lib.hid hq12
  have B12 := Lib.hid hb12
  clear hq12 hb12 hl9 hl11
  refine (fixed_any w12).mono ?_
  rintro e w13 ⟨ha, hp, rfl, hf, hb⟩
  have B13 := Lib.hid (B12.out.trans (hb.mono B12.out.size))
  have Q13 := Lib.hid (Q12.out.fixed hb hf)
  have HHA := Lib.hid (Nat.le_trans B12.out.size hf.ba)
  clear hb hf
  have tok5 : True := trivial
  go_wp2_with (have _t := tok5; refine wpList_store_row rfl 52 _ _ rfl w13.heap.size (ecs hostBA 1 textX (.slice (some ⟨ha, 0, none⟩) 2 2) ByteArray.empty (.slice (some ⟨hp, 0, none⟩) 2 2) 30) rfl rfl 52 _ (heap_alloc_new w13 _) (by kernel_rfl) rfl (by simp [Value.oneCell']) ?_; obtain ⟨hx, hb⟩ := box_new w13 (ecs hostBA 1 textX (.slice (some ⟨ha, 0, none⟩) 2 2) ByteArray.empty (.slice (some ⟨hp, 0, none⟩) 2 2) 30); generalize World.setRow _ w13.heap.size _ = w14 at hx hb ⊢; have B14 := Lib.hid (B13.out.trans (hb.mono B13.out.size)); have Q14 := Lib.hid (Q13.out.new hb hx (Nat.le_refl _)); clear tok5 hx hb)
  have hq15 := ((Q14.out.turn (l1 := [_, _]) (keeps_cell w14 ha 3 (.bool false)) (cell_set Q14.out.g2 3 _)).turn (l1 := [_, _]) (keeps_cell _ ha 4 (.int .u64 0)) (cell_set (Boxes.g2 (Q14.out.turn (l1 := [_, _]) (keeps_cell w14 ha 3 (.bool false)) (cell_set Q14.out.g2 3 _))) 4 _))
  have hq15 := hq15.turn (l1 := [_, _]) (keeps_cell _ ha 5 (.int .u64 16909060)) (cell_set hq15.g2 5 _)
  have hb15 := ((B14.out.setCell (p := ⟨ha, 3, none⟩) HHA.out (.bool false)).setCell (p := ⟨ha, 4, none⟩) HHA.out (.int .u64 0)).setCell (p := ⟨ha, 5, none⟩) HHA.out (.int .u64 16909060)
  have S15 : _ ∧ _ ∧ _ ∧ _ := ⟨(box_cells hq15.g0).2.2.2.1, Lib.cell_of_heap hq15.g2 0, Lib.cell_of_heap hq15.g2 1, Lib.cell_of_heap hq15.g2 2⟩
  obtain ⟨_, _, _, k3, _⟩ := box_cells Q14.out.g0
  have a0 := Lib.cell_of_heap Q14.out.g2 0
  have a1 := Lib.cell_of_heap Q14.out.g2 1
  have a2 := Lib.cell_of_heap Q14.out.g2 2
  have a3 := Lib.cell_of_heap Q14.out.g2 3
  have a4 := Lib.cell_of_heap Q14.out.g2 4
  have a5 := Lib.cell_of_heap Q14.out.g2 5
  have af := fun j => Lib.frozen_of_heap Q14.out.g2 j
  have SC := Lib.hid S15
  have hq16 : Boxes (enBoxes w3.heap.size w5.heap.size w6.heap.size w10.heap.size w13.heap.size ga gp ha hp w11.heap.size) (World.drew _) := hq15.drewN 1
  have hb16 := hb15.drew
  clear hq15 hb15 S15
  go_region_held3 (fun W => W.cell? ⟨w13.heap.size, 3, none⟩ = some (.slice (some ⟨ha, 0, none⟩) 2 2) ∧ W.cell? ⟨ha, 0, none⟩ = some (.bool false) ∧ W.cell? ⟨ha, 1, none⟩ = some (.int .u64 0) ∧ W.cell? ⟨ha, 2, none⟩ = some (.int .u64 16909060))
    ((first | exact SC.out | exact ⟨k3, a0, a1, a2⟩)) (fail)
  clear SC k3 a0 a1 a2 a3 a4 a5 af
  generalize World.drew _ = w16 at hq16 hb16 ⊢
  generalize w13.heap.size = be at hq16 ⊢
  generalize w3.heap.size = ba at hq16 ⊢
  generalize w5.heap.size = bb at hq16 ⊢
  generalize w6.heap.size = bc at hq16 ⊢
  generalize w10.heap.size = bd at hq16 ⊢
  generalize w11.heap.size = bq at hq16 ⊢
  clear Q3 Q4 Q5 Q6 Q7 Q8 Q9 Q10 Q11 Q12 Q13 Q14 B1 B2 B3 B4 B5 B6 B7 B8 B9 B10 B11 B12 B13 B14 HHA
  have hS : ∀ W : World, W.heap[ba]? = some (eobj (ecs ⟨#[1, 65]⟩ 3 ByteArray.empty (.slice none 0 0) ⟨#[1, 98]⟩ (.slice none 0 0) 0)) → W.cell? ⟨ba, 0, none⟩ = some (.string ⟨#[1, 65]⟩) ∧ W.cell? ⟨ba, 1, none⟩ = some (.int .i64 3) ∧ W.cell? ⟨ba, 2, none⟩ = some (.string ByteArray.empty) ∧ W.cell? ⟨ba, 3, none⟩ = some (.slice none 0 0) ∧ W.cell? ⟨ba, 4, none⟩ = some (.string ⟨#[1, 98]⟩) ∧ W.cell? ⟨ba, 5, none⟩ = some (.slice none 0 0) ∧ W.cell? ⟨ba, 6, none⟩ = some (.int .u32 0) := fun W h => by
    obtain ⟨k0, k1, k2, k3, k4, k5, k6, _⟩ := box_cells h
    exact ⟨k0, k1, k2, k3, k4, k5, k6⟩
  have HS := Lib.hid hS
  have CA := Lib.hid (ck_a w16)
  have SC := Lib.hid (hS w16 hq16.g9)
  have Q16 := Lib.hid hq16
  have B16 := Lib.hid hb16
  clear hS hq16 hb16
  go_wp2_with fail
  go_region_held3 (fun W => W.cell? ⟨ba, 0, none⟩ = some (.string ⟨#[1, 65]⟩) ∧ W.cell? ⟨ba, 1, none⟩ = some (.int .i64 3) ∧ W.cell? ⟨ba, 2, none⟩ = some (.string ByteArray.empty) ∧ W.cell? ⟨ba, 3, none⟩ = some (.slice none 0 0) ∧ W.cell? ⟨ba, 4, none⟩ = some (.string ⟨#[1, 98]⟩) ∧ W.cell? ⟨ba, 5, none⟩ = some (.slice none 0 0) ∧ W.cell? ⟨ba, 6, none⟩ = some (.int .u32 0))
    ((first | exact SC.out | exact HS.out _ (cell_alloc_box Q16.out.g9 _)))
    ((first
    | (go_at_call 20; refine (host_one 113 w16.drew).mono ?_; rintro e w17 ⟨rfl, hb⟩; have Q17 := Lib.hid ((Q16.out.drewN 1).later hb); have D17 := Lib.hid ((Below.refl w16.heap.size w16).drew.trans hb); have SC := Lib.hid (HS.out w17 Q17.out.g9); clear hb)
    | (go_at_call 22; (with_reducible refine (recs_alias ⟨#[1, 65]⟩ ⟨#[1, 98]⟩ ⟨#[1, 113]⟩ _ 0 _ nm_q (by decide) w17 (CA.out.later D17.out)).mono ?_); rintro e w18 ⟨v, rfl, hv, hb⟩; have D18 := Lib.hid (D17.out.trans (hb.mono D17.out.size)); obtain ⟨gr, cr, ur, rfl, hcr, hgr, hr, hur⟩ := own_box hv (by omega); have Q18 := Lib.hid (Q17.out.new hb hr hgr); have U18 := Lib.hid hur; have SC := Lib.hid (HS.out w18 Q18.out.g10); clear hv hb hr hur hgr)))
  have B18 := Lib.hid (B16.out.trans (D18.out.mono B16.out.size))
  clear SC HS Q16 D17 Q17 CA D18 B16
  go_upto_region 12 with fail
  go_cut [7] (fun s7 wx => ∃ (gs cs : Nat) (us : Array Value), s7 = .slice (some ⟨gs, 0, none⟩) 1 cs ∧ 1 ≤ cs ∧ wx.heap[gs]? = some (.cells us 66 (0, 0)) ∧ (∀ (j : Nat) (u : Value), (rcs ⟨#[1, 113, 1, 120]⟩ 1 0 false 0 9 ⟨#[]⟩ 0)[j]? = some u → us[j]? = some u) ∧ w18.heap.size ≤ gs ∧ Below w18.heap.size w18 wx)
  case first =>
    as_aux_lemma =>
      have hS : ∀ W : World, W.heap[bb]? = some (eobj (ecs ⟨#[1, 42, 1, 120]⟩ 2 ⟨#[121]⟩ (.slice none 0 0) ByteArray.empty (.slice none 0 0) 0)) → W.cell? ⟨bb, 0, none⟩ = some (.string ⟨#[1, 42, 1, 120]⟩) ∧ W.cell? ⟨bb, 1, none⟩ = some (.int .i64 2) ∧ W.cell? ⟨bb, 2, none⟩ = some (.string ⟨#[121]⟩) ∧ W.cell? ⟨bb, 3, none⟩ = some (.slice none 0 0) ∧ W.cell? ⟨bb, 4, none⟩ = some (.string ByteArray.empty) ∧ W.cell? ⟨bb, 5, none⟩ = some (.slice none 0 0) ∧ W.cell? ⟨bb, 6, none⟩ = some (.int .u32 0) := fun W h => by
        obtain ⟨k0, k1, k2, k3, k4, k5, k6, _⟩ := box_cells h
        exact ⟨k0, k1, k2, k3, k4, k5, k6⟩
      have HS := Lib.hid hS
      have SC := Lib.hid (hS w18 Q18.out.g9)
      obtain ⟨o1, ho1⟩ : ∃ o : Obj, o = .cells #[.string ⟨#[113]⟩, .string ⟨#[120]⟩] 9 (0, 0) := ⟨_, rfl⟩
      obtain ⟨o2, ho2⟩ : ∃ o : Obj, o = .cells #[.bool false, .int .u64 0, .int .u64 9] 56 (0, 0) := ⟨_, rfl⟩
      have q1 := heap_alloc_new w18 o1
      have q2 := (Below.heap_alloc (w18.alloc o1) o2 w18.heap.size (by simp)).trans q1
      have q3 := heap_alloc_new (w18.alloc o2) o1
      have p2 := heap_alloc_new (w18.alloc o1) o2
      have p1 := heap_alloc_new w18 o2
      have p3 := (Below.heap_alloc (w18.alloc o2) o1 w18.heap.size (by simp)).trans p1
      rw [World.size_alloc] at q3 p2
      have b1 := (Below.refl w18.heap.size w18).alloc (Nat.le_refl _) o1
      have b2 := b1.alloc (by simp) o2
      have b3 := ((Below.refl w18.heap.size w18).alloc (Nat.le_refl _) o2).alloc (by simp) o1
      subst ho1 ho2
      have QA := Lib.hid q1
      have QB := Lib.hid q2
      have QC := Lib.hid q3
      have PB := Lib.hid p2
      have PC := Lib.hid p3
      have LA := Lib.hid b1
      have LB := Lib.hid b2
      have LC := Lib.hid b3
      clear q1 q2 q3 p1 p2 p3 b1 b2 b3 hS
      go_region_held3 (fun W => W.cell? ⟨bb, 0, none⟩ = some (.string ⟨#[1, 42, 1, 120]⟩) ∧ W.cell? ⟨bb, 1, none⟩ = some (.int .i64 2) ∧ W.cell? ⟨bb, 2, none⟩ = some (.string ⟨#[121]⟩) ∧ W.cell? ⟨bb, 3, none⟩ = some (.slice none 0 0) ∧ W.cell? ⟨bb, 4, none⟩ = some (.string ByteArray.empty) ∧ W.cell? ⟨bb, 5, none⟩ = some (.slice none 0 0) ∧ W.cell? ⟨bb, 6, none⟩ = some (.int .u32 0))
        ((first | exact SC.out | exact HS.out _ (cell_alloc_box Q18.out.g9 _) | exact HS.out _ (cell_alloc_box (cell_alloc_box Q18.out.g9 _) _) | exact HS.out _ (cell_alloc_box Q19.out.g9 _)))
        ((first
        | (go_at_call 20; refine (host_two' 113 120 _ _ ?_).mono ?_; (first | exact QA.out | exact QB.out | exact QC.out); rintro e w19 ⟨rfl, hb⟩; have L19 := Lib.hid (hb); (first | (have D19 := Lib.hid (LA.out.drew.trans (hb.mono LA.out.size))) | (have D19 := Lib.hid (LB.out.drew.trans (hb.mono LB.out.size))) | (have D19 := Lib.hid (LC.out.drew.trans (hb.mono LC.out.size)))); clear hb; have Q19 := Lib.hid (Q18.out.later D19.out); have SC := Lib.hid (HS.out w19 Q19.out.g9))
        | (go_at_call 22; refine (recs_auto1 ⟨#[1, 42, 1, 120]⟩ ⟨#[121]⟩ ByteArray.empty ⟨#[1, 113, 1, 120]⟩ 0 _ _ _ 1 9 ⟨by omega, by omega⟩ (Nat.le_refl _) _ nm_qx (by decide) _ (ck_b _) ?_).mono ?_; (first | exact heap_alloc_new w19 _ | exact (L19.out.block _ (lt_of_heap PB.out)).trans PB.out | exact (L19.out.block _ (lt_of_heap PC.out)).trans PC.out); rintro e w20 ⟨v, rfl, hv, hb⟩; (first | (have D20 := Lib.hid (D19.out.trans (hb.mono D19.out.size))) | (have D20 := Lib.hid ((D19.out.alloc D19.out.size _).trans (hb.mono (Nat.le_trans D19.out.size (Nat.le_of_lt (lt_of_heap (heap_alloc_new w19 _)))))))); have SC := Lib.hid (HS.out w20 (Q18.out.later D20.out).g9); obtain ⟨gs, cs, us, rfl, hcs, hgs, hs, hus⟩ := own_box hv (by omega); have R20 := Lib.hid hs; have U20 := Lib.hid hus; have G20 := Lib.hid hgs; clear hv hb hs hus hgs)))
      all_goals
        go_wp2_with fail
        go_meet
        have hg := G20.out
        have hz := D19.out.size
        try simp only [World.size_alloc] at hg
        exact ⟨gs, cs, us, rfl, hcs, R20.out, U20.out, by omega, D20.out⟩
  case rest =>
    obtain ⟨gs, cs, us, rfl, hcs, hs, hus, hge, hD⟩ := hcut
    have U20 := Lib.hid hus
    have QC := Lib.hid (Q18.out.new hD hs hge)
    have BC := Lib.hid (B18.out.trans (hD.mono B18.out.size))
    clear hs hus hge hD Q18 B18
    go_wp2_with fail
    refine (fixed_any wc).mono ?_
    rintro e w21 ⟨gc, gq, rfl, hf, hb⟩
    have B21 := Lib.hid (BC.out.trans (hb.mono BC.out.size))
    have Q21 := Lib.hid (QC.out.later hb)
    have F21 := Lib.hid hf
    clear hf hb
    go_wp2_with fail
    refine (copy_any wc.heap.size gc gq w21 F21.out).mono ?_
    rintro e w22 ⟨va, vp, rfl, hva, hvp, hb⟩
    obtain ⟨fa, ca, ua, rfl, hca, hfa, ha1, hua⟩ := own_box hva (by omega)
    obtain ⟨fp, cp, up, rfl, hcp, hfp, hp1, hup⟩ := own_box hvp (by omega)
    have B22 := Lib.hid (B21.out.trans (hb.mono B21.out.size))
    have Q22 := Lib.hid (Q21.out.new2 hb ha1 hfa hp1 hfp (fun e => by
      rw [e, ha1] at hp1
      have h2 := Option.some.inj hp1
      injection h2 with h3 h4
      simp at h4))
    have UA := Lib.hid hua
    have UP := Lib.hid hup
    have LA := Lib.hid (Nat.le_trans B21.out.size hfa)
    clear hva hvp hb ha1 hp1 hua hup hfa hfp QC BC B21 Q21 F21
    have tok6 : True := trivial
    go_wp2_with (have _t := tok6; refine wpList_store_row rfl 52 _ _ rfl w22.heap.size (ecs hostBA 1 textX (.slice (some ⟨fa, 0, none⟩) 2 ca) ByteArray.empty (.slice (some ⟨fp, 0, none⟩) 2 cp) 30) rfl rfl 52 _ (heap_alloc_new w22 _) (by kernel_rfl) rfl (by simp [Value.oneCell']) ?_; obtain ⟨hx, hb⟩ := box_new w22 (ecs hostBA 1 textX (.slice (some ⟨fa, 0, none⟩) 2 ca) ByteArray.empty (.slice (some ⟨fp, 0, none⟩) 2 cp) 30); generalize World.setRow _ w22.heap.size _ = w23 at hx hb ⊢; have B23 := Lib.hid (B22.out.trans (hb.mono B22.out.size)); have Q23 := Lib.hid (Q22.out.new hb hx (Nat.le_refl _)); clear tok6 hx hb; obtain ⟨k0, k1, k2, k3, k4, k5, k6, _⟩ := box_cells Q23.out.g0; have c2 := (Lib.cell_of_heap Q23.out.g2 2).trans (UA.out 2 _ rfl); have cf := fun j => Lib.frozen_of_heap Q23.out.g2 j; have hlf := lt_of_heap Q23.out.g2)
    clear k0 k1 k2 k3 k4 k5 k6 c2 cf hlf
    have hq24 := (Q23.out.turn (l1 := [_, _]) (keeps_cell w23 fa 2 (.int .u64 5)) (cell_set Q23.out.g2 2 _))
    have hb24 := B23.out.setCell (p := ⟨fa, 2, none⟩) LA.out (.int .u64 5)
    generalize World.setCell w23 _ _ = w24 at hq24 hb24 ⊢
    have CQ : Hid (Boxes (enAll w22.heap.size fa ca fp cp up ua gs us gr ur ba bb bc bd be ga gp ha hp bq) w24.drew) := Lib.hid (hq24.drewN 1)
    have CD := Lib.hid hb24.drew
    have SC := Lib.hid (en_cells CQ.out U18.out)
    clear hq24 hb24 B22 Q22 B23 Q23 LA
    refine wp_region_noPanic ?_
    refine wp_region_held_drew (S := fun W => ((((W.cell? ⟨ba, 0, none⟩ = some (.string ⟨#[1, 65]⟩) ∧ W.cell? ⟨ba, 1, none⟩ = some (.int .i64 3) ∧ W.cell? ⟨ba, 2, none⟩ = some (.string ByteArray.empty)) ∧ (W.cell? ⟨ba, 3, none⟩ = some (.slice none 0 0) ∧ W.cell? ⟨ba, 4, none⟩ = some (.string ⟨#[1, 98]⟩)) ∧ W.cell? ⟨ba, 5, none⟩ = some (.slice none 0 0) ∧ W.cell? ⟨ba, 6, none⟩ = some (.int .u32 0)) ∧ ((W.cell? ⟨bb, 0, none⟩ = some (.string ⟨#[1, 42, 1, 120]⟩) ∧ W.cell? ⟨bb, 1, none⟩ = some (.int .i64 2) ∧ W.cell? ⟨bb, 2, none⟩ = some (.string ⟨#[121]⟩)) ∧ (W.cell? ⟨bb, 3, none⟩ = some (.slice none 0 0) ∧ W.cell? ⟨bb, 4, none⟩ = some (.string ByteArray.empty)) ∧ W.cell? ⟨bb, 5, none⟩ = some (.slice none 0 0) ∧ W.cell? ⟨bb, 6, none⟩ = some (.int .u32 0))) ∧ ((W.cell? ⟨bc, 0, none⟩ = some (.string ⟨#[1, 65]⟩) ∧ W.cell? ⟨bc, 1, none⟩ = some (.int .i64 3) ∧ W.cell? ⟨bc, 2, none⟩ = some (.string ByteArray.empty)) ∧ (W.cell? ⟨bc, 3, none⟩ = some (.slice none 0 0) ∧ W.cell? ⟨bc, 4, none⟩ = some (.string ⟨#[1, 42, 1, 98]⟩)) ∧ W.cell? ⟨bc, 5, none⟩ = some (.slice none 0 0) ∧ W.cell? ⟨bc, 6, none⟩ = some (.int .u32 0)) ∧ ((W.cell? ⟨bd, 0, none⟩ = some (.string hostBA) ∧ W.cell? ⟨bd, 1, none⟩ = some (.int .i64 1) ∧ W.cell? ⟨bd, 2, none⟩ = some (.string textX)) ∧ (W.cell? ⟨bd, 3, none⟩ = some (.slice (some ⟨ga, 0, none⟩) 2 2) ∧ W.cell? ⟨bd, 4, none⟩ = some (.string ByteArray.empty)) ∧ W.cell? ⟨bd, 5, none⟩ = some (.slice (some ⟨bq, 0, none⟩) 2 2) ∧ W.cell? ⟨bd, 6, none⟩ = some (.int .u32 30))) ∧ (((W.cell? ⟨be, 0, none⟩ = some (.string hostBA) ∧ W.cell? ⟨be, 1, none⟩ = some (.int .i64 1) ∧ W.cell? ⟨be, 2, none⟩ = some (.string textX)) ∧ (W.cell? ⟨be, 3, none⟩ = some (.slice (some ⟨ha, 0, none⟩) 2 2) ∧ W.cell? ⟨be, 4, none⟩ = some (.string ByteArray.empty)) ∧ W.cell? ⟨be, 5, none⟩ = some (.slice (some ⟨hp, 0, none⟩) 2 2) ∧ W.cell? ⟨be, 6, none⟩ = some (.int .u32 30)) ∧ ((W.cell? ⟨w22.heap.size, 0, none⟩ = some (.string hostBA) ∧ W.cell? ⟨w22.heap.size, 1, none⟩ = some (.int .i64 1) ∧ W.cell? ⟨w22.heap.size, 2, none⟩ = some (.string textX)) ∧ (W.cell? ⟨w22.heap.size, 3, none⟩ = some (.slice (some ⟨fa, 0, none⟩) 2 ca) ∧ W.cell? ⟨w22.heap.size, 4, none⟩ = some (.string ByteArray.empty)) ∧ W.cell? ⟨w22.heap.size, 5, none⟩ = some (.slice (some ⟨fp, 0, none⟩) 2 cp) ∧ W.cell? ⟨w22.heap.size, 6, none⟩ = some (.int .u32 30))) ∧ (W.cell? ⟨gr, 0, none⟩ = some (.string ⟨#[1, 113]⟩) ∧ W.cell? ⟨gr, 7, none⟩ = some (.string ⟨#[1, 98]⟩))) (by as_aux_lemma => kernel_rfl) ?_ (fun hHeld0 => ?_)
    · exact SC.out
    clear SC
    refine wpAnyH_ready (rs := [0]) (by as_aux_lemma => kernel_rfl) (by simp) ?_
    refine AllReadyH.cons (o := { dst := some 54, op := Op.call { callee := Callee.value (Operand.func 19), args := #[], argTypes := #[] }, type := 4, pos := "law.go:52", after := #[], guard := none }) rfl (fun K hK => ?_) AllReadyH.nil
    go_simp
    (refine (elives_any _).mono ?_; rintro e wk ⟨rfl, hb⟩; replace CD := Lib.hid (CD.out.trans (hb.mono CD.out.size)); replace CQ := Lib.hid (CQ.out.later hb); clear hb)
    try go_wp2_with fail
    refine hK.out _ _ (en_cells CQ.out U18.out) (fun hHeld1 => ?_)
    clear hK K hHeld0
    try simp only [Act.put, List.setIfInBounds_toArray, List.set_cons_zero, List.set_cons_succ]
    refine wpAnyH_take (i := 1) (oi := { dst := some 55, op := Op.move (Operand.tmp 54), type := 4, pos := "law.go:52", after := #[{ on := 0, ground := Ground.data }, { on := 0, ground := Ground.chain }], guard := none }) (v := ?_) rfl (by as_aux_lemma => kernel_rfl) (by as_aux_lemma => kernel_rfl) (by as_aux_lemma => kernel_rfl) (fun _ _ _ h => h) (Or.inl ⟨by rfl, ?_⟩) (by assumption) ?_
    rotate_left
    focus (intro w hSw; (try dsimp only at hSw); go_simp; try with_reducible rfl)
    try simp only [Act.put, List.setIfInBounds_toArray, List.set_cons_zero, List.set_cons_succ]
    refine wpAnyH_take (i := 2) (oi := { dst := some 56, op := Op.load 52 (Operand.tmp 1), type := 52, pos := "law.go:52", after := #[{ on := 1, ground := Ground.guard }], guard := some (1, true) }) (v := ?_) rfl (by as_aux_lemma => kernel_rfl) (by as_aux_lemma => kernel_rfl) (by as_aux_lemma => kernel_rfl) (fun _ _ _ h => h) (Or.inl ⟨by rfl, ?_⟩) (by assumption) ?_
    rotate_left
    focus (intro w hSw; (try dsimp only at hSw); go_simp; try with_reducible rfl)
    try simp only [Act.put, List.setIfInBounds_toArray, List.set_cons_zero, List.set_cons_succ]
    refine wpAnyH_ready (rs := [3]) (by as_aux_lemma => kernel_rfl) (by simp) ?_
    refine AllReadyH.cons (o := { dst := some 57, op := Op.call { callee := Callee.value (Operand.func 24), args := #[Operand.tmp 56], argTypes := #[52] }, type := 27, pos := "law.go:52", after := #[{ on := 2, ground := Ground.data }, { on := 1, ground := Ground.chain }, { on := 1, ground := Ground.guard }], guard := some (1, true) }) rfl (fun K hK => ?_) AllReadyH.nil
    go_simp
    (refine ((ck_a _).now).mono ?_; rintro e wk ⟨rfl, hb⟩; replace CD := Lib.hid (CD.out.trans (hb.mono CD.out.size)); replace CQ := Lib.hid (CQ.out.later hb); clear hb)
    try go_wp2_with fail
    refine hK.out _ _ (en_cells CQ.out U18.out) (fun hHeld2 => ?_)
    clear hK K hHeld1
    try simp only [Act.put, List.setIfInBounds_toArray, List.set_cons_zero, List.set_cons_succ]
    refine wpAnyH_take (i := 4) (oi := { dst := some 58, op := Op.binOp BinOp.eql 27 (Operand.tmp 57) (Operand.const (Value.int IntKind.i64 0)) 27, type := 4, pos := "law.go:52", after := #[{ on := 3, ground := Ground.data }, { on := 1, ground := Ground.guard }], guard := some (1, true) }) (v := ?_) rfl (by as_aux_lemma => kernel_rfl) (by as_aux_lemma => kernel_rfl) (by as_aux_lemma => kernel_rfl) (fun _ _ _ h => h) (Or.inl ⟨by rfl, ?_⟩) (by assumption) ?_
    rotate_left
    focus (intro w hSw; (try dsimp only at hSw); go_simp; try with_reducible rfl)
    try simp only [Act.put, List.setIfInBounds_toArray, List.set_cons_zero, List.set_cons_succ]
    refine wpAnyH_take (i := 5) (oi := { dst := some 59, op := Op.pick (Operand.tmp 55) (Operand.tmp 58) (Operand.const (Value.bool false)), type := 4, pos := "law.go:52", after := #[{ on := 1, ground := Ground.data }, { on := 4, ground := Ground.data }], guard := none }) (v := ?_) rfl (by as_aux_lemma => kernel_rfl) (by as_aux_lemma => kernel_rfl) (by as_aux_lemma => kernel_rfl) (fun _ _ _ h => h) (Or.inl ⟨by rfl, ?_⟩) (by assumption) ?_
    rotate_left
    focus (intro w hSw; (try dsimp only at hSw); go_simp; try with_reducible rfl)
    try simp only [Act.put, List.setIfInBounds_toArray, List.set_cons_zero, List.set_cons_succ]
    refine wpAnyH_take (i := 6) (oi := { dst := some 60, op := Op.move (Operand.tmp 59), type := 4, pos := "law.go:52", after := #[{ on := 5, ground := Ground.data }, { on := 3, ground := Ground.chain }], guard := none }) (v := ?_) rfl (by as_aux_lemma => kernel_rfl) (by as_aux_lemma => kernel_rfl) (by as_aux_lemma => kernel_rfl) (fun _ _ _ h => h) (Or.inl ⟨by rfl, ?_⟩) (by assumption) ?_
    rotate_left
    focus (intro w hSw; (try dsimp only at hSw); go_simp; try with_reducible rfl)
    try simp only [Act.put, List.setIfInBounds_toArray, List.set_cons_zero, List.set_cons_succ]
    refine wpAnyH_take (i := 7) (oi := { dst := some 61, op := Op.load 52 (Operand.tmp 1), type := 52, pos := "law.go:52", after := #[{ on := 6, ground := Ground.guard }], guard := some (6, true) }) (v := ?_) rfl (by as_aux_lemma => kernel_rfl) (by as_aux_lemma => kernel_rfl) (by as_aux_lemma => kernel_rfl) (fun _ _ _ h => h) (Or.inl ⟨by rfl, ?_⟩) (by assumption) ?_
    rotate_left
    focus (intro w hSw; (try dsimp only at hSw); go_simp; try with_reducible rfl)
    try simp only [Act.put, List.setIfInBounds_toArray, List.set_cons_zero, List.set_cons_succ]
    as_aux_lemma =>
      refine wpAnyH_ready (rs := [8, 9]) (by as_aux_lemma => kernel_rfl) (by simp) ?_
      refine AllReadyH.cons (o := { dst := some 62, op := Op.call { callee := Callee.value (Operand.func 25), args := #[Operand.tmp 61], argTypes := #[52] }, type := 43, pos := "law.go:52", after := #[{ on := 7, ground := Ground.data }, { on := 6, ground := Ground.chain }, { on := 6, ground := Ground.guard }], guard := some (6, true) }) rfl (fun K hK => ?_) ?_
      · go_simp
        (refine (key_A _).mono ?_; rintro e wm ⟨rfl, hb⟩; replace CD := Lib.hid (CD.out.trans (hb.mono CD.out.size)); replace CQ := Lib.hid (CQ.out.later hb); clear hb)
        try go_wp2_with fail
        refine hK.out _ _ (en_cells CQ.out U18.out) (fun hHeld3 => ?_)
        clear hK K hHeld2
        try simp only [Act.put, List.setIfInBounds_toArray, List.set_cons_zero, List.set_cons_succ]
        as_aux_lemma =>
          refine wpAnyH_ready (rs := [9]) (by as_aux_lemma => kernel_rfl) (by simp) ?_
          refine AllReadyH.cons (o := { dst := some 63, op := Op.buildSlice 34 1 #[(0, Operand.const (Value.string { data := #[97] }))], type := 34, pos := "law.go:52", after := #[{ on := 6, ground := Ground.guard }], guard := some (6, true) }) rfl (fun K hK => ?_) AllReadyH.nil
          go_simp
          refine hK.out _ _ (en_cells (CQ.out.later ((Below.refl _ _).alloc (Nat.le_refl _) _)) U18.out) (fun hHeld4 => ?_)
          clear hK K hHeld3
          try simp only [Act.put, List.setIfInBounds_toArray, List.set_cons_zero, List.set_cons_succ]
          refine wpAnyH_ready (rs := [10]) (by as_aux_lemma => kernel_rfl) (by simp) ?_
          refine AllReadyH.cons (o := { dst := some 64, op := Op.call { callee := Callee.value (Operand.func 20), args := #[Operand.tmp 63], argTypes := #[34] }, type := 43, pos := "law.go:52", after := #[{ on := 9, ground := Ground.data }, { on := 8, ground := Ground.chain }, { on := 6, ground := Ground.guard }], guard := some (6, true) }) rfl (fun K hK => ?_) AllReadyH.nil
          go_simp
          (refine (host_one 97 _).mono ?_; rintro e wl ⟨rfl, hb⟩; replace CD := Lib.hid (CD.out.trans (hb.mono CD.out.size)); replace CQ := Lib.hid (CQ.out.later hb); clear hb)
          try go_wp2_with fail
          refine hK.out _ _ (en_cells CQ.out U18.out) (fun hHeld5 => ?_)
          clear hK K hHeld4
          try simp only [Act.put, List.setIfInBounds_toArray, List.set_cons_zero, List.set_cons_succ]
          refine wpAnyH_take (i := 11) (oi := { dst := some 65, op := Op.binOp BinOp.eql 43 (Operand.tmp 62) (Operand.tmp 64) 43, type := 4, pos := "law.go:52", after := #[{ on := 8, ground := Ground.data }, { on := 10, ground := Ground.data }, { on := 6, ground := Ground.guard }], guard := some (6, true) }) (v := ?_) rfl (by as_aux_lemma => kernel_rfl) (by as_aux_lemma => kernel_rfl) (by as_aux_lemma => kernel_rfl) (fun _ _ _ h => h) (Or.inl ⟨by rfl, ?_⟩) (by assumption) ?_
          rotate_left
          focus (intro w hSw; (try dsimp only at hSw); go_simp; try with_reducible rfl)
          try simp only [Act.put, List.setIfInBounds_toArray, List.set_cons_zero, List.set_cons_succ]
          refine wpAnyH_take (i := 12) (oi := { dst := some 66, op := Op.pick (Operand.tmp 60) (Operand.tmp 65) (Operand.const (Value.bool false)), type := 4, pos := "law.go:52", after := #[{ on := 6, ground := Ground.data }, { on := 11, ground := Ground.data }], guard := none }) (v := ?_) rfl (by as_aux_lemma => kernel_rfl) (by as_aux_lemma => kernel_rfl) (by as_aux_lemma => kernel_rfl) (fun _ _ _ h => h) (Or.inl ⟨by rfl, ?_⟩) (by assumption) ?_
          rotate_left
          focus (intro w hSw; (try dsimp only at hSw); go_simp; try with_reducible rfl)
          try simp only [Act.put, List.setIfInBounds_toArray, List.set_cons_zero, List.set_cons_succ]
          refine wpAnyH_take (i := 13) (oi := { dst := some 67, op := Op.move (Operand.tmp 66), type := 4, pos := "law.go:52", after := #[{ on := 12, ground := Ground.data }, { on := 10, ground := Ground.chain }], guard := none }) (v := ?_) rfl (by as_aux_lemma => kernel_rfl) (by as_aux_lemma => kernel_rfl) (by as_aux_lemma => kernel_rfl) (fun _ _ _ h => h) (Or.inl ⟨by rfl, ?_⟩) (by assumption) ?_
          rotate_left
          focus (intro w hSw; (try dsimp only at hSw); go_simp; try with_reducible rfl)
          try simp only [Act.put, List.setIfInBounds_toArray, List.set_cons_zero, List.set_cons_succ]
          refine wpAnyH_take (i := 14) (oi := { dst := some 68, op := Op.load 52 (Operand.tmp 2), type := 52, pos := "law.go:52", after := #[{ on := 13, ground := Ground.guard }], guard := some (13, true) }) (v := ?_) rfl (by as_aux_lemma => kernel_rfl) (by as_aux_lemma => kernel_rfl) (by as_aux_lemma => kernel_rfl) (fun _ _ _ h => h) (Or.inl ⟨by rfl, ?_⟩) (by assumption) ?_
          rotate_left
          focus (intro w hSw; (try dsimp only at hSw); go_simp; try with_reducible rfl)
          try simp only [Act.put, List.setIfInBounds_toArray, List.set_cons_zero, List.set_cons_succ]
          refine wpAnyH_ready (rs := [15]) (by as_aux_lemma => kernel_rfl) (by simp) ?_
          refine AllReadyH.cons (o := { dst := some 69, op := Op.call { callee := Callee.value (Operand.func 24), args := #[Operand.tmp 68], argTypes := #[52] }, type := 27, pos := "law.go:52", after := #[{ on := 14, ground := Ground.data }, { on := 13, ground := Ground.chain }, { on := 13, ground := Ground.guard }], guard := some (13, true) }) rfl (fun K hK => ?_) AllReadyH.nil
          go_simp
          (refine ((ck_b _).now).mono ?_; rintro e wl ⟨rfl, hb⟩; replace CD := Lib.hid (CD.out.trans (hb.mono CD.out.size)); replace CQ := Lib.hid (CQ.out.later hb); clear hb)
          try go_wp2_with fail
          refine hK.out _ _ (en_cells CQ.out U18.out) (fun hHeld6 => ?_)
          clear hK K hHeld5
          try simp only [Act.put, List.setIfInBounds_toArray, List.set_cons_zero, List.set_cons_succ]
          refine wpAnyH_take (i := 16) (oi := { dst := some 70, op := Op.binOp BinOp.eql 27 (Operand.tmp 69) (Operand.const (Value.int IntKind.i64 0)) 27, type := 4, pos := "law.go:52", after := #[{ on := 15, ground := Ground.data }, { on := 13, ground := Ground.guard }], guard := some (13, true) }) (v := ?_) rfl (by as_aux_lemma => kernel_rfl) (by as_aux_lemma => kernel_rfl) (by as_aux_lemma => kernel_rfl) (fun _ _ _ h => h) (Or.inl ⟨by rfl, ?_⟩) (by assumption) ?_
          rotate_left
          focus (intro w hSw; (try dsimp only at hSw); go_simp; try with_reducible rfl)
          try simp only [Act.put, List.setIfInBounds_toArray, List.set_cons_zero, List.set_cons_succ]
          as_aux_lemma =>
            refine wpAnyH_take (i := 17) (oi := { dst := some 71, op := Op.pick (Operand.tmp 67) (Operand.tmp 70) (Operand.const (Value.bool false)), type := 4, pos := "law.go:52", after := #[{ on := 13, ground := Ground.data }, { on := 16, ground := Ground.data }], guard := none }) (v := ?_) rfl (by as_aux_lemma => kernel_rfl) (by as_aux_lemma => kernel_rfl) (by as_aux_lemma => kernel_rfl) (fun _ _ _ h => h) (Or.inl ⟨by rfl, ?_⟩) (by assumption) ?_
            rotate_left
            focus (intro w hSw; (try dsimp only at hSw); go_simp; try with_reducible rfl)
            try simp only [Act.put, List.setIfInBounds_toArray, List.set_cons_zero, List.set_cons_succ]
            refine wpAnyH_take (i := 18) (oi := { dst := some 72, op := Op.move (Operand.tmp 71), type := 4, pos := "law.go:52", after := #[{ on := 17, ground := Ground.data }, { on := 15, ground := Ground.chain }], guard := none }) (v := ?_) rfl (by as_aux_lemma => kernel_rfl) (by as_aux_lemma => kernel_rfl) (by as_aux_lemma => kernel_rfl) (fun _ _ _ h => h) (Or.inl ⟨by rfl, ?_⟩) (by assumption) ?_
            rotate_left
            focus (intro w hSw; (try dsimp only at hSw); go_simp; try with_reducible rfl)
            try simp only [Act.put, List.setIfInBounds_toArray, List.set_cons_zero, List.set_cons_succ]
            refine wpAnyH_take (i := 19) (oi := { dst := some 73, op := Op.load 52 (Operand.tmp 3), type := 52, pos := "law.go:52", after := #[{ on := 18, ground := Ground.guard }], guard := some (18, true) }) (v := ?_) rfl (by as_aux_lemma => kernel_rfl) (by as_aux_lemma => kernel_rfl) (by as_aux_lemma => kernel_rfl) (fun _ _ _ h => h) (Or.inl ⟨by rfl, ?_⟩) (by assumption) ?_
            rotate_left
            focus (intro w hSw; (try dsimp only at hSw); go_simp; try with_reducible rfl)
            try simp only [Act.put, List.setIfInBounds_toArray, List.set_cons_zero, List.set_cons_succ]
            refine wpAnyH_ready (rs := [20]) (by as_aux_lemma => kernel_rfl) (by simp) ?_
            refine AllReadyH.cons (o := { dst := some 74, op := Op.call { callee := Callee.value (Operand.func 24), args := #[Operand.tmp 73], argTypes := #[52] }, type := 27, pos := "law.go:52", after := #[{ on := 19, ground := Ground.data }, { on := 18, ground := Ground.chain }, { on := 18, ground := Ground.guard }], guard := some (18, true) }) rfl (fun K hK => ?_) AllReadyH.nil
            go_simp
            (refine ((ck_c _).now).mono ?_; rintro e wl ⟨rfl, hb⟩; replace CD := Lib.hid (CD.out.trans (hb.mono CD.out.size)); replace CQ := Lib.hid (CQ.out.later hb); clear hb)
            try go_wp2_with fail
            refine hK.out _ _ (en_cells CQ.out U18.out) (fun hHeld7 => ?_)
            clear hK K hHeld6
            try simp only [Act.put, List.setIfInBounds_toArray, List.set_cons_zero, List.set_cons_succ]
            refine wpAnyH_take (i := 21) (oi := { dst := some 75, op := Op.binOp BinOp.eql 27 (Operand.tmp 74) (Operand.const (Value.int IntKind.i64 2)) 27, type := 4, pos := "law.go:52", after := #[{ on := 20, ground := Ground.data }, { on := 18, ground := Ground.guard }], guard := some (18, true) }) (v := ?_) rfl (by as_aux_lemma => kernel_rfl) (by as_aux_lemma => kernel_rfl) (by as_aux_lemma => kernel_rfl) (fun _ _ _ h => h) (Or.inl ⟨by rfl, ?_⟩) (by assumption) ?_
            rotate_left
            focus (intro w hSw; (try dsimp only at hSw); go_simp; try with_reducible rfl)
            try simp only [Act.put, List.setIfInBounds_toArray, List.set_cons_zero, List.set_cons_succ]
            refine wpAnyH_take (i := 22) (oi := { dst := some 76, op := Op.pick (Operand.tmp 72) (Operand.tmp 75) (Operand.const (Value.bool false)), type := 4, pos := "law.go:52", after := #[{ on := 18, ground := Ground.data }, { on := 21, ground := Ground.data }], guard := none }) (v := ?_) rfl (by as_aux_lemma => kernel_rfl) (by as_aux_lemma => kernel_rfl) (by as_aux_lemma => kernel_rfl) (fun _ _ _ h => h) (Or.inl ⟨by rfl, ?_⟩) (by assumption) ?_
            rotate_left
            focus (intro w hSw; (try dsimp only at hSw); go_simp; try with_reducible rfl)
            try simp only [Act.put, List.setIfInBounds_toArray, List.set_cons_zero, List.set_cons_succ]
            refine wpAnyH_take (i := 23) (oi := { dst := some 77, op := Op.move (Operand.tmp 76), type := 4, pos := "law.go:52", after := #[{ on := 22, ground := Ground.data }, { on := 20, ground := Ground.chain }], guard := none }) (v := ?_) rfl (by as_aux_lemma => kernel_rfl) (by as_aux_lemma => kernel_rfl) (by as_aux_lemma => kernel_rfl) (fun _ _ _ h => h) (Or.inl ⟨by rfl, ?_⟩) (by assumption) ?_
            rotate_left
            focus (intro w hSw; (try dsimp only at hSw); go_simp; try with_reducible rfl)
            try simp only [Act.put, List.setIfInBounds_toArray, List.set_cons_zero, List.set_cons_succ]
            refine wpAnyH_take (i := 24) (oi := { dst := some 78, op := Op.load 52 (Operand.tmp 4), type := 52, pos := "law.go:52", after := #[{ on := 23, ground := Ground.guard }], guard := some (23, true) }) (v := ?_) rfl (by as_aux_lemma => kernel_rfl) (by as_aux_lemma => kernel_rfl) (by as_aux_lemma => kernel_rfl) (fun _ _ _ h => h) (Or.inl ⟨by rfl, ?_⟩) (by assumption) ?_
            rotate_left
            focus (intro w hSw; (try dsimp only at hSw); go_simp; try with_reducible rfl)
            try simp only [Act.put, List.setIfInBounds_toArray, List.set_cons_zero, List.set_cons_succ]
            as_aux_lemma =>
              refine wpAnyH_ready (rs := [25]) (by as_aux_lemma => kernel_rfl) (by simp) ?_
              refine AllReadyH.cons (o := { dst := some 79, op := Op.call { callee := Callee.value (Operand.func 24), args := #[Operand.tmp 78], argTypes := #[52] }, type := 27, pos := "law.go:52", after := #[{ on := 24, ground := Ground.data }, { on := 23, ground := Ground.chain }, { on := 23, ground := Ground.guard }], guard := some (23, true) }) rfl (fun K hK => ?_) AllReadyH.nil
              go_simp
              (refine ((ck_d CQ.out.g11 CQ.out.g8).now).mono ?_; rintro e wl ⟨rfl, hb⟩; replace CD := Lib.hid (CD.out.trans (hb.mono CD.out.size)); replace CQ := Lib.hid (CQ.out.later hb); clear hb)
              try go_wp2_with fail
              refine hK.out _ _ (en_cells CQ.out U18.out) (fun hHeld8 => ?_)
              clear hK K hHeld7
              try simp only [Act.put, List.setIfInBounds_toArray, List.set_cons_zero, List.set_cons_succ]
              refine wpAnyH_take (i := 26) (oi := { dst := some 80, op := Op.binOp BinOp.eql 27 (Operand.tmp 79) (Operand.const (Value.int IntKind.i64 2)) 27, type := 4, pos := "law.go:52", after := #[{ on := 25, ground := Ground.data }, { on := 23, ground := Ground.guard }], guard := some (23, true) }) (v := ?_) rfl (by as_aux_lemma => kernel_rfl) (by as_aux_lemma => kernel_rfl) (by as_aux_lemma => kernel_rfl) (fun _ _ _ h => h) (Or.inl ⟨by rfl, ?_⟩) (by assumption) ?_
              rotate_left
              focus (intro w hSw; (try dsimp only at hSw); go_simp; try with_reducible rfl)
              try simp only [Act.put, List.setIfInBounds_toArray, List.set_cons_zero, List.set_cons_succ]
              refine wpAnyH_take (i := 27) (oi := { dst := some 81, op := Op.pick (Operand.tmp 77) (Operand.tmp 80) (Operand.const (Value.bool false)), type := 4, pos := "law.go:52", after := #[{ on := 23, ground := Ground.data }, { on := 26, ground := Ground.data }], guard := none }) (v := ?_) rfl (by as_aux_lemma => kernel_rfl) (by as_aux_lemma => kernel_rfl) (by as_aux_lemma => kernel_rfl) (fun _ _ _ h => h) (Or.inl ⟨by rfl, ?_⟩) (by assumption) ?_
              rotate_left
              focus (intro w hSw; (try dsimp only at hSw); go_simp; try with_reducible rfl)
              try simp only [Act.put, List.setIfInBounds_toArray, List.set_cons_zero, List.set_cons_succ]
              refine wpAnyH_take (i := 28) (oi := { dst := some 82, op := Op.move (Operand.tmp 81), type := 4, pos := "law.go:52", after := #[{ on := 27, ground := Ground.data }, { on := 25, ground := Ground.chain }], guard := none }) (v := ?_) rfl (by as_aux_lemma => kernel_rfl) (by as_aux_lemma => kernel_rfl) (by as_aux_lemma => kernel_rfl) (fun _ _ _ h => h) (Or.inl ⟨by rfl, ?_⟩) (by assumption) ?_
              rotate_left
              focus (intro w hSw; (try dsimp only at hSw); go_simp; try with_reducible rfl)
              try simp only [Act.put, List.setIfInBounds_toArray, List.set_cons_zero, List.set_cons_succ]
              refine wpAnyH_take (i := 29) (oi := { dst := some 83, op := Op.load 52 (Operand.tmp 5), type := 52, pos := "law.go:52", after := #[{ on := 28, ground := Ground.guard }], guard := some (28, true) }) (v := ?_) rfl (by as_aux_lemma => kernel_rfl) (by as_aux_lemma => kernel_rfl) (by as_aux_lemma => kernel_rfl) (fun _ _ _ h => h) (Or.inl ⟨by rfl, ?_⟩) (by assumption) ?_
              rotate_left
              focus (intro w hSw; (try dsimp only at hSw); go_simp; try with_reducible rfl)
              try simp only [Act.put, List.setIfInBounds_toArray, List.set_cons_zero, List.set_cons_succ]
              refine wpAnyH_ready (rs := [30]) (by as_aux_lemma => kernel_rfl) (by simp) ?_
              refine AllReadyH.cons (o := { dst := some 84, op := Op.call { callee := Callee.value (Operand.func 24), args := #[Operand.tmp 83], argTypes := #[52] }, type := 27, pos := "law.go:52", after := #[{ on := 29, ground := Ground.data }, { on := 28, ground := Ground.chain }, { on := 28, ground := Ground.guard }], guard := some (28, true) }) rfl (fun K hK => ?_) AllReadyH.nil
              go_simp
              (refine ((ck_e CQ.out.g7 CQ.out.g6).now).mono ?_; rintro e wl ⟨rfl, hb⟩; replace CD := Lib.hid (CD.out.trans (hb.mono CD.out.size)); replace CQ := Lib.hid (CQ.out.later hb); clear hb)
              try go_wp2_with fail
              refine hK.out _ _ (en_cells CQ.out U18.out) (fun hHeld9 => ?_)
              clear hK K hHeld8
              try simp only [Act.put, List.setIfInBounds_toArray, List.set_cons_zero, List.set_cons_succ]
              refine wpAnyH_take (i := 31) (oi := { dst := some 85, op := Op.binOp BinOp.eql 27 (Operand.tmp 84) (Operand.const (Value.int IntKind.i64 2)) 27, type := 4, pos := "law.go:52", after := #[{ on := 30, ground := Ground.data }, { on := 28, ground := Ground.guard }], guard := some (28, true) }) (v := ?_) rfl (by as_aux_lemma => kernel_rfl) (by as_aux_lemma => kernel_rfl) (by as_aux_lemma => kernel_rfl) (fun _ _ _ h => h) (Or.inl ⟨by rfl, ?_⟩) (by assumption) ?_
              rotate_left
              focus (intro w hSw; (try dsimp only at hSw); go_simp; try with_reducible rfl)
              try simp only [Act.put, List.setIfInBounds_toArray, List.set_cons_zero, List.set_cons_succ]
              refine wpAnyH_take (i := 32) (oi := { dst := some 86, op := Op.pick (Operand.tmp 82) (Operand.tmp 85) (Operand.const (Value.bool false)), type := 4, pos := "law.go:52", after := #[{ on := 28, ground := Ground.data }, { on := 31, ground := Ground.data }], guard := none }) (v := ?_) rfl (by as_aux_lemma => kernel_rfl) (by as_aux_lemma => kernel_rfl) (by as_aux_lemma => kernel_rfl) (fun _ _ _ h => h) (Or.inl ⟨by rfl, ?_⟩) (by assumption) ?_
              rotate_left
              focus (intro w hSw; (try dsimp only at hSw); go_simp; try with_reducible rfl)
              try simp only [Act.put, List.setIfInBounds_toArray, List.set_cons_zero, List.set_cons_succ]
              as_aux_lemma =>
                refine wpAnyH_take (i := 33) (oi := { dst := some 87, op := Op.move (Operand.tmp 86), type := 4, pos := "law.go:52", after := #[{ on := 32, ground := Ground.data }, { on := 30, ground := Ground.chain }], guard := none }) (v := ?_) rfl (by as_aux_lemma => kernel_rfl) (by as_aux_lemma => kernel_rfl) (by as_aux_lemma => kernel_rfl) (fun _ _ _ h => h) (Or.inl ⟨by rfl, ?_⟩) (by assumption) ?_
                rotate_left
                focus (intro w hSw; (try dsimp only at hSw); go_simp; try with_reducible rfl)
                try simp only [Act.put, List.setIfInBounds_toArray, List.set_cons_zero, List.set_cons_succ]
                refine wpAnyH_take (i := 34) (oi := { dst := some 88, op := Op.build 52 #[], type := 52, pos := "law.go:52", after := #[{ on := 33, ground := Ground.guard }], guard := some (33, true) }) (v := ?_) rfl (by as_aux_lemma => kernel_rfl) (by as_aux_lemma => kernel_rfl) (by as_aux_lemma => kernel_rfl) (fun _ _ _ h => h) (Or.inl ⟨by rfl, ?_⟩) (by assumption) ?_
                rotate_left
                focus (intro w hSw; (try dsimp only at hSw); go_simp; try with_reducible rfl)
                try simp only [Act.put, List.setIfInBounds_toArray, List.set_cons_zero, List.set_cons_succ]
                refine wpAnyH_ready (rs := [35]) (by as_aux_lemma => kernel_rfl) (by simp) ?_
                refine AllReadyH.cons (o := { dst := some 89, op := Op.call { callee := Callee.value (Operand.func 24), args := #[Operand.tmp 88], argTypes := #[52] }, type := 27, pos := "law.go:52", after := #[{ on := 34, ground := Ground.data }, { on := 33, ground := Ground.chain }, { on := 33, ground := Ground.guard }], guard := some (33, true) }) rfl (fun K hK => ?_) AllReadyH.nil
                go_simp
                (refine ((ck_0 _).now).mono ?_; rintro e wl ⟨rfl, hb⟩; replace CD := Lib.hid (CD.out.trans (hb.mono CD.out.size)); replace CQ := Lib.hid (CQ.out.later hb); clear hb)
                try go_wp2_with fail
                refine hK.out _ _ (en_cells CQ.out U18.out) (fun hHeld10 => ?_)
                clear hK K hHeld9
                try simp only [Act.put, List.setIfInBounds_toArray, List.set_cons_zero, List.set_cons_succ]
                refine wpAnyH_take (i := 36) (oi := { dst := some 90, op := Op.binOp BinOp.eql 27 (Operand.tmp 89) (Operand.const (Value.int IntKind.i64 2)) 27, type := 4, pos := "law.go:52", after := #[{ on := 35, ground := Ground.data }, { on := 33, ground := Ground.guard }], guard := some (33, true) }) (v := ?_) rfl (by as_aux_lemma => kernel_rfl) (by as_aux_lemma => kernel_rfl) (by as_aux_lemma => kernel_rfl) (fun _ _ _ h => h) (Or.inl ⟨by rfl, ?_⟩) (by assumption) ?_
                rotate_left
                focus (intro w hSw; (try dsimp only at hSw); go_simp; try with_reducible rfl)
                try simp only [Act.put, List.setIfInBounds_toArray, List.set_cons_zero, List.set_cons_succ]
                refine wpAnyH_take (i := 37) (oi := { dst := some 91, op := Op.pick (Operand.tmp 87) (Operand.tmp 90) (Operand.const (Value.bool false)), type := 4, pos := "law.go:52", after := #[{ on := 33, ground := Ground.data }, { on := 36, ground := Ground.data }], guard := none }) (v := ?_) rfl (by as_aux_lemma => kernel_rfl) (by as_aux_lemma => kernel_rfl) (by as_aux_lemma => kernel_rfl) (fun _ _ _ h => h) (Or.inl ⟨by rfl, ?_⟩) (by assumption) ?_
                rotate_left
                focus (intro w hSw; (try dsimp only at hSw); go_simp; try with_reducible rfl)
                try simp only [Act.put, List.setIfInBounds_toArray, List.set_cons_zero, List.set_cons_succ]
                refine wpAnyH_take (i := 38) (oi := { dst := some 92, op := Op.move (Operand.tmp 91), type := 4, pos := "law.go:52", after := #[{ on := 37, ground := Ground.data }, { on := 35, ground := Ground.chain }], guard := none }) (v := ?_) rfl (by as_aux_lemma => kernel_rfl) (by as_aux_lemma => kernel_rfl) (by as_aux_lemma => kernel_rfl) (fun _ _ _ h => h) (Or.inl ⟨by rfl, ?_⟩) (by assumption) ?_
                rotate_left
                focus (intro w hSw; (try dsimp only at hSw); go_simp; try with_reducible rfl)
                try simp only [Act.put, List.setIfInBounds_toArray, List.set_cons_zero, List.set_cons_succ]
                refine wpAnyH_take (i := 39) (oi := { dst := some 93, op := Op.build 52 #[(0, Operand.const (Value.string { data := #[120] }))], type := 52, pos := "law.go:52", after := #[{ on := 38, ground := Ground.guard }], guard := some (38, true) }) (v := ?_) rfl (by as_aux_lemma => kernel_rfl) (by as_aux_lemma => kernel_rfl) (by as_aux_lemma => kernel_rfl) (fun _ _ _ h => h) (Or.inl ⟨by rfl, ?_⟩) (by assumption) ?_
                rotate_left
                focus (intro w hSw; (try dsimp only at hSw); go_simp; try with_reducible rfl)
                try simp only [Act.put, List.setIfInBounds_toArray, List.set_cons_zero, List.set_cons_succ]
                refine wpAnyH_ready (rs := [40]) (by as_aux_lemma => kernel_rfl) (by simp) ?_
                refine AllReadyH.cons (o := { dst := some 94, op := Op.call { callee := Callee.value (Operand.func 24), args := #[Operand.tmp 93], argTypes := #[52] }, type := 27, pos := "law.go:52", after := #[{ on := 39, ground := Ground.data }, { on := 38, ground := Ground.chain }, { on := 38, ground := Ground.guard }], guard := some (38, true) }) rfl (fun K hK => ?_) AllReadyH.nil
                go_simp
                (refine ((ck_x _).now).mono ?_; rintro e wl ⟨rfl, hb⟩; replace CD := Lib.hid (CD.out.trans (hb.mono CD.out.size)); replace CQ := Lib.hid (CQ.out.later hb); clear hb)
                try go_wp2_with fail
                refine hK.out _ _ (en_cells CQ.out U18.out) (fun hHeld11 => ?_)
                clear hK K hHeld10
                try simp only [Act.put, List.setIfInBounds_toArray, List.set_cons_zero, List.set_cons_succ]
                as_aux_lemma =>
                  refine wpAnyH_take (i := 41) (oi := { dst := some 95, op := Op.binOp BinOp.eql 27 (Operand.tmp 94) (Operand.const (Value.int IntKind.i64 4)) 27, type := 4, pos := "law.go:52", after := #[{ on := 40, ground := Ground.data }, { on := 38, ground := Ground.guard }], guard := some (38, true) }) (v := ?_) rfl (by as_aux_lemma => kernel_rfl) (by as_aux_lemma => kernel_rfl) (by as_aux_lemma => kernel_rfl) (fun _ _ _ h => h) (Or.inl ⟨by rfl, ?_⟩) (by assumption) ?_
                  rotate_left
                  focus (intro w hSw; (try dsimp only at hSw); go_simp; try with_reducible rfl)
                  try simp only [Act.put, List.setIfInBounds_toArray, List.set_cons_zero, List.set_cons_succ]
                  refine wpAnyH_take (i := 42) (oi := { dst := some 96, op := Op.pick (Operand.tmp 92) (Operand.tmp 95) (Operand.const (Value.bool false)), type := 4, pos := "law.go:52", after := #[{ on := 38, ground := Ground.data }, { on := 41, ground := Ground.data }], guard := none }) (v := ?_) rfl (by as_aux_lemma => kernel_rfl) (by as_aux_lemma => kernel_rfl) (by as_aux_lemma => kernel_rfl) (fun _ _ _ h => h) (Or.inl ⟨by rfl, ?_⟩) (by assumption) ?_
                  rotate_left
                  focus (intro w hSw; (try dsimp only at hSw); go_simp; try with_reducible rfl)
                  try simp only [Act.put, List.setIfInBounds_toArray, List.set_cons_zero, List.set_cons_succ]
                  refine wpAnyH_take (i := 43) (oi := { dst := some 97, op := Op.move (Operand.tmp 96), type := 4, pos := "law.go:52", after := #[{ on := 42, ground := Ground.data }, { on := 40, ground := Ground.chain }], guard := none }) (v := ?_) rfl (by as_aux_lemma => kernel_rfl) (by as_aux_lemma => kernel_rfl) (by as_aux_lemma => kernel_rfl) (fun _ _ _ h => h) (Or.inl ⟨by rfl, ?_⟩) (by assumption) ?_
                  rotate_left
                  focus (intro w hSw; (try dsimp only at hSw); go_simp; try with_reducible rfl)
                  try simp only [Act.put, List.setIfInBounds_toArray, List.set_cons_zero, List.set_cons_succ]
                  refine wpAnyH_take (i := 44) (oi := { dst := some 98, op := Op.move (Operand.tmp 6), type := 57, pos := "law.go:52", after := #[{ on := 43, ground := Ground.guard }], guard := some (43, true) }) (v := ?_) rfl (by as_aux_lemma => kernel_rfl) (by as_aux_lemma => kernel_rfl) (by as_aux_lemma => kernel_rfl) (fun _ _ _ h => h) (Or.inl ⟨by rfl, ?_⟩) (by assumption) ?_
                  rotate_left
                  focus (intro w hSw; (try dsimp only at hSw); go_simp; try with_reducible rfl)
                  try simp only [Act.put, List.setIfInBounds_toArray, List.set_cons_zero, List.set_cons_succ]
                  refine wpAnyH_take (i := 45) (oi := { dst := some 99, op := Op.call { callee := Callee.builtin Builtin.len, args := #[Operand.tmp 98], argTypes := #[57] }, type := 3, pos := "law.go:52", after := #[{ on := 44, ground := Ground.data }, { on := 43, ground := Ground.guard }], guard := some (43, true) }) (v := ?_) rfl (by as_aux_lemma => kernel_rfl) (by as_aux_lemma => kernel_rfl) (by as_aux_lemma => kernel_rfl) (fun _ _ _ h => h) (Or.inl ⟨by rfl, ?_⟩) (by assumption) ?_
                  rotate_left
                  focus (intro w hSw; (try dsimp only at hSw); go_simp; try with_reducible rfl)
                  try simp only [Act.put, List.setIfInBounds_toArray, List.set_cons_zero, List.set_cons_succ]
                  refine wpAnyH_take (i := 46) (oi := { dst := some 100, op := Op.binOp BinOp.eql 3 (Operand.tmp 99) (Operand.const (Value.int IntKind.i64 1)) 3, type := 4, pos := "law.go:52", after := #[{ on := 45, ground := Ground.data }, { on := 43, ground := Ground.guard }], guard := some (43, true) }) (v := ?_) rfl (by as_aux_lemma => kernel_rfl) (by as_aux_lemma => kernel_rfl) (by as_aux_lemma => kernel_rfl) (fun _ _ _ h => h) (Or.inl ⟨by rfl, ?_⟩) (by assumption) ?_
                  rotate_left
                  focus (intro w hSw; (try dsimp only at hSw); go_simp; try with_reducible rfl)
                  try simp only [Act.put, List.setIfInBounds_toArray, List.set_cons_zero, List.set_cons_succ]
                  refine wpAnyH_take (i := 47) (oi := { dst := some 101, op := Op.pick (Operand.tmp 97) (Operand.tmp 100) (Operand.const (Value.bool false)), type := 4, pos := "law.go:52", after := #[{ on := 43, ground := Ground.data }, { on := 46, ground := Ground.data }], guard := none }) (v := ?_) rfl (by as_aux_lemma => kernel_rfl) (by as_aux_lemma => kernel_rfl) (by as_aux_lemma => kernel_rfl) (fun _ _ _ h => h) (Or.inl ⟨by rfl, ?_⟩) (by assumption) ?_
                  rotate_left
                  focus (intro w hSw; (try dsimp only at hSw); go_simp; try with_reducible rfl)
                  try simp only [Act.put, List.setIfInBounds_toArray, List.set_cons_zero, List.set_cons_succ]
                  refine wpAnyH_take (i := 48) (oi := { dst := some 102, op := Op.move (Operand.tmp 101), type := 4, pos := "law.go:52", after := #[{ on := 47, ground := Ground.data }, { on := 43, ground := Ground.chain }], guard := none }) (v := ?_) rfl (by as_aux_lemma => kernel_rfl) (by as_aux_lemma => kernel_rfl) (by as_aux_lemma => kernel_rfl) (fun _ _ _ h => h) (Or.inl ⟨by rfl, ?_⟩) (by assumption) ?_
                  rotate_left
                  focus (intro w hSw; (try dsimp only at hSw); go_simp; try with_reducible rfl)
                  try simp only [Act.put, List.setIfInBounds_toArray, List.set_cons_zero, List.set_cons_succ]
                  as_aux_lemma =>
                    refine wpAnyH_take (i := 49) (oi := { dst := some 103, op := Op.move (Operand.tmp 6), type := 57, pos := "law.go:52", after := #[{ on := 48, ground := Ground.guard }], guard := some (48, true) }) (v := ?_) rfl (by as_aux_lemma => kernel_rfl) (by as_aux_lemma => kernel_rfl) (by as_aux_lemma => kernel_rfl) (fun _ _ _ h => h) (Or.inl ⟨by rfl, ?_⟩) (by assumption) ?_
                    rotate_left
                    focus (intro w hSw; (try dsimp only at hSw); go_simp; try with_reducible rfl)
                    try simp only [Act.put, List.setIfInBounds_toArray, List.set_cons_zero, List.set_cons_succ]
                    refine wpAnyH_take (i := 50) (oi := { dst := some 104, op := Op.indexAddr 57 (Operand.tmp 103) (Operand.const (Value.int IntKind.i64 0)), type := 0, pos := "law.go:52", after := #[{ on := 49, ground := Ground.data }, { on := 48, ground := Ground.guard }], guard := some (48, true) }) (v := ?_) rfl (by as_aux_lemma => kernel_rfl) (by as_aux_lemma => kernel_rfl) (by as_aux_lemma => kernel_rfl) (fun _ _ _ h => h) (Or.inl ⟨by rfl, ?_⟩) (by assumption) ?_
                    rotate_left
                    focus (intro w hSw; (try dsimp only at hSw); go_simp; try with_reducible rfl)
                    try simp only [Act.put, List.setIfInBounds_toArray, List.set_cons_zero, List.set_cons_succ]
                    refine wpAnyH_take (i := 51) (oi := { dst := some 105, op := Op.fieldAddr 66 (Operand.tmp 104) 0, type := 0, pos := "law.go:52", after := #[{ on := 50, ground := Ground.data }, { on := 48, ground := Ground.guard }], guard := some (48, true) }) (v := ?_) rfl (by as_aux_lemma => kernel_rfl) (by as_aux_lemma => kernel_rfl) (by as_aux_lemma => kernel_rfl) (fun _ _ _ h => h) (Or.inl ⟨by rfl, ?_⟩) (by assumption) ?_
                    rotate_left
                    focus (intro w hSw; (try dsimp only at hSw); go_simp; try with_reducible rfl)
                    try simp only [Act.put, List.setIfInBounds_toArray, List.set_cons_zero, List.set_cons_succ]
                    refine wpAnyH_take (i := 52) (oi := { dst := some 106, op := Op.load 43 (Operand.tmp 105), type := 43, pos := "law.go:52", after := #[{ on := 51, ground := Ground.data }, { on := 48, ground := Ground.guard }], guard := some (48, true) }) (v := ?_) rfl (by as_aux_lemma => kernel_rfl) (by as_aux_lemma => kernel_rfl) (by as_aux_lemma => kernel_rfl) (fun _ _ _ h => h) (Or.inl ⟨by rfl, ?_⟩) (by assumption) ?_
                    rotate_left
                    focus (intro w hSw; (try dsimp only at hSw); go_simp; try with_reducible rfl)
                    try simp only [Act.put, List.setIfInBounds_toArray, List.set_cons_zero, List.set_cons_succ]
                    refine wpAnyH_ready (rs := [53]) (by as_aux_lemma => kernel_rfl) (by simp) ?_
                    refine AllReadyH.cons (o := { dst := some 107, op := Op.buildSlice 34 1 #[(0, Operand.const (Value.string { data := #[113] }))], type := 34, pos := "law.go:52", after := #[{ on := 48, ground := Ground.guard }], guard := some (48, true) }) rfl (fun K hK => ?_) AllReadyH.nil
                    go_simp
                    refine hK.out _ _ (en_cells (CQ.out.later ((Below.refl _ _).alloc (Nat.le_refl _) _)) U18.out) (fun hHeld12 => ?_)
                    clear hK K hHeld11
                    try simp only [Act.put, List.setIfInBounds_toArray, List.set_cons_zero, List.set_cons_succ]
                    refine wpAnyH_ready (rs := [54]) (by as_aux_lemma => kernel_rfl) (by simp) ?_
                    refine AllReadyH.cons (o := { dst := some 108, op := Op.call { callee := Callee.value (Operand.func 20), args := #[Operand.tmp 107], argTypes := #[34] }, type := 43, pos := "law.go:52", after := #[{ on := 53, ground := Ground.data }, { on := 48, ground := Ground.chain }, { on := 48, ground := Ground.guard }], guard := some (48, true) }) rfl (fun K hK => ?_) AllReadyH.nil
                    go_simp
                    (refine (host_one 113 _).mono ?_; rintro e wl ⟨rfl, hb⟩; replace CD := Lib.hid (CD.out.trans (hb.mono CD.out.size)); replace CQ := Lib.hid (CQ.out.later hb); clear hb)
                    try go_wp2_with fail
                    refine hK.out _ _ (en_cells CQ.out U18.out) (fun hHeld13 => ?_)
                    clear hK K hHeld12
                    try simp only [Act.put, List.setIfInBounds_toArray, List.set_cons_zero, List.set_cons_succ]
                    refine wpAnyH_take (i := 55) (oi := { dst := some 109, op := Op.binOp BinOp.eql 43 (Operand.tmp 106) (Operand.tmp 108) 43, type := 4, pos := "law.go:52", after := #[{ on := 52, ground := Ground.data }, { on := 54, ground := Ground.data }, { on := 48, ground := Ground.guard }], guard := some (48, true) }) (v := ?_) rfl (by as_aux_lemma => kernel_rfl) (by as_aux_lemma => kernel_rfl) (by as_aux_lemma => kernel_rfl) (fun _ _ _ h => h) (Or.inl ⟨by rfl, ?_⟩) (by assumption) ?_
                    rotate_left
                    focus (intro w hSw; (try dsimp only at hSw); go_simp; try with_reducible rfl)
                    try simp only [Act.put, List.setIfInBounds_toArray, List.set_cons_zero, List.set_cons_succ]
                    refine wpAnyH_take (i := 56) (oi := { dst := some 110, op := Op.pick (Operand.tmp 102) (Operand.tmp 109) (Operand.const (Value.bool false)), type := 4, pos := "law.go:52", after := #[{ on := 48, ground := Ground.data }, { on := 55, ground := Ground.data }], guard := none }) (v := ?_) rfl (by as_aux_lemma => kernel_rfl) (by as_aux_lemma => kernel_rfl) (by as_aux_lemma => kernel_rfl) (fun _ _ _ h => h) (Or.inl ⟨by rfl, ?_⟩) (by assumption) ?_
                    rotate_left
                    focus (intro w hSw; (try dsimp only at hSw); go_simp; try with_reducible rfl)
                    try simp only [Act.put, List.setIfInBounds_toArray, List.set_cons_zero, List.set_cons_succ]
                    as_aux_lemma =>
                      refine wpAnyH_take (i := 57) (oi := { dst := some 111, op := Op.move (Operand.tmp 110), type := 4, pos := "law.go:52", after := #[{ on := 56, ground := Ground.data }, { on := 54, ground := Ground.chain }], guard := none }) (v := ?_) rfl (by as_aux_lemma => kernel_rfl) (by as_aux_lemma => kernel_rfl) (by as_aux_lemma => kernel_rfl) (fun _ _ _ h => h) (Or.inl ⟨by rfl, ?_⟩) (by assumption) ?_
                      rotate_left
                      focus (intro w hSw; (try dsimp only at hSw); go_simp; try with_reducible rfl)
                      try simp only [Act.put, List.setIfInBounds_toArray, List.set_cons_zero, List.set_cons_succ]
                      refine wpAnyH_take (i := 58) (oi := { dst := some 112, op := Op.move (Operand.tmp 6), type := 57, pos := "law.go:52", after := #[{ on := 57, ground := Ground.guard }], guard := some (57, true) }) (v := ?_) rfl (by as_aux_lemma => kernel_rfl) (by as_aux_lemma => kernel_rfl) (by as_aux_lemma => kernel_rfl) (fun _ _ _ h => h) (Or.inl ⟨by rfl, ?_⟩) (by assumption) ?_
                      rotate_left
                      focus (intro w hSw; (try dsimp only at hSw); go_simp; try with_reducible rfl)
                      try simp only [Act.put, List.setIfInBounds_toArray, List.set_cons_zero, List.set_cons_succ]
                      refine wpAnyH_take (i := 59) (oi := { dst := some 113, op := Op.indexAddr 57 (Operand.tmp 112) (Operand.const (Value.int IntKind.i64 0)), type := 0, pos := "law.go:52", after := #[{ on := 58, ground := Ground.data }, { on := 57, ground := Ground.guard }], guard := some (57, true) }) (v := ?_) rfl (by as_aux_lemma => kernel_rfl) (by as_aux_lemma => kernel_rfl) (by as_aux_lemma => kernel_rfl) (fun _ _ _ h => h) (Or.inl ⟨by rfl, ?_⟩) (by assumption) ?_
                      rotate_left
                      focus (intro w hSw; (try dsimp only at hSw); go_simp; try with_reducible rfl)
                      try simp only [Act.put, List.setIfInBounds_toArray, List.set_cons_zero, List.set_cons_succ]
                      refine wpAnyH_take (i := 60) (oi := { dst := some 114, op := Op.fieldAddr 66 (Operand.tmp 113) 4, type := 0, pos := "law.go:52", after := #[{ on := 59, ground := Ground.data }, { on := 57, ground := Ground.guard }], guard := some (57, true) }) (v := ?_) rfl (by as_aux_lemma => kernel_rfl) (by as_aux_lemma => kernel_rfl) (by as_aux_lemma => kernel_rfl) (fun _ _ _ h => h) (Or.inl ⟨by rfl, ?_⟩) (by assumption) ?_
                      rotate_left
                      focus (intro w hSw; (try dsimp only at hSw); go_simp; try with_reducible rfl)
                      try simp only [Act.put, List.setIfInBounds_toArray, List.set_cons_zero, List.set_cons_succ]
                      refine wpAnyH_take (i := 61) (oi := { dst := some 115, op := Op.fieldAddr 64 (Operand.tmp 114) 1, type := 0, pos := "law.go:52", after := #[{ on := 60, ground := Ground.data }, { on := 57, ground := Ground.guard }], guard := some (57, true) }) (v := ?_) rfl (by as_aux_lemma => kernel_rfl) (by as_aux_lemma => kernel_rfl) (by as_aux_lemma => kernel_rfl) (fun _ _ _ h => h) (Or.inl ⟨by rfl, ?_⟩) (by assumption) ?_
                      rotate_left
                      focus (intro w hSw; (try dsimp only at hSw); go_simp; try with_reducible rfl)
                      try simp only [Act.put, List.setIfInBounds_toArray, List.set_cons_zero, List.set_cons_succ]
                      refine wpAnyH_take (i := 62) (oi := { dst := some 116, op := Op.load 43 (Operand.tmp 115), type := 43, pos := "law.go:52", after := #[{ on := 61, ground := Ground.data }, { on := 57, ground := Ground.guard }], guard := some (57, true) }) (v := ?_) rfl (by as_aux_lemma => kernel_rfl) (by as_aux_lemma => kernel_rfl) (by as_aux_lemma => kernel_rfl) (fun _ _ _ h => h) (Or.inl ⟨by rfl, ?_⟩) (by assumption) ?_
                      rotate_left
                      focus (intro w hSw; (try dsimp only at hSw); go_simp; try with_reducible rfl)
                      try simp only [Act.put, List.setIfInBounds_toArray, List.set_cons_zero, List.set_cons_succ]
                      refine wpAnyH_ready (rs := [63]) (by as_aux_lemma => kernel_rfl) (by simp) ?_
                      refine AllReadyH.cons (o := { dst := some 117, op := Op.buildSlice 34 1 #[(0, Operand.const (Value.string { data := #[98] }))], type := 34, pos := "law.go:52", after := #[{ on := 57, ground := Ground.guard }], guard := some (57, true) }) rfl (fun K hK => ?_) AllReadyH.nil
                      go_simp
                      refine hK.out _ _ (en_cells (CQ.out.later ((Below.refl _ _).alloc (Nat.le_refl _) _)) U18.out) (fun hHeld14 => ?_)
                      clear hK K hHeld13
                      try simp only [Act.put, List.setIfInBounds_toArray, List.set_cons_zero, List.set_cons_succ]
                      refine wpAnyH_ready (rs := [64]) (by as_aux_lemma => kernel_rfl) (by simp) ?_
                      refine AllReadyH.cons (o := { dst := some 118, op := Op.call { callee := Callee.value (Operand.func 20), args := #[Operand.tmp 117], argTypes := #[34] }, type := 43, pos := "law.go:52", after := #[{ on := 63, ground := Ground.data }, { on := 57, ground := Ground.chain }, { on := 57, ground := Ground.guard }], guard := some (57, true) }) rfl (fun K hK => ?_) AllReadyH.nil
                      go_simp
                      (refine (host_one 98 _).mono ?_; rintro e wl ⟨rfl, hb⟩; replace CD := Lib.hid (CD.out.trans (hb.mono CD.out.size)); replace CQ := Lib.hid (CQ.out.later hb); clear hb)
                      try go_wp2_with fail
                      refine hK.out _ _ (en_cells CQ.out U18.out) (fun hHeld15 => ?_)
                      clear hK K hHeld14
                      try simp only [Act.put, List.setIfInBounds_toArray, List.set_cons_zero, List.set_cons_succ]
                      as_aux_lemma =>
                        refine wpAnyH_take (i := 65) (oi := { dst := some 119, op := Op.binOp BinOp.eql 43 (Operand.tmp 116) (Operand.tmp 118) 43, type := 4, pos := "law.go:52", after := #[{ on := 62, ground := Ground.data }, { on := 64, ground := Ground.data }, { on := 57, ground := Ground.guard }], guard := some (57, true) }) (v := ?_) rfl (by as_aux_lemma => kernel_rfl) (by as_aux_lemma => kernel_rfl) (by as_aux_lemma => kernel_rfl) (fun _ _ _ h => h) (Or.inl ⟨by rfl, ?_⟩) (by assumption) ?_
                        rotate_left
                        focus (intro w hSw; (try dsimp only at hSw); go_simp; try with_reducible rfl)
                        try simp only [Act.put, List.setIfInBounds_toArray, List.set_cons_zero, List.set_cons_succ]
                        refine wpAnyH_take (i := 66) (oi := { dst := some 120, op := Op.pick (Operand.tmp 111) (Operand.tmp 119) (Operand.const (Value.bool false)), type := 4, pos := "law.go:52", after := #[{ on := 57, ground := Ground.data }, { on := 65, ground := Ground.data }], guard := none }) (v := ?_) rfl (by as_aux_lemma => kernel_rfl) (by as_aux_lemma => kernel_rfl) (by as_aux_lemma => kernel_rfl) (fun _ _ _ h => h) (Or.inl ⟨by rfl, ?_⟩) (by assumption) ?_
                        rotate_left
                        focus (intro w hSw; (try dsimp only at hSw); go_simp; try with_reducible rfl)
                        try simp only [Act.put, List.setIfInBounds_toArray, List.set_cons_zero, List.set_cons_succ]
                        refine wpAnyH_take (i := 67) (oi := { dst := some 121, op := Op.move (Operand.tmp 120), type := 4, pos := "law.go:52", after := #[{ on := 66, ground := Ground.data }, { on := 64, ground := Ground.chain }], guard := none }) (v := ?_) rfl (by as_aux_lemma => kernel_rfl) (by as_aux_lemma => kernel_rfl) (by as_aux_lemma => kernel_rfl) (fun _ _ _ h => h) (Or.inl ⟨by rfl, ?_⟩) (by assumption) ?_
                        rotate_left
                        focus (intro w hSw; (try dsimp only at hSw); go_simp; try with_reducible rfl)
                        try simp only [Act.put, List.setIfInBounds_toArray, List.set_cons_zero, List.set_cons_succ]
                        refine wpAnyH_take (i := 68) (oi := { dst := some 122, op := Op.move (Operand.tmp 7), type := 57, pos := "law.go:52", after := #[{ on := 67, ground := Ground.guard }], guard := some (67, true) }) (v := ?_) rfl (by as_aux_lemma => kernel_rfl) (by as_aux_lemma => kernel_rfl) (by as_aux_lemma => kernel_rfl) (fun _ _ _ h => h) (Or.inl ⟨by rfl, ?_⟩) (by assumption) ?_
                        rotate_left
                        focus (intro w hSw; (try dsimp only at hSw); go_simp; try with_reducible rfl)
                        try simp only [Act.put, List.setIfInBounds_toArray, List.set_cons_zero, List.set_cons_succ]
                        refine wpAnyH_take (i := 69) (oi := { dst := some 123, op := Op.call { callee := Callee.builtin Builtin.len, args := #[Operand.tmp 122], argTypes := #[57] }, type := 3, pos := "law.go:52", after := #[{ on := 68, ground := Ground.data }, { on := 67, ground := Ground.guard }], guard := some (67, true) }) (v := ?_) rfl (by as_aux_lemma => kernel_rfl) (by as_aux_lemma => kernel_rfl) (by as_aux_lemma => kernel_rfl) (fun _ _ _ h => h) (Or.inl ⟨by rfl, ?_⟩) (by assumption) ?_
                        rotate_left
                        focus (intro w hSw; (try dsimp only at hSw); go_simp; try with_reducible rfl)
                        try simp only [Act.put, List.setIfInBounds_toArray, List.set_cons_zero, List.set_cons_succ]
                        refine wpAnyH_take (i := 70) (oi := { dst := some 124, op := Op.binOp BinOp.eql 3 (Operand.tmp 123) (Operand.const (Value.int IntKind.i64 1)) 3, type := 4, pos := "law.go:52", after := #[{ on := 69, ground := Ground.data }, { on := 67, ground := Ground.guard }], guard := some (67, true) }) (v := ?_) rfl (by as_aux_lemma => kernel_rfl) (by as_aux_lemma => kernel_rfl) (by as_aux_lemma => kernel_rfl) (fun _ _ _ h => h) (Or.inl ⟨by rfl, ?_⟩) (by assumption) ?_
                        rotate_left
                        focus (intro w hSw; (try dsimp only at hSw); go_simp; try with_reducible rfl)
                        try simp only [Act.put, List.setIfInBounds_toArray, List.set_cons_zero, List.set_cons_succ]
                        refine wpAnyH_take (i := 71) (oi := { dst := some 125, op := Op.pick (Operand.tmp 121) (Operand.tmp 124) (Operand.const (Value.bool false)), type := 4, pos := "law.go:52", after := #[{ on := 67, ground := Ground.data }, { on := 70, ground := Ground.data }], guard := none }) (v := ?_) rfl (by as_aux_lemma => kernel_rfl) (by as_aux_lemma => kernel_rfl) (by as_aux_lemma => kernel_rfl) (fun _ _ _ h => h) (Or.inl ⟨by rfl, ?_⟩) (by assumption) ?_
                        rotate_left
                        focus (intro w hSw; (try dsimp only at hSw); go_simp; try with_reducible rfl)
                        try simp only [Act.put, List.setIfInBounds_toArray, List.set_cons_zero, List.set_cons_succ]
                        refine wpAnyH_take (i := 72) (oi := { dst := some 126, op := Op.move (Operand.tmp 125), type := 4, pos := "law.go:52", after := #[{ on := 71, ground := Ground.data }, { on := 67, ground := Ground.chain }], guard := none }) (v := ?_) rfl (by as_aux_lemma => kernel_rfl) (by as_aux_lemma => kernel_rfl) (by as_aux_lemma => kernel_rfl) (fun _ _ _ h => h) (Or.inl ⟨by rfl, ?_⟩) (by assumption) ?_
                        rotate_left
                        focus (intro w hSw; (try dsimp only at hSw); go_simp; try with_reducible rfl)
                        try simp only [Act.put, List.setIfInBounds_toArray, List.set_cons_zero, List.set_cons_succ]
                        as_aux_lemma =>
                          refine wpAnyH_take (i := 73) (oi := { dst := some 127, op := Op.load 52 (Operand.tmp 2), type := 52, pos := "law.go:52", after := #[{ on := 72, ground := Ground.guard }], guard := some (72, true) }) (v := ?_) rfl (by as_aux_lemma => kernel_rfl) (by as_aux_lemma => kernel_rfl) (by as_aux_lemma => kernel_rfl) (fun _ _ _ h => h) (Or.inl ⟨by rfl, ?_⟩) (by assumption) ?_
                          rotate_left
                          focus (intro w hSw; (try dsimp only at hSw); go_simp; try with_reducible rfl)
                          try simp only [Act.put, List.setIfInBounds_toArray, List.set_cons_zero, List.set_cons_succ]
                          refine wpAnyH_ready (rs := [74]) (by as_aux_lemma => kernel_rfl) (by simp) ?_
                          refine AllReadyH.cons (o := { dst := some 128, op := Op.buildSlice 34 2 #[(0, Operand.const (Value.string { data := #[113] })), (1, Operand.const (Value.string { data := #[120] }))], type := 34, pos := "law.go:52", after := #[{ on := 72, ground := Ground.guard }], guard := some (72, true) }) rfl (fun K hK => ?_) AllReadyH.nil
                          go_simp
                          refine hK.out _ _ (en_cells (CQ.out.later ((Below.refl _ _).alloc (Nat.le_refl _) _)) U18.out) (fun hHeld16 => ?_)
                          clear hK K hHeld15
                          try simp only [Act.put, List.setIfInBounds_toArray, List.set_cons_zero, List.set_cons_succ]
                          refine wpAnyH_ready (rs := [75]) (by as_aux_lemma => kernel_rfl) (by simp) ?_
                          refine AllReadyH.cons (o := { dst := some 129, op := Op.call { callee := Callee.value (Operand.func 20), args := #[Operand.tmp 128], argTypes := #[34] }, type := 43, pos := "law.go:52", after := #[{ on := 74, ground := Ground.data }, { on := 72, ground := Ground.chain }, { on := 72, ground := Ground.guard }], guard := some (72, true) }) rfl (fun K hK => ?_) AllReadyH.nil
                          go_simp
                          (refine (host_two 113 120 _).mono ?_; rintro e wl ⟨rfl, hb⟩; replace CD := Lib.hid (CD.out.trans (hb.mono CD.out.size)); replace CQ := Lib.hid (CQ.out.later hb); clear hb)
                          try go_wp2_with fail
                          refine hK.out _ _ (en_cells CQ.out U18.out) (fun hHeld17 => ?_)
                          clear hK K hHeld16
                          try simp only [Act.put, List.setIfInBounds_toArray, List.set_cons_zero, List.set_cons_succ]
                          refine wpAnyH_ready (rs := [76]) (by as_aux_lemma => kernel_rfl) (by simp) ?_
                          refine AllReadyH.cons (o := { dst := some 130, op := Op.call { callee := Callee.value (Operand.func 22), args := #[Operand.tmp 127, Operand.tmp 129, Operand.const (Value.slice none 0 0), Operand.const (Value.int IntKind.i64 1)], argTypes := #[52, 43, 49, 3] }, type := 57, pos := "law.go:52", after := #[{ on := 73, ground := Ground.data }, { on := 75, ground := Ground.data }, { on := 75, ground := Ground.chain }, { on := 72, ground := Ground.guard }], guard := some (72, true) }) rfl (fun K hK => ?_) AllReadyH.nil
                          go_simp
                          (refine (recs_auto0 ⟨#[1, 42, 1, 120]⟩ ⟨#[121]⟩ ByteArray.empty ⟨#[1, 113, 1, 120]⟩ 0 _ _ _ nm_qx (by decide) _ (ck_b _)).mono ?_; rintro e wl ⟨rfl, hb⟩; replace CD := Lib.hid (CD.out.trans (hb.mono CD.out.size)); replace CQ := Lib.hid (CQ.out.later hb); clear hb)
                          try go_wp2_with fail
                          refine hK.out _ _ (en_cells CQ.out U18.out) (fun hHeld18 => ?_)
                          clear hK K hHeld17
                          try simp only [Act.put, List.setIfInBounds_toArray, List.set_cons_zero, List.set_cons_succ]
                          refine wpAnyH_take (i := 77) (oi := { dst := some 131, op := Op.call { callee := Callee.builtin Builtin.len, args := #[Operand.tmp 130], argTypes := #[57] }, type := 3, pos := "law.go:52", after := #[{ on := 76, ground := Ground.data }, { on := 72, ground := Ground.guard }], guard := some (72, true) }) (v := ?_) rfl (by as_aux_lemma => kernel_rfl) (by as_aux_lemma => kernel_rfl) (by as_aux_lemma => kernel_rfl) (fun _ _ _ h => h) (Or.inl ⟨by rfl, ?_⟩) (by assumption) ?_
                          rotate_left
                          focus (intro w hSw; (try dsimp only at hSw); go_simp; try with_reducible rfl)
                          try simp only [Act.put, List.setIfInBounds_toArray, List.set_cons_zero, List.set_cons_succ]
                          refine wpAnyH_take (i := 78) (oi := { dst := some 132, op := Op.binOp BinOp.eql 3 (Operand.tmp 131) (Operand.const (Value.int IntKind.i64 0)) 3, type := 4, pos := "law.go:52", after := #[{ on := 77, ground := Ground.data }, { on := 72, ground := Ground.guard }], guard := some (72, true) }) (v := ?_) rfl (by as_aux_lemma => kernel_rfl) (by as_aux_lemma => kernel_rfl) (by as_aux_lemma => kernel_rfl) (fun _ _ _ h => h) (Or.inl ⟨by rfl, ?_⟩) (by assumption) ?_
                          rotate_left
                          focus (intro w hSw; (try dsimp only at hSw); go_simp; try with_reducible rfl)
                          try simp only [Act.put, List.setIfInBounds_toArray, List.set_cons_zero, List.set_cons_succ]
                          refine wpAnyH_take (i := 79) (oi := { dst := some 133, op := Op.pick (Operand.tmp 126) (Operand.tmp 132) (Operand.const (Value.bool false)), type := 4, pos := "law.go:52", after := #[{ on := 72, ground := Ground.data }, { on := 78, ground := Ground.data }], guard := none }) (v := ?_) rfl (by as_aux_lemma => kernel_rfl) (by as_aux_lemma => kernel_rfl) (by as_aux_lemma => kernel_rfl) (fun _ _ _ h => h) (Or.inl ⟨by rfl, ?_⟩) (by assumption) ?_
                          rotate_left
                          focus (intro w hSw; (try dsimp only at hSw); go_simp; try with_reducible rfl)
                          try simp only [Act.put, List.setIfInBounds_toArray, List.set_cons_zero, List.set_cons_succ]
                          refine wpAnyH_take (i := 80) (oi := { dst := some 134, op := Op.move (Operand.tmp 133), type := 4, pos := "law.go:52", after := #[{ on := 79, ground := Ground.data }, { on := 76, ground := Ground.chain }], guard := none }) (v := ?_) rfl (by as_aux_lemma => kernel_rfl) (by as_aux_lemma => kernel_rfl) (by as_aux_lemma => kernel_rfl) (fun _ _ _ h => h) (Or.inl ⟨by rfl, ?_⟩) (by assumption) ?_
                          rotate_left
                          focus (intro w hSw; (try dsimp only at hSw); go_simp; try with_reducible rfl)
                          try simp only [Act.put, List.setIfInBounds_toArray, List.set_cons_zero, List.set_cons_succ]
                          as_aux_lemma =>
                            refine wpAnyH_ready (rs := [81]) (by as_aux_lemma => kernel_rfl) (by simp) ?_
                            refine AllReadyH.cons (o := { dst := some 135, op := Op.call { callee := Callee.value (Operand.func 21), args := #[], argTypes := #[] }, type := 52, pos := "law.go:52", after := #[{ on := 80, ground := Ground.chain }, { on := 80, ground := Ground.guard }], guard := some (80, true) }) rfl (fun K hK => ?_) AllReadyH.nil
                            go_simp
                            (refine (fixed_any _).mono ?_; rintro e wl ⟨xa, xp, rfl, hf, hb⟩; (try have FB := Lib.hid (FA.out.later hb)); (try clear FA); have FA := Lib.hid hf; clear hf; replace CD := Lib.hid (CD.out.trans (hb.mono CD.out.size)); replace CQ := Lib.hid (CQ.out.later hb); clear hb)
                            try go_wp2_with fail
                            refine hK.out _ _ (en_cells CQ.out U18.out) (fun hHeld19 => ?_)
                            clear hK K hHeld18
                            try simp only [Act.put, List.setIfInBounds_toArray, List.set_cons_zero, List.set_cons_succ]
                            refine wpAnyH_ready (rs := [82]) (by as_aux_lemma => kernel_rfl) (by simp) ?_
                            refine AllReadyH.cons (o := { dst := some 136, op := Op.call { callee := Callee.value (Operand.func 21), args := #[], argTypes := #[] }, type := 52, pos := "law.go:52", after := #[{ on := 81, ground := Ground.chain }, { on := 80, ground := Ground.guard }], guard := some (80, true) }) rfl (fun K hK => ?_) AllReadyH.nil
                            go_simp
                            (refine (fixed_any _).mono ?_; rintro e wl ⟨xa, xp, rfl, hf, hb⟩; (try have FB := Lib.hid (FA.out.later hb)); (try clear FA); have FA := Lib.hid hf; clear hf; replace CD := Lib.hid (CD.out.trans (hb.mono CD.out.size)); replace CQ := Lib.hid (CQ.out.later hb); clear hb)
                            try go_wp2_with fail
                            refine hK.out _ _ (en_cells CQ.out U18.out) (fun hHeld20 => ?_)
                            clear hK K hHeld19
                            try simp only [Act.put, List.setIfInBounds_toArray, List.set_cons_zero, List.set_cons_succ]
                            refine wpAnyH_ready (rs := [83]) (by as_aux_lemma => kernel_rfl) (by simp) ?_
                            refine AllReadyH.cons (o := { dst := some 137, op := Op.call { callee := Callee.value (Operand.func 26), args := #[Operand.tmp 135, Operand.tmp 136], argTypes := #[52, 52] }, type := 4, pos := "law.go:52", after := #[{ on := 81, ground := Ground.data }, { on := 82, ground := Ground.data }, { on := 82, ground := Ground.chain }, { on := 80, ground := Ground.guard }], guard := some (80, true) }) rfl (fun K hK => ?_) AllReadyH.nil
                            go_simp
                            (refine (same_fix FB.out FA.out).mono ?_; rintro e wl ⟨rfl, hb⟩; replace CD := Lib.hid (CD.out.trans (hb.mono CD.out.size)); replace CQ := Lib.hid (CQ.out.later hb); clear hb)
                            try go_wp2_with fail
                            refine hK.out _ _ (en_cells CQ.out U18.out) (fun hHeld21 => ?_)
                            clear hK K hHeld20
                            try simp only [Act.put, List.setIfInBounds_toArray, List.set_cons_zero, List.set_cons_succ]
                            refine wpAnyH_take (i := 84) (oi := { dst := some 138, op := Op.pick (Operand.tmp 134) (Operand.tmp 137) (Operand.const (Value.bool false)), type := 4, pos := "law.go:52", after := #[{ on := 80, ground := Ground.data }, { on := 83, ground := Ground.data }], guard := none }) (v := ?_) rfl (by as_aux_lemma => kernel_rfl) (by as_aux_lemma => kernel_rfl) (by as_aux_lemma => kernel_rfl) (fun _ _ _ h => h) (Or.inl ⟨by rfl, ?_⟩) (by assumption) ?_
                            rotate_left
                            focus (intro w hSw; (try dsimp only at hSw); go_simp; try with_reducible rfl)
                            try simp only [Act.put, List.setIfInBounds_toArray, List.set_cons_zero, List.set_cons_succ]
                            refine wpAnyH_take (i := 85) (oi := { dst := some 139, op := Op.move (Operand.tmp 138), type := 4, pos := "law.go:52", after := #[{ on := 84, ground := Ground.data }, { on := 83, ground := Ground.chain }], guard := none }) (v := ?_) rfl (by as_aux_lemma => kernel_rfl) (by as_aux_lemma => kernel_rfl) (by as_aux_lemma => kernel_rfl) (fun _ _ _ h => h) (Or.inl ⟨by rfl, ?_⟩) (by assumption) ?_
                            rotate_left
                            focus (intro w hSw; (try dsimp only at hSw); go_simp; try with_reducible rfl)
                            try simp only [Act.put, List.setIfInBounds_toArray, List.set_cons_zero, List.set_cons_succ]
                            refine wpAnyH_take (i := 87) (oi := { dst := some 141, op := Op.load 52 (Operand.tmp 8), type := 52, pos := "law.go:52", after := #[{ on := 85, ground := Ground.guard }], guard := some (85, true) }) (v := ?_) rfl (by as_aux_lemma => kernel_rfl) (by as_aux_lemma => kernel_rfl) (by as_aux_lemma => kernel_rfl) (fun _ _ _ h => h) (Or.inl ⟨by rfl, ?_⟩) (by assumption) ?_
                            rotate_left
                            focus (intro w hSw; (try dsimp only at hSw); go_simp; try with_reducible rfl)
                            try simp only [Act.put, List.setIfInBounds_toArray, List.set_cons_zero, List.set_cons_succ]
                            refine wpAnyH_ready (rs := [86]) (by as_aux_lemma => kernel_rfl) (by simp) ?_
                            refine AllReadyH.cons (o := { dst := some 140, op := Op.call { callee := Callee.value (Operand.func 21), args := #[], argTypes := #[] }, type := 52, pos := "law.go:52", after := #[{ on := 85, ground := Ground.chain }, { on := 85, ground := Ground.guard }], guard := some (85, true) }) rfl (fun K hK => ?_) AllReadyH.nil
                            go_simp
                            (refine (fixed_any _).mono ?_; rintro e wl ⟨xa, xp, rfl, hf, hb⟩; (try have FB := Lib.hid (FA.out.later hb)); (try clear FA); have FA := Lib.hid hf; clear hf; replace CD := Lib.hid (CD.out.trans (hb.mono CD.out.size)); replace CQ := Lib.hid (CQ.out.later hb); clear hb)
                            try go_wp2_with fail
                            refine hK.out _ _ (en_cells CQ.out U18.out) (fun hHeld22 => ?_)
                            clear hK K hHeld21
                            try simp only [Act.put, List.setIfInBounds_toArray, List.set_cons_zero, List.set_cons_succ]
                            refine wpAnyH_ready (rs := [88]) (by as_aux_lemma => kernel_rfl) (by simp) ?_
                            refine AllReadyH.cons (o := { dst := some 142, op := Op.call { callee := Callee.value (Operand.func 26), args := #[Operand.tmp 140, Operand.tmp 141], argTypes := #[52, 52] }, type := 4, pos := "law.go:52", after := #[{ on := 86, ground := Ground.data }, { on := 87, ground := Ground.data }, { on := 86, ground := Ground.chain }, { on := 85, ground := Ground.guard }], guard := some (85, true) }) rfl (fun K hK => ?_) AllReadyH.nil
                            go_simp
                            (refine (same_five FA.out CQ.out.g2 UA.out CQ.out.g1 UP.out hca hcp).mono ?_; rintro e wl ⟨rfl, hb⟩; replace CD := Lib.hid (CD.out.trans (hb.mono CD.out.size)); replace CQ := Lib.hid (CQ.out.later hb); clear hb)
                            try go_wp2_with fail
                            refine hK.out _ _ (en_cells CQ.out U18.out) (fun hHeld23 => ?_)
                            clear hK K hHeld22
                            try simp only [Act.put, List.setIfInBounds_toArray, List.set_cons_zero, List.set_cons_succ]
                            as_aux_lemma =>
                              refine wpAnyH_take (i := 89) (oi := { dst := some 143, op := Op.unOp UnOp.not 4 (Operand.tmp 142), type := 4, pos := "law.go:52", after := #[{ on := 88, ground := Ground.data }, { on := 85, ground := Ground.guard }], guard := some (85, true) }) (v := ?_) rfl (by as_aux_lemma => kernel_rfl) (by as_aux_lemma => kernel_rfl) (by as_aux_lemma => kernel_rfl) (fun _ _ _ h => h) (Or.inl ⟨by rfl, ?_⟩) (by assumption) ?_
                              rotate_left
                              focus (intro w hSw; (try dsimp only at hSw); go_simp; try with_reducible rfl)
                              try simp only [Act.put, List.setIfInBounds_toArray, List.set_cons_zero, List.set_cons_succ]
                              refine wpAnyH_take (i := 90) (oi := { dst := some 144, op := Op.pick (Operand.tmp 139) (Operand.tmp 143) (Operand.const (Value.bool false)), type := 4, pos := "law.go:52", after := #[{ on := 85, ground := Ground.data }, { on := 89, ground := Ground.data }], guard := none }) (v := ?_) rfl (by as_aux_lemma => kernel_rfl) (by as_aux_lemma => kernel_rfl) (by as_aux_lemma => kernel_rfl) (fun _ _ _ h => h) (Or.inl ⟨by rfl, ?_⟩) (by assumption) ?_
                              rotate_left
                              focus (intro w hSw; (try dsimp only at hSw); go_simp; try with_reducible rfl)
                              try simp only [Act.put, List.setIfInBounds_toArray, List.set_cons_zero, List.set_cons_succ]
                              refine wpAnyH_take (i := 91) (oi := { dst := some 145, op := Op.move (Operand.tmp 144), type := 4, pos := "law.go:52", after := #[{ on := 90, ground := Ground.data }, { on := 88, ground := Ground.chain }], guard := none }) (v := ?_) rfl (by as_aux_lemma => kernel_rfl) (by as_aux_lemma => kernel_rfl) (by as_aux_lemma => kernel_rfl) (fun _ _ _ h => h) (Or.inl ⟨by rfl, ?_⟩) (by assumption) ?_
                              rotate_left
                              focus (intro w hSw; (try dsimp only at hSw); go_simp; try with_reducible rfl)
                              try simp only [Act.put, List.setIfInBounds_toArray, List.set_cons_zero, List.set_cons_succ]
                              refine wpAnyH_take (i := 92) (oi := { dst := some 146, op := Op.pick (Operand.tmp 145) (Operand.const (Value.bool true)) (Operand.const (Value.bool false)), type := 4, pos := "law.go:52", after := #[{ on := 91, ground := Ground.data }], guard := none }) (v := ?_) rfl (by as_aux_lemma => kernel_rfl) (by as_aux_lemma => kernel_rfl) (by as_aux_lemma => kernel_rfl) (fun _ _ _ h => h) (Or.inl ⟨by rfl, ?_⟩) (by assumption) ?_
                              rotate_left
                              focus (intro w hSw; (try dsimp only at hSw); go_simp; try with_reducible rfl)
                              try simp only [Act.put, List.setIfInBounds_toArray, List.set_cons_zero, List.set_cons_succ]
                              refine wpAnyH_take (i := 93) (oi := { dst := some 0, op := Op.assign (Operand.tmp 146), type := 4, pos := "law.go:52", after := ([{ on := 92, ground := Ground.data }, { on := 91, ground := Ground.chain }, { on := 0, ground := Ground.phase }, { on := 1, ground := Ground.phase }, { on := 2, ground := Ground.phase }, { on := 3, ground := Ground.phase }, { on := 4, ground := Ground.phase }, { on := 5, ground := Ground.phase }, { on := 6, ground := Ground.phase }, { on := 7, ground := Ground.phase }, { on := 8, ground := Ground.phase }, { on := 9, ground := Ground.phase }, { on := 10, ground := Ground.phase }, { on := 11, ground := Ground.phase }, { on := 12, ground := Ground.phase }, { on := 13, ground := Ground.phase }, { on := 14, ground := Ground.phase }, { on := 15, ground := Ground.phase }, { on := 16, ground := Ground.phase }, { on := 17, ground := Ground.phase }, { on := 18, ground := Ground.phase }, { on := 19, ground := Ground.phase }, { on := 20, ground := Ground.phase }, { on := 21, ground := Ground.phase }, { on := 22, ground := Ground.phase }, { on := 23, ground := Ground.phase }, { on := 24, ground := Ground.phase }, { on := 25, ground := Ground.phase }, { on := 26, ground := Ground.phase }, { on := 27, ground := Ground.phase }, { on := 28, ground := Ground.phase }, { on := 29, ground := Ground.phase }, { on := 30, ground := Ground.phase }, { on := 31, ground := Ground.phase }, { on := 32, ground := Ground.phase }, { on := 33, ground := Ground.phase }, { on := 34, ground := Ground.phase }, { on := 35, ground := Ground.phase }, { on := 36, ground := Ground.phase }, { on := 37, ground := Ground.phase }, { on := 38, ground := Ground.phase }, { on := 39, ground := Ground.phase }, { on := 40, ground := Ground.phase }, { on := 41, ground := Ground.phase }, { on := 42, ground := Ground.phase }, { on := 43, ground := Ground.phase }, { on := 44, ground := Ground.phase }].append [{ on := 45, ground := Ground.phase }, { on := 46, ground := Ground.phase }, { on := 47, ground := Ground.phase }, { on := 48, ground := Ground.phase }, { on := 49, ground := Ground.phase }, { on := 50, ground := Ground.phase }, { on := 51, ground := Ground.phase }, { on := 52, ground := Ground.phase }, { on := 53, ground := Ground.phase }, { on := 54, ground := Ground.phase }, { on := 55, ground := Ground.phase }, { on := 56, ground := Ground.phase }, { on := 57, ground := Ground.phase }, { on := 58, ground := Ground.phase }, { on := 59, ground := Ground.phase }, { on := 60, ground := Ground.phase }, { on := 61, ground := Ground.phase }, { on := 62, ground := Ground.phase }, { on := 63, ground := Ground.phase }, { on := 64, ground := Ground.phase }, { on := 65, ground := Ground.phase }, { on := 66, ground := Ground.phase }, { on := 67, ground := Ground.phase }, { on := 68, ground := Ground.phase }, { on := 69, ground := Ground.phase }, { on := 70, ground := Ground.phase }, { on := 71, ground := Ground.phase }, { on := 72, ground := Ground.phase }, { on := 73, ground := Ground.phase }, { on := 74, ground := Ground.phase }, { on := 75, ground := Ground.phase }, { on := 76, ground := Ground.phase }, { on := 77, ground := Ground.phase }, { on := 78, ground := Ground.phase }, { on := 79, ground := Ground.phase }, { on := 80, ground := Ground.phase }, { on := 81, ground := Ground.phase }, { on := 82, ground := Ground.phase }, { on := 83, ground := Ground.phase }, { on := 84, ground := Ground.phase }, { on := 85, ground := Ground.phase }, { on := 86, ground := Ground.phase }, { on := 87, ground := Ground.phase }, { on := 88, ground := Ground.phase }, { on := 89, ground := Ground.phase }, { on := 90, ground := Ground.phase }, { on := 91, ground := Ground.phase }, { on := 92, ground := Ground.phase }]).toArray, guard := none }) (v := ?_) rfl (by as_aux_lemma => kernel_rfl) (by as_aux_lemma => kernel_rfl) (by as_aux_lemma => kernel_rfl) (fun _ _ _ h => h) (Or.inl ⟨by rfl, ?_⟩) (by assumption) ?_
                              rotate_left
                              focus (intro w hSw; (try dsimp only at hSw); go_simp; try with_reducible rfl)
                              try simp only [Act.put, List.setIfInBounds_toArray, List.set_cons_zero]
                              refine wpAnyH_done (by as_aux_lemma => kernel_rfl) ?_ _
                              refine NoPanic.normal ?_
                              go_wp2_with fail
                              go_ret
                              exact ⟨rfl, CD.out⟩
      refine AllReadyH.cons (o := { dst := some 63, op := Op.buildSlice 34 1 #[(0, Operand.const (Value.string { data := #[97] }))], type := 34, pos := "law.go:52", after := #[{ on := 6, ground := Ground.guard }], guard := some (6, true) }) rfl (fun K hK => ?_) ?_
      · go_simp
        refine hK.out _ _ (en_cells (CQ.out.later ((Below.refl _ _).alloc (Nat.le_refl _) _)) U18.out) (fun hHeld3 => ?_)
        clear hK K hHeld2
        try simp only [Act.put, List.setIfInBounds_toArray, List.set_cons_zero, List.set_cons_succ]
        as_aux_lemma =>
          refine wpAnyH_ready (rs := [8]) (by as_aux_lemma => kernel_rfl) (by simp) ?_
          refine AllReadyH.cons (o := { dst := some 62, op := Op.call { callee := Callee.value (Operand.func 25), args := #[Operand.tmp 61], argTypes := #[52] }, type := 43, pos := "law.go:52", after := #[{ on := 7, ground := Ground.data }, { on := 6, ground := Ground.chain }, { on := 6, ground := Ground.guard }], guard := some (6, true) }) rfl (fun K hK => ?_) AllReadyH.nil
          go_simp
          (refine (key_A _).mono ?_; rintro e wm ⟨rfl, hb⟩; have HK := Lib.hid hb; replace CD := Lib.hid ((CD.out.alloc CD.out.size _).trans (hb.mono (Nat.le_trans CD.out.size (Nat.le_of_lt (lt_of_heap (heap_alloc_new _ _)))))); replace CQ := Lib.hid ((CQ.out.later ((Below.refl _ _).alloc (Nat.le_refl _) _)).later hb); clear hb)
          try go_wp2_with fail
          refine hK.out _ _ (en_cells CQ.out U18.out) (fun hHeld4 => ?_)
          clear hK K hHeld3
          try simp only [Act.put, List.setIfInBounds_toArray, List.set_cons_zero, List.set_cons_succ]
          refine wpAnyH_ready (rs := [10]) (by as_aux_lemma => kernel_rfl) (by simp) ?_
          refine AllReadyH.cons (o := { dst := some 64, op := Op.call { callee := Callee.value (Operand.func 20), args := #[Operand.tmp 63], argTypes := #[34] }, type := 43, pos := "law.go:52", after := #[{ on := 9, ground := Ground.data }, { on := 8, ground := Ground.chain }, { on := 6, ground := Ground.guard }], guard := some (6, true) }) rfl (fun K hK => ?_) AllReadyH.nil
          go_simp
          (refine (host_one' 97 wk.heap.size wm ((HK.out.block _ (lt_of_heap (heap_alloc_new wk _))).trans (heap_alloc_new wk _))).mono ?_; rintro e wl ⟨rfl, hb⟩; replace CD := Lib.hid (CD.out.trans (hb.mono CD.out.size)); replace CQ := Lib.hid (CQ.out.later hb); clear hb)
          try go_wp2_with fail
          refine hK.out _ _ (en_cells CQ.out U18.out) (fun hHeld5 => ?_)
          clear hK K hHeld4
          try simp only [Act.put, List.setIfInBounds_toArray, List.set_cons_zero, List.set_cons_succ]
          refine wpAnyH_take (i := 11) (oi := { dst := some 65, op := Op.binOp BinOp.eql 43 (Operand.tmp 62) (Operand.tmp 64) 43, type := 4, pos := "law.go:52", after := #[{ on := 8, ground := Ground.data }, { on := 10, ground := Ground.data }, { on := 6, ground := Ground.guard }], guard := some (6, true) }) (v := ?_) rfl (by as_aux_lemma => kernel_rfl) (by as_aux_lemma => kernel_rfl) (by as_aux_lemma => kernel_rfl) (fun _ _ _ h => h) (Or.inl ⟨by rfl, ?_⟩) (by assumption) ?_
          rotate_left
          focus (intro w hSw; (try dsimp only at hSw); go_simp; try with_reducible rfl)
          try simp only [Act.put, List.setIfInBounds_toArray, List.set_cons_zero, List.set_cons_succ]
          refine wpAnyH_take (i := 12) (oi := { dst := some 66, op := Op.pick (Operand.tmp 60) (Operand.tmp 65) (Operand.const (Value.bool false)), type := 4, pos := "law.go:52", after := #[{ on := 6, ground := Ground.data }, { on := 11, ground := Ground.data }], guard := none }) (v := ?_) rfl (by as_aux_lemma => kernel_rfl) (by as_aux_lemma => kernel_rfl) (by as_aux_lemma => kernel_rfl) (fun _ _ _ h => h) (Or.inl ⟨by rfl, ?_⟩) (by assumption) ?_
          rotate_left
          focus (intro w hSw; (try dsimp only at hSw); go_simp; try with_reducible rfl)
          try simp only [Act.put, List.setIfInBounds_toArray, List.set_cons_zero, List.set_cons_succ]
          refine wpAnyH_take (i := 13) (oi := { dst := some 67, op := Op.move (Operand.tmp 66), type := 4, pos := "law.go:52", after := #[{ on := 12, ground := Ground.data }, { on := 10, ground := Ground.chain }], guard := none }) (v := ?_) rfl (by as_aux_lemma => kernel_rfl) (by as_aux_lemma => kernel_rfl) (by as_aux_lemma => kernel_rfl) (fun _ _ _ h => h) (Or.inl ⟨by rfl, ?_⟩) (by assumption) ?_
          rotate_left
          focus (intro w hSw; (try dsimp only at hSw); go_simp; try with_reducible rfl)
          try simp only [Act.put, List.setIfInBounds_toArray, List.set_cons_zero, List.set_cons_succ]
          refine wpAnyH_take (i := 14) (oi := { dst := some 68, op := Op.load 52 (Operand.tmp 2), type := 52, pos := "law.go:52", after := #[{ on := 13, ground := Ground.guard }], guard := some (13, true) }) (v := ?_) rfl (by as_aux_lemma => kernel_rfl) (by as_aux_lemma => kernel_rfl) (by as_aux_lemma => kernel_rfl) (fun _ _ _ h => h) (Or.inl ⟨by rfl, ?_⟩) (by assumption) ?_
          rotate_left
          focus (intro w hSw; (try dsimp only at hSw); go_simp; try with_reducible rfl)
          try simp only [Act.put, List.setIfInBounds_toArray, List.set_cons_zero, List.set_cons_succ]
          refine wpAnyH_ready (rs := [15]) (by as_aux_lemma => kernel_rfl) (by simp) ?_
          refine AllReadyH.cons (o := { dst := some 69, op := Op.call { callee := Callee.value (Operand.func 24), args := #[Operand.tmp 68], argTypes := #[52] }, type := 27, pos := "law.go:52", after := #[{ on := 14, ground := Ground.data }, { on := 13, ground := Ground.chain }, { on := 13, ground := Ground.guard }], guard := some (13, true) }) rfl (fun K hK => ?_) AllReadyH.nil
          go_simp
          (refine ((ck_b _).now).mono ?_; rintro e wl ⟨rfl, hb⟩; replace CD := Lib.hid (CD.out.trans (hb.mono CD.out.size)); replace CQ := Lib.hid (CQ.out.later hb); clear hb)
          try go_wp2_with fail
          refine hK.out _ _ (en_cells CQ.out U18.out) (fun hHeld6 => ?_)
          clear hK K hHeld5
          try simp only [Act.put, List.setIfInBounds_toArray, List.set_cons_zero, List.set_cons_succ]
          refine wpAnyH_take (i := 16) (oi := { dst := some 70, op := Op.binOp BinOp.eql 27 (Operand.tmp 69) (Operand.const (Value.int IntKind.i64 0)) 27, type := 4, pos := "law.go:52", after := #[{ on := 15, ground := Ground.data }, { on := 13, ground := Ground.guard }], guard := some (13, true) }) (v := ?_) rfl (by as_aux_lemma => kernel_rfl) (by as_aux_lemma => kernel_rfl) (by as_aux_lemma => kernel_rfl) (fun _ _ _ h => h) (Or.inl ⟨by rfl, ?_⟩) (by assumption) ?_
          rotate_left
          focus (intro w hSw; (try dsimp only at hSw); go_simp; try with_reducible rfl)
          try simp only [Act.put, List.setIfInBounds_toArray, List.set_cons_zero, List.set_cons_succ]
          as_aux_lemma =>
            refine wpAnyH_take (i := 17) (oi := { dst := some 71, op := Op.pick (Operand.tmp 67) (Operand.tmp 70) (Operand.const (Value.bool false)), type := 4, pos := "law.go:52", after := #[{ on := 13, ground := Ground.data }, { on := 16, ground := Ground.data }], guard := none }) (v := ?_) rfl (by as_aux_lemma => kernel_rfl) (by as_aux_lemma => kernel_rfl) (by as_aux_lemma => kernel_rfl) (fun _ _ _ h => h) (Or.inl ⟨by rfl, ?_⟩) (by assumption) ?_
            rotate_left
            focus (intro w hSw; (try dsimp only at hSw); go_simp; try with_reducible rfl)
            try simp only [Act.put, List.setIfInBounds_toArray, List.set_cons_zero, List.set_cons_succ]
            refine wpAnyH_take (i := 18) (oi := { dst := some 72, op := Op.move (Operand.tmp 71), type := 4, pos := "law.go:52", after := #[{ on := 17, ground := Ground.data }, { on := 15, ground := Ground.chain }], guard := none }) (v := ?_) rfl (by as_aux_lemma => kernel_rfl) (by as_aux_lemma => kernel_rfl) (by as_aux_lemma => kernel_rfl) (fun _ _ _ h => h) (Or.inl ⟨by rfl, ?_⟩) (by assumption) ?_
            rotate_left
            focus (intro w hSw; (try dsimp only at hSw); go_simp; try with_reducible rfl)
            try simp only [Act.put, List.setIfInBounds_toArray, List.set_cons_zero, List.set_cons_succ]
            refine wpAnyH_take (i := 19) (oi := { dst := some 73, op := Op.load 52 (Operand.tmp 3), type := 52, pos := "law.go:52", after := #[{ on := 18, ground := Ground.guard }], guard := some (18, true) }) (v := ?_) rfl (by as_aux_lemma => kernel_rfl) (by as_aux_lemma => kernel_rfl) (by as_aux_lemma => kernel_rfl) (fun _ _ _ h => h) (Or.inl ⟨by rfl, ?_⟩) (by assumption) ?_
            rotate_left
            focus (intro w hSw; (try dsimp only at hSw); go_simp; try with_reducible rfl)
            try simp only [Act.put, List.setIfInBounds_toArray, List.set_cons_zero, List.set_cons_succ]
            refine wpAnyH_ready (rs := [20]) (by as_aux_lemma => kernel_rfl) (by simp) ?_
            refine AllReadyH.cons (o := { dst := some 74, op := Op.call { callee := Callee.value (Operand.func 24), args := #[Operand.tmp 73], argTypes := #[52] }, type := 27, pos := "law.go:52", after := #[{ on := 19, ground := Ground.data }, { on := 18, ground := Ground.chain }, { on := 18, ground := Ground.guard }], guard := some (18, true) }) rfl (fun K hK => ?_) AllReadyH.nil
            go_simp
            (refine ((ck_c _).now).mono ?_; rintro e wl ⟨rfl, hb⟩; replace CD := Lib.hid (CD.out.trans (hb.mono CD.out.size)); replace CQ := Lib.hid (CQ.out.later hb); clear hb)
            try go_wp2_with fail
            refine hK.out _ _ (en_cells CQ.out U18.out) (fun hHeld7 => ?_)
            clear hK K hHeld6
            try simp only [Act.put, List.setIfInBounds_toArray, List.set_cons_zero, List.set_cons_succ]
            refine wpAnyH_take (i := 21) (oi := { dst := some 75, op := Op.binOp BinOp.eql 27 (Operand.tmp 74) (Operand.const (Value.int IntKind.i64 2)) 27, type := 4, pos := "law.go:52", after := #[{ on := 20, ground := Ground.data }, { on := 18, ground := Ground.guard }], guard := some (18, true) }) (v := ?_) rfl (by as_aux_lemma => kernel_rfl) (by as_aux_lemma => kernel_rfl) (by as_aux_lemma => kernel_rfl) (fun _ _ _ h => h) (Or.inl ⟨by rfl, ?_⟩) (by assumption) ?_
            rotate_left
            focus (intro w hSw; (try dsimp only at hSw); go_simp; try with_reducible rfl)
            try simp only [Act.put, List.setIfInBounds_toArray, List.set_cons_zero, List.set_cons_succ]
            refine wpAnyH_take (i := 22) (oi := { dst := some 76, op := Op.pick (Operand.tmp 72) (Operand.tmp 75) (Operand.const (Value.bool false)), type := 4, pos := "law.go:52", after := #[{ on := 18, ground := Ground.data }, { on := 21, ground := Ground.data }], guard := none }) (v := ?_) rfl (by as_aux_lemma => kernel_rfl) (by as_aux_lemma => kernel_rfl) (by as_aux_lemma => kernel_rfl) (fun _ _ _ h => h) (Or.inl ⟨by rfl, ?_⟩) (by assumption) ?_
            rotate_left
            focus (intro w hSw; (try dsimp only at hSw); go_simp; try with_reducible rfl)
            try simp only [Act.put, List.setIfInBounds_toArray, List.set_cons_zero, List.set_cons_succ]
            refine wpAnyH_take (i := 23) (oi := { dst := some 77, op := Op.move (Operand.tmp 76), type := 4, pos := "law.go:52", after := #[{ on := 22, ground := Ground.data }, { on := 20, ground := Ground.chain }], guard := none }) (v := ?_) rfl (by as_aux_lemma => kernel_rfl) (by as_aux_lemma => kernel_rfl) (by as_aux_lemma => kernel_rfl) (fun _ _ _ h => h) (Or.inl ⟨by rfl, ?_⟩) (by assumption) ?_
            rotate_left
            focus (intro w hSw; (try dsimp only at hSw); go_simp; try with_reducible rfl)
            try simp only [Act.put, List.setIfInBounds_toArray, List.set_cons_zero, List.set_cons_succ]
            refine wpAnyH_take (i := 24) (oi := { dst := some 78, op := Op.load 52 (Operand.tmp 4), type := 52, pos := "law.go:52", after := #[{ on := 23, ground := Ground.guard }], guard := some (23, true) }) (v := ?_) rfl (by as_aux_lemma => kernel_rfl) (by as_aux_lemma => kernel_rfl) (by as_aux_lemma => kernel_rfl) (fun _ _ _ h => h) (Or.inl ⟨by rfl, ?_⟩) (by assumption) ?_
            rotate_left
            focus (intro w hSw; (try dsimp only at hSw); go_simp; try with_reducible rfl)
            try simp only [Act.put, List.setIfInBounds_toArray, List.set_cons_zero, List.set_cons_succ]
            as_aux_lemma =>
              refine wpAnyH_ready (rs := [25]) (by as_aux_lemma => kernel_rfl) (by simp) ?_
              refine AllReadyH.cons (o := { dst := some 79, op := Op.call { callee := Callee.value (Operand.func 24), args := #[Operand.tmp 78], argTypes := #[52] }, type := 27, pos := "law.go:52", after := #[{ on := 24, ground := Ground.data }, { on := 23, ground := Ground.chain }, { on := 23, ground := Ground.guard }], guard := some (23, true) }) rfl (fun K hK => ?_) AllReadyH.nil
              go_simp
              (refine ((ck_d CQ.out.g11 CQ.out.g8).now).mono ?_; rintro e wl ⟨rfl, hb⟩; replace CD := Lib.hid (CD.out.trans (hb.mono CD.out.size)); replace CQ := Lib.hid (CQ.out.later hb); clear hb)
              try go_wp2_with fail
              refine hK.out _ _ (en_cells CQ.out U18.out) (fun hHeld8 => ?_)
              clear hK K hHeld7
              try simp only [Act.put, List.setIfInBounds_toArray, List.set_cons_zero, List.set_cons_succ]
              refine wpAnyH_take (i := 26) (oi := { dst := some 80, op := Op.binOp BinOp.eql 27 (Operand.tmp 79) (Operand.const (Value.int IntKind.i64 2)) 27, type := 4, pos := "law.go:52", after := #[{ on := 25, ground := Ground.data }, { on := 23, ground := Ground.guard }], guard := some (23, true) }) (v := ?_) rfl (by as_aux_lemma => kernel_rfl) (by as_aux_lemma => kernel_rfl) (by as_aux_lemma => kernel_rfl) (fun _ _ _ h => h) (Or.inl ⟨by rfl, ?_⟩) (by assumption) ?_
              rotate_left
              focus (intro w hSw; (try dsimp only at hSw); go_simp; try with_reducible rfl)
              try simp only [Act.put, List.setIfInBounds_toArray, List.set_cons_zero, List.set_cons_succ]
              refine wpAnyH_take (i := 27) (oi := { dst := some 81, op := Op.pick (Operand.tmp 77) (Operand.tmp 80) (Operand.const (Value.bool false)), type := 4, pos := "law.go:52", after := #[{ on := 23, ground := Ground.data }, { on := 26, ground := Ground.data }], guard := none }) (v := ?_) rfl (by as_aux_lemma => kernel_rfl) (by as_aux_lemma => kernel_rfl) (by as_aux_lemma => kernel_rfl) (fun _ _ _ h => h) (Or.inl ⟨by rfl, ?_⟩) (by assumption) ?_
              rotate_left
              focus (intro w hSw; (try dsimp only at hSw); go_simp; try with_reducible rfl)
              try simp only [Act.put, List.setIfInBounds_toArray, List.set_cons_zero, List.set_cons_succ]
              refine wpAnyH_take (i := 28) (oi := { dst := some 82, op := Op.move (Operand.tmp 81), type := 4, pos := "law.go:52", after := #[{ on := 27, ground := Ground.data }, { on := 25, ground := Ground.chain }], guard := none }) (v := ?_) rfl (by as_aux_lemma => kernel_rfl) (by as_aux_lemma => kernel_rfl) (by as_aux_lemma => kernel_rfl) (fun _ _ _ h => h) (Or.inl ⟨by rfl, ?_⟩) (by assumption) ?_
              rotate_left
              focus (intro w hSw; (try dsimp only at hSw); go_simp; try with_reducible rfl)
              try simp only [Act.put, List.setIfInBounds_toArray, List.set_cons_zero, List.set_cons_succ]
              refine wpAnyH_take (i := 29) (oi := { dst := some 83, op := Op.load 52 (Operand.tmp 5), type := 52, pos := "law.go:52", after := #[{ on := 28, ground := Ground.guard }], guard := some (28, true) }) (v := ?_) rfl (by as_aux_lemma => kernel_rfl) (by as_aux_lemma => kernel_rfl) (by as_aux_lemma => kernel_rfl) (fun _ _ _ h => h) (Or.inl ⟨by rfl, ?_⟩) (by assumption) ?_
              rotate_left
              focus (intro w hSw; (try dsimp only at hSw); go_simp; try with_reducible rfl)
              try simp only [Act.put, List.setIfInBounds_toArray, List.set_cons_zero, List.set_cons_succ]
              refine wpAnyH_ready (rs := [30]) (by as_aux_lemma => kernel_rfl) (by simp) ?_
              refine AllReadyH.cons (o := { dst := some 84, op := Op.call { callee := Callee.value (Operand.func 24), args := #[Operand.tmp 83], argTypes := #[52] }, type := 27, pos := "law.go:52", after := #[{ on := 29, ground := Ground.data }, { on := 28, ground := Ground.chain }, { on := 28, ground := Ground.guard }], guard := some (28, true) }) rfl (fun K hK => ?_) AllReadyH.nil
              go_simp
              (refine ((ck_e CQ.out.g7 CQ.out.g6).now).mono ?_; rintro e wl ⟨rfl, hb⟩; replace CD := Lib.hid (CD.out.trans (hb.mono CD.out.size)); replace CQ := Lib.hid (CQ.out.later hb); clear hb)
              try go_wp2_with fail
              refine hK.out _ _ (en_cells CQ.out U18.out) (fun hHeld9 => ?_)
              clear hK K hHeld8
              try simp only [Act.put, List.setIfInBounds_toArray, List.set_cons_zero, List.set_cons_succ]
              refine wpAnyH_take (i := 31) (oi := { dst := some 85, op := Op.binOp BinOp.eql 27 (Operand.tmp 84) (Operand.const (Value.int IntKind.i64 2)) 27, type := 4, pos := "law.go:52", after := #[{ on := 30, ground := Ground.data }, { on := 28, ground := Ground.guard }], guard := some (28, true) }) (v := ?_) rfl (by as_aux_lemma => kernel_rfl) (by as_aux_lemma => kernel_rfl) (by as_aux_lemma => kernel_rfl) (fun _ _ _ h => h) (Or.inl ⟨by rfl, ?_⟩) (by assumption) ?_
              rotate_left
              focus (intro w hSw; (try dsimp only at hSw); go_simp; try with_reducible rfl)
              try simp only [Act.put, List.setIfInBounds_toArray, List.set_cons_zero, List.set_cons_succ]
              refine wpAnyH_take (i := 32) (oi := { dst := some 86, op := Op.pick (Operand.tmp 82) (Operand.tmp 85) (Operand.const (Value.bool false)), type := 4, pos := "law.go:52", after := #[{ on := 28, ground := Ground.data }, { on := 31, ground := Ground.data }], guard := none }) (v := ?_) rfl (by as_aux_lemma => kernel_rfl) (by as_aux_lemma => kernel_rfl) (by as_aux_lemma => kernel_rfl) (fun _ _ _ h => h) (Or.inl ⟨by rfl, ?_⟩) (by assumption) ?_
              rotate_left
              focus (intro w hSw; (try dsimp only at hSw); go_simp; try with_reducible rfl)
              try simp only [Act.put, List.setIfInBounds_toArray, List.set_cons_zero, List.set_cons_succ]
              as_aux_lemma =>
                refine wpAnyH_take (i := 33) (oi := { dst := some 87, op := Op.move (Operand.tmp 86), type := 4, pos := "law.go:52", after := #[{ on := 32, ground := Ground.data }, { on := 30, ground := Ground.chain }], guard := none }) (v := ?_) rfl (by as_aux_lemma => kernel_rfl) (by as_aux_lemma => kernel_rfl) (by as_aux_lemma => kernel_rfl) (fun _ _ _ h => h) (Or.inl ⟨by rfl, ?_⟩) (by assumption) ?_
                rotate_left
                focus (intro w hSw; (try dsimp only at hSw); go_simp; try with_reducible rfl)
                try simp only [Act.put, List.setIfInBounds_toArray, List.set_cons_zero, List.set_cons_succ]
                refine wpAnyH_take (i := 34) (oi := { dst := some 88, op := Op.build 52 #[], type := 52, pos := "law.go:52", after := #[{ on := 33, ground := Ground.guard }], guard := some (33, true) }) (v := ?_) rfl (by as_aux_lemma => kernel_rfl) (by as_aux_lemma => kernel_rfl) (by as_aux_lemma => kernel_rfl) (fun _ _ _ h => h) (Or.inl ⟨by rfl, ?_⟩) (by assumption) ?_
                rotate_left
                focus (intro w hSw; (try dsimp only at hSw); go_simp; try with_reducible rfl)
                try simp only [Act.put, List.setIfInBounds_toArray, List.set_cons_zero, List.set_cons_succ]
                refine wpAnyH_ready (rs := [35]) (by as_aux_lemma => kernel_rfl) (by simp) ?_
                refine AllReadyH.cons (o := { dst := some 89, op := Op.call { callee := Callee.value (Operand.func 24), args := #[Operand.tmp 88], argTypes := #[52] }, type := 27, pos := "law.go:52", after := #[{ on := 34, ground := Ground.data }, { on := 33, ground := Ground.chain }, { on := 33, ground := Ground.guard }], guard := some (33, true) }) rfl (fun K hK => ?_) AllReadyH.nil
                go_simp
                (refine ((ck_0 _).now).mono ?_; rintro e wl ⟨rfl, hb⟩; replace CD := Lib.hid (CD.out.trans (hb.mono CD.out.size)); replace CQ := Lib.hid (CQ.out.later hb); clear hb)
                try go_wp2_with fail
                refine hK.out _ _ (en_cells CQ.out U18.out) (fun hHeld10 => ?_)
                clear hK K hHeld9
                try simp only [Act.put, List.setIfInBounds_toArray, List.set_cons_zero, List.set_cons_succ]
                refine wpAnyH_take (i := 36) (oi := { dst := some 90, op := Op.binOp BinOp.eql 27 (Operand.tmp 89) (Operand.const (Value.int IntKind.i64 2)) 27, type := 4, pos := "law.go:52", after := #[{ on := 35, ground := Ground.data }, { on := 33, ground := Ground.guard }], guard := some (33, true) }) (v := ?_) rfl (by as_aux_lemma => kernel_rfl) (by as_aux_lemma => kernel_rfl) (by as_aux_lemma => kernel_rfl) (fun _ _ _ h => h) (Or.inl ⟨by rfl, ?_⟩) (by assumption) ?_
                rotate_left
                focus (intro w hSw; (try dsimp only at hSw); go_simp; try with_reducible rfl)
                try simp only [Act.put, List.setIfInBounds_toArray, List.set_cons_zero, List.set_cons_succ]
                refine wpAnyH_take (i := 37) (oi := { dst := some 91, op := Op.pick (Operand.tmp 87) (Operand.tmp 90) (Operand.const (Value.bool false)), type := 4, pos := "law.go:52", after := #[{ on := 33, ground := Ground.data }, { on := 36, ground := Ground.data }], guard := none }) (v := ?_) rfl (by as_aux_lemma => kernel_rfl) (by as_aux_lemma => kernel_rfl) (by as_aux_lemma => kernel_rfl) (fun _ _ _ h => h) (Or.inl ⟨by rfl, ?_⟩) (by assumption) ?_
                rotate_left
                focus (intro w hSw; (try dsimp only at hSw); go_simp; try with_reducible rfl)
                try simp only [Act.put, List.setIfInBounds_toArray, List.set_cons_zero, List.set_cons_succ]
                refine wpAnyH_take (i := 38) (oi := { dst := some 92, op := Op.move (Operand.tmp 91), type := 4, pos := "law.go:52", after := #[{ on := 37, ground := Ground.data }, { on := 35, ground := Ground.chain }], guard := none }) (v := ?_) rfl (by as_aux_lemma => kernel_rfl) (by as_aux_lemma => kernel_rfl) (by as_aux_lemma => kernel_rfl) (fun _ _ _ h => h) (Or.inl ⟨by rfl, ?_⟩) (by assumption) ?_
                rotate_left
                focus (intro w hSw; (try dsimp only at hSw); go_simp; try with_reducible rfl)
                try simp only [Act.put, List.setIfInBounds_toArray, List.set_cons_zero, List.set_cons_succ]
                refine wpAnyH_take (i := 39) (oi := { dst := some 93, op := Op.build 52 #[(0, Operand.const (Value.string { data := #[120] }))], type := 52, pos := "law.go:52", after := #[{ on := 38, ground := Ground.guard }], guard := some (38, true) }) (v := ?_) rfl (by as_aux_lemma => kernel_rfl) (by as_aux_lemma => kernel_rfl) (by as_aux_lemma => kernel_rfl) (fun _ _ _ h => h) (Or.inl ⟨by rfl, ?_⟩) (by assumption) ?_
                rotate_left
                focus (intro w hSw; (try dsimp only at hSw); go_simp; try with_reducible rfl)
                try simp only [Act.put, List.setIfInBounds_toArray, List.set_cons_zero, List.set_cons_succ]
                refine wpAnyH_ready (rs := [40]) (by as_aux_lemma => kernel_rfl) (by simp) ?_
                refine AllReadyH.cons (o := { dst := some 94, op := Op.call { callee := Callee.value (Operand.func 24), args := #[Operand.tmp 93], argTypes := #[52] }, type := 27, pos := "law.go:52", after := #[{ on := 39, ground := Ground.data }, { on := 38, ground := Ground.chain }, { on := 38, ground := Ground.guard }], guard := some (38, true) }) rfl (fun K hK => ?_) AllReadyH.nil
                go_simp
                (refine ((ck_x _).now).mono ?_; rintro e wl ⟨rfl, hb⟩; replace CD := Lib.hid (CD.out.trans (hb.mono CD.out.size)); replace CQ := Lib.hid (CQ.out.later hb); clear hb)
                try go_wp2_with fail
                refine hK.out _ _ (en_cells CQ.out U18.out) (fun hHeld11 => ?_)
                clear hK K hHeld10
                try simp only [Act.put, List.setIfInBounds_toArray, List.set_cons_zero, List.set_cons_succ]
                as_aux_lemma =>
                  refine wpAnyH_take (i := 41) (oi := { dst := some 95, op := Op.binOp BinOp.eql 27 (Operand.tmp 94) (Operand.const (Value.int IntKind.i64 4)) 27, type := 4, pos := "law.go:52", after := #[{ on := 40, ground := Ground.data }, { on := 38, ground := Ground.guard }], guard := some (38, true) }) (v := ?_) rfl (by as_aux_lemma => kernel_rfl) (by as_aux_lemma => kernel_rfl) (by as_aux_lemma => kernel_rfl) (fun _ _ _ h => h) (Or.inl ⟨by rfl, ?_⟩) (by assumption) ?_
                  rotate_left
                  focus (intro w hSw; (try dsimp only at hSw); go_simp; try with_reducible rfl)
                  try simp only [Act.put, List.setIfInBounds_toArray, List.set_cons_zero, List.set_cons_succ]
                  refine wpAnyH_take (i := 42) (oi := { dst := some 96, op := Op.pick (Operand.tmp 92) (Operand.tmp 95) (Operand.const (Value.bool false)), type := 4, pos := "law.go:52", after := #[{ on := 38, ground := Ground.data }, { on := 41, ground := Ground.data }], guard := none }) (v := ?_) rfl (by as_aux_lemma => kernel_rfl) (by as_aux_lemma => kernel_rfl) (by as_aux_lemma => kernel_rfl) (fun _ _ _ h => h) (Or.inl ⟨by rfl, ?_⟩) (by assumption) ?_
                  rotate_left
                  focus (intro w hSw; (try dsimp only at hSw); go_simp; try with_reducible rfl)
                  try simp only [Act.put, List.setIfInBounds_toArray, List.set_cons_zero, List.set_cons_succ]
                  refine wpAnyH_take (i := 43) (oi := { dst := some 97, op := Op.move (Operand.tmp 96), type := 4, pos := "law.go:52", after := #[{ on := 42, ground := Ground.data }, { on := 40, ground := Ground.chain }], guard := none }) (v := ?_) rfl (by as_aux_lemma => kernel_rfl) (by as_aux_lemma => kernel_rfl) (by as_aux_lemma => kernel_rfl) (fun _ _ _ h => h) (Or.inl ⟨by rfl, ?_⟩) (by assumption) ?_
                  rotate_left
                  focus (intro w hSw; (try dsimp only at hSw); go_simp; try with_reducible rfl)
                  try simp only [Act.put, List.setIfInBounds_toArray, List.set_cons_zero, List.set_cons_succ]
                  refine wpAnyH_take (i := 44) (oi := { dst := some 98, op := Op.move (Operand.tmp 6), type := 57, pos := "law.go:52", after := #[{ on := 43, ground := Ground.guard }], guard := some (43, true) }) (v := ?_) rfl (by as_aux_lemma => kernel_rfl) (by as_aux_lemma => kernel_rfl) (by as_aux_lemma => kernel_rfl) (fun _ _ _ h => h) (Or.inl ⟨by rfl, ?_⟩) (by assumption) ?_
                  rotate_left
                  focus (intro w hSw; (try dsimp only at hSw); go_simp; try with_reducible rfl)
                  try simp only [Act.put, List.setIfInBounds_toArray, List.set_cons_zero, List.set_cons_succ]
                  refine wpAnyH_take (i := 45) (oi := { dst := some 99, op := Op.call { callee := Callee.builtin Builtin.len, args := #[Operand.tmp 98], argTypes := #[57] }, type := 3, pos := "law.go:52", after := #[{ on := 44, ground := Ground.data }, { on := 43, ground := Ground.guard }], guard := some (43, true) }) (v := ?_) rfl (by as_aux_lemma => kernel_rfl) (by as_aux_lemma => kernel_rfl) (by as_aux_lemma => kernel_rfl) (fun _ _ _ h => h) (Or.inl ⟨by rfl, ?_⟩) (by assumption) ?_
                  rotate_left
                  focus (intro w hSw; (try dsimp only at hSw); go_simp; try with_reducible rfl)
                  try simp only [Act.put, List.setIfInBounds_toArray, List.set_cons_zero, List.set_cons_succ]
                  refine wpAnyH_take (i := 46) (oi := { dst := some 100, op := Op.binOp BinOp.eql 3 (Operand.tmp 99) (Operand.const (Value.int IntKind.i64 1)) 3, type := 4, pos := "law.go:52", after := #[{ on := 45, ground := Ground.data }, { on := 43, ground := Ground.guard }], guard := some (43, true) }) (v := ?_) rfl (by as_aux_lemma => kernel_rfl) (by as_aux_lemma => kernel_rfl) (by as_aux_lemma => kernel_rfl) (fun _ _ _ h => h) (Or.inl ⟨by rfl, ?_⟩) (by assumption) ?_
                  rotate_left
                  focus (intro w hSw; (try dsimp only at hSw); go_simp; try with_reducible rfl)
                  try simp only [Act.put, List.setIfInBounds_toArray, List.set_cons_zero, List.set_cons_succ]
                  refine wpAnyH_take (i := 47) (oi := { dst := some 101, op := Op.pick (Operand.tmp 97) (Operand.tmp 100) (Operand.const (Value.bool false)), type := 4, pos := "law.go:52", after := #[{ on := 43, ground := Ground.data }, { on := 46, ground := Ground.data }], guard := none }) (v := ?_) rfl (by as_aux_lemma => kernel_rfl) (by as_aux_lemma => kernel_rfl) (by as_aux_lemma => kernel_rfl) (fun _ _ _ h => h) (Or.inl ⟨by rfl, ?_⟩) (by assumption) ?_
                  rotate_left
                  focus (intro w hSw; (try dsimp only at hSw); go_simp; try with_reducible rfl)
                  try simp only [Act.put, List.setIfInBounds_toArray, List.set_cons_zero, List.set_cons_succ]
                  refine wpAnyH_take (i := 48) (oi := { dst := some 102, op := Op.move (Operand.tmp 101), type := 4, pos := "law.go:52", after := #[{ on := 47, ground := Ground.data }, { on := 43, ground := Ground.chain }], guard := none }) (v := ?_) rfl (by as_aux_lemma => kernel_rfl) (by as_aux_lemma => kernel_rfl) (by as_aux_lemma => kernel_rfl) (fun _ _ _ h => h) (Or.inl ⟨by rfl, ?_⟩) (by assumption) ?_
                  rotate_left
                  focus (intro w hSw; (try dsimp only at hSw); go_simp; try with_reducible rfl)
                  try simp only [Act.put, List.setIfInBounds_toArray, List.set_cons_zero, List.set_cons_succ]
                  as_aux_lemma =>
                    refine wpAnyH_take (i := 49) (oi := { dst := some 103, op := Op.move (Operand.tmp 6), type := 57, pos := "law.go:52", after := #[{ on := 48, ground := Ground.guard }], guard := some (48, true) }) (v := ?_) rfl (by as_aux_lemma => kernel_rfl) (by as_aux_lemma => kernel_rfl) (by as_aux_lemma => kernel_rfl) (fun _ _ _ h => h) (Or.inl ⟨by rfl, ?_⟩) (by assumption) ?_
                    rotate_left
                    focus (intro w hSw; (try dsimp only at hSw); go_simp; try with_reducible rfl)
                    try simp only [Act.put, List.setIfInBounds_toArray, List.set_cons_zero, List.set_cons_succ]
                    refine wpAnyH_take (i := 50) (oi := { dst := some 104, op := Op.indexAddr 57 (Operand.tmp 103) (Operand.const (Value.int IntKind.i64 0)), type := 0, pos := "law.go:52", after := #[{ on := 49, ground := Ground.data }, { on := 48, ground := Ground.guard }], guard := some (48, true) }) (v := ?_) rfl (by as_aux_lemma => kernel_rfl) (by as_aux_lemma => kernel_rfl) (by as_aux_lemma => kernel_rfl) (fun _ _ _ h => h) (Or.inl ⟨by rfl, ?_⟩) (by assumption) ?_
                    rotate_left
                    focus (intro w hSw; (try dsimp only at hSw); go_simp; try with_reducible rfl)
                    try simp only [Act.put, List.setIfInBounds_toArray, List.set_cons_zero, List.set_cons_succ]
                    refine wpAnyH_take (i := 51) (oi := { dst := some 105, op := Op.fieldAddr 66 (Operand.tmp 104) 0, type := 0, pos := "law.go:52", after := #[{ on := 50, ground := Ground.data }, { on := 48, ground := Ground.guard }], guard := some (48, true) }) (v := ?_) rfl (by as_aux_lemma => kernel_rfl) (by as_aux_lemma => kernel_rfl) (by as_aux_lemma => kernel_rfl) (fun _ _ _ h => h) (Or.inl ⟨by rfl, ?_⟩) (by assumption) ?_
                    rotate_left
                    focus (intro w hSw; (try dsimp only at hSw); go_simp; try with_reducible rfl)
                    try simp only [Act.put, List.setIfInBounds_toArray, List.set_cons_zero, List.set_cons_succ]
                    refine wpAnyH_take (i := 52) (oi := { dst := some 106, op := Op.load 43 (Operand.tmp 105), type := 43, pos := "law.go:52", after := #[{ on := 51, ground := Ground.data }, { on := 48, ground := Ground.guard }], guard := some (48, true) }) (v := ?_) rfl (by as_aux_lemma => kernel_rfl) (by as_aux_lemma => kernel_rfl) (by as_aux_lemma => kernel_rfl) (fun _ _ _ h => h) (Or.inl ⟨by rfl, ?_⟩) (by assumption) ?_
                    rotate_left
                    focus (intro w hSw; (try dsimp only at hSw); go_simp; try with_reducible rfl)
                    try simp only [Act.put, List.setIfInBounds_toArray, List.set_cons_zero, List.set_cons_succ]
                    refine wpAnyH_ready (rs := [53]) (by as_aux_lemma => kernel_rfl) (by simp) ?_
                    refine AllReadyH.cons (o := { dst := some 107, op := Op.buildSlice 34 1 #[(0, Operand.const (Value.string { data := #[113] }))], type := 34, pos := "law.go:52", after := #[{ on := 48, ground := Ground.guard }], guard := some (48, true) }) rfl (fun K hK => ?_) AllReadyH.nil
                    go_simp
                    refine hK.out _ _ (en_cells (CQ.out.later ((Below.refl _ _).alloc (Nat.le_refl _) _)) U18.out) (fun hHeld12 => ?_)
                    clear hK K hHeld11
                    try simp only [Act.put, List.setIfInBounds_toArray, List.set_cons_zero, List.set_cons_succ]
                    refine wpAnyH_ready (rs := [54]) (by as_aux_lemma => kernel_rfl) (by simp) ?_
                    refine AllReadyH.cons (o := { dst := some 108, op := Op.call { callee := Callee.value (Operand.func 20), args := #[Operand.tmp 107], argTypes := #[34] }, type := 43, pos := "law.go:52", after := #[{ on := 53, ground := Ground.data }, { on := 48, ground := Ground.chain }, { on := 48, ground := Ground.guard }], guard := some (48, true) }) rfl (fun K hK => ?_) AllReadyH.nil
                    go_simp
                    (refine (host_one 113 _).mono ?_; rintro e wl ⟨rfl, hb⟩; replace CD := Lib.hid (CD.out.trans (hb.mono CD.out.size)); replace CQ := Lib.hid (CQ.out.later hb); clear hb)
                    try go_wp2_with fail
                    refine hK.out _ _ (en_cells CQ.out U18.out) (fun hHeld13 => ?_)
                    clear hK K hHeld12
                    try simp only [Act.put, List.setIfInBounds_toArray, List.set_cons_zero, List.set_cons_succ]
                    refine wpAnyH_take (i := 55) (oi := { dst := some 109, op := Op.binOp BinOp.eql 43 (Operand.tmp 106) (Operand.tmp 108) 43, type := 4, pos := "law.go:52", after := #[{ on := 52, ground := Ground.data }, { on := 54, ground := Ground.data }, { on := 48, ground := Ground.guard }], guard := some (48, true) }) (v := ?_) rfl (by as_aux_lemma => kernel_rfl) (by as_aux_lemma => kernel_rfl) (by as_aux_lemma => kernel_rfl) (fun _ _ _ h => h) (Or.inl ⟨by rfl, ?_⟩) (by assumption) ?_
                    rotate_left
                    focus (intro w hSw; (try dsimp only at hSw); go_simp; try with_reducible rfl)
                    try simp only [Act.put, List.setIfInBounds_toArray, List.set_cons_zero, List.set_cons_succ]
                    refine wpAnyH_take (i := 56) (oi := { dst := some 110, op := Op.pick (Operand.tmp 102) (Operand.tmp 109) (Operand.const (Value.bool false)), type := 4, pos := "law.go:52", after := #[{ on := 48, ground := Ground.data }, { on := 55, ground := Ground.data }], guard := none }) (v := ?_) rfl (by as_aux_lemma => kernel_rfl) (by as_aux_lemma => kernel_rfl) (by as_aux_lemma => kernel_rfl) (fun _ _ _ h => h) (Or.inl ⟨by rfl, ?_⟩) (by assumption) ?_
                    rotate_left
                    focus (intro w hSw; (try dsimp only at hSw); go_simp; try with_reducible rfl)
                    try simp only [Act.put, List.setIfInBounds_toArray, List.set_cons_zero, List.set_cons_succ]
                    as_aux_lemma =>
                      refine wpAnyH_take (i := 57) (oi := { dst := some 111, op := Op.move (Operand.tmp 110), type := 4, pos := "law.go:52", after := #[{ on := 56, ground := Ground.data }, { on := 54, ground := Ground.chain }], guard := none }) (v := ?_) rfl (by as_aux_lemma => kernel_rfl) (by as_aux_lemma => kernel_rfl) (by as_aux_lemma => kernel_rfl) (fun _ _ _ h => h) (Or.inl ⟨by rfl, ?_⟩) (by assumption) ?_
                      rotate_left
                      focus (intro w hSw; (try dsimp only at hSw); go_simp; try with_reducible rfl)
                      try simp only [Act.put, List.setIfInBounds_toArray, List.set_cons_zero, List.set_cons_succ]
                      refine wpAnyH_take (i := 58) (oi := { dst := some 112, op := Op.move (Operand.tmp 6), type := 57, pos := "law.go:52", after := #[{ on := 57, ground := Ground.guard }], guard := some (57, true) }) (v := ?_) rfl (by as_aux_lemma => kernel_rfl) (by as_aux_lemma => kernel_rfl) (by as_aux_lemma => kernel_rfl) (fun _ _ _ h => h) (Or.inl ⟨by rfl, ?_⟩) (by assumption) ?_
                      rotate_left
                      focus (intro w hSw; (try dsimp only at hSw); go_simp; try with_reducible rfl)
                      try simp only [Act.put, List.setIfInBounds_toArray, List.set_cons_zero, List.set_cons_succ]
                      refine wpAnyH_take (i := 59) (oi := { dst := some 113, op := Op.indexAddr 57 (Operand.tmp 112) (Operand.const (Value.int IntKind.i64 0)), type := 0, pos := "law.go:52", after := #[{ on := 58, ground := Ground.data }, { on := 57, ground := Ground.guard }], guard := some (57, true) }) (v := ?_) rfl (by as_aux_lemma => kernel_rfl) (by as_aux_lemma => kernel_rfl) (by as_aux_lemma => kernel_rfl) (fun _ _ _ h => h) (Or.inl ⟨by rfl, ?_⟩) (by assumption) ?_
                      rotate_left
                      focus (intro w hSw; (try dsimp only at hSw); go_simp; try with_reducible rfl)
                      try simp only [Act.put, List.setIfInBounds_toArray, List.set_cons_zero, List.set_cons_succ]
                      refine wpAnyH_take (i := 60) (oi := { dst := some 114, op := Op.fieldAddr 66 (Operand.tmp 113) 4, type := 0, pos := "law.go:52", after := #[{ on := 59, ground := Ground.data }, { on := 57, ground := Ground.guard }], guard := some (57, true) }) (v := ?_) rfl (by as_aux_lemma => kernel_rfl) (by as_aux_lemma => kernel_rfl) (by as_aux_lemma => kernel_rfl) (fun _ _ _ h => h) (Or.inl ⟨by rfl, ?_⟩) (by assumption) ?_
                      rotate_left
                      focus (intro w hSw; (try dsimp only at hSw); go_simp; try with_reducible rfl)
                      try simp only [Act.put, List.setIfInBounds_toArray, List.set_cons_zero, List.set_cons_succ]
                      refine wpAnyH_take (i := 61) (oi := { dst := some 115, op := Op.fieldAddr 64 (Operand.tmp 114) 1, type := 0, pos := "law.go:52", after := #[{ on := 60, ground := Ground.data }, { on := 57, ground := Ground.guard }], guard := some (57, true) }) (v := ?_) rfl (by as_aux_lemma => kernel_rfl) (by as_aux_lemma => kernel_rfl) (by as_aux_lemma => kernel_rfl) (fun _ _ _ h => h) (Or.inl ⟨by rfl, ?_⟩) (by assumption) ?_
                      rotate_left
                      focus (intro w hSw; (try dsimp only at hSw); go_simp; try with_reducible rfl)
                      try simp only [Act.put, List.setIfInBounds_toArray, List.set_cons_zero, List.set_cons_succ]
                      refine wpAnyH_take (i := 62) (oi := { dst := some 116, op := Op.load 43 (Operand.tmp 115), type := 43, pos := "law.go:52", after := #[{ on := 61, ground := Ground.data }, { on := 57, ground := Ground.guard }], guard := some (57, true) }) (v := ?_) rfl (by as_aux_lemma => kernel_rfl) (by as_aux_lemma => kernel_rfl) (by as_aux_lemma => kernel_rfl) (fun _ _ _ h => h) (Or.inl ⟨by rfl, ?_⟩) (by assumption) ?_
                      rotate_left
                      focus (intro w hSw; (try dsimp only at hSw); go_simp; try with_reducible rfl)
                      try simp only [Act.put, List.setIfInBounds_toArray, List.set_cons_zero, List.set_cons_succ]
                      refine wpAnyH_ready (rs := [63]) (by as_aux_lemma => kernel_rfl) (by simp) ?_
                      refine AllReadyH.cons (o := { dst := some 117, op := Op.buildSlice 34 1 #[(0, Operand.const (Value.string { data := #[98] }))], type := 34, pos := "law.go:52", after := #[{ on := 57, ground := Ground.guard }], guard := some (57, true) }) rfl (fun K hK => ?_) AllReadyH.nil
                      go_simp
                      refine hK.out _ _ (en_cells (CQ.out.later ((Below.refl _ _).alloc (Nat.le_refl _) _)) U18.out) (fun hHeld14 => ?_)
                      clear hK K hHeld13
                      try simp only [Act.put, List.setIfInBounds_toArray, List.set_cons_zero, List.set_cons_succ]
                      refine wpAnyH_ready (rs := [64]) (by as_aux_lemma => kernel_rfl) (by simp) ?_
                      refine AllReadyH.cons (o := { dst := some 118, op := Op.call { callee := Callee.value (Operand.func 20), args := #[Operand.tmp 117], argTypes := #[34] }, type := 43, pos := "law.go:52", after := #[{ on := 63, ground := Ground.data }, { on := 57, ground := Ground.chain }, { on := 57, ground := Ground.guard }], guard := some (57, true) }) rfl (fun K hK => ?_) AllReadyH.nil
                      go_simp
                      (refine (host_one 98 _).mono ?_; rintro e wl ⟨rfl, hb⟩; replace CD := Lib.hid (CD.out.trans (hb.mono CD.out.size)); replace CQ := Lib.hid (CQ.out.later hb); clear hb)
                      try go_wp2_with fail
                      refine hK.out _ _ (en_cells CQ.out U18.out) (fun hHeld15 => ?_)
                      clear hK K hHeld14
                      try simp only [Act.put, List.setIfInBounds_toArray, List.set_cons_zero, List.set_cons_succ]
                      as_aux_lemma =>
                        refine wpAnyH_take (i := 65) (oi := { dst := some 119, op := Op.binOp BinOp.eql 43 (Operand.tmp 116) (Operand.tmp 118) 43, type := 4, pos := "law.go:52", after := #[{ on := 62, ground := Ground.data }, { on := 64, ground := Ground.data }, { on := 57, ground := Ground.guard }], guard := some (57, true) }) (v := ?_) rfl (by as_aux_lemma => kernel_rfl) (by as_aux_lemma => kernel_rfl) (by as_aux_lemma => kernel_rfl) (fun _ _ _ h => h) (Or.inl ⟨by rfl, ?_⟩) (by assumption) ?_
                        rotate_left
                        focus (intro w hSw; (try dsimp only at hSw); go_simp; try with_reducible rfl)
                        try simp only [Act.put, List.setIfInBounds_toArray, List.set_cons_zero, List.set_cons_succ]
                        refine wpAnyH_take (i := 66) (oi := { dst := some 120, op := Op.pick (Operand.tmp 111) (Operand.tmp 119) (Operand.const (Value.bool false)), type := 4, pos := "law.go:52", after := #[{ on := 57, ground := Ground.data }, { on := 65, ground := Ground.data }], guard := none }) (v := ?_) rfl (by as_aux_lemma => kernel_rfl) (by as_aux_lemma => kernel_rfl) (by as_aux_lemma => kernel_rfl) (fun _ _ _ h => h) (Or.inl ⟨by rfl, ?_⟩) (by assumption) ?_
                        rotate_left
                        focus (intro w hSw; (try dsimp only at hSw); go_simp; try with_reducible rfl)
                        try simp only [Act.put, List.setIfInBounds_toArray, List.set_cons_zero, List.set_cons_succ]
                        refine wpAnyH_take (i := 67) (oi := { dst := some 121, op := Op.move (Operand.tmp 120), type := 4, pos := "law.go:52", after := #[{ on := 66, ground := Ground.data }, { on := 64, ground := Ground.chain }], guard := none }) (v := ?_) rfl (by as_aux_lemma => kernel_rfl) (by as_aux_lemma => kernel_rfl) (by as_aux_lemma => kernel_rfl) (fun _ _ _ h => h) (Or.inl ⟨by rfl, ?_⟩) (by assumption) ?_
                        rotate_left
                        focus (intro w hSw; (try dsimp only at hSw); go_simp; try with_reducible rfl)
                        try simp only [Act.put, List.setIfInBounds_toArray, List.set_cons_zero, List.set_cons_succ]
                        refine wpAnyH_take (i := 68) (oi := { dst := some 122, op := Op.move (Operand.tmp 7), type := 57, pos := "law.go:52", after := #[{ on := 67, ground := Ground.guard }], guard := some (67, true) }) (v := ?_) rfl (by as_aux_lemma => kernel_rfl) (by as_aux_lemma => kernel_rfl) (by as_aux_lemma => kernel_rfl) (fun _ _ _ h => h) (Or.inl ⟨by rfl, ?_⟩) (by assumption) ?_
                        rotate_left
                        focus (intro w hSw; (try dsimp only at hSw); go_simp; try with_reducible rfl)
                        try simp only [Act.put, List.setIfInBounds_toArray, List.set_cons_zero, List.set_cons_succ]
                        refine wpAnyH_take (i := 69) (oi := { dst := some 123, op := Op.call { callee := Callee.builtin Builtin.len, args := #[Operand.tmp 122], argTypes := #[57] }, type := 3, pos := "law.go:52", after := #[{ on := 68, ground := Ground.data }, { on := 67, ground := Ground.guard }], guard := some (67, true) }) (v := ?_) rfl (by as_aux_lemma => kernel_rfl) (by as_aux_lemma => kernel_rfl) (by as_aux_lemma => kernel_rfl) (fun _ _ _ h => h) (Or.inl ⟨by rfl, ?_⟩) (by assumption) ?_
                        rotate_left
                        focus (intro w hSw; (try dsimp only at hSw); go_simp; try with_reducible rfl)
                        try simp only [Act.put, List.setIfInBounds_toArray, List.set_cons_zero, List.set_cons_succ]
                        refine wpAnyH_take (i := 70) (oi := { dst := some 124, op := Op.binOp BinOp.eql 3 (Operand.tmp 123) (Operand.const (Value.int IntKind.i64 1)) 3, type := 4, pos := "law.go:52", after := #[{ on := 69, ground := Ground.data }, { on := 67, ground := Ground.guard }], guard := some (67, true) }) (v := ?_) rfl (by as_aux_lemma => kernel_rfl) (by as_aux_lemma => kernel_rfl) (by as_aux_lemma => kernel_rfl) (fun _ _ _ h => h) (Or.inl ⟨by rfl, ?_⟩) (by assumption) ?_
                        rotate_left
                        focus (intro w hSw; (try dsimp only at hSw); go_simp; try with_reducible rfl)
                        try simp only [Act.put, List.setIfInBounds_toArray, List.set_cons_zero, List.set_cons_succ]
                        refine wpAnyH_take (i := 71) (oi := { dst := some 125, op := Op.pick (Operand.tmp 121) (Operand.tmp 124) (Operand.const (Value.bool false)), type := 4, pos := "law.go:52", after := #[{ on := 67, ground := Ground.data }, { on := 70, ground := Ground.data }], guard := none }) (v := ?_) rfl (by as_aux_lemma => kernel_rfl) (by as_aux_lemma => kernel_rfl) (by as_aux_lemma => kernel_rfl) (fun _ _ _ h => h) (Or.inl ⟨by rfl, ?_⟩) (by assumption) ?_
                        rotate_left
                        focus (intro w hSw; (try dsimp only at hSw); go_simp; try with_reducible rfl)
                        try simp only [Act.put, List.setIfInBounds_toArray, List.set_cons_zero, List.set_cons_succ]
                        refine wpAnyH_take (i := 72) (oi := { dst := some 126, op := Op.move (Operand.tmp 125), type := 4, pos := "law.go:52", after := #[{ on := 71, ground := Ground.data }, { on := 67, ground := Ground.chain }], guard := none }) (v := ?_) rfl (by as_aux_lemma => kernel_rfl) (by as_aux_lemma => kernel_rfl) (by as_aux_lemma => kernel_rfl) (fun _ _ _ h => h) (Or.inl ⟨by rfl, ?_⟩) (by assumption) ?_
                        rotate_left
                        focus (intro w hSw; (try dsimp only at hSw); go_simp; try with_reducible rfl)
                        try simp only [Act.put, List.setIfInBounds_toArray, List.set_cons_zero, List.set_cons_succ]
                        as_aux_lemma =>
                          refine wpAnyH_take (i := 73) (oi := { dst := some 127, op := Op.load 52 (Operand.tmp 2), type := 52, pos := "law.go:52", after := #[{ on := 72, ground := Ground.guard }], guard := some (72, true) }) (v := ?_) rfl (by as_aux_lemma => kernel_rfl) (by as_aux_lemma => kernel_rfl) (by as_aux_lemma => kernel_rfl) (fun _ _ _ h => h) (Or.inl ⟨by rfl, ?_⟩) (by assumption) ?_
                          rotate_left
                          focus (intro w hSw; (try dsimp only at hSw); go_simp; try with_reducible rfl)
                          try simp only [Act.put, List.setIfInBounds_toArray, List.set_cons_zero, List.set_cons_succ]
                          refine wpAnyH_ready (rs := [74]) (by as_aux_lemma => kernel_rfl) (by simp) ?_
                          refine AllReadyH.cons (o := { dst := some 128, op := Op.buildSlice 34 2 #[(0, Operand.const (Value.string { data := #[113] })), (1, Operand.const (Value.string { data := #[120] }))], type := 34, pos := "law.go:52", after := #[{ on := 72, ground := Ground.guard }], guard := some (72, true) }) rfl (fun K hK => ?_) AllReadyH.nil
                          go_simp
                          refine hK.out _ _ (en_cells (CQ.out.later ((Below.refl _ _).alloc (Nat.le_refl _) _)) U18.out) (fun hHeld16 => ?_)
                          clear hK K hHeld15
                          try simp only [Act.put, List.setIfInBounds_toArray, List.set_cons_zero, List.set_cons_succ]
                          refine wpAnyH_ready (rs := [75]) (by as_aux_lemma => kernel_rfl) (by simp) ?_
                          refine AllReadyH.cons (o := { dst := some 129, op := Op.call { callee := Callee.value (Operand.func 20), args := #[Operand.tmp 128], argTypes := #[34] }, type := 43, pos := "law.go:52", after := #[{ on := 74, ground := Ground.data }, { on := 72, ground := Ground.chain }, { on := 72, ground := Ground.guard }], guard := some (72, true) }) rfl (fun K hK => ?_) AllReadyH.nil
                          go_simp
                          (refine (host_two 113 120 _).mono ?_; rintro e wl ⟨rfl, hb⟩; replace CD := Lib.hid (CD.out.trans (hb.mono CD.out.size)); replace CQ := Lib.hid (CQ.out.later hb); clear hb)
                          try go_wp2_with fail
                          refine hK.out _ _ (en_cells CQ.out U18.out) (fun hHeld17 => ?_)
                          clear hK K hHeld16
                          try simp only [Act.put, List.setIfInBounds_toArray, List.set_cons_zero, List.set_cons_succ]
                          refine wpAnyH_ready (rs := [76]) (by as_aux_lemma => kernel_rfl) (by simp) ?_
                          refine AllReadyH.cons (o := { dst := some 130, op := Op.call { callee := Callee.value (Operand.func 22), args := #[Operand.tmp 127, Operand.tmp 129, Operand.const (Value.slice none 0 0), Operand.const (Value.int IntKind.i64 1)], argTypes := #[52, 43, 49, 3] }, type := 57, pos := "law.go:52", after := #[{ on := 73, ground := Ground.data }, { on := 75, ground := Ground.data }, { on := 75, ground := Ground.chain }, { on := 72, ground := Ground.guard }], guard := some (72, true) }) rfl (fun K hK => ?_) AllReadyH.nil
                          go_simp
                          (refine (recs_auto0 ⟨#[1, 42, 1, 120]⟩ ⟨#[121]⟩ ByteArray.empty ⟨#[1, 113, 1, 120]⟩ 0 _ _ _ nm_qx (by decide) _ (ck_b _)).mono ?_; rintro e wl ⟨rfl, hb⟩; replace CD := Lib.hid (CD.out.trans (hb.mono CD.out.size)); replace CQ := Lib.hid (CQ.out.later hb); clear hb)
                          try go_wp2_with fail
                          refine hK.out _ _ (en_cells CQ.out U18.out) (fun hHeld18 => ?_)
                          clear hK K hHeld17
                          try simp only [Act.put, List.setIfInBounds_toArray, List.set_cons_zero, List.set_cons_succ]
                          refine wpAnyH_take (i := 77) (oi := { dst := some 131, op := Op.call { callee := Callee.builtin Builtin.len, args := #[Operand.tmp 130], argTypes := #[57] }, type := 3, pos := "law.go:52", after := #[{ on := 76, ground := Ground.data }, { on := 72, ground := Ground.guard }], guard := some (72, true) }) (v := ?_) rfl (by as_aux_lemma => kernel_rfl) (by as_aux_lemma => kernel_rfl) (by as_aux_lemma => kernel_rfl) (fun _ _ _ h => h) (Or.inl ⟨by rfl, ?_⟩) (by assumption) ?_
                          rotate_left
                          focus (intro w hSw; (try dsimp only at hSw); go_simp; try with_reducible rfl)
                          try simp only [Act.put, List.setIfInBounds_toArray, List.set_cons_zero, List.set_cons_succ]
                          refine wpAnyH_take (i := 78) (oi := { dst := some 132, op := Op.binOp BinOp.eql 3 (Operand.tmp 131) (Operand.const (Value.int IntKind.i64 0)) 3, type := 4, pos := "law.go:52", after := #[{ on := 77, ground := Ground.data }, { on := 72, ground := Ground.guard }], guard := some (72, true) }) (v := ?_) rfl (by as_aux_lemma => kernel_rfl) (by as_aux_lemma => kernel_rfl) (by as_aux_lemma => kernel_rfl) (fun _ _ _ h => h) (Or.inl ⟨by rfl, ?_⟩) (by assumption) ?_
                          rotate_left
                          focus (intro w hSw; (try dsimp only at hSw); go_simp; try with_reducible rfl)
                          try simp only [Act.put, List.setIfInBounds_toArray, List.set_cons_zero, List.set_cons_succ]
                          refine wpAnyH_take (i := 79) (oi := { dst := some 133, op := Op.pick (Operand.tmp 126) (Operand.tmp 132) (Operand.const (Value.bool false)), type := 4, pos := "law.go:52", after := #[{ on := 72, ground := Ground.data }, { on := 78, ground := Ground.data }], guard := none }) (v := ?_) rfl (by as_aux_lemma => kernel_rfl) (by as_aux_lemma => kernel_rfl) (by as_aux_lemma => kernel_rfl) (fun _ _ _ h => h) (Or.inl ⟨by rfl, ?_⟩) (by assumption) ?_
                          rotate_left
                          focus (intro w hSw; (try dsimp only at hSw); go_simp; try with_reducible rfl)
                          try simp only [Act.put, List.setIfInBounds_toArray, List.set_cons_zero, List.set_cons_succ]
                          refine wpAnyH_take (i := 80) (oi := { dst := some 134, op := Op.move (Operand.tmp 133), type := 4, pos := "law.go:52", after := #[{ on := 79, ground := Ground.data }, { on := 76, ground := Ground.chain }], guard := none }) (v := ?_) rfl (by as_aux_lemma => kernel_rfl) (by as_aux_lemma => kernel_rfl) (by as_aux_lemma => kernel_rfl) (fun _ _ _ h => h) (Or.inl ⟨by rfl, ?_⟩) (by assumption) ?_
                          rotate_left
                          focus (intro w hSw; (try dsimp only at hSw); go_simp; try with_reducible rfl)
                          try simp only [Act.put, List.setIfInBounds_toArray, List.set_cons_zero, List.set_cons_succ]
                          as_aux_lemma =>
                            refine wpAnyH_ready (rs := [81]) (by as_aux_lemma => kernel_rfl) (by simp) ?_
                            refine AllReadyH.cons (o := { dst := some 135, op := Op.call { callee := Callee.value (Operand.func 21), args := #[], argTypes := #[] }, type := 52, pos := "law.go:52", after := #[{ on := 80, ground := Ground.chain }, { on := 80, ground := Ground.guard }], guard := some (80, true) }) rfl (fun K hK => ?_) AllReadyH.nil
                            go_simp
                            (refine (fixed_any _).mono ?_; rintro e wl ⟨xa, xp, rfl, hf, hb⟩; (try have FB := Lib.hid (FA.out.later hb)); (try clear FA); have FA := Lib.hid hf; clear hf; replace CD := Lib.hid (CD.out.trans (hb.mono CD.out.size)); replace CQ := Lib.hid (CQ.out.later hb); clear hb)
                            try go_wp2_with fail
                            refine hK.out _ _ (en_cells CQ.out U18.out) (fun hHeld19 => ?_)
                            clear hK K hHeld18
                            try simp only [Act.put, List.setIfInBounds_toArray, List.set_cons_zero, List.set_cons_succ]
                            refine wpAnyH_ready (rs := [82]) (by as_aux_lemma => kernel_rfl) (by simp) ?_
                            refine AllReadyH.cons (o := { dst := some 136, op := Op.call { callee := Callee.value (Operand.func 21), args := #[], argTypes := #[] }, type := 52, pos := "law.go:52", after := #[{ on := 81, ground := Ground.chain }, { on := 80, ground := Ground.guard }], guard := some (80, true) }) rfl (fun K hK => ?_) AllReadyH.nil
                            go_simp
                            (refine (fixed_any _).mono ?_; rintro e wl ⟨xa, xp, rfl, hf, hb⟩; (try have FB := Lib.hid (FA.out.later hb)); (try clear FA); have FA := Lib.hid hf; clear hf; replace CD := Lib.hid (CD.out.trans (hb.mono CD.out.size)); replace CQ := Lib.hid (CQ.out.later hb); clear hb)
                            try go_wp2_with fail
                            refine hK.out _ _ (en_cells CQ.out U18.out) (fun hHeld20 => ?_)
                            clear hK K hHeld19
                            try simp only [Act.put, List.setIfInBounds_toArray, List.set_cons_zero, List.set_cons_succ]
                            refine wpAnyH_ready (rs := [83]) (by as_aux_lemma => kernel_rfl) (by simp) ?_
                            refine AllReadyH.cons (o := { dst := some 137, op := Op.call { callee := Callee.value (Operand.func 26), args := #[Operand.tmp 135, Operand.tmp 136], argTypes := #[52, 52] }, type := 4, pos := "law.go:52", after := #[{ on := 81, ground := Ground.data }, { on := 82, ground := Ground.data }, { on := 82, ground := Ground.chain }, { on := 80, ground := Ground.guard }], guard := some (80, true) }) rfl (fun K hK => ?_) AllReadyH.nil
                            go_simp
                            (refine (same_fix FB.out FA.out).mono ?_; rintro e wl ⟨rfl, hb⟩; replace CD := Lib.hid (CD.out.trans (hb.mono CD.out.size)); replace CQ := Lib.hid (CQ.out.later hb); clear hb)
                            try go_wp2_with fail
                            refine hK.out _ _ (en_cells CQ.out U18.out) (fun hHeld21 => ?_)
                            clear hK K hHeld20
                            try simp only [Act.put, List.setIfInBounds_toArray, List.set_cons_zero, List.set_cons_succ]
                            refine wpAnyH_take (i := 84) (oi := { dst := some 138, op := Op.pick (Operand.tmp 134) (Operand.tmp 137) (Operand.const (Value.bool false)), type := 4, pos := "law.go:52", after := #[{ on := 80, ground := Ground.data }, { on := 83, ground := Ground.data }], guard := none }) (v := ?_) rfl (by as_aux_lemma => kernel_rfl) (by as_aux_lemma => kernel_rfl) (by as_aux_lemma => kernel_rfl) (fun _ _ _ h => h) (Or.inl ⟨by rfl, ?_⟩) (by assumption) ?_
                            rotate_left
                            focus (intro w hSw; (try dsimp only at hSw); go_simp; try with_reducible rfl)
                            try simp only [Act.put, List.setIfInBounds_toArray, List.set_cons_zero, List.set_cons_succ]
                            refine wpAnyH_take (i := 85) (oi := { dst := some 139, op := Op.move (Operand.tmp 138), type := 4, pos := "law.go:52", after := #[{ on := 84, ground := Ground.data }, { on := 83, ground := Ground.chain }], guard := none }) (v := ?_) rfl (by as_aux_lemma => kernel_rfl) (by as_aux_lemma => kernel_rfl) (by as_aux_lemma => kernel_rfl) (fun _ _ _ h => h) (Or.inl ⟨by rfl, ?_⟩) (by assumption) ?_
                            rotate_left
                            focus (intro w hSw; (try dsimp only at hSw); go_simp; try with_reducible rfl)
                            try simp only [Act.put, List.setIfInBounds_toArray, List.set_cons_zero, List.set_cons_succ]
                            refine wpAnyH_take (i := 87) (oi := { dst := some 141, op := Op.load 52 (Operand.tmp 8), type := 52, pos := "law.go:52", after := #[{ on := 85, ground := Ground.guard }], guard := some (85, true) }) (v := ?_) rfl (by as_aux_lemma => kernel_rfl) (by as_aux_lemma => kernel_rfl) (by as_aux_lemma => kernel_rfl) (fun _ _ _ h => h) (Or.inl ⟨by rfl, ?_⟩) (by assumption) ?_
                            rotate_left
                            focus (intro w hSw; (try dsimp only at hSw); go_simp; try with_reducible rfl)
                            try simp only [Act.put, List.setIfInBounds_toArray, List.set_cons_zero, List.set_cons_succ]
                            refine wpAnyH_ready (rs := [86]) (by as_aux_lemma => kernel_rfl) (by simp) ?_
                            refine AllReadyH.cons (o := { dst := some 140, op := Op.call { callee := Callee.value (Operand.func 21), args := #[], argTypes := #[] }, type := 52, pos := "law.go:52", after := #[{ on := 85, ground := Ground.chain }, { on := 85, ground := Ground.guard }], guard := some (85, true) }) rfl (fun K hK => ?_) AllReadyH.nil
                            go_simp
                            (refine (fixed_any _).mono ?_; rintro e wl ⟨xa, xp, rfl, hf, hb⟩; (try have FB := Lib.hid (FA.out.later hb)); (try clear FA); have FA := Lib.hid hf; clear hf; replace CD := Lib.hid (CD.out.trans (hb.mono CD.out.size)); replace CQ := Lib.hid (CQ.out.later hb); clear hb)
                            try go_wp2_with fail
                            refine hK.out _ _ (en_cells CQ.out U18.out) (fun hHeld22 => ?_)
                            clear hK K hHeld21
                            try simp only [Act.put, List.setIfInBounds_toArray, List.set_cons_zero, List.set_cons_succ]
                            refine wpAnyH_ready (rs := [88]) (by as_aux_lemma => kernel_rfl) (by simp) ?_
                            refine AllReadyH.cons (o := { dst := some 142, op := Op.call { callee := Callee.value (Operand.func 26), args := #[Operand.tmp 140, Operand.tmp 141], argTypes := #[52, 52] }, type := 4, pos := "law.go:52", after := #[{ on := 86, ground := Ground.data }, { on := 87, ground := Ground.data }, { on := 86, ground := Ground.chain }, { on := 85, ground := Ground.guard }], guard := some (85, true) }) rfl (fun K hK => ?_) AllReadyH.nil
                            go_simp
                            (refine (same_five FA.out CQ.out.g2 UA.out CQ.out.g1 UP.out hca hcp).mono ?_; rintro e wl ⟨rfl, hb⟩; replace CD := Lib.hid (CD.out.trans (hb.mono CD.out.size)); replace CQ := Lib.hid (CQ.out.later hb); clear hb)
                            try go_wp2_with fail
                            refine hK.out _ _ (en_cells CQ.out U18.out) (fun hHeld23 => ?_)
                            clear hK K hHeld22
                            try simp only [Act.put, List.setIfInBounds_toArray, List.set_cons_zero, List.set_cons_succ]
                            as_aux_lemma =>
                              refine wpAnyH_take (i := 89) (oi := { dst := some 143, op := Op.unOp UnOp.not 4 (Operand.tmp 142), type := 4, pos := "law.go:52", after := #[{ on := 88, ground := Ground.data }, { on := 85, ground := Ground.guard }], guard := some (85, true) }) (v := ?_) rfl (by as_aux_lemma => kernel_rfl) (by as_aux_lemma => kernel_rfl) (by as_aux_lemma => kernel_rfl) (fun _ _ _ h => h) (Or.inl ⟨by rfl, ?_⟩) (by assumption) ?_
                              rotate_left
                              focus (intro w hSw; (try dsimp only at hSw); go_simp; try with_reducible rfl)
                              try simp only [Act.put, List.setIfInBounds_toArray, List.set_cons_zero, List.set_cons_succ]
                              refine wpAnyH_take (i := 90) (oi := { dst := some 144, op := Op.pick (Operand.tmp 139) (Operand.tmp 143) (Operand.const (Value.bool false)), type := 4, pos := "law.go:52", after := #[{ on := 85, ground := Ground.data }, { on := 89, ground := Ground.data }], guard := none }) (v := ?_) rfl (by as_aux_lemma => kernel_rfl) (by as_aux_lemma => kernel_rfl) (by as_aux_lemma => kernel_rfl) (fun _ _ _ h => h) (Or.inl ⟨by rfl, ?_⟩) (by assumption) ?_
                              rotate_left
                              focus (intro w hSw; (try dsimp only at hSw); go_simp; try with_reducible rfl)
                              try simp only [Act.put, List.setIfInBounds_toArray, List.set_cons_zero, List.set_cons_succ]
                              refine wpAnyH_take (i := 91) (oi := { dst := some 145, op := Op.move (Operand.tmp 144), type := 4, pos := "law.go:52", after := #[{ on := 90, ground := Ground.data }, { on := 88, ground := Ground.chain }], guard := none }) (v := ?_) rfl (by as_aux_lemma => kernel_rfl) (by as_aux_lemma => kernel_rfl) (by as_aux_lemma => kernel_rfl) (fun _ _ _ h => h) (Or.inl ⟨by rfl, ?_⟩) (by assumption) ?_
                              rotate_left
                              focus (intro w hSw; (try dsimp only at hSw); go_simp; try with_reducible rfl)
                              try simp only [Act.put, List.setIfInBounds_toArray, List.set_cons_zero, List.set_cons_succ]
                              refine wpAnyH_take (i := 92) (oi := { dst := some 146, op := Op.pick (Operand.tmp 145) (Operand.const (Value.bool true)) (Operand.const (Value.bool false)), type := 4, pos := "law.go:52", after := #[{ on := 91, ground := Ground.data }], guard := none }) (v := ?_) rfl (by as_aux_lemma => kernel_rfl) (by as_aux_lemma => kernel_rfl) (by as_aux_lemma => kernel_rfl) (fun _ _ _ h => h) (Or.inl ⟨by rfl, ?_⟩) (by assumption) ?_
                              rotate_left
                              focus (intro w hSw; (try dsimp only at hSw); go_simp; try with_reducible rfl)
                              try simp only [Act.put, List.setIfInBounds_toArray, List.set_cons_zero, List.set_cons_succ]
                              refine wpAnyH_take (i := 93) (oi := { dst := some 0, op := Op.assign (Operand.tmp 146), type := 4, pos := "law.go:52", after := ([{ on := 92, ground := Ground.data }, { on := 91, ground := Ground.chain }, { on := 0, ground := Ground.phase }, { on := 1, ground := Ground.phase }, { on := 2, ground := Ground.phase }, { on := 3, ground := Ground.phase }, { on := 4, ground := Ground.phase }, { on := 5, ground := Ground.phase }, { on := 6, ground := Ground.phase }, { on := 7, ground := Ground.phase }, { on := 8, ground := Ground.phase }, { on := 9, ground := Ground.phase }, { on := 10, ground := Ground.phase }, { on := 11, ground := Ground.phase }, { on := 12, ground := Ground.phase }, { on := 13, ground := Ground.phase }, { on := 14, ground := Ground.phase }, { on := 15, ground := Ground.phase }, { on := 16, ground := Ground.phase }, { on := 17, ground := Ground.phase }, { on := 18, ground := Ground.phase }, { on := 19, ground := Ground.phase }, { on := 20, ground := Ground.phase }, { on := 21, ground := Ground.phase }, { on := 22, ground := Ground.phase }, { on := 23, ground := Ground.phase }, { on := 24, ground := Ground.phase }, { on := 25, ground := Ground.phase }, { on := 26, ground := Ground.phase }, { on := 27, ground := Ground.phase }, { on := 28, ground := Ground.phase }, { on := 29, ground := Ground.phase }, { on := 30, ground := Ground.phase }, { on := 31, ground := Ground.phase }, { on := 32, ground := Ground.phase }, { on := 33, ground := Ground.phase }, { on := 34, ground := Ground.phase }, { on := 35, ground := Ground.phase }, { on := 36, ground := Ground.phase }, { on := 37, ground := Ground.phase }, { on := 38, ground := Ground.phase }, { on := 39, ground := Ground.phase }, { on := 40, ground := Ground.phase }, { on := 41, ground := Ground.phase }, { on := 42, ground := Ground.phase }, { on := 43, ground := Ground.phase }, { on := 44, ground := Ground.phase }].append [{ on := 45, ground := Ground.phase }, { on := 46, ground := Ground.phase }, { on := 47, ground := Ground.phase }, { on := 48, ground := Ground.phase }, { on := 49, ground := Ground.phase }, { on := 50, ground := Ground.phase }, { on := 51, ground := Ground.phase }, { on := 52, ground := Ground.phase }, { on := 53, ground := Ground.phase }, { on := 54, ground := Ground.phase }, { on := 55, ground := Ground.phase }, { on := 56, ground := Ground.phase }, { on := 57, ground := Ground.phase }, { on := 58, ground := Ground.phase }, { on := 59, ground := Ground.phase }, { on := 60, ground := Ground.phase }, { on := 61, ground := Ground.phase }, { on := 62, ground := Ground.phase }, { on := 63, ground := Ground.phase }, { on := 64, ground := Ground.phase }, { on := 65, ground := Ground.phase }, { on := 66, ground := Ground.phase }, { on := 67, ground := Ground.phase }, { on := 68, ground := Ground.phase }, { on := 69, ground := Ground.phase }, { on := 70, ground := Ground.phase }, { on := 71, ground := Ground.phase }, { on := 72, ground := Ground.phase }, { on := 73, ground := Ground.phase }, { on := 74, ground := Ground.phase }, { on := 75, ground := Ground.phase }, { on := 76, ground := Ground.phase }, { on := 77, ground := Ground.phase }, { on := 78, ground := Ground.phase }, { on := 79, ground := Ground.phase }, { on := 80, ground := Ground.phase }, { on := 81, ground := Ground.phase }, { on := 82, ground := Ground.phase }, { on := 83, ground := Ground.phase }, { on := 84, ground := Ground.phase }, { on := 85, ground := Ground.phase }, { on := 86, ground := Ground.phase }, { on := 87, ground := Ground.phase }, { on := 88, ground := Ground.phase }, { on := 89, ground := Ground.phase }, { on := 90, ground := Ground.phase }, { on := 91, ground := Ground.phase }, { on := 92, ground := Ground.phase }]).toArray, guard := none }) (v := ?_) rfl (by as_aux_lemma => kernel_rfl) (by as_aux_lemma => kernel_rfl) (by as_aux_lemma => kernel_rfl) (fun _ _ _ h => h) (Or.inl ⟨by rfl, ?_⟩) (by assumption) ?_
                              rotate_left
                              focus (intro w hSw; (try dsimp only at hSw); go_simp; try with_reducible rfl)
                              try simp only [Act.put, List.setIfInBounds_toArray, List.set_cons_zero]
                              refine wpAnyH_done (by as_aux_lemma => kernel_rfl) ?_ _
                              refine NoPanic.normal ?_
                              go_wp2_with fail
                              go_ret
                              exact ⟨rfl, CD.out⟩
      exact AllReadyH.nil
end Go.Proofs.Ytniambdfgojgeaa
