/- lives of nameplatelaw16. -/
import Derived.Test.YtniambdfgojgeaaElc
import Derived.BigQuiet
namespace Go.Proofs.Ytniambdfgojgeaa
open Go.RowKit Go.PlainAid

attribute [local go_sem ↓] Go.wp_at_zero Go.wp_at_succ
abbrev fixedCs (ga gp : Nat) : Array Value := #[.string hostBA, .int .i64 1, .string textX, .slice (some ⟨ga, 0, none⟩) 2 2, .string ByteArray.empty, .slice (some ⟨gp, 0, none⟩) 2 2, .int .u32 30]

set_option maxRecDepth 100000 in
set_option maxHeartbeats 4000000 in
theorem elives_any (w : World) :
    Calls Try.prog 19 #[] w fun e w' => e = .returned (.bool true) ∧ Below w.heap.size w w' := by
  go_enter Try.func19, Try.ntmps19
  go_wp2_with fail
  refine (fixed_any _).mono ?_
  rintro e w1 ⟨ga, gp, rfl, hf, hb⟩
  have hga := lt_of_heap hf.ra
  have hgp := lt_of_heap hf.rp
  have HX := Lib.hid (heap_alloc_new w1 (.cells #[.string ⟨#[]⟩, .int .i64 0, .string ⟨#[]⟩, .slice none 0 0, .string ⟨#[]⟩, .slice none 0 0, .int .u32 0] 52))
  have HF := Lib.hid (hf.later ((Below.refl _ w1).alloc (Nat.le_refl _) (.cells #[.string ⟨#[]⟩, .int .i64 0, .string ⟨#[]⟩, .slice none 0 0, .string ⟨#[]⟩, .slice none 0 0, .int .u32 0] 52)))
  have HB := Lib.hid (hb.alloc hb.size (.cells #[.string ⟨#[]⟩, .int .i64 0, .string ⟨#[]⟩, .slice none 0 0, .string ⟨#[]⟩, .slice none 0 0, .int .u32 0] 52))
  have hsz := hb.size
  clear hf hb
  go_wp2_with (refine wpList_store_row rfl 52 _ _ rfl w1.heap.size (fixedCs ga gp) rfl rfl 52 _ HX.out (by kernel_rfl) rfl (by simp [Value.oneCell']) ?_; generalize hW2 : World.setRow _ w1.heap.size _ = W2; have hxr := setRow_heap _ w1.heap.size _ (fixedCs ga gp) 52 _ HX.out; have hfa := (setRow_other _ w1.heap.size ga (fixedCs ga gp) (by omega)).trans HF.out.ra; have hfp := (setRow_other _ w1.heap.size gp (fixedCs ga gp) (by omega)).trans HF.out.rp; have hbw := below_setRow (cs := fixedCs ga gp) HB.out hsz (lt_of_heap HX.out); rw [hW2] at hxr hfa hfp hbw; clear hW2)
  have hS : ∀ W, Below W2.heap.size W2 W → W.cell? ⟨w1.heap.size, 0, none⟩ = some (.string hostBA) ∧ W.cell? ⟨w1.heap.size, 1, none⟩ = some (.int .i64 1) ∧ W.cell? ⟨w1.heap.size, 2, none⟩ = some (.string textX) ∧ W.cell? ⟨w1.heap.size, 3, none⟩ = some (.slice (some ⟨ga, 0, none⟩) 2 2) ∧ W.cell? ⟨w1.heap.size, 4, none⟩ = some (.string ByteArray.empty) ∧ W.cell? ⟨w1.heap.size, 5, none⟩ = some (.slice (some ⟨gp, 0, none⟩) 2 2) ∧ W.cell? ⟨w1.heap.size, 6, none⟩ = some (.int .u32 30) := fun W hW => by
    obtain ⟨k0, k1, k2, k3, k4, k5, k6, _⟩ := box_cells ((hW.block _ (lt_of_heap hxr)).trans hxr)
    exact ⟨k0, k1, k2, k3, k4, k5, k6⟩
  have hF2 : FixedAt w.heap.size ga gp W2 := ⟨hfa, hfp, HF.out.ba, HF.out.bp⟩
  have HS := Lib.hid hS
  have H1 := Lib.hid hxr
  have F2 := Lib.hid hF2
  have C2 := Lib.hid (check_fix hF2)
  have HB2 := Lib.hid hbw
  have CB := Lib.hid (Below.refl W2.heap.size W2).drew
  clear HX HF HB hS hxr hfa hfp hF2 hbw
  go_region_held3 (fun W => W.cell? ⟨w1.heap.size, 0, none⟩ = some (.string hostBA) ∧ W.cell? ⟨w1.heap.size, 1, none⟩ = some (.int .i64 1) ∧ W.cell? ⟨w1.heap.size, 2, none⟩ = some (.string textX) ∧ W.cell? ⟨w1.heap.size, 3, none⟩ = some (.slice (some ⟨ga, 0, none⟩) 2 2) ∧ W.cell? ⟨w1.heap.size, 4, none⟩ = some (.string ByteArray.empty) ∧ W.cell? ⟨w1.heap.size, 5, none⟩ = some (.slice (some ⟨gp, 0, none⟩) 2 2) ∧ W.cell? ⟨w1.heap.size, 6, none⟩ = some (.int .u32 30))
    ((first | exact HS.out _ CB.out))
    ((first
    | (go_at_call 22; (with_reducible refine (recs_fixedA w.heap.size ga gp hostBA (.slice none 0 0) _ nm_ba (by decide) _ (F2.out.later CB.out) (C2.out.later CB.out)).mono ?_); rintro e WQ ⟨va, rfl, hva, hba⟩; obtain ⟨g1, c1, rfl, hc1, hg1, hr1⟩ := own_row hva (by omega); have HVA := Lib.hid hva; (try have HVS := Lib.hid ((Keeps.of_below hba).owns HVS.out (fun k hk hge => by have := (HVS.out.lt k hk).2; omega))); have CB := Lib.hid (CB.out.trans (hba.mono CB.out.size)); clear hva hba hg1 hr1)
    | (go_at_call 22; (with_reducible refine (recs_ports w.heap.size ga gp hostBA (.slice none 0 0) nm_ba (by decide) _ (F2.out.later CB.out) (C2.out.later CB.out)).mono ?_); rintro e WQ ⟨vs, rfl, hvs, hbs⟩; obtain ⟨g2, c2, rfl, hc2, hg2, hr2⟩ := own_row hvs (by omega); have HVS := Lib.hid hvs; (try have HVA := Lib.hid ((Keeps.of_below hbs).owns HVA.out (fun k hk hge => by have := (HVA.out.lt k hk).2; omega))); have CB := Lib.hid (CB.out.trans (hbs.mono CB.out.size)); clear hvs hbs hg2 hr2)))
  all_goals
    obtain ⟨_, _, e1, hd1, hl1, hr1⟩ := own_row HVA.out (by omega)
    cases e1
    obtain ⟨_, _, e2, hd2, hl2, hr2⟩ := own_row HVS.out (by omega)
    cases e2
    have HR1 := Lib.hid hr1
    have HR2 := Lib.hid hr2
    clear hr1 hr2 hd1 hd2
    have CF := Lib.hid CB.out
    have hS2 : ∀ W : World, Below W2.heap.size W2 W → Below WQ.heap.size WQ W → W.cell? ⟨w1.heap.size, 0, none⟩ = some (.string hostBA) ∧ W.cell? ⟨w1.heap.size, 1, none⟩ = some (.int .i64 1) ∧ W.cell? ⟨w1.heap.size, 2, none⟩ = some (.string textX) ∧ W.cell? ⟨w1.heap.size, 3, none⟩ = some (.slice (some ⟨ga, 0, none⟩) 2 2) ∧ W.cell? ⟨w1.heap.size, 4, none⟩ = some (.string ByteArray.empty) ∧ W.cell? ⟨w1.heap.size, 5, none⟩ = some (.slice (some ⟨gp, 0, none⟩) 2 2) ∧ W.cell? ⟨w1.heap.size, 6, none⟩ = some (.int .u32 30) ∧ W.cell? ⟨ga, 0, none⟩ = some (.bool false) ∧ W.cell? ⟨ga, 1, none⟩ = some (.int .u64 0) ∧ W.cell? ⟨ga, 2, none⟩ = some (.int .u64 16909060) ∧ W.cell? ⟨g1, 3, none⟩ = some (.int .u32 30) ∧ W.cell? ⟨g1, 4, none⟩ = some (.bool false) ∧ W.cell? ⟨g1, 5, none⟩ = some (.int .u64 0) ∧ W.cell? ⟨g1, 6, none⟩ = some (.int .u64 16909060) ∧ W.cell? ⟨g2, 27, none⟩ = some (.int .u32 443) ∧ W.cell? ⟨g2, 23, none⟩ = some (.string hostBA) := fun W hW hV => by
      obtain ⟨k0, k1, k2, k3, k4, k5, k6⟩ := HS.out W hW
      have a1 := hV.block _ hl1
      have a2 := hV.block _ hl2
      have aF := F2.out.later hW
      have aA := twoAddrs_of aF.ra
      exact ⟨k0, k1, k2, k3, k4, k5, k6, aA.c0, aA.c1, aA.c2, (World.cell?_of_block a1).trans (HR1.out 3 _ rfl), (World.cell?_of_block a1).trans (HR1.out 4 _ rfl), (World.cell?_of_block a1).trans (HR1.out 5 _ rfl), (World.cell?_of_block a1).trans (HR1.out 6 _ rfl), (World.cell?_of_block a2).trans (HR2.out 27 _ rfl), (World.cell?_of_block a2).trans (HR2.out 23 _ rfl)⟩
    have SC := Lib.hid (hS2 WQ CB.out (Below.refl _ WQ))
    have HS2 := Lib.hid hS2
    clear hS2
    have hgd : Try.prog.eqGuardType Try.prog.depth 56 = false := by kernel_rfl
    go_wp2_with fail
    go_region_held3 (fun W => W.cell? ⟨w1.heap.size, 0, none⟩ = some (.string hostBA) ∧ W.cell? ⟨w1.heap.size, 1, none⟩ = some (.int .i64 1) ∧ W.cell? ⟨w1.heap.size, 2, none⟩ = some (.string textX) ∧ W.cell? ⟨w1.heap.size, 3, none⟩ = some (.slice (some ⟨ga, 0, none⟩) 2 2) ∧ W.cell? ⟨w1.heap.size, 4, none⟩ = some (.string ByteArray.empty) ∧ W.cell? ⟨w1.heap.size, 5, none⟩ = some (.slice (some ⟨gp, 0, none⟩) 2 2) ∧ W.cell? ⟨w1.heap.size, 6, none⟩ = some (.int .u32 30) ∧ W.cell? ⟨ga, 0, none⟩ = some (.bool false) ∧ W.cell? ⟨ga, 1, none⟩ = some (.int .u64 0) ∧ W.cell? ⟨ga, 2, none⟩ = some (.int .u64 16909060) ∧ W.cell? ⟨g1, 3, none⟩ = some (.int .u32 30) ∧ W.cell? ⟨g1, 4, none⟩ = some (.bool false) ∧ W.cell? ⟨g1, 5, none⟩ = some (.int .u64 0) ∧ W.cell? ⟨g1, 6, none⟩ = some (.int .u64 16909060) ∧ W.cell? ⟨g2, 27, none⟩ = some (.int .u32 443) ∧ W.cell? ⟨g2, 23, none⟩ = some (.string hostBA))
      ((first | exact SC.out))
      ((first
      | (go_at_call 24; refine (C2.out _ CF.out.drew).mono ?_; rintro e WC ⟨rfl, hbc⟩; have SC := Lib.hid (HS2.out WC (CF.out.drew.trans (hbc.mono CF.out.size)) ((Below.refl _ WQ).drew.trans hbc)); have HBC := Lib.hid (HB2.out.trans ((CF.out.drew.trans (hbc.mono CF.out.size)).mono HB2.out.size)); clear hbc)))
  all_goals
    go_wp2_with fail
    go_ret
    exact ⟨rfl, HBC.out⟩
end Go.Proofs.Ytniambdfgojgeaa
