/- name.Under, where it holds: slices.Backward. -/
import Derived.Test.YtniambdfgojgeaaSam
import Derived.Test.YtniambdfgojgeaaNfd
import Derived.RangeFuncWrites
import Derived.RangeFuncCalls
namespace Go.Proofs.Ytniambdfgojgeaa
open Go.RowKit Go.Shelf Go.PlainAid

attribute [local go_sem] Oper.semAt_some

/-- a place of a list, and what stands there -/
abbrev Back (ys : List (List UInt8)) : Type := {x : Nat × List UInt8 // ys[x.1]? = some x.2}

set_option maxRecDepth 100000 in
set_option maxHeartbeats 2000000 in
theorem back1_in (n : Nat) (hn : 1 ≤ n) (l Bs n₀ g cap : Nat) (ys : List (List UInt8)) (h0l : 0 < ys.length) (hreach : ys.length ≤ 1000) (hg : g < n₀) (J Jx : List (Back ys) → World → Prop)
    (hY : ∀ pre x W, J pre W → pre.length < ys.length → YieldAt Fence.wide (n - 1) Try.prog l #[.int .i64 (x.1.1 : Int), .string (ofL x.1.2)] W fun e W' =>
      (e = .returned (.bool true) ∧ J (pre ++ [x]) W' ∧ Below n₀ W W') ∨ (e = .returned (.bool false) ∧ Jx (pre ++ [x]) W'))
    (W : World) (hBs : W.cell? ⟨Bs, 0, none⟩ = some (.slice (some ⟨g, 0, none⟩) ys.length cap)) (hBn : Bs < n₀) (_hcap : ys.length ≤ cap) (hc : ∀ i l, ys[i]? = some l → W.cell? ⟨g, i, none⟩ = some (.string (ofL l))) (h0 : J [] W) :
    CallsIn Fence.wide n Try.prog 88 #[.func (.yield l) #[] #[], .pointer (some ⟨Bs, 0, none⟩)] W fun e W' => (∃ v, e = .returned v) ∧
      ((∃ xs, True ∧ J xs W') ∨ (∃ pre, True ∧ Jx pre W')) := by
  have HY := Lib.hid hY
  have HC := Lib.hid hc
  clear hY hc
  refine callsIn_of_wp Try.func88 rfl trivial ?_ rfl
  simp only [Try.ntmps88, List.size_toArray, List.length_cons, List.length_nil, Nat.reduceAdd, Nat.reduceSub, Array.replicate_succ, Array.replicate_zero, List.push_toArray, List.append_toArray, List.nil_append, List.cons_append]
  gi_wp2_with fail
  gi_loopw [3] (fun i wr => ∃ (m : Nat) (pre : List (Back ys)), m + pre.length = ys.length ∧ i = .int .i64 ((m : Int) - 1) ∧ J pre wr ∧ Below n₀ W wr)
    (fun i _ => (intOf i + 1).toNat)
  case atStart => exact ⟨ys.length, [], rfl, rfl, h0, Below.refl _ _⟩
  case round =>
    obtain ⟨m, pre, hmk, rfl, hJs, hnx⟩ := hrel
    have hBs' := (hnx.cell (p := ⟨Bs, 0, none⟩) hBn).trans hBs
    cases m with
    | zero =>
      gi_wp2
      go_end0
      exact ⟨⟨_, rfl⟩, .inl ⟨_, trivial, hJs⟩⟩
    | succ m =>
      have e1 : ((m + 1 : Nat) : Int) - 1 = (m : Int) := by omega
      rw [e1]
      obtain ⟨y, hy⟩ : ∃ y, ys[m]? = some y := ⟨_, List.getElem?_eq_getElem (by omega)⟩
      have hcx := (hnx.cell (p := ⟨g, m, none⟩) hg).trans (HC.out m y hy)
      obtain ⟨fn, tmps, assign, body, hyy, hR⟩ := HY.out _ ⟨(m, y), hy⟩ wr hJs (by omega)
      dsimp only at hyy
      have HX := Lib.hid hnx
      clear hJs hnx e1
      gi_wp2
      refine hR.mono ?_
      rintro e W3 (⟨rfl, hJ3, hk3⟩ | ⟨rfl, hJx3⟩)
      · gi_wp2
        go_roundw
        case rel => exact ⟨m, pre ++ [⟨(m, y), hy⟩], by rw [List.length_append]; simp only [List.length_cons, List.length_nil]; omega, by simp, hJ3, HX.out.trans hk3⟩
        case measure => simp [intOf] <;> omega
      · gi_wp2
        refine bodyPost_ret (results_none rfl _ _ _) rfl ?_
        exact ⟨⟨_, rfl⟩, .inr ⟨_, trivial, hJx3⟩⟩

set_option maxHeartbeats 800000 in
theorem back_any (a : Option Addr) (len cap : Nat) (w : World) :
    Calls Try.prog 83 #[.slice a len cap] w fun e w' => e = .returned (.func (.func 88) #[] #[.pointer (some ⟨w.heap.size, 0, none⟩)]) ∧ w.alloc (.cells #[.slice a len cap] 34) = w' := by
  go_enter Try.func83, Try.ntmps83
  have hmf : ∀ (fn : Fn) (first cap : Array Value) (w : World), (Instr.makeFunc fn first cap).run Try.prog w = .ok (.func fn first cap) w := fun _ _ _ _ => rfl
  go_wp2
  go_ret
  exact ⟨rfl, rfl⟩

theorem back_stops (n : Nat) (hn : 1 ≤ n) (Bs n₀ g cap : Nat) (ys : List (List UInt8)) (h0l : 0 < ys.length) (hreach : ys.length ≤ 1000) (hg : g < n₀) (w : World) (hn₀ : n₀ ≤ w.heap.size) (hBn : Bs < n₀)
    (hBs : w.cell? ⟨Bs, 0, none⟩ = some (.slice (some ⟨g, 0, none⟩) ys.length cap)) (hcap : ys.length ≤ cap) (hc : ∀ i l, ys[i]? = some l → w.cell? ⟨g, i, none⟩ = some (.string (ofL l))) :
    SeqStopsK Fence.wide n Try.prog 88 #[.pointer (some ⟨Bs, 0, none⟩)] (fun x : Back ys => #[Value.int .i64 (x.1.1 : Int), Value.string (ofL x.1.2)]) (Below n₀) (fun _ => True) (fun _ => True) ys.length w := fun l J Jx W hW _ _ hY h0 =>
  back1_in n hn l Bs n₀ g cap ys h0l hreach hg J Jx hY W ((hW.cell (p := ⟨Bs, 0, none⟩) (by show Bs < w.heap.size; omega)).trans hBs) hBn hcap
    (fun i l hi => (hW.cell (p := ⟨g, i, none⟩) (by show g < w.heap.size; omega)).trans (hc i l hi)) h0

set_option maxRecDepth 100000 in
set_option maxHeartbeats 4000000 in
theorem under_yes (s p : ByteArray) (xs ys : List (List UInt8)) (hs : nm s = some xs) (hp : nm p = some ys) (h : s.size ≤ 254) (h' : p.size ≤ 254) (h0 : 0 < ys.length) (hle : ys.length ≤ xs.length)
    (hsame : ∀ j y, ys[j]? = some y → ∃ x, xs[xs.length - ys.length + j]? = some x ∧ foldL y = foldL x) (w : World) :
    CallsIn Fence.wide 5 Try.prog 67 #[.string s, .string p] w fun e w' => e = .returned (.bool true) ∧ Below w.heap.size w w' := by
  have hck : chk s = 0 := by unfold chk; rw [hs]; rfl
  have hckp : chk p = 0 := by unfold chk; rw [hp]; rfl
  have hxl := nm_len hs
  have hyl := nm_len hp
  have f1 : Fence.wide.fn 16 := trivial
  have f2 : Fence.wide.fn 18 := trivial
  have f3 : Fence.wide.fn 83 := trivial
  have HS := Lib.hid hs
  have HP := Lib.hid hp
  have HSM := Lib.hid hsame
  clear hs hp hsame
  refine callsIn_of_wp_marks Try.func67 rfl trivial ?_ rfl
  simp only [Try.ntmps67, List.size_toArray, List.length_cons, List.length_nil, Nat.reduceAdd, Nat.reduceSub, Array.replicate_succ, Array.replicate_zero, List.push_toArray, List.append_toArray, List.nil_append, List.cons_append]
  gi_wp2_with fail
  have hBr : (w.alloc (.cells #[.bool false] 4)).heap[w.heap.size]? = some (.cells #[.bool false] 4 (0, 0)) := heap_alloc_new w _
  have hB1 : Below w.heap.size w (w.alloc (.cells #[.bool false] 4)) := (Below.refl _ w).alloc (Nat.le_refl _) _
  have hsz1 : (w.alloc (.cells #[.bool false] 4)).heap.size = w.heap.size + 1 := by simp
  obtain ⟨w1, hw1⟩ : ∃ x, w.alloc (.cells #[.bool false] 4) = x := ⟨_, rfl⟩
  rw [hw1] at hBr hB1 hsz1 ⊢
  clear hw1
  have HBr := Lib.hid hBr
  have HB1 := Lib.hid hB1
  clear hBr hB1
  refine (callsIn_wide.2 (check_short s h _)).mono ?_
  rintro e w2 ⟨rfl, k, rfl⟩
  gi_wp2_with fail
  refine (callsIn_wide.2 (check_short p h' _)).mono ?_
  rintro e w2 ⟨rfl, k2, rfl⟩
  gi_wp2_with fail
  refine (callsIn_wide.2 (labels_ok s xs HS.out h _)).mono ?_
  rintro e w2 ⟨v1, rfl, ho1, hb1⟩
  have ht1 := Lib.hid (has_of_owns ho1)
  have hbb1 := Lib.hid hb1
  clear ho1 hb1
  gi_wp2_with fail
  refine (callsIn_wide.2 (labels_ok p ys HP.out h' _)).mono ?_
  rintro e w3 ⟨v2, rfl, ho2, hb2⟩
  obtain ⟨a2, c2, rfl, hs2⟩ := has_of_owns ho2
  obtain ⟨a1, c1, rfl, hs1⟩ := ht1.out.later hb2
  obtain ⟨g1, rfl, hg1, hn1, hc1⟩ := hs1 (by omega)
  obtain ⟨g2, rfl, hg2, hn2, hc2⟩ := hs2 h0
  have hd1 : w1.heap.size ≤ w2.heap.size := hbb1.out.size
  have hd2 : w2.heap.size ≤ w3.heap.size := hb2.size
  have hB13 : Below w1.heap.size w1 w3 := (show Below w1.heap.size w1 w2 from ⟨hbb1.out.os, hbb1.out.tape, hbb1.out.output, hbb1.out.size, hbb1.out.block⟩).trans (hb2.mono hd1)
  have hBr3 : w3.heap[w.heap.size]? = some (.cells #[.bool false] 4 (0, 0)) := (hB13.block w.heap.size (by omega)).trans HBr.out
  have hB3 : Below w.heap.size w w3 := HB1.out.trans (hB13.mono (by omega))
  have HBr3 := Lib.hid hBr3
  have HB3 := Lib.hid hB3
  have HC1 := Lib.hid hc1
  have HC2 := Lib.hid hc2
  clear ho2 hb2 hs1 hs2 hB13 hBr3 hB3 hc1 hc2
  have dd : decide (xs.length < ys.length) = false := decide_eq_false (by omega)
  gi_wp2_with fail
  refine (callsIn_wide.2 (back_any _ _ _ _)).mono ?_
  rintro e w4 ⟨rfl, rfl⟩
  gi_wp2_with fail
  have e3 : xs.length - (xs.length - ys.length) = ys.length := by omega
  obtain ⟨W, hW⟩ : ∃ W, (w3.alloc (.cells #[.slice (some ⟨g1, xs.length - ys.length, none⟩) (xs.length - (xs.length - ys.length)) (c1 - (xs.length - ys.length))] 34)).alloc (.cells #[.slice (some ⟨g2, 0, none⟩) ys.length c2] 34) = W := ⟨_, rfl⟩
  have hWB : Below w3.heap.size w3 W := by rw [← hW]; exact ((Below.refl _ w3).alloc (Nat.le_refl _) _).alloc (by simp) _
  have hWs : W.heap.size = w3.heap.size + 2 := by rw [← hW]; simp
  have hWr : W.heap[w.heap.size]? = some (.cells #[.bool false] 4 (0, 0)) := (hWB.block w.heap.size (by omega)).trans HBr3.out
  have hWx : W.cell? ⟨w3.heap.size, 0, none⟩ = some (.slice (some ⟨g1, xs.length - ys.length, none⟩) (xs.length - (xs.length - ys.length)) (c1 - (xs.length - ys.length))) := by
    rw [← hW]
    exact cell_alloc_old (heap_alloc_new w3 _) _ 0
  have hWy : W.cell? ⟨w3.heap.size + 1, 0, none⟩ = some (.slice (some ⟨g2, 0, none⟩) ys.length c2) := by
    rw [← hW]
    have := heap_alloc_new (w3.alloc (.cells #[.slice (some ⟨g1, xs.length - ys.length, none⟩) (xs.length - (xs.length - ys.length)) (c1 - (xs.length - ys.length))] 34)) (.cells #[.slice (some ⟨g2, 0, none⟩) ys.length c2] 34)
    rw [World.size_alloc] at this
    exact Lib.cell_of_heap this 0
  rw [hW]
  rw [e3] at hWx ⊢
  have hbr0 : ∀ V, Below W.heap.size W V → V.heap[w.heap.size]? = some (.cells #[.bool false] 4 (0, 0)) := fun V hV => (hV.block w.heap.size (by omega)).trans hWr
  have HY := Lib.hid hWy
  have HB := Lib.hid hWB
  have HR := Lib.hid hbr0
  have HX := Lib.hid hWx
  clear hWy hWB hbr0 hWx hWr hW e3
  refine wpIn_rangeFunc_ownG rfl (by decide) (gf := 88) (lb := #[.pointer (some ⟨w3.heap.size + 1, 0, none⟩)]) rfl trivial (enters_of Try.func88 (by kernel_rfl) rfl)
    (back_stops (5 - 1) (by decide) (w3.heap.size + 1) W.heap.size g2 c2 ys h0 (by omega) (by omega) W (Nat.le_refl _) (by omega) HY.out hn2 (fun i l hi => (HB.out.cell (p := ⟨g2, i, none⟩) hg2).trans (HC2.out i l hi)))
    belowK_t (belowK_b (Nat.le_refl _)) (Below.refl _ _) (fun _ => rfl)
    (fun _ V => Below W.heap.size W V)
    (fun _ _ _ => False)
    (ownFrom_below (Nat.le_refl _) (Nat.le_refl _))
    (fun _ _ _ _ _ hs _ _ => hs)
    (Below.refl _ _)
    (fun x => { tmps := #[.string s, .string p, undef, undef, .pointer (some ⟨w.heap.size, 0, none⟩), .pointer (some ⟨w3.heap.size, 0, none⟩), .slice (some ⟨g2, 0, none⟩) ys.length c2, .int .i64 (x.1.1 : Int), .string (ofL x.1.2), .string s, .int .i64 0, .bool false, .bool false, .string p, .int .i64 0, .bool false, .bool false, .string s, .slice (some ⟨g1, 0, none⟩) xs.length c1, .string p, .slice (some ⟨g2, 0, none⟩) ys.length c2, .slice (some ⟨g1, 0, none⟩) xs.length c1, .int .i64 xs.length, .slice (some ⟨g2, 0, none⟩) ys.length c2, .int .i64 ys.length, .bool false, .slice (some ⟨g1, 0, none⟩) xs.length c1, .slice (some ⟨g1, 0, none⟩) xs.length c1, .int .i64 xs.length, .slice (some ⟨g2, 0, none⟩) ys.length c2, .int .i64 ys.length, .int .i64 ((xs.length : Int) - (ys.length : Int)), .slice (some ⟨g1, xs.length - ys.length, none⟩) ys.length (c1 - (xs.length - ys.length)), .slice (some ⟨g2, 0, none⟩) ys.length c2, .func (.func 88) #[] #[.pointer (some ⟨w3.heap.size + 1, 0, none⟩)], .int .i64 (x.1.1 : Int), .string (ofL x.1.2), undef, undef, undef, undef, undef, undef, undef], defers := [] }) ?assign ?body ?done ?stop
  case assign =>
    intro l x V K hK
    gi_wp2
    exact hK
  case body =>
    rintro l pre ⟨⟨m, y⟩, hy⟩ V hV hlt
    obtain ⟨x, hx, hxy⟩ := HSM.out m y hy
    have hm : m < ys.length := (List.getElem?_eq_some_iff.1 hy).1
    have hcx : V.cell? ⟨g1, xs.length - ys.length + m, none⟩ = some (.string (ofL x)) := (hV.cell (p := ⟨g1, xs.length - ys.length + m, none⟩) (by show g1 < W.heap.size; omega)).trans ((HB.out.cell (p := ⟨g1, xs.length - ys.length + m, none⟩) hg1).trans (HC1.out _ x hx))
    have hbx := (hV.cell (p := ⟨w3.heap.size, 0, none⟩) (by show w3.heap.size < W.heap.size; omega)).trans HX.out
    have hy63 : (ofL y).size ≤ 63 := by rw [ofL_size]; exact (dec_lab HP.out y (List.mem_of_getElem? hy)).2
    have hx63 : (ofL x).size ≤ 63 := by rw [ofL_size]; exact (dec_lab HS.out x (List.mem_of_getElem? hx)).2
    have HV := Lib.hid hV
    have HE := Lib.hid hxy
    clear hV hx hxy
    have f4 : Fence.wide.fn 84 := trivial
    gi_wp2_with fail
    refine (CallsIn.inRound l (callsIn_wide.2 (lsame_yes (ofL y) (ofL x) (by omega) (by omega) (by rw [bl_ofL, bl_ofL]; exact HE.out) _))).mono ?_
    rintro e V2 ⟨rfl, hb⟩
    have HB2 := Lib.hid hb
    clear hb
    gi_wp2
    exact ⟨⟨HB2.out.size, fun k o _ hk _ => (HB2.out.block k (lt_of_heap hk)).trans hk⟩, HB2.out.mono HV.out.size, HV.out.trans (HB2.out.mono HV.out.size)⟩
  case done =>
    rintro D qs V hD _ hV hK
    have hbr := HR.out V hV
    have hbc : V.cell? ⟨w.heap.size, 0, none⟩ = some (.bool false) := Lib.cell_of_heap hbr 0
    have hbf : V.frozen? ⟨w.heap.size, 0, none⟩ = false := Lib.frozen_of_heap hbr 0
    have HV := Lib.hid hV
    clear hV hbr
    gi_wp2
    have hK' := (KeepsOthers.setCell V ⟨w.heap.size, 0, none⟩ (.bool true)).same D _ hK rfl
    refine ⟨by simp, .inl ⟨_, _, rfl, run_takeDeferred hK', ?_⟩⟩
    have hc5 := cell_kept (World.cell?_setCell_same' V ⟨w.heap.size, 0, none⟩ (.bool true) (by rw [hbc]; rfl)) (grownBy_putObj' _ D (.deferred none)) (fun r e => by cases e; exact ⟨_, hK', rfl⟩)
    have hBV : Below w.heap.size w V := (HB3.out.trans (HB.out.mono HB3.out.size)).trans (HV.out.mono (by have := HB3.out.size; omega))
    refine ⟨.bool true, ?_, rfl, (hBV.setCell (p := ⟨w.heap.size, 0, none⟩) (Nat.le_refl _) _).trans (belowK_b (w := w) (Nat.le_refl _) _ D _ _ (by have := HB3.out.size; omega) hK' rfl rfl)⟩
    simp [results, Try.f67, go_sem, hc5]
  case stop =>
    rintro D c pre V _ _ h _
    exact h.elim
end Go.Proofs.Ytniambdfgojgeaa
