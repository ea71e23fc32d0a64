/- slices.Clone, slices.Equal of a fixed entry's rows; entry.Key, Same, Copy. -/
import Derived.Test.YtniambdfgojgeaaEfx
import Derived.Laws.Cover3
namespace Go.Proofs.Ytniambdfgojgeaa
open Go.RowKit Go.PlainAid

theorem infoAddr : (Try.prog.info? 56).map (fun i => (i.zero, i.size, i.bytes)) = some (some (av false 0 0), 3, 24) := by kernel_rfl
theorem infoInt : (Try.prog.info? 3).map (fun i => (i.zero, i.size, i.bytes)) = some (some (.int .i64 0), 1, 8) := by kernel_rfl

theorem row_add (g j : Nat) : (⟨g, 0, none⟩ : Addr).add j = ⟨g, j, none⟩ := by cases j <;> simp [Addr.add]

theorem eqlNil {T e : TypeId} (h : Try.prog.underlying T = some (.slice e)) (a : Addr) (n cap : Nat) (w : World) : (binOp .eql T (.slice (some a) n cap) (.slice none 0 0)).run Try.prog w = .ok (.bool false) w := by
  have := run_equal_slice_nil (P := Try.prog) w T e (some a) n cap h
  simp only [binOp]
  simp [this]

/-- what a clone of a row is: a new one, of the same cells -/
def CloneIs (B : Nat) (T : TypeId) (size n : Nat) (cells : List Value) (w : World) (e : Ending) (w' : World) : Prop :=
  ∃ v, e = .returned v ∧ w'.ownsRow B T size v n cells ∧ Below B w w'

set_option maxRecDepth 100000 in
set_option maxHeartbeats 1600000 in
theorem cloneA (g cap n : Nat) (cells : List Value) (w : World) (hl : cells.length = n * 3) (hn : n ≤ 100) (hc : ∀ j u, cells[j]? = some u → w.cell? ⟨g, j, none⟩ = some u) (h1 : ∀ u ∈ cells, u.oneCell' = true) (hg : g < w.heap.size) :
    Calls Try.prog 54 #[.slice (some ⟨g, 0, none⟩) n cap] w (CloneIs w.heap.size 56 3 n cells w) := by
  obtain ⟨i0, hi, hz0, hz1, hz2⟩ := info_parts infoAddr
  have HC := Lib.hid hc
  have H1 := Lib.hid h1
  clear hc h1
  have hq := eqlNil Try.underlying49 ⟨g, 0, none⟩ n cap w
  go_enter Try.func54, Try.ntmps54
  have hown : (w.alloc (.cells #[] 56)).ownsRow w.heap.size 56 3 (.slice (some ⟨w.heap.size, 0, none⟩) 0 0) 0 [] :=
    ⟨rfl, .inr ⟨w.heap.size, 0, #[], rfl, Nat.le_refl _, heap_alloc_new w _, Nat.le_refl _, by unfold maxLen; omega, rfl, rfl⟩⟩
  have HO := Lib.hid hown
  clear hown
  go_wp2_with (at_builtin; refine wpList_append_own _ rfl _ _ 49 rfl w.heap.size 56 i0 (av false 0 0) 3 24 Try.underlying49 hi hz0 hz1 hz2 rfl (by decide) _ _ _ rfl HO.out ⟨g, 0, none⟩ n cap cells rfl hl ?c1 H1.out ?c3 ?c4 ?c5 ?_)
  case c1 =>
    intro j u hj
    rw [row_add]
    exact (World.cell?_of_block (w := w) (Below.heap_alloc w _ g hg)).trans (HC.out j u hj)
  case c3 => unfold maxLen; omega
  case c4 => omega
  case c5 => simp
  intro v' w1 hown' hgrow _
  have hB : Below w.heap.size w w1 := ((Below.refl _ w).alloc (Nat.le_refl _) _).grown hgrow (by simp) (fun k hk => by cases hk; exact Nat.le_refl _)
  have HW := Lib.hid hown'
  have HB := Lib.hid hB
  clear hown' hgrow hB
  go_wp2_with fail
  go_ret
  exact ⟨v', rfl, HW.out, HB.out⟩

set_option maxRecDepth 100000 in
set_option maxHeartbeats 1600000 in
theorem cloneI (g cap n : Nat) (cells : List Value) (w : World) (hl : cells.length = n * 1) (hn : n ≤ 100) (hc : ∀ j u, cells[j]? = some u → w.cell? ⟨g, j, none⟩ = some u) (h1 : ∀ u ∈ cells, u.oneCell' = true) (hg : g < w.heap.size) :
    Calls Try.prog 55 #[.slice (some ⟨g, 0, none⟩) n cap] w (CloneIs w.heap.size 3 1 n cells w) := by
  obtain ⟨i0, hi, hz0, hz1, hz2⟩ := info_parts infoInt
  have HC := Lib.hid hc
  have H1 := Lib.hid h1
  clear hc h1
  have hq := eqlNil Try.underlying31 ⟨g, 0, none⟩ n cap w
  go_enter Try.func55, Try.ntmps55
  have hown : (w.alloc (.cells #[] 3)).ownsRow w.heap.size 3 1 (.slice (some ⟨w.heap.size, 0, none⟩) 0 0) 0 [] :=
    ⟨rfl, .inr ⟨w.heap.size, 0, #[], rfl, Nat.le_refl _, heap_alloc_new w _, Nat.le_refl _, by unfold maxLen; omega, rfl, rfl⟩⟩
  have HO := Lib.hid hown
  clear hown
  go_wp2_with (at_builtin; refine wpList_append_own _ rfl _ _ 31 rfl w.heap.size 3 i0 (.int .i64 0) 1 8 Try.underlying31 hi hz0 hz1 hz2 rfl (by decide) _ _ _ rfl HO.out ⟨g, 0, none⟩ n cap cells rfl hl ?c1 H1.out ?c3 ?c4 ?c5 ?_)
  case c1 =>
    intro j u hj
    rw [row_add]
    exact (World.cell?_of_block (w := w) (Below.heap_alloc w _ g hg)).trans (HC.out j u hj)
  case c3 => unfold maxLen; omega
  case c4 => omega
  case c5 => simp
  intro v' w1 hown' hgrow _
  have hB : Below w.heap.size w w1 := ((Below.refl _ w).alloc (Nat.le_refl _) _).grown hgrow (by simp) (fun k hk => by cases hk; exact Nat.le_refl _)
  have HW := Lib.hid hown'
  have HB := Lib.hid hB
  clear hown' hgrow hB
  go_wp2_with fail
  go_ret
  exact ⟨v', rfl, HW.out, HB.out⟩


set_option maxRecDepth 100000 in
set_option maxHeartbeats 1600000 in
theorem equalA_same (g g' cap cap' : Nat) (a c : Bool) (x y z t : Int) (w : World) (h : TwoAddrs g a c x y z t w) (h' : TwoAddrs g' a c x y z t w) (_hcap : 2 ≤ cap) (_hcap' : 2 ≤ cap') :
    Calls Try.prog 58 #[.slice (some ⟨g, 0, none⟩) 2 cap, .slice (some ⟨g', 0, none⟩) 2 cap'] w fun e w' => e = .returned (.bool true) ∧ ∃ n, w.drewN n = w' := by
  obtain ⟨_, c0, c1, c2, c3, c4, c5⟩ := h
  obtain ⟨_, d0, d1, d2, d3, d4, d5⟩ := h'
  have hgd : Try.prog.eqGuardType Try.prog.depth 56 = false := by kernel_rfl
  go_enter Try.func58, Try.ntmps58
  go_wp2_with fail
  go_loopw [13] (fun v wr => ∃ i n : Nat, v = .int .i64 i ∧ i ≤ 2 ∧ wr = w.drewN n) (fun v _ => 2 - (intOf v).toNat)
  case atStart => exact ⟨0, 0, rfl, by omega, rfl⟩
  case round =>
    obtain ⟨i, n, rfl, hi, rfl⟩ := hrel
    rcases (by omega : i = 0 ∨ i = 1 ∨ i = 2) with rfl | rfl | rfl
    · go_wp2_with fail
      go_region
      go_wp2_with fail
      go_roundw
      case rel => exact ⟨1, _, by simp, by omega, rfl⟩
      case measure => simp [intOf]
    · go_wp2_with fail
      go_region
      go_wp2_with fail
      go_roundw
      case rel => exact ⟨2, _, by simp, by omega, rfl⟩
      case measure => simp [intOf]
    · go_wp2_with fail
      go_ret
      exact ⟨rfl, n, rfl⟩

set_option maxRecDepth 100000 in
set_option maxHeartbeats 1600000 in
theorem equalA_diff (g g' cap cap' : Nat) (a c : Bool) (x y y' z t : Int) (w : World) (hy : y ≠ y') (h : TwoAddrs g a c x y z t w) (h' : TwoAddrs g' a c x y' z t w) (_hcap : 2 ≤ cap) (_hcap' : 2 ≤ cap') :
    Calls Try.prog 58 #[.slice (some ⟨g, 0, none⟩) 2 cap, .slice (some ⟨g', 0, none⟩) 2 cap'] w fun e w' => e = .returned (.bool false) ∧ ∃ n, w.drewN n = w' := by
  obtain ⟨_, c0, c1, c2, c3, c4, c5⟩ := h
  obtain ⟨_, d0, d1, d2, d3, d4, d5⟩ := h'
  have hgd : Try.prog.eqGuardType Try.prog.depth 56 = false := by kernel_rfl
  go_enter Try.func58, Try.ntmps58
  go_wp2_with fail
  go_loopw [13] (fun v wr => v = .int .i64 0 ∧ w = wr) (fun _ _ => 0)
  case atStart => exact ⟨rfl, rfl⟩
  obtain ⟨rfl, rfl⟩ := hrel
  go_wp2_with fail
  go_region
  go_wp2_with fail
  go_ret
  exact ⟨rfl, 1, rfl⟩

set_option maxRecDepth 100000 in
set_option maxHeartbeats 1600000 in
theorem equalI_same (g g' cap cap' : Nat) (x y : Int) (w : World) (c0 : w.cell? ⟨g, 0, none⟩ = some (.int .i64 x)) (c1 : w.cell? ⟨g, 1, none⟩ = some (.int .i64 y)) (d0 : w.cell? ⟨g', 0, none⟩ = some (.int .i64 x)) (d1 : w.cell? ⟨g', 1, none⟩ = some (.int .i64 y)) (_hcap : 2 ≤ cap) (_hcap' : 2 ≤ cap') :
    Calls Try.prog 59 #[.slice (some ⟨g, 0, none⟩) 2 cap, .slice (some ⟨g', 0, none⟩) 2 cap'] w fun e w' => e = .returned (.bool true) ∧ ∃ n, w.drewN n = w' := by
  go_enter Try.func59, Try.ntmps59
  go_wp2_with fail
  go_loopw [13] (fun v wr => ∃ i n : Nat, v = .int .i64 i ∧ i ≤ 2 ∧ wr = w.drewN n) (fun v _ => 2 - (intOf v).toNat)
  case atStart => exact ⟨0, 0, rfl, by omega, rfl⟩
  case round =>
    obtain ⟨i, n, rfl, hi, rfl⟩ := hrel
    rcases (by omega : i = 0 ∨ i = 1 ∨ i = 2) with rfl | rfl | rfl
    · go_wp2_with fail
      go_region
      go_wp2_with fail
      go_roundw
      case rel => exact ⟨1, _, by simp, by omega, rfl⟩
      case measure => simp [intOf]
    · go_wp2_with fail
      go_region
      go_wp2_with fail
      go_roundw
      case rel => exact ⟨2, _, by simp, by omega, rfl⟩
      case measure => simp [intOf]
    · go_wp2_with fail
      go_ret
      exact ⟨rfl, n, rfl⟩
end Go.Proofs.Ytniambdfgojgeaa
