/- The example of layer 7 lives. -/
import Derived.Test.YtniambdfgojgeaaPnm
namespace Go.Proofs.Ytniambdfgojgeaa
open Go.RowKit

def n7a : ByteArray := ⟨#[1, 97, 1, 98]⟩
def n7b : ByteArray := ⟨#[1, 99, 1, 98]⟩
def r7a := nameW 5 [] ByteArray.empty n7a
def r7b := nameW 5 r7a.2 r7a.1 n7b
def r7c := nameW 5 r7b.2 r7b.1 n7a

set_option maxRecDepth 100000 in
set_option maxHeartbeats 1600000 in
theorem lives07 (w : World) : Calls Try.prog 9 #[] w fun x w' => x = .returned (.bool true) ∧ Below w.heap.size w w' := by
  have l0 : ∀ k a, look [] k = some a → a < 16384 := fun k a h => by cases h
  have la : ∀ k a, look r7a.2 k = some a → a < 16384 := nameW_lt _ _ _ _ l0
  have lb : ∀ k a, look r7b.2 k = some a → a < 16384 := nameW_lt _ _ _ _ la
  have hfin : r7c.1 = ⟨#[1, 97, 1, 98, 0, 1, 99, 192, 2, 192, 0]⟩ := by decide +kernel
  have L0 := Lib.hid l0
  have LA := Lib.hid la
  have LB := Lib.hid lb
  have HF := Lib.hid hfin
  clear l0 la lb hfin
  go_enter Try.func9, Try.ntmps9
  go_wp2_with fail
  refine (pNew 99 (by decide) (by decide) w).mono ?_
  rintro e w1 ⟨rfl, h1, hb1⟩
  have H1 := Lib.hid h1
  have B1 := Lib.hid hb1
  clear h1 hb1
  go_wp2_with fail
  refine (pName_ok H1.out n7a (by decide) (by decide +kernel) (by decide +kernel) (by decide) (by decide +kernel) L0.out).mono ?_
  rintro e w2 ⟨rfl, hl2⟩
  have B2 := Lib.hid (hl2.below H1.out B1.out (Nat.le_refl _))
  obtain ⟨v2, bv2, h2, _⟩ := hl2
  have H2 := Lib.hid h2
  clear h2 H1 B1
  go_wp2_with fail
  refine (pName_ok H2.out n7b (by decide) (by decide +kernel) (by decide +kernel) (by decide) (by decide +kernel) LA.out).mono ?_
  rintro e w3 ⟨rfl, hl3⟩
  have B3 := Lib.hid (hl3.below H2.out B2.out (Nat.le_refl _))
  obtain ⟨v3, bv3, h3, _⟩ := hl3
  have H3 := Lib.hid h3
  clear h3 H2 B2
  go_wp2_with fail
  refine (pName_ok H3.out n7a (by decide) (by decide +kernel) (by decide +kernel) (by decide) (by decide +kernel) LB.out).mono ?_
  rintro e w4 ⟨rfl, hl4⟩
  have B4 := Lib.hid (hl4.below H3.out B3.out (Nat.le_refl _))
  obtain ⟨v4, bv4, h4, _⟩ := hl4
  have h4' : PAt w.heap.size (w.heap.size + 2) w.heap.size (w.heap.size + 1) v4 bv4 ⟨#[1, 97, 1, 98, 0, 1, 99, 192, 2, 192, 0]⟩ 99 0 r7c.2 [] w4 := by
    have := h4
    rw [show (nameW (n7a.size + 1) (nameW (n7b.size + 1) (nameW (n7a.size + 1) [] ByteArray.empty n7a).2 (nameW (n7a.size + 1) [] ByteArray.empty n7a).1 n7b).2 (nameW (n7b.size + 1) (nameW (n7a.size + 1) [] ByteArray.empty n7a).2 (nameW (n7a.size + 1) [] ByteArray.empty n7a).1 n7b).1 n7a).1 = _ from HF.out] at this
    exact this
  have H4 := Lib.hid h4'
  clear h4 h4' H3 B3
  go_wp2_with fail
  refine (pText H4.out).mono ?_
  rintro e w5 ⟨rfl, rfl⟩
  go_wp2
  go_ret
  exact ⟨rfl, B4.out⟩
end Go.Proofs.Ytniambdfgojgeaa
