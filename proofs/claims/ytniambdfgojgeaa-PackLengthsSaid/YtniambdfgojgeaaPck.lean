/- pack.Packer: what its methods do, where nothing goes wrong. -/
import Derived.Test.YtniambdfgojgeaaPat
import Derived.Test.YtniambdfgojgeaaApp
import Derived.Maps.OwnOps
import Derived.Maps.OwnSet
import Derived.Maps.Views
namespace Go.Proofs.Ytniambdfgojgeaa
open Go.RowKit

theorem info3 : (Try.prog.info? 3).map (fun i => (i.zero, i.size, i.bytes)) = some (some (.int .i64 0), 1, 8) := by kernel_rfl

abbrev DU := DataW Unit
/-- the place that is noted of a name -/
def look : List (ByteArray × Nat) → ByteArray → Option Nat
  | [], _ => none
  | (n, a) :: r, k => if k = n then some a else look r k
def nkey (k : ByteArray) : Lit := .string k.data.toList
/-- block m is a map of names and places, those of L -/
def RestsIs (m : Nat) (L : List (ByteArray × Nat)) (w : World) : Prop :=
  ∃ (n : Nat) (D : DU), n ≤ L.length ∧ w.ownsMap Try.prog 43 (plainElem Try.prog 3) m n D ∧ ∀ k : ByteArray,
    (look L k = none → Maps.has D (nkey k) = false) ∧ ∀ a : Nat, look L k = some a → Maps.has D (nkey k) = true ∧ ∀ z, D.atKey (nkey k) z = .lit (.int .i64 a)

/-- the packer in block p: its writer in block b, its map in block m, the lengths that were begun -/
structure PAt (B p b m : Nat) (v bv : Value) (s : ByteArray) (most e : Int) (L : List (ByteArray × Nat)) (ks : List Int) (w : World) : Prop where
  hB : B ≤ p ∧ B ≤ b ∧ B ≤ m
  hp : w.heap[p]? = some (.cells #[.pointer (some ⟨b, 0, none⟩), .map (some m), bv] 82 (0, 0))
  hw : WAt B b v s most e w
  hm : RestsIs m L w
  hk : w.ownsRow B 3 1 bv ks.length (ks.map (.int .i64))
/-- the blocks of a packer -/
def PSet (p b m : Nat) (v bv : Value) : Nat → Prop := fun k => k = p ∨ k = b ∨ k = m ∨ v.ownBlock = some k ∨ bv.ownBlock = some k
/-- what a call leaves of a packer, and of all else -/
def PLeft (B p b m : Nat) (v bv : Value) (s' : ByteArray) (most e : Int) (L' : List (ByteArray × Nat)) (ks' : List Int) (w w' : World) : Prop :=
  ∃ v' bv', PAt B p b m v' bv' s' most e L' ks' w' ∧ Keeps (PSet p b m v bv) w w' ∧ Placed v v' w.heap.size ∧ Placed bv bv' w.heap.size

theorem RestsIs.keep {m : Nat} {L : List (ByteArray × Nat)} {w w' : World} (h : RestsIs m L w) {S : Nat → Prop} (hk : Keeps S w w') (hm : ¬ S m) : RestsIs m L w' := by
  obtain ⟨n, D, hn, ⟨es, c, hb, r⟩, hl⟩ := h
  exact ⟨n, D, hn, ⟨es, c, hk.heap hb hm, r⟩, hl⟩
theorem RestsIs.notCells {m : Nat} {L : List (ByteArray × Nat)} {w : World} (h : RestsIs m L w) {cs : Array Value} {T : TypeId} {fr : Nat × Nat} : w.heap[m]? ≠ some (.cells cs T fr) := by
  obtain ⟨n, D, hn, ⟨es, c, hb, r⟩, hl⟩ := h
  intro e
  rw [hb] at e
  cases e
theorem owned_cells {w : World} {B e size n : Nat} {v : Value} {xs : List Value} (h : w.ownsRow B e size v n xs) {k : Nat} (hk : v.ownBlock = some k) : ∃ cs, w.heap[k]? = some (.cells cs e (0, 0)) := by
  rcases h.2 with ⟨rfl, _⟩ | ⟨g, cap, cur, rfl, _, hg, _⟩
  · simp [Value.ownBlock] at hk
  · simp only [Value.ownBlock, Option.some.injEq] at hk
    subst hk
    exact ⟨_, hg⟩

namespace PAt
variable {B p b m : Nat} {v bv : Value} {s : ByteArray} {most e : Int} {L : List (ByteArray × Nat)} {ks : List Int} {w : World}
theorem pb (h : PAt B p b m v bv s most e L ks w) : p ≠ b := by
  rintro rfl
  have := h.hp.symm.trans h.hw.1
  simp at this
theorem pm (h : PAt B p b m v bv s most e L ks w) : p ≠ m := by
  rintro rfl
  exact h.hm.notCells h.hp
theorem bm (h : PAt B p b m v bv s most e L ks w) : b ≠ m := by
  rintro rfl
  exact h.hm.notCells h.hw.1
theorem vp (h : PAt B p b m v bv s most e L ks w) : v.ownBlock ≠ some p := fun x => by
  obtain ⟨cs, hc⟩ := owned_cells h.hw.2 x
  have := hc.symm.trans h.hp
  simp at this
theorem vm (h : PAt B p b m v bv s most e L ks w) : v.ownBlock ≠ some m := fun x => by
  obtain ⟨cs, hc⟩ := owned_cells h.hw.2 x
  exact h.hm.notCells hc
theorem kp (h : PAt B p b m v bv s most e L ks w) : bv.ownBlock ≠ some p := fun x => by
  obtain ⟨cs, hc⟩ := owned_cells h.hk x
  have := hc.symm.trans h.hp
  simp at this
theorem kb (h : PAt B p b m v bv s most e L ks w) : bv.ownBlock ≠ some b := fun x => by
  obtain ⟨cs, hc⟩ := owned_cells h.hk x
  have := hc.symm.trans h.hw.1
  simp at this
theorem km (h : PAt B p b m v bv s most e L ks w) : bv.ownBlock ≠ some m := fun x => by
  obtain ⟨cs, hc⟩ := owned_cells h.hk x
  exact h.hm.notCells hc
theorem vk (h : PAt B p b m v bv s most e L ks w) {k : Nat} (hk : v.ownBlock = some k) : bv.ownBlock ≠ some k := fun x => by
  obtain ⟨cs, hc⟩ := owned_cells h.hk x
  obtain ⟨cs', hc'⟩ := owned_cells h.hw.2 hk
  have := hc.symm.trans hc'
  simp at this
/-- the writer has gone on, all else is as it was -/
theorem wrote (h : PAt B p b m v bv s most e L ks w) {s' : ByteArray} {e' : Int} {w' : World} (hl : WLeft B b v s' most e' w w') : PLeft B p b m v bv s' most e' L ks w w' := by
  obtain ⟨v', hv', hK, hpl⟩ := hl
  refine ⟨v', bv, ⟨h.hB, hK.heap h.hp ?_, hv', h.hm.keep hK ?_, hK.owns h.hk ?_⟩, hK.mono ?_, hpl, Placed.refl _ _⟩
  · rintro (x | x)
    · exact h.pb x
    · exact h.vp x
  · rintro (x | x)
    · exact h.bm x.symm
    · exact h.vm x
  · rintro k hk (x | x)
    · exact h.kb (by rw [hk, x])
    · exact h.vk x hk
  · rintro k _ (x | x)
    · exact .inr (.inl x)
    · exact .inr (.inr (.inr (.inl x)))
theorem same (h : PAt B p b m v bv s most e L ks w) : PLeft B p b m v bv s most e L ks w w := ⟨v, bv, h, Keeps.refl _ w, Placed.refl _ _, Placed.refl _ _⟩
theorem drewN (h : PAt B p b m v bv s most e L ks w) (n : Nat) : PAt B p b m v bv s most e L ks (w.drewN n) := ⟨h.hB, h.hp, h.hw, h.hm, h.hk⟩
end PAt
theorem PSet.mono {p b m : Nat} {v bv v1 bv1 : Value} {z : Nat} (h1 : Placed v v1 z) (h2 : Placed bv bv1 z) : ∀ k, k < z → PSet p b m v1 bv1 k → PSet p b m v bv k := by
  rintro k hk (x | x | x | x | x)
  · exact .inl x
  · exact .inr (.inl x)
  · exact .inr (.inr (.inl x))
  · rcases h1 k x with y | y
    · exact .inr (.inr (.inr (.inl y)))
    · omega
  · rcases h2 k x with y | y
    · exact .inr (.inr (.inr (.inr y)))
    · omega
/-- one call's leavings, then another's -/
theorem PLeft.then {B p b m : Nat} {v bv v1 bv1 : Value} {s2 : ByteArray} {most e : Int} {L2 : List (ByteArray × Nat)} {ks2 : List Int} {w w1 w2 : World}
    (hK : Keeps (PSet p b m v bv) w w1) (hv : Placed v v1 w.heap.size) (hb : Placed bv bv1 w.heap.size) (h2 : PLeft B p b m v1 bv1 s2 most e L2 ks2 w1 w2) : PLeft B p b m v bv s2 most e L2 ks2 w w2 := by
  obtain ⟨v2, bv2, h, hK2, hv2, hb2⟩ := h2
  exact ⟨v2, bv2, h, hK.trans hK2 (PSet.mono hv hb), hv.trans hv2 hK.size, hb.trans hb2 hK.size⟩
theorem PLeft.below {B p b m : Nat} {v bv : Value} {s s' : ByteArray} {most e most' e' : Int} {L L' : List (ByteArray × Nat)} {ks ks' : List Int} {w0 w w' : World} (hl : PLeft B p b m v bv s' most' e' L' ks' w w') (h : PAt B p b m v bv s most e L ks w)
    {B0 : Nat} (h0 : Below B0 w0 w) (hB : B0 ≤ B) : Below B0 w0 w' := by
  obtain ⟨_, _, _, hK, _, _⟩ := hl
  refine h0.trans ⟨hK.os, hK.tape, hK.output, hK.size, fun k hk => ?_⟩
  have hb := h.hB
  have hlt := lt_of_heap h.hp
  refine hK.block k (by omega) ?_
  rintro (x | x | x | x | x)
  · omega
  · omega
  · omega
  · have := (h.hw.2.lt k x).1; omega
  · have := (h.hk.lt k x).1; omega
end Go.Proofs.Ytniambdfgojgeaa
