/- The entries of EntryNames: what Check tells of each. -/
import Derived.Test.YtniambdfgojgeaaErg
namespace Go.Proofs.Ytniambdfgojgeaa
open Go.RowKit Go.PlainAid

theorem nm_dec {s : ByteArray} {ls : List (List UInt8)} (h : bl s = enc ls) (hl : ∀ l ∈ ls, Lab l) : nm s = some ls := by
  unfold nm
  rw [h, dec_enc ls hl]
theorem nm_ba : nm hostBA = some [[98], [97]] := nm_dec (by decide) (by simp [Lab])
theorem nm_A : nm ⟨#[1, 65]⟩ = some [[65]] := nm_dec (by decide) (by simp [Lab])
theorem nm_b : nm ⟨#[1, 98]⟩ = some [[98]] := nm_dec (by decide) (by simp [Lab])
theorem nm_q : nm ⟨#[1, 113]⟩ = some [[113]] := nm_dec (by decide) (by simp [Lab])
theorem nm_qx : nm ⟨#[1, 113, 1, 120]⟩ = some [[113], [120]] := nm_dec (by decide) (by simp [Lab])
theorem nm_sx : nm ⟨#[1, 42, 1, 120]⟩ = some [[42], [120]] := nm_dec (by decide) (by simp [Lab])
theorem nm_sb : nm ⟨#[1, 42, 1, 98]⟩ = some [[42], [98]] := nm_dec (by decide) (by simp [Lab])
theorem nm_x : nm textX = none := nm_bad (by decide) (by unfold okHead; decide)

theorem portsTwo_later {w : World} {g cap : Nat} {p q : Int} (hg : w.heap[g]? = some (.cells #[.int .i64 p, .int .i64 q] 3 (0, 0))) (hp : 1 ≤ p ∧ p ≤ 65535) (hq : 1 ≤ q ∧ q ≤ 65535) (hcap : 2 ≤ cap) : PortsAre (.slice (some ⟨g, 0, none⟩) 2 cap) (decide (p < q)) w := fun W hW => by
  have hr := (hW.block g (lt_of_heap hg)).trans hg
  exact ports_two g cap p q W (Lib.cell_of_heap hr 0) (Lib.cell_of_heap hr 1) hp hq hcap
theorem twoAddrs_of {w : World} {g : Nat} {a c : Bool} {x y z t : Int} (hg : w.heap[g]? = some (.cells #[.bool a, .int .u64 x, .int .u64 y, .bool c, .int .u64 z, .int .u64 t] 56 (0, 0))) : TwoAddrs g a c x y z t w :=
  ⟨lt_of_heap hg, Lib.cell_of_heap hg 0, Lib.cell_of_heap hg 1, Lib.cell_of_heap hg 2, Lib.cell_of_heap hg 3, Lib.cell_of_heap hg 4, Lib.cell_of_heap hg 5⟩

/-- a fixed entry whose rows are these: b tells whether its addresses are two, p and q are its ports -/
theorem check_fixed {w : World} {ga gp ca cp : Nat} {c : Bool} {y z t p q : Int} (host cl : ByteArray) (xs : List (List UInt8)) (ttl : Int) (hs : nm host = some xs) (h0 : 0 < host.size) (h : host.size ≤ 254) (h1 : 1 ≤ cl.size) (h2 : cl.size ≤ 63) (ht : 0 ≤ ttl ∧ ttl ≤ 2147483647)
    (ha : TwoAddrs ga false c 0 y z t w) (hy : AChecks (av false 0 y)) (hct : AChecks (av c z t)) (hca : 2 ≤ ca)
    (hg : w.heap[gp]? = some (.cells #[.int .i64 p, .int .i64 q] 3 (0, 0))) (hp : 1 ≤ p ∧ p ≤ 65535) (hq : 1 ≤ q ∧ q ≤ 65535) (hcp : 2 ≤ cp) :
    CheckIs (ev host 1 cl (.slice (some ⟨ga, 0, none⟩) 2 ca) ByteArray.empty (.slice (some ⟨gp, 0, none⟩) 2 cp) ttl) (if decide (p < q) && !(c == false && z == 0 && t == y) then 0 else 2) w :=
  check_any host cl ByteArray.empty 1 ttl _ _ xs hs h0 h ht _ _ w (portsTwo_later hg hp hq hcp)
    fun W hW => may_fixed host cl ga ca _ ttl h1 h2 W _ fun W2 hW2 => addrs_two ga ca false c 0 y z t W2 (ha.later (hW.trans (hW2.mono hW.size))) hy hct _ rfl hca

theorem check_fix {w : World} {B ga gp : Nat} (h : FixedAt B ga gp w) : CheckIs (fixedV ga gp) 0 w :=
  check_fixed (c := true) (p := 80) (q := 443) hostBA textX _ 30 nm_ba (by decide) (by decide) (by decide) (by decide) (by omega) (twoAddrs_of h.ra) (acheck_four _ (by omega) (by omega)) (acheck_six 0 1) (by omega) h.rp (by omega) (by omega) (by omega)

theorem check_alias (host al : ByteArray) (xs ys : List (List UInt8)) (hs : nm host = some xs) (h0 : 0 < host.size) (h : host.size ≤ 254) (hs' : nm al = some ys) (h0' : 0 < al.size) (h' : al.size ≤ 254) (b : Bool) (w : World)
    (hw : ∀ W, Calls Try.prog 66 #[.string al] W fun e w' => e = .returned (.bool b) ∧ ∃ n, W.drewN n = w') :
    CheckIs (ev host 3 ByteArray.empty (.slice none 0 0) al (.slice none 0 0) 0) (if true && !b then 0 else 2) w :=
  check_any host _ al 3 0 _ _ xs hs h0 h (by omega) _ _ w (fun W _ => ports_nil none 0 W) fun W _ => may_alias host al 0 ys hs' h0' h' b W hw

theorem check_auto (host cl : ByteArray) (xs : List (List UInt8)) (hs : nm host = some xs) (h0 : 0 < host.size) (h : host.size ≤ 254) (h1 : 1 ≤ cl.size) (h2 : cl.size ≤ 63) (w : World) :
    CheckIs (ev host 2 cl (.slice none 0 0) ByteArray.empty (.slice none 0 0) 0) 0 w :=
  check_any host cl _ 2 0 _ _ xs hs h0 h (by omega) true true w (fun W _ => ports_nil none 0 W) fun W _ => may_auto host cl _ 0 h1 h2 W
end Go.Proofs.Ytniambdfgojgeaa
