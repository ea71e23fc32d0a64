/- The law PackLengths: its walk. -/
import Derived.Test.YtniambdfgojgeaaPlv
import Derived.Test.YtniambdfgojgeaaPlx
import Derived.BigQuiet
namespace Go.Proofs.Ytniambdfgojgeaa
open Go.RowKit Go.PlainAid

/-- the places -/
def poss (ss : Nat → ByteArray) (k : Nat) : List Int := (List.range k).map fun i => (pos ss i : Int)
theorem poss_len (ss : Nat → ByteArray) (k : Nat) : (poss ss k).length = k := by simp [poss]
theorem poss_succ (ss : Nat → ByteArray) (k : Nat) : poss ss (k + 1) = poss ss k ++ [(pos ss k : Int)] := by simp [poss, List.range_succ]
/-- the strings that have come are short -/
def Short (ss : Nat → ByteArray) (k : Nat) : Prop := ∀ j, j < k → (ss j).size ≤ 300
/-- the first loop -/
def Rel1 (ss : Nat → ByteArray) (n : Nat) (w0 w : World) (av i : Value) (wr : World) : Prop :=
  ∃ k : Nat, k ≤ n ∧ i = .int .i64 k ∧ Short ss k ∧ wr.ownsRow w0.heap.size 3 1 av k ((poss ss k).map (.int .i64)) ∧ Below w0.heap.size w0 wr ∧
    ∃ v bv, PAt w.heap.size (w.heap.size + 2) w.heap.size (w.heap.size + 1) v bv (tx ss (fun _ => 0) k) 65535 0 [] (poss ss k) wr ∧ (∀ g, av.ownBlock = some g → bv.ownBlock ≠ some g)

/-- no block of the packer is the row of the places -/
theorem PAt.free {B p b m : Nat} {v bv av : Value} {s : ByteArray} {most e : Int} {L : List (ByteArray × Nat)} {ks : List Int} {w : World} (h : PAt B p b m v bv s most e L ks w) {B' n : Nat} {xs : List Value}
    (ho : w.ownsRow B' 3 1 av n xs) (hs : ∀ g, av.ownBlock = some g → bv.ownBlock ≠ some g) : ∀ k, av.ownBlock = some k → ¬ PSet p b m v bv k := by
  intro k hk
  obtain ⟨cs, hc⟩ := owned_cells ho hk
  rintro (x | x | x | x | x)
  · rw [x] at hc
    have := hc.symm.trans h.hp
    simp at this
  · rw [x] at hc
    have := hc.symm.trans h.hw.1
    simp at this
  · rw [x] at hc
    exact h.hm.notCells hc
  · obtain ⟨cs', hc'⟩ := owned_cells h.hw.2 x
    have := hc.symm.trans hc'
    simp at this
  · exact hs k hk x

theorem PAt.keep {B p b m : Nat} {v bv : Value} {s : ByteArray} {most e : Int} {L : List (ByteArray × Nat)} {ks : List Int} {w w' : World} (h : PAt B p b m v bv s most e L ks w) {S : Nat → Prop} (hK : Keeps S w w') (hS : ∀ k, S k → ¬ PSet p b m v bv k) :
    PAt B p b m v bv s most e L ks w' :=
  ⟨h.hB, hK.heap h.hp (fun x => hS _ x (.inl rfl)), h.hw.keep hK (fun x => hS _ x (.inr (.inl rfl))) (fun _ hk x => hS _ x (.inr (.inr (.inr (.inl hk))))),
   h.hm.keep hK (fun x => hS _ x (.inr (.inr (.inl rfl)))), hK.owns h.hk (fun _ hk x => hS _ x (.inr (.inr (.inr (.inr hk)))))⟩
/-- two rows apart stay apart where one grows -/
theorem apart_right {av bv bv' : Value} {w : World} {B e n size : Nat} {xs : List Value} (ho : w.ownsRow B e size av n xs) (hs : ∀ g, av.ownBlock = some g → bv.ownBlock ≠ some g) (hp : Placed bv bv' w.heap.size) : ∀ g, av.ownBlock = some g → bv'.ownBlock ≠ some g := by
  intro g hg hb
  rcases hp g hb with x | x
  · exact hs g hg x
  · have := (ho.lt g hg).2
    omega
theorem apart_left {av av' bv : Value} {w : World} {B e n size : Nat} {xs : List Value} (ho : w.ownsRow B e size bv n xs) (hs : ∀ g, av.ownBlock = some g → bv.ownBlock ≠ some g) (hp : Placed av av' w.heap.size) : ∀ g, av'.ownBlock = some g → bv.ownBlock ≠ some g := by
  intro g hg hb
  rcases hp g hg with x | x
  · exact hs g x hb
  · have := (ho.lt g hb).2
    omega
theorem pBegin_at {B p b m : Nat} {v bv : Value} {s : ByteArray} {most : Int} {L : List (ByteArray × Nat)} {ks : List Int} {w : World} (h : PAt B p b m v bv s most 0 L ks w) (x : Nat) (hx : s.size = x) (hfit : (x : Int) + 2 ≤ most) (hmost : most ≤ 100000) (hks : ks.length ≤ 1000) :
    Calls Try.prog 11 #[.pointer (some ⟨p, 0, none⟩)] w fun e w' => e = .returned (.tuple #[.int .i64 x, .int .i64 0]) ∧ PLeft B p b m v bv (s ++ two 0) most 0 L (ks ++ [(x : Int)]) w w' := by
  subst hx
  exact pBegin_ok h hfit hmost hks
/-- the lengths, those from k on being told -/
def vals (ss : Nat → ByteArray) (n k : Nat) : Nat → Int := fun j => if k ≤ j then (pos ss n : Int) - pos ss j - 2 else 0

theorem pos_short {ss : Nat → ByteArray} {k : Nat} (h : Short ss k) : ∀ {j : Nat}, j ≤ k → pos ss j ≤ 302 * j
  | 0, _ => Nat.le_refl _
  | j + 1, hj => by
    show pos ss j + 2 + (ss j).size ≤ _
    have := pos_short h (j := j) (by omega)
    have := h j (by omega)
    omega
theorem short_succ {ss : Nat → ByteArray} {k : Nat} (h : Short ss k) (hk : (ss k).size ≤ 300) : Short ss (k + 1) := fun j hj => by
  rcases Nat.lt_or_ge j k with x | x
  · exact h j x
  · obtain rfl : j = k := by omega
    exact hk

/-- the second loop -/
def Rel2 (ss : Nat → ByteArray) (n : Nat) (w0 w : World) (aa : Option Addr) (ac : Nat) (i : Value) (wr : World) : Prop :=
  ∃ k : Nat, k ≤ n ∧ i = .int .i64 ((k : Int) - 1) ∧ wr.ownsRow w0.heap.size 3 1 (.slice aa n ac) n ((poss ss n).map (.int .i64)) ∧ Below w0.heap.size w0 wr ∧
    ∃ v bv, PAt w.heap.size (w.heap.size + 2) w.heap.size (w.heap.size + 1) v bv (tx ss (vals ss n k) n) 65535 0 [] (poss ss k) wr ∧ (∀ g, (Value.slice aa n ac).ownBlock = some g → bv.ownBlock ≠ some g)
/-- the third loop -/
def Rel3 (ss : Nat → ByteArray) (n : Nat) (w0 : World) (aa : Option Addr) (ac : Nat) (i : Value) (wr : World) : Prop :=
  ∃ k : Nat, k ≤ n ∧ i = .int .i64 k ∧ wr.ownsRow w0.heap.size 3 1 (.slice aa n ac) n ((poss ss n).map (.int .i64)) ∧ Below w0.heap.size w0 wr
theorem row_cell {ss : Nat → ByteArray} {n B : Nat} {aa : Option Addr} {ac : Nat} {w : World} (h : w.ownsRow B 3 1 (.slice aa n ac) n ((poss ss n).map (.int .i64))) {i : Nat} (hi : i < n) :
    ∃ g, Value.slice aa n ac = .slice (some ⟨g, 0, none⟩) n ac ∧ w.cell? ⟨g, i, none⟩ = some (.int .i64 (pos ss i)) := by
  obtain ⟨g, c, hv⟩ := owned_some h (by omega)
  injection hv with h1 h2 h3
  subst h1
  refine ⟨g, rfl, ?_⟩
  have := h.cells (g := g) rfl i (.int .i64 (pos ss i)) (by simp [poss, hi])
  have hadd : (⟨g, 0, none⟩ : Addr).add i = ⟨g, i, none⟩ := by unfold Addr.add; split <;> simp_all
  rwa [hadd] at this
theorem vals_step (ss : Nat → ByteArray) {n j : Nat} (hj : j < n) (x : Int) (hx : x = (pos ss n : Int) - pos ss j - 2) : bput (tx ss (vals ss n (j + 1)) n) (pos ss j) (two x) = tx ss (vals ss n j) n := by
  rw [bput_tx ss _ _ hj]
  refine tx_congr ss fun i hi => ?_
  unfold upd vals
  by_cases e : i = j
  · subst e
    rw [if_pos rfl, if_pos (Nat.le_refl _), hx]
  · rw [if_neg e]
    by_cases h : j ≤ i
    · rw [if_pos (by omega), if_pos h]
    · rw [if_neg (by omega), if_neg h]

set_option maxRecDepth 100000 in
set_option maxHeartbeats 4000000 in
theorem lengths_walk (ss : Nat → ByteArray) (b0 off n cap : Nat) (w0 : World) (hcell : ∀ i, i < n → w0.cell? ⟨b0, off + i, none⟩ = some (.string (ss i))) (hn : n ≤ cap) (hcap : cap ≤ maxLen) (hb0 : 0 < n → b0 < w0.heap.size) :
    Calls Try.prog 4 #[.slice (some ⟨b0, off, none⟩) n cap] w0 fun x w' => x = .returned (.bool true) ∧ Below w0.heap.size w0 w' := by
  have hnot : ∀ (x : Bool) (w : World), (Op.unary .not (.bool x)).run Try.prog w = .ok (.bool (!x)) w := fun _ _ => rfl
  have hmc : cap ≤ 9223372036854775807 := hcap
  have HC := Lib.hid hcell
  clear hcell hcap
  by_cases h20 : 20 < n
  · go_enter Try.func4, Try.ntmps4
    go_wp2_with fail
    refine (lives07 w0).mono ?_
    rintro e w1 ⟨rfl, hb1⟩
    have H1 := Lib.hid hb1
    clear hb1
    go_wp2
    go_ret
    exact ⟨rfl, H1.out⟩
  · go_enter Try.func4, Try.ntmps4
    go_wp2_with fail
    refine (lives07 w0).mono ?_
    rintro e w ⟨rfl, hb1⟩
    have H1 := Lib.hid hb1
    clear hb1
    go_wp2_with fail
    refine (pNew 65535 (by decide) (by decide) w).mono ?_
    rintro e w2 ⟨rfl, h2, hb2⟩
    have hB2 := H1.out.trans (hb2.mono H1.out.size)
    have H2 := Lib.hid h2
    have HB2 := Lib.hid hB2
    clear h2 hb2 hB2
    go_wp2_with fail
    go_loopw [4, 5] (fun av i wr => Rel1 ss n w0 w av i wr) (fun _ i _ => n - (intOf i).toNat)
    case atStart => exact ⟨0, by omega, rfl, fun j hj => by omega, World.ownsRow_nil _ _ _ _, HB2.out, _, _, H2.out, fun g hg => by cases hg⟩
    case round =>
      obtain ⟨k, hk, rfl, hsh, hav, hbr, v, bv, hp, hsep⟩ := hrel
      obtain ⟨aa, ac, rfl⟩ := owned_form hav
      have HAV := Lib.hid hav
      have HBR := Lib.hid hbr
      have HP := Lib.hid hp
      have HSEP := Lib.hid hsep
      have HSH := Lib.hid hsh
      clear hav hbr hp hsep hsh
      by_cases hlt : k < n
      · have hci : wr.cell? ⟨b0, off + k, none⟩ = some (.string (ss k)) := (HBR.out.cell (p := ⟨b0, off + k, none⟩) (hb0 (by omega))).trans (HC.out k hlt)
        by_cases h300 : 300 < (ss k).size
        · go_wp2
          go_ret
          exact ⟨rfl, HBR.out⟩
        · have h300' : (ss k).size ≤ 300 := by omega
          clear h300
          go_wp2_with fail
          have hsz := tx_size ss (fun _ => 0) k
          have hple := pos_short HSH.out (Nat.le_refl k)
          have hfit : (pos ss k : Int) + 2 ≤ 65535 := by omega
          have HSZ := Lib.hid hsz
          have HFIT := Lib.hid hfit
          have HPLE := Lib.hid hple
          clear hsz hfit hple
          refine (pBegin_at HP.out (pos ss k) HSZ.out HFIT.out (by decide) (by rw [poss_len]; omega)).mono ?_
          rintro e w3 ⟨rfl, hl3⟩
          have hB3 := hl3.below HP.out HBR.out H1.out.size
          obtain ⟨v3, bv3, h3, hK3, hv3, hb3⟩ := hl3
          have hav3 := hK3.owns HAV.out (HP.out.free HAV.out HSEP.out)
          have hsep3 := apart_right HAV.out HSEP.out hb3
          have hci3 : w3.cell? ⟨b0, off + k, none⟩ = some (.string (ss k)) := (hB3.cell (p := ⟨b0, off + k, none⟩) (hb0 (by omega))).trans (HC.out k hlt)
          have HB3 := Lib.hid hB3
          have H3 := Lib.hid h3
          have HAV3 := Lib.hid hav3
          have HSEP3 := Lib.hid hsep3
          clear hB3 h3 hav3 hsep3 hK3 hv3 hb3 hci
          have hf3 : Hid (((tx ss (fun _ => 0) k ++ two 0).size : Int) + (ss k).size ≤ 65535) := by
            have := HPLE.out
            show ((tx ss (fun _ => 0) k ++ two 0).size : Int) + (ss k).size ≤ 65535
            rw [bsz, HSZ.out, two_size]; omega
          go_wp2_with fail
          refine (pPut_ok H3.out (ss k) hf3.out (by decide)).mono ?_
          rintro e w4 ⟨rfl, hl4⟩
          have hB4 := hl4.below H3.out HB3.out H1.out.size
          obtain ⟨v4, bv4, h4, hK4, hv4, hb4⟩ := hl4
          have hav4 := hK4.owns HAV3.out (H3.out.free HAV3.out HSEP3.out)
          have hsep4 := apart_right HAV3.out HSEP3.out hb4
          have HB4 := Lib.hid hB4
          have H4 := Lib.hid h4
          have HSEP4 := Lib.hid hsep4
          clear hB4 h4 hsep4 hK4 hv4 hb4 hci3 hf3
          obtain ⟨i0, hi, hz0, hz1, hz2⟩ := info_parts info3
          have hsz4 := HB4.out.size
          go_wp2_with (at_builtin; refine wpList_append_placed rfl _ _ 31 rfl w0.heap.size 3 i0 (.int .i64 0) 1 8 Try.underlying31 hi hz0 hz1 hz2 rfl (by decide) _ _ _ rfl (hav4.alloc _) ⟨w4.heap.size, 0, none⟩ 1 1 [.int .i64 (pos ss k)] rfl rfl ?c1 ?c2 (by decide) ?c3 ?c4 ?c5 ?_)
          case c1 => exact cell_one_new _ _ _
          case c2 => intro u hu; simp at hu; subst hu; rfl
          case c3 => unfold maxLen; omega
          case c4 => omega
          case c5 => simp; omega
          intro av5 w5 hav5 hgrow hpl
          have hK5 : Keeps (fun j => (Value.slice aa k ac).ownBlock = some j) w4 w5 := ((Keeps.refl _ w4).alloc _).grown hgrow (fun j hj => .inr hj)
          have h5 := H4.out.keep hK5 (fun j hj => H4.out.free hav4 HSEP4.out j hj)
          have hB5 : Below w0.heap.size w0 w5 := (HB4.out.alloc hsz4 _).grown hgrow (by simp; omega) (fun j hj => (hav4.lt j hj).1)
          have hpl4 : Placed (Value.slice aa k ac) av5 w4.heap.size := fun g hg => (hpl.out g hg).imp_right (fun x => by omega)
          have hsep5 := apart_left H4.out.hk HSEP4.out hpl4
          have HAV5 := Lib.hid hav5
          have H5 := Lib.hid h5
          have HB5 := Lib.hid hB5
          have HSEP5 := Lib.hid hsep5
          clear hav5 h5 hB5 hsep5 hpl4 hpl hgrow hK5 hav4
          go_wp2_with fail
          go_roundw
          case rel => exact ⟨k + 1, by omega, by go_num, short_succ HSH.out (by omega), by rw [poss_succ, List.map_append]; exact HAV5.out, HB5.out, v4, bv4, by rw [poss_succ]; exact H5.out, HSEP5.out⟩
          case measure => simp [intOf]; omega
      · obtain rfl : k = n := by omega
        obtain ⟨wo, rfl⟩ : ∃ x : World, x = wr := ⟨_, rfl⟩
        clear hlt hk
        have htn : (pos ss k : Int) ≤ 302 * 20 := by
          have := pos_short HSH.out (Nat.le_refl k)
          omega
        have HTN := Lib.hid htn
        clear htn
        go_wp2_with fail
        go_loopw [8] (fun i wr => Rel2 ss k w0 w aa ac i wr) (fun i _ => (intOf i + 1).toNat)
        case atStart => exact ⟨k, by omega, rfl, HAV.out, HBR.out, v, bv, by rw [tx_congr ss (v := vals ss k k) (v' := fun _ => 0) (fun i hi => if_neg (by omega))]; exact HP.out, HSEP.out⟩
        case round =>
        obtain ⟨j, hj, rfl, hav, hbr, v2, bv2, hp2, hsep2⟩ := hrel
        clear HAV HBR HP HSEP
        have HAV := Lib.hid hav
        have HBR := Lib.hid hbr
        have HP := Lib.hid hp2
        have HSEP := Lib.hid hsep2
        clear hav hbr hp2 hsep2
        cases j with
        | succ j =>
          have hpc : ∀ i, i < k → ∃ g, Value.slice aa k ac = .slice (some ⟨g, 0, none⟩) k ac ∧ wr.cell? ⟨g, i, none⟩ = some (.int .i64 (pos ss i)) := fun i hi => row_cell HAV.out hi
          obtain ⟨g, hg, hcj⟩ := hpc j (by omega)
          injection hg with hg _ _
          subst hg
          have hpos := pos_lt ss (show j < k by omega)
          have hE : PAt w.heap.size (w.heap.size + 2) w.heap.size (w.heap.size + 1) v2 bv2 (tx ss (vals ss k (j + 1)) k) 65535 0 [] (poss ss j ++ [(pos ss j : Int)]) wr := by rw [← poss_succ]; exact HP.out
          have HE := Lib.hid hE
          clear hE HP
          cases j with
          | zero =>
            clear hpc
            go_wp2_with fail
            refine (pEnd_ok (pos ss 0) HE.out (by rw [poss_len]; omega) (by rw [tx_size]; omega) (by rw [tx_size]; have := HTN.out; omega)).mono ?_
            rintro e w3 ⟨rfl, hl3⟩
            have hl4 : PLeft w.heap.size (w.heap.size + 2) w.heap.size (w.heap.size + 1) v2 bv2 (tx ss (vals ss k 0) k) 65535 0 [] (poss ss 0) wr w3 := by
              rw [← vals_step ss (show 0 < k by omega) (((tx ss (vals ss k (0 + 1)) k).size : Int) - (pos ss 0 : Nat) - 2) (by rw [tx_size])]
              exact hl3
            have hB3 := hl4.below HE.out HBR.out H1.out.size
            obtain ⟨v3, bv3, h3, hK3, hv3, hb3⟩ := hl4
            have hav3 := hK3.owns HAV.out (HE.out.free HAV.out HSEP.out)
            have hsep3 := apart_right HAV.out HSEP.out hb3
            have HB3 := Lib.hid hB3
            have H3 := Lib.hid h3
            have HAV3 := Lib.hid hav3
            have HSEP3 := Lib.hid hsep3
            clear hB3 h3 hav3 hsep3 hK3 hv3 hb3 hl3
            go_wp2_with fail
            go_roundw
            case rel => exact ⟨0, by omega, by go_num, HAV3.out, HB3.out, v3, bv3, H3.out, HSEP3.out⟩
            case measure => simp [intOf] <;> omega
          | succ j =>
            obtain ⟨g', hg', hcj'⟩ := hpc j (by omega)
            injection hg' with hg' _ _
            injection hg' with hg'
            injection hg' with hg' _ _
            subst hg'
            clear hpc
            have hpp := pos_lt ss (show j < j + 1 by omega)
            go_wp2_with fail
            refine (pEnd_no (pos ss (j + 1) : Int) (pos ss j : Int) HE.out (by rw [poss_len]; omega) (by omega)).mono ?_
            rintro e w3 ⟨rfl, rfl⟩
            go_wp2_with fail
            refine (pEnd_ok (pos ss (j + 1)) HE.out (by rw [poss_len]; omega) (by rw [tx_size]; omega) (by rw [tx_size]; have := HTN.out; omega)).mono ?_
            rintro e w3 ⟨rfl, hl3⟩
            have hl4 : PLeft w.heap.size (w.heap.size + 2) w.heap.size (w.heap.size + 1) v2 bv2 (tx ss (vals ss k (j + 1)) k) 65535 0 [] (poss ss (j + 1)) wr w3 := by
              rw [← vals_step ss (show (j + 1) < k by omega) (((tx ss (vals ss k ((j + 1) + 1)) k).size : Int) - (pos ss (j + 1) : Nat) - 2) (by rw [tx_size])]
              exact hl3
            have hB3 := hl4.below HE.out HBR.out H1.out.size
            obtain ⟨v3, bv3, h3, hK3, hv3, hb3⟩ := hl4
            have hav3 := hK3.owns HAV.out (HE.out.free HAV.out HSEP.out)
            have hsep3 := apart_right HAV.out HSEP.out hb3
            have HB3 := Lib.hid hB3
            have H3 := Lib.hid h3
            have HAV3 := Lib.hid hav3
            have HSEP3 := Lib.hid hsep3
            clear hB3 h3 hav3 hsep3 hK3 hv3 hb3 hl3
            go_wp2_with fail
            go_roundw
            case rel => exact ⟨(j + 1), by omega, by go_num, HAV3.out, HB3.out, v3, bv3, H3.out, HSEP3.out⟩
            case measure => simp [intOf] <;> omega
        | zero =>
          go_wp2_with fail
          refine (pText HP.out).mono ?_
          rintro e w3 ⟨rfl, rfl⟩
          have hTs := tx_size ss (vals ss k 0) k
          have hTn : ∀ i, i < k → 256 * bt (tx ss (vals ss k 0) k) (pos ss i) + bt (tx ss (vals ss k 0) k) (pos ss i + 1) = (pos ss k : Int) - pos ss i - 2 := fun i hi => by
            have h1 := pos_lt ss hi
            have h2 := HTN.out
            have h3 : vals ss k 0 i = (pos ss k : Int) - pos ss i - 2 := if_pos (Nat.zero_le _)
            have := tx_num ss (vals ss k 0) hi (by rw [h3]; omega) (by rw [h3]; omega)
            rw [h3] at this
            exact this
          have hTt : ∀ i, i < k → (tx ss (vals ss k 0) k).extract (pos ss i + 2) (pos ss i + 2 + (ss i).size) = ss i := fun i hi => tx_text ss (vals ss k 0) hi
          obtain ⟨T, hT⟩ : ∃ T, T = tx ss (vals ss k 0) k := ⟨_, rfl⟩
          rw [← hT] at hTs hTn hTt ⊢
          have HTS := Lib.hid hTs
          have HTNM := Lib.hid hTn
          have HTT := Lib.hid hTt
          clear hT hTs hTn hTt HP HSEP hj
          obtain ⟨wq, rfl⟩ : ∃ x : World, x = wr := ⟨_, rfl⟩
          go_wp2_with fail
          go_loopw [10] (fun i wr => Rel3 ss k w0 aa ac i wr) (fun i _ => k - (intOf i).toNat)
          case atStart => exact ⟨0, by omega, rfl, HAV.out, HBR.out⟩
          case round =>
          obtain ⟨j, hj, rfl, hav, hbr⟩ := hrel
          clear HAV HBR
          have HAV := Lib.hid hav
          have HBR := Lib.hid hbr
          clear hav hbr
          by_cases hlt : j < k
          · obtain ⟨g, hg, hcj⟩ := row_cell HAV.out hlt
            injection hg with hg _ _
            subst hg
            have hci : wr.cell? ⟨b0, off + j, none⟩ = some (.string (ss j)) := (HBR.out.cell (p := ⟨b0, off + j, none⟩) (hb0 (by omega))).trans (HC.out j hlt)
            have hpl := pos_lt ss hlt
            have hnum := HTNM.out j hlt
            have htxt := HTT.out j hlt
            rw [← HTS.out] at hpl hnum
            have htb : T.size ≤ 6040 := by rw [HTS.out]; have := HTN.out; omega
            obtain ⟨q, hq⟩ : ∃ q, q = pos ss j := ⟨_, rfl⟩
            rw [← hq] at hcj hpl hnum htxt
            clear hq
            have hbt := get_bt T
            have n0 := bt_nonneg T q
            have n1 := bt_nonneg T (q + 1)
            have m0 := bt_le T q
            have m1 := bt_le T (q + 1)
            have t1 : decide ((q : Int) < 0) = false := decide_eq_false (by omega)
            have t2 : decide ((T.size : Int) - 2 - (ss j).size < q) = false := decide_eq_false (by omega)
            have t3 : (256 * bt T q + bt T (q + 1) != (T.size : Int) - q - 2) = false := by rw [hnum]; simp
            have e1 : IntKind.i64.wrap ((T.size : Int) - 2) = (T.size : Int) - 2 := IntWalk.i64_in _ (by omega)
            have e2 : IntKind.i64.wrap ((T.size : Int) - 2 - (ss j).size) = (T.size : Int) - 2 - (ss j).size := IntWalk.i64_in _ (by omega)
            have e3 : IntKind.i64.wrap (256 * bt T q) = 256 * bt T q := IntWalk.i64_in _ (by omega)
            have e4 : IntKind.i64.wrap ((q : Int) + 1) = (q : Int) + 1 := IntWalk.i64_in _ (by omega)
            have e5 : IntKind.i64.wrap (256 * bt T q + bt T (q + 1)) = 256 * bt T q + bt T (q + 1) := IntWalk.i64_in _ (by omega)
            have e6 : IntKind.i64.wrap ((T.size : Int) - q) = (T.size : Int) - q := IntWalk.i64_in _ (by omega)
            have e7 : IntKind.i64.wrap ((T.size : Int) - q - 2) = (T.size : Int) - q - 2 := IntWalk.i64_in _ (by omega)
            have e8 : IntKind.i64.wrap ((q : Int) + 2) = (q : Int) + 2 := IntWalk.i64_in _ (by omega)
            have e9 : IntKind.i64.wrap ((q : Int) + 2 + (ss j).size) = (q : Int) + 2 + (ss j).size := IntWalk.i64_in _ (by omega)
            have s1 : ((q : Int) + 1).toNat = q + 1 := by omega
            have s2 : ((q : Int) + 2).toNat = q + 2 := by omega
            have s3 : ((q : Int) + 2 + (ss j).size).toNat = q + 2 + (ss j).size := by omega
            have hq1 : q + 1 < T.size := by omega
            have hq0 : q < T.size := by omega
            have hi1 : (q : Int) + 1 < T.size := by omega
            have hi0 : (q : Int) < T.size := by omega
            have hi2 : (0 : Int) ≤ q := by omega
            have hi3 : (0 : Int) ≤ (q : Int) + 1 := by omega
            have hi4 : (q : Int) + 2 + (ss j).size ≤ T.size := by omega
            have hi5 : (0 : Int) ≤ (q : Int) + 2 := by omega
            clear hnum
            go_wp2_with fail
            go_quiet (fail)
            clear e1 e2 e3 e4 e5 e6 e7 e8 e9 s1 s2 s3 hq1 hq0 hi1 hi0 hi2 hi3 hi4 hi5 n0 n1 m0 m1 hbt
            go_wp2_with fail
            go_roundw
            case rel => exact ⟨j + 1, by omega, by go_num, HAV.out, below_drewN HBR.out _⟩
            case measure => simp [intOf] <;> omega
          · obtain rfl : j = k := by omega
            go_wp2
            go_ret
            exact ⟨rfl, HBR.out⟩
end Go.Proofs.Ytniambdfgojgeaa
