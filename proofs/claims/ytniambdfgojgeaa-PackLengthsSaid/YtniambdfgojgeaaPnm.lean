/- pack.Packer.Name, where nothing goes wrong. -/
import Derived.Test.YtniambdfgojgeaaPcm
import Derived.Test.YtniambdfgojgeaaNam
namespace Go.Proofs.Ytniambdfgojgeaa
open Go.RowKit Go.PlainAid

theorem zero3 (w : World) : (zeroValue 3).run Try.prog w = .ok (.int .i64 0) w := by kernel_rfl
theorem nkey_inj {a b : ByteArray} (h : nkey a = nkey b) : a = b := by
  unfold nkey at h
  injection h with h
  exact bl_inj h
theorem keyOf_name {n : ByteArray} (hn : n.size ≤ 100000) : keyOf Try.prog 43 (.string n) = some (nkey n) := WideMaps.keyOf_string_mk Try.underlying43 (by unfold maxLen; omega)

theorem rests_none {m : Nat} {L : List (ByteArray × Nat)} {w : World} (h : RestsIs m L w) {n : ByteArray} (hn : n.size ≤ 100000) (hl : look L n = none) :
    (Instr.lookup 78 (.map (some m)) (.string n) true).run Try.prog w = .ok (.tuple #[.int .i64 0, .bool false]) w := by
  obtain ⟨c, D, _, ho, hk⟩ := h
  obtain ⟨v, ps, hr, hv⟩ := ho.look_ok (Maps.string_keyed Try.underlying43) Try.underlying78 (zero3 w) (plainElem_int Try.underlying3 (by decide)) (keyOf_name hn)
  have h0 := (hk n).1 hl
  rw [h0] at hr
  rw [Maps.atKey_of_not_has h0] at hv
  obtain ⟨a, rfl, he, _⟩ := plainElem_int_inv Try.underlying3 hv
  simp only [Prod.mk.injEq, DataW.lit.injEq, Lit.int.injEq, true_and] at he
  rw [← he.1] at hr
  exact hr
theorem rests_some {m : Nat} {L : List (ByteArray × Nat)} {w : World} (h : RestsIs m L w) {n : ByteArray} {k : Nat} (hn : n.size ≤ 100000) (hl : look L n = some k) :
    (Instr.lookup 78 (.map (some m)) (.string n) true).run Try.prog w = .ok (.tuple #[.int .i64 k, .bool true]) w := by
  obtain ⟨c, D, _, ho, hk⟩ := h
  obtain ⟨v, ps, hr, hv⟩ := ho.look_ok (Maps.string_keyed Try.underlying43) Try.underlying78 (zero3 w) (plainElem_int Try.underlying3 (by decide)) (keyOf_name hn)
  obtain ⟨h0, h1⟩ := (hk n).2 k hl
  rw [h0] at hr
  rw [h1] at hv
  obtain ⟨a, rfl, he, _⟩ := plainElem_int_inv Try.underlying3 hv
  simp only [Prod.mk.injEq, DataW.lit.injEq, Lit.int.injEq, true_and] at he
  rw [← he.1] at hr
  exact hr
theorem nkey_key (n : ByteArray) : WideAt.IsKeyLit (nkey n) := by simp [WideAt.IsKeyLit, nkey]
theorem rests_put {m c : Nat} {L : List (ByteArray × Nat)} {w : World} {D : DU} (hk : ∀ k : ByteArray, (look L k = none → Maps.has D (nkey k) = false) ∧ ∀ a : Nat, look L k = some a → Maps.has D (nkey k) = true ∧ ∀ z, D.atKey (nkey k) z = .lit (.int .i64 a))
    (hD : Maps.IsMap D) (n : ByteArray) (x : Nat) (ho : w.ownsMap Try.prog 43 (plainElem Try.prog 3) m (c + 1) (D.put (nkey n) (.lit (.int .i64 x)))) (hc : c ≤ L.length) : RestsIs m ((n, x) :: L) w := by
  refine ⟨c + 1, _, by simpa using hc, ho, fun k => ?_⟩
  by_cases e : k = n
  · subst e
    rw [show look ((k, x) :: L) k = some x from if_pos rfl]
    refine ⟨fun h => (by cases h), fun a ha => ?_⟩
    cases ha
    exact ⟨Maps.has_put_same hD (nkey_key _) _, fun z => Maps.atKey_put_same hD (nkey_key _) _ z⟩
  · have hne : nkey k ≠ nkey n := fun h => e (nkey_inj h)
    rw [show look ((n, x) :: L) k = look L k from if_neg e, Maps.has_put_other hne]
    refine ⟨(hk k).1, fun a ha => ⟨((hk k).2 a ha).1, fun z => ?_⟩⟩
    rw [Maps.atKey_put_other hne]
    exact ((hk k).2 a ha).2 z

/-- what Name writes, and what it notes -/
def hd (n : ByteArray) : Nat := (1 + bt n 0).toNat
def nameW : Nat → List (ByteArray × Nat) → ByteArray → ByteArray → ByteArray × List (ByteArray × Nat)
  | 0, L, s, _ => (s, L)
  | f + 1, L, s, n =>
    if n.size = 0 then (s ++ ⟨#[0]⟩, L) else
    match look L n with
    | some a => (s ++ two (49152 + a), L)
    | none => nameW f (if s.size < 16384 then (n, s.size) :: L else L) (s ++ n.extract 0 (hd n)) (n.extract (hd n) n.size)
theorem hd_pos (n : ByteArray) : 1 ≤ hd n := by unfold hd; have := bt_nonneg n 0; omega
theorem nameW_fuel : ∀ (f g : Nat) (L : List (ByteArray × Nat)) (s n : ByteArray), n.size < f → n.size < g → nameW f L s n = nameW g L s n
  | 0, _, _, _, _, h, _ => by omega
  | _ + 1, 0, _, _, _, _, h => by omega
  | f + 1, g + 1, L, s, n, h, h' => by
    unfold nameW
    split
    · rfl
    · rename_i h0
      have := hd_pos n
      rw [nameW_fuel f g _ _ (n.extract (hd n) n.size) (by rw [ByteArray.size_extract]; omega) (by rw [ByteArray.size_extract]; omega)]
theorem nameW_empty {L : List (ByteArray × Nat)} {s n : ByteArray} (h : n.size = 0) : nameW (n.size + 1) L s n = (s ++ ⟨#[0]⟩, L) := by
  unfold nameW
  rw [if_pos h]
theorem nameW_some {L : List (ByteArray × Nat)} {s n : ByteArray} {a : Nat} (h : 0 < n.size) (hl : look L n = some a) : nameW (n.size + 1) L s n = (s ++ two (49152 + a), L) := by
  unfold nameW
  rw [if_neg (by omega), hl]
theorem nameW_none {L : List (ByteArray × Nat)} {s n : ByteArray} (h : 0 < n.size) (hl : look L n = none) :
    nameW (n.size + 1) L s n = nameW ((n.extract (hd n) n.size).size + 1) (if s.size < 16384 then (n, s.size) :: L else L) (s ++ n.extract 0 (hd n)) (n.extract (hd n) n.size) := by
  conv => lhs; unfold nameW
  rw [if_neg (by omega), hl]
  have := hd_pos n
  exact nameW_fuel _ _ _ _ _ (by rw [ByteArray.size_extract]; omega) (by omega)
theorem bsize (a b : ByteArray) : (a ++ b).size = a.size + b.size := ByteArray.size_append
theorem nameW_le : ∀ (f : Nat) (L : List (ByteArray × Nat)) (s n : ByteArray), s.size ≤ (nameW f L s n).1.size
  | 0, L, s, n => Nat.le_refl _
  | f + 1, L, s, n => by
    unfold nameW
    split
    · rw [bsize]; omega
    · split
      · rw [bsize]; omega
      · have := nameW_le f (if s.size < 16384 then (n, s.size) :: L else L) (s ++ n.extract 0 (hd n)) (n.extract (hd n) n.size)
        rw [bsize] at this
        omega
theorem nameW_look : ∀ (f : Nat) (L : List (ByteArray × Nat)) (s n : ByteArray), L.length ≤ (nameW f L s n).2.length
  | 0, L, s, n => Nat.le_refl _
  | f + 1, L, s, n => by
    unfold nameW
    split
    · exact Nat.le_refl _
    · split
      · exact Nat.le_refl _
      · have := nameW_look f (if s.size < 16384 then (n, s.size) :: L else L) (s ++ n.extract 0 (hd n)) (n.extract (hd n) n.size)
        split at this <;> simp at this ⊢ <;> split <;> simp_all <;> omega

set_option maxRecDepth 100000 in
set_option maxHeartbeats 800000 in
theorem pReady {B p b m : Nat} {v bv : Value} {s : ByteArray} {most : Int} {L : List (ByteArray × Nat)} {ks : List Int} {w : World} (h : PAt B p b m v bv s most 0 L ks w) (n : ByteArray) (hn : n.size ≤ 254) :
    Calls Try.prog 63 #[.pointer (some ⟨p, 0, none⟩), .string n] w fun x w' => x = .returned (.int .i64 (chk n)) ∧ ∃ k, w.drewN k = w' := by
  have H := Lib.hid h
  clear h
  go_enter Try.func63, Try.ntmps63
  go_wp2_with fail
  refine (pErr H.out).mono ?_
  rintro e w' ⟨rfl, rfl⟩
  go_wp2_with fail
  refine (check_short n hn _).mono ?_
  rintro e w' ⟨rfl, k, rfl⟩
  go_wp2
  go_ret
  exact ⟨rfl, k, rfl⟩

theorem wLen_q (b : Nat) (a : Option Addr) (n c : Nat) (w : World) (h2 : w.cell? ⟨b, 0, none⟩ = some (.slice a n c)) :
    Calls Try.prog 33 #[.pointer (some ⟨b, 0, none⟩)] w fun x w' => x = .returned (.int .i64 n) ∧ w' = w :=
  (wLen_any b a n c w h2).mono fun _ _ ⟨h, h'⟩ => ⟨h, h'.symm⟩

theorem look_cons {L : List (ByteArray × Nat)} (h : ∀ k a, look L k = some a → a < 16384) {n : ByteArray} {x : Nat} (hx : x < 16384) : ∀ k a, look ((n, x) :: L) k = some a → a < 16384 := by
  intro k a ha
  unfold look at ha
  split at ha
  · cases ha; exact hx
  · exact h k a ha
/-- Name's loop -/
def NameRel (B p b m : Nat) (v bv : Value) (most : Int) (ks : List Int) (r : ByteArray × List (ByteArray × Nat)) (w : World) (x : Value) (wr : World) : Prop :=
  ∃ t : ByteArray, x = .string t ∧ t.size ≤ 254 ∧ (nm t).isSome = true ∧ ∃ (s1 : ByteArray) (L1 : List (ByteArray × Nat)) (v1 bv1 : Value), PAt B p b m v1 bv1 s1 most 0 L1 ks wr ∧ nameW (t.size + 1) L1 s1 t = r ∧
    (∀ k a, look L1 k = some a → a < 16384) ∧ Keeps (PSet p b m v bv) w wr ∧ Placed v v1 w.heap.size ∧ Placed bv bv1 w.heap.size

set_option maxRecDepth 100000 in
set_option maxHeartbeats 1600000 in
theorem pName_ok {B p b m : Nat} {v bv : Value} {s : ByteArray} {most : Int} {L : List (ByteArray × Nat)} {ks : List Int} {w : World} (h : PAt B p b m v bv s most 0 L ks w) (n : ByteArray) (hn : n.size ≤ 254) (hc : (nm n).isSome = true)
    (hfit : ((nameW (n.size + 1) L s n).1.size : Int) ≤ most) (hmost : most ≤ 65535) (hL : (nameW (n.size + 1) L s n).2.length ≤ 100000) (hLs : ∀ k a, look L k = some a → a < 16384) :
    Calls Try.prog 32 #[.pointer (some ⟨p, 0, none⟩), .string n] w fun x w' => x = .returned (.int .i64 0) ∧ PLeft B p b m v bv (nameW (n.size + 1) L s n).1 most 0 (nameW (n.size + 1) L s n).2 ks w w' := by
  have hck : chk n = 0 := by unfold chk; rw [hc]; rfl
  obtain ⟨r, hr⟩ : ∃ r, r = nameW (n.size + 1) L s n := ⟨_, rfl⟩
  rw [← hr] at hfit hL ⊢
  have H := Lib.hid h
  have HR := Lib.hid hr
  have HL := Lib.hid hLs
  have HC := Lib.hid hc
  clear h hr hLs hc
  go_enter Try.func32, Try.ntmps32
  go_wp2_with fail
  refine (pReady H.out n hn).mono ?_
  rintro e w' ⟨rfl, k0, rfl⟩
  go_wp2_with fail
  go_loopw [1] (fun x wr => NameRel B p b m v bv most ks r w x wr) (fun x _ => strLen x)
  case atStart => exact ⟨n, rfl, hn, HC.out, s, L, v, bv, H.out.drewN k0, HR.out.symm, HL.out, (Keeps.refl _ w).drewN k0, Placed.refl _ _, Placed.refl _ _⟩
  case round =>
    obtain ⟨t, rfl, ht, htc, s1, L1, v1, bv1, h1, hr1, hl1, hK1, hv1, hb1⟩ := hrel
    have hs1 : s1.size ≤ r.1.size := by rw [← hr1]; exact nameW_le _ _ _ _
    have c0 : wr.cell? ⟨p, 0, none⟩ = some (.pointer (some ⟨b, 0, none⟩)) := by rw [Lib.cell_of_heap h1.hp]; rfl
    have c1 : wr.cell? ⟨p, 1, none⟩ = some (.map (some m)) := by rw [Lib.cell_of_heap h1.hp]; rfl
    have hBw : B ≤ wr.heap.size := by have := lt_of_heap h1.hp; have := h1.hB; omega
    have hz1 := hK1.size
    have H1 := Lib.hid h1
    have HR1 := Lib.hid hr1
    have HL1 := Lib.hid hl1
    have HK1 := Lib.hid hK1
    have HT := Lib.hid htc
    clear h1 hr1 hl1 hK1 htc
    by_cases hz : t.size = 0
    · have hw := nameW_empty (L := L1) (s := s1) hz
      rw [HR1.out] at hw
      obtain rfl := empty_bytes hz
      clear hz
      have HW := Lib.hid hw
      have hf : (s1.size : Int) + 1 ≤ most := by rw [hw, bsize] at hfit; exact_mod_cast hfit
      clear hw
      go_wp2_with fail
      refine (wPut_ok B b v1 s1 most ⟨#[0]⟩ _ H1.out.hw hf (by omega) hBw).mono ?_
      rintro e w2 ⟨rfl, hl⟩
      have HLL := Lib.hid (H1.out.wrote hl)
      clear hl
      go_wp2
      go_ret
      rw [HW.out]
      exact ⟨rfl, PLeft.then HK1.out hv1 hb1 HLL.out⟩
    · have hp : 0 < t.size := by omega
      clear hz
      have hne := not_empty_list hp
      have hh : okHead t := by
        by_cases hh : okHead t
        · exact hh
        · have := HT.out
          rw [nm_bad hp hh] at this
          cases this
      cases hlk : look L1 t with
      | some a =>
        have hrun := rests_some H1.out.hm (by omega) hlk
        have ha := HL1.out t a hlk
        have hw := nameW_some (s := s1) hp hlk
        rw [HR1.out] at hw
        have HW := Lib.hid hw
        have hf : (s1.size : Int) + 2 ≤ most := by rw [hw, bsize, two_size] at hfit; exact_mod_cast hfit
        clear hw hlk
        go_wp2_with fail
        refine (wNum2_ok B b v1 s1 most (49152 + (a : Int)) (by omega) (by omega) _ H1.out.hw hf (by omega) hBw).mono ?_
        rintro e w2 ⟨rfl, hl⟩
        have HLL := Lib.hid (H1.out.wrote hl)
        clear hl
        go_wp2
        go_ret
        rw [HW.out]
        exact ⟨rfl, PLeft.then HK1.out hv1 hb1 HLL.out⟩
      | none =>
        have hrun := rests_none H1.out.hm (by omega) hlk
        have hw := nameW_none (s := s1) hp hlk
        rw [HR1.out] at hw
        have hlew := nameW_le ((t.extract (hd t) t.size).size + 1) (if s1.size < 16384 then (t, s1.size) :: L1 else L1) (s1 ++ t.extract 0 (hd t)) (t.extract (hd t) t.size)
        rw [← hw] at hlew
        have HLK := Lib.hid hlk
        have HW := Lib.hid hw
        clear hw hlk
        have d0 : wr.cell? ⟨b, 0, none⟩ = some v1 := by rw [Lib.cell_of_heap H1.out.hw.1]; rfl
        obtain ⟨va, vc, hve⟩ := owned_form H1.out.hw.2
        rw [hve] at d0
        have HVE := Lib.hid hve
        clear hve
        have hbt := get_bt t
        have b0 := bt_nonneg t 0
        have b1 := bt_le t 0
        have g1 := hh.1
        have g2 := hh.2.1
        have g3 := hh.2.2
        have e1 : IntKind.i64.wrap (1 + bt t 0) = 1 + bt t 0 := IntWalk.i64_in _ (by omega)
        go_wp2_with fail
        go_quiet ((go_at_call 33; exact Calls.quiet_of_same (wLen_q b va s1.size vc _ d0)))
        go_wp2_with fail
        have hf : (s1.size : Int) + (t.extract 0 (1 + bt t 0).toNat).size ≤ most := by
          rw [bsize] at hlew
          exact Int.le_trans (by exact_mod_cast hlew) hfit
        have hvs := nm_step hp hh
        have hvt : (nm (t.extract (1 + bt t 0).toNat t.size)).isSome = true := by
          have := HT.out
          rw [hvs] at this
          simpa using this
        have HVT := Lib.hid hvt
        have hPA := H1.out.drewN (nq + 1)
        have HPA := Lib.hid hPA
        have htl : (1 + bt t 0).toNat ≤ t.size := by omega
        clear hvs hvt hPA hlew
        go_region_with ((go_at_call 35; refine (wPut_ok B b v1 s1 most (t.extract 0 (1 + bt t 0).toNat) _ HPA.out.hw hf (by omega) (by simp; omega)).mono ?_; rintro e w2 ⟨rfl, hl⟩))
        all_goals
          obtain ⟨v2, bv2, h2, hK2, hv2, hb2⟩ := HPA.out.wrote hl
          have hv2' : Placed v v2 w.heap.size := hv1.trans hv2 (by simp; omega)
          have hb2' : Placed bv bv2 w.heap.size := hb1.trans hb2 (by simp; omega)
          have hK2' : Keeps (PSet p b m v bv) w w2 := (HK1.out.drewN (nq + 1)).trans hK2 (PSet.mono hv1 hb1)
          have c1' : w2.cell? ⟨p, 1, none⟩ = some (.map (some m)) := by rw [Lib.cell_of_heap h2.hp]; rfl
          have H2 := Lib.hid h2
          have HK2 := Lib.hid hK2'
          clear h2 hK2' hK2 hl hv2 hb2 hrun d0
          by_cases hlt : s1.size < 16384
          · obtain ⟨c, D, hcL, ho, hk⟩ := H2.out.hm
            have HKK := Lib.hid hk
            clear hk
            have hr16 : r = nameW ((t.extract (hd t) t.size).size + 1) ((t, s1.size) :: L1) (s1 ++ t.extract 0 (hd t)) (t.extract (hd t) t.size) := by
              have := HW.out
              rwa [if_pos hlt] at this
            have hll := nameW_look ((t.extract (hd t) t.size).size + 1) ((t, s1.size) :: L1) (s1 ++ t.extract 0 (hd t)) (t.extract (hd t) t.size)
            rw [← hr16] at hll
            have hcm : c < maxLen := by
              simp only [List.length_cons] at hll
              unfold maxLen
              omega
            have HR16 := Lib.hid hr16
            clear hr16 hll
            go_wp2_with (at_mapUpdate; refine wpList_mapUpdate_own _ rfl _ _ _ 78 rfl 43 3 (Maps.string_keyed Try.underlying43) Try.underlying78 _ m c D rfl ho hcm _ _ _ rfl rfl (keyOf_name (by omega)) (.lit (.int .i64 s1.size)) [] (plainElem_int Try.underlying3 (WalkArith.wf_i64 (by omega))) ?_)
            intro w3 ho3 hg3
            have hM : Maps.IsMap D := ho.isMap
            have hm3 := rests_put HKK.out hM t s1.size ho3 hcL
            have h3K : Keeps (fun k => k = m) w2 w3 := (Keeps.of_grownBy hg3).mono (fun k _ x => by simpa using x)
            have h3 : PAt B p b m v2 bv2 (s1 ++ t.extract 0 (1 + bt t 0).toNat) most 0 ((t, s1.size) :: L1) ks w3 :=
              ⟨H2.out.hB, h3K.heap H2.out.hp H2.out.pm, H2.out.hw.keep h3K H2.out.bm (fun k hk x => H2.out.vm (by rw [hk, x])), hm3, h3K.owns H2.out.hk (fun k hk x => H2.out.km (by rw [hk, x]))⟩
            have hK3 : Keeps (PSet p b m v bv) w w3 := HK2.out.trans h3K (fun k _ x => .inr (.inr (.inl x)))
            have H3 := Lib.hid h3
            have HK3 := Lib.hid hK3
            clear h3 hK3 h3K hm3 hM ho3 hg3 ho
            go_wp2_with fail
            go_roundw
            case rel => exact ⟨_, rfl, by rw [ByteArray.size_extract]; omega, HVT.out, _, _, v2, bv2, H3.out, HR16.out.symm, look_cons HL1.out hlt, HK3.out, hv2', hb2'⟩
            case measure => simp only [strLen, ByteArray.size_extract]; omega
          · have hr16 : r = nameW ((t.extract (hd t) t.size).size + 1) L1 (s1 ++ t.extract 0 (hd t)) (t.extract (hd t) t.size) := by
              have := HW.out
              rwa [if_neg hlt] at this
            have HR16 := Lib.hid hr16
            clear hr16
            go_wp2_with fail
            go_roundw
            case rel => exact ⟨_, rfl, by rw [ByteArray.size_extract]; omega, HVT.out, _, _, v2, bv2, H2.out, HR16.out.symm, HL1.out, HK2.out, hv2', hb2'⟩
            case measure => simp only [strLen, ByteArray.size_extract]; omega

theorem nameW_lt : ∀ (f : Nat) (L : List (ByteArray × Nat)) (s n : ByteArray), (∀ k a, look L k = some a → a < 16384) → ∀ k a, look (nameW f L s n).2 k = some a → a < 16384
  | 0, L, s, n, h => h
  | f + 1, L, s, n, h => by
    unfold nameW
    split
    · exact h
    · split
      · exact h
      · refine nameW_lt f _ _ _ ?_
        split
        · rename_i hlt
          exact look_cons h hlt
        · exact h
end Go.Proofs.Ytniambdfgojgeaa
