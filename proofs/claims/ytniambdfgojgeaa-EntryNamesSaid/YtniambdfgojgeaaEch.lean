/- name.each: the labels of a name, one by one. -/
import Derived.Test.YtniambdfgojgeaaNam
import Derived.RangeFuncBox
import Derived.RangeFuncFrom
import Derived.RangeFuncLeaves
import Derived.Shelf.Abstract
import Derived.OwnWalkIn
import Derived.TacticsInMore
import Derived.LoopNIn
import Derived.LoopIn
import Derived.Maps.AppendAt
namespace Go.Proofs.Ytniambdfgojgeaa
open Go.RowKit Go.Shelf Go.PlainAid

attribute [local go_sem] Oper.semAt_some

/-- a label as a text -/
def ofL (l : List UInt8) : ByteArray := ⟨l.toArray⟩
theorem bl_ofL (l : List UInt8) : bl (ofL l) = l := by simp [bl, ofL]
theorem ofL_bl (s : ByteArray) : ofL (bl s) = s := bl_inj (bl_ofL _)

/-- what the iterator holds: nothing more, or a label and the name behind it -/
def EachAt (rest : List (List UInt8)) (l r ok : Value) : Prop :=
  (rest = [] ∧ l = .string ByteArray.empty ∧ r = .string ByteArray.empty ∧ ok = .bool false) ∨
  ∃ (x : List UInt8) (rest' : List (List UInt8)) (t : ByteArray), rest = x :: rest' ∧ l = .string (ofL x) ∧ r = .string t ∧ ok = .bool true ∧ nm t = some rest' ∧ 1 ≤ (ofL x).size

/-- cut, of a name that may be -/
def CutIs (rest : List (List UInt8)) (n : Nat) (w : World) (e : Ending) (w' : World) : Prop :=
  ∃ l r ok, e = .returned (.tuple #[l, r, ok]) ∧ EachAt rest l r ok ∧ strLen l + strLen r ≤ n - 1 ∧ ∃ k, w.drewN k = w'
theorem cut_any (s : ByteArray) (ls : List (List UInt8)) (hs : nm s = some ls) (w : World) : Calls Try.prog 41 #[.string s] w (CutIs ls s.size w) := by
  by_cases hz : s.size = 0
  · refine (cut_empty s hz w).mono ?_
    rintro e w' ⟨rfl, rfl⟩
    rw [nm_empty hz] at hs
    cases hs
    exact ⟨_, _, _, rfl, .inl ⟨rfl, rfl, rfl, rfl⟩, Nat.zero_le _, 0, rfl⟩
  · have hp : 0 < s.size := by omega
    have hh : okHead s := by
      by_cases hh : okHead s
      · exact hh
      · rw [nm_bad hp hh] at hs
        cases hs
    refine (cut_ok s hp hh w).mono ?_
    rintro e w' ⟨rfl, k, rfl⟩
    rw [nm_step hp hh] at hs
    cases hn : nm (s.extract (1 + bt s 0).toNat s.size) with
    | none => rw [hn] at hs; cases hs
    | some rest =>
      rw [hn] at hs
      cases hs
      refine ⟨_, _, _, rfl, .inr ⟨_, rest, _, rfl, by rw [ofL_bl], rfl, rfl, hn, ?_⟩, ?_, k, rfl⟩
      · rw [ofL_bl, ByteArray.size_extract]
        obtain ⟨h1, h2, h3⟩ := hh
        omega
      · simp only [strLen, ByteArray.size_extract]
        obtain ⟨h1, h2, h3⟩ := hh
        omega

set_option maxRecDepth 100000 in
set_option maxHeartbeats 1600000 in
theorem each1_in (n : Nat) (hn : 1 ≤ n) (l Bn : Nat) (s : ByteArray) (xs : List (List UInt8)) (hs : nm s = some xs) (J Jx : List (List UInt8) → World → Prop)
    (hD : ∀ pre W k, J pre W → J pre (W.drewN k)) (_hDx : ∀ pre W k, Jx pre W → Jx pre (W.drewN k))
    (hY : ∀ pre x W, J pre W → pre.length < xs.length → YieldAt Fence.wide (n - 1) Try.prog l #[.string (ofL x)] W fun e W' =>
      (e = .returned (.bool true) ∧ J (pre ++ [x]) W' ∧ True) ∨ (e = .returned (.bool false) ∧ Jx (pre ++ [x]) W'))
    (W : World) (hBn : W.cell? ⟨Bn, 0, none⟩ = some (.string s)) (h0 : J [] W) :
    CallsIn Fence.wide n Try.prog 76 #[.func (.yield l) #[] #[], .pointer (some ⟨Bn, 0, none⟩)] W fun e W' => (∃ v, e = .returned v) ∧
      ((∃ ys, ys = xs ∧ J ys W') ∨ (∃ pre, pre <+: xs ∧ Jx pre W')) := by
  have hfc : Fence.wide.fn 41 := trivial
  refine callsIn_of_wp Try.func76 rfl trivial ?_ rfl
  simp only [Try.ntmps76, List.size_toArray, List.length_cons, List.length_nil, Nat.reduceAdd, Nat.reduceSub, Array.replicate_succ, Array.replicate_zero, List.push_toArray, List.append_toArray, List.nil_append, List.cons_append]
  gi_wp2_with fail
  refine (callsIn_wide.2 (cut_any s xs hs _)).mono ?_
  rintro e w1 ⟨l0, r0, k0, rfl, hE, hle, k, rfl⟩
  have HE := Lib.hid hE
  have HY := Lib.hid hY
  clear hE hY
  gi_wp2_with fail
  gi_loopw [3, 4, 5] (fun l r ok wr => ∃ pre rest, xs = pre ++ rest ∧ J pre wr ∧ EachAt rest l r ok) (fun l r _ _ => strLen l + strLen r)
  case atStart => exact ⟨[], xs, rfl, hD _ _ _ h0, HE.out⟩
  case round =>
    obtain ⟨pre, rest, hx, hJ, hA⟩ := hrel
    have HX := Lib.hid hx
    clear hx
    rcases hA with ⟨rfl, rfl, rfl, rfl⟩ | ⟨x, rest', t, rfl, rfl, rfl, rfl, hn', h1⟩
    · gi_wp2
      refine ⟨fun _ _ => trivial, ?_⟩
      gi_wp2
      go_end0
      exact ⟨⟨_, rfl⟩, .inl ⟨pre, by rw [HX.out, List.append_nil], hJ⟩⟩
    · obtain ⟨fn, tmps, assign, body, hy, hR⟩ := HY.out pre x wr hJ (by rw [HX.out]; simp)
      have HN := Lib.hid hn'
      clear hn'
      gi_wp2
      refine hR.mono ?_
      rintro e W3 (⟨rfl, hJ3, _⟩ | ⟨rfl, hJx3⟩)
      · gi_wp2_with fail
        refine (callsIn_wide.2 (cut_any t rest' HN.out _)).mono ?_
        rintro e w1 ⟨l1, r1, k1, rfl, hE1, hle1, k, rfl⟩
        have HE1 := Lib.hid hE1
        clear hE1
        gi_wp2_with fail
        go_roundw
        case rel => exact ⟨pre ++ [x], rest', by rw [HX.out]; simp, hD _ _ _ hJ3, HE1.out⟩
        case measure => show strLen l1 + strLen r1 < (ofL x).size + t.size; omega
      · gi_wp2
        go_end0
        exact ⟨⟨_, rfl⟩, .inr ⟨pre ++ [x], ⟨rest', by rw [HX.out]; simp⟩, hJx3⟩⟩

set_option maxHeartbeats 800000 in
theorem each_any (s : ByteArray) (w : World) :
    Calls Try.prog 45 #[.string s] w fun e w' => e = .returned (.func (.func 76) #[] #[.pointer (some ⟨w.heap.size, 0, none⟩)]) ∧ w.alloc (.cells #[.string s] 43) = w' := by
  go_enter Try.func45, Try.ntmps45
  have hmf : ∀ (fn : Fn) (first cap : Array Value) (w : World), (Instr.makeFunc fn first cap).run Try.prog w = .ok (.func fn first cap) w := fun _ _ _ _ => rfl
  go_wp2
  go_ret
  exact ⟨rfl, rfl⟩

theorem each_stops (n : Nat) (hn : 1 ≤ n) (Bn : Nat) (s : ByteArray) (xs : List (List UInt8)) (hs : nm s = some xs) (w : World) (hBn : w.cell? ⟨Bn, 0, none⟩ = some (.string s)) :
    SeqStopsK Fence.wide n Try.prog 76 #[.pointer (some ⟨Bn, 0, none⟩)] (fun x : List UInt8 => #[Value.string (ofL x)]) (fun _ _ => True) (fun ys => ys = xs) (fun pre => pre <+: xs) xs.length w :=
  fun l J Jx W hW hJ hJx hY h0 =>
    each1_in n hn l Bn s xs hs J Jx (fun pre A k h => hJ pre A (A.drewN k) none h ⟨rfl, rfl, rfl, Nat.le_refl _, fun _ _ _ => rfl⟩ (fun r e => by cases e)) (fun pre A k h => hJx pre A (A.drewN k) none h ⟨rfl, rfl, rfl, Nat.le_refl _, fun _ _ _ => rfl⟩ (fun r e => by cases e))
      hY W ((hW.cell (p := ⟨Bn, 0, none⟩) (World.block_lt_of_cell? w _ hBn)).trans hBn) h0

theorem info9 : (Try.prog.info? 9).map (fun i => (i.zero, i.size, i.bytes)) = some (some (.string ByteArray.empty), 1, 16) := by kernel_rfl
/-- texts as cells -/
def txs (xs : List (List UInt8)) : List Value := xs.map fun x => .string (ofL x)

set_option maxRecDepth 100000 in
set_option maxHeartbeats 4000000 in
theorem appendSeq_in (Bn : Nat) (s : ByteArray) (xs : List (List UInt8)) (hs : nm s = some xs) (hx : xs.length ≤ 1000) (w : World) (hBn : w.cell? ⟨Bn, 0, none⟩ = some (.string s)) :
    CallsIn Fence.wide 5 Try.prog 75 #[.slice none 0 0, .func (.func 76) #[] #[.pointer (some ⟨Bn, 0, none⟩)]] w fun e W' => ∃ v, e = .returned v ∧ W'.ownsRow w.heap.size 9 1 v xs.length (txs xs) ∧ Below w.heap.size w W' := by
  obtain ⟨i0, hi, hz0, hz1, hz2⟩ := info_parts info9
  refine callsIn_of_wp_marks Try.func75 rfl trivial ?_ rfl
  simp only [Try.ntmps75, List.size_toArray, List.length_cons, List.length_nil, Nat.reduceAdd, Nat.reduceSub, Array.replicate_succ, Array.replicate_zero, List.push_toArray, List.append_toArray, List.nil_append, List.cons_append]
  gi_wp2_with fail
  have bO := Boxed.new w 34 (.slice none 0 0)
  have hB0 : Below w.heap.size w (w.alloc (.cells #[.slice none 0 0] 34)) := (Below.refl _ w).alloc (Nat.le_refl _) _
  have hBn0 : (w.alloc (.cells #[.slice none 0 0] 34)).cell? ⟨Bn, 0, none⟩ = some (.string s) := (hB0.cell (p := ⟨Bn, 0, none⟩) (World.block_lt_of_cell? w _ hBn)).trans hBn
  refine wpIn_rangeFunc_ownG rfl (by decide) (gf := 76) (lb := #[.pointer (some ⟨Bn, 0, none⟩)]) rfl trivial (enters_of Try.func76 (by kernel_rfl) rfl)
    (each_stops (5 - 1) (by decide) Bn s xs hs _ hBn0) (fun _ _ => trivial) (fun _ _ _ _ _ _ _ _ => trivial) (Below.refl _ _) (fun _ => rfl)
    (fun pre W => (∃ v, Boxed W w.heap.size 34 v ∧ W.ownsRow w.heap.size 9 1 v pre.length (txs pre) ∧ True) ∧ Below w.heap.size w W)
    (fun _ _ _ => False)
    (OwnFrom.and (Own.from (holdsRow_own w.heap.size w.heap.size 34 9 1 (fun pre => pre.length) (fun pre => txs pre) (fun _ _ => True)) _) (ownFrom_below (Nat.le_refl _) (by simp)))
    (fun _ _ _ _ _ hs _ _ => hs)
    ⟨⟨_, bO, World.ownsRow_nil _ _ _ _, trivial⟩, hB0⟩
    (fun x => { tmps := #[.slice none 0 0, .func (.func 76) #[] #[.pointer (some ⟨Bn, 0, none⟩)], .pointer (some ⟨w.heap.size, 0, none⟩), undef, .slice none 0 0, .string (ofL x), .func (.func 76) #[] #[.pointer (some ⟨Bn, 0, none⟩)], .string (ofL x), undef, undef, undef, undef, undef], defers := [] }) ?assign ?body ?done ?stop
  case assign =>
    intro l x W K hK
    gi_wp2
    exact hK
  case body =>
    rintro l pre x W ⟨⟨v, hv, hrow, _⟩, hB⟩ hlt
    have hc := hv.cell
    gi_wp2_with (gi_at_builtin; refine wpListIn_append_own _ rfl _ _ 34 rfl w.heap.size 9 i0 (.string ByteArray.empty) 1 16 Try.underlying34 hi hz0 hz1 hz2 rfl (by decide) _ _ _ rfl (hrow.alloc _) ⟨W.heap.size, 0, none⟩ 1 1 [.string (ofL x)] rfl rfl (cell_one_new _ _ _) (by simp [Value.oneCell']) (by unfold maxLen; omega) (by omega) (by have := hB.size; simp; omega) ?_; intro v' w1 hown' hgrow _; obtain ⟨g', cap', rfl⟩ := ownsRow_succ hown'; obtain ⟨hv1, hv2, hr2, hk2, hb2⟩ := hv.appended (by decide) hrow hB.size (Nat.le_refl _) hown' hgrow; have hc1 := hv1.cell; have hf1 := hv1.frozen)
    exact ⟨hk2.from _, trivial, ⟨_, hv2, by simpa [txs] using hr2, trivial⟩, hB.trans hb2⟩
  case done =>
    rintro D ys W hD rfl ⟨⟨v, hv, hrow, _⟩, hB⟩ hK
    have hc := hv.cell
    gi_wp2
    refine ⟨by simp, .inl ⟨_, _, rfl, run_takeDeferred hK, ?_⟩⟩
    exact ⟨_, results_tmp rfl _ _ _, v, rfl, ownsRow_putObj hrow _ hK rfl, hB.trans (belowK_b (w := w) (Nat.le_refl _) W D _ _ (by simp at hD; omega) hK rfl rfl)⟩
  case stop =>
    rintro D c pre W _ _ h _
    exact h.elim

set_option maxHeartbeats 800000 in
theorem collect_any (Bn : Nat) (s : ByteArray) (xs : List (List UInt8)) (hs : nm s = some xs) (hx : xs.length ≤ 1000) (w : World) (hBn : w.cell? ⟨Bn, 0, none⟩ = some (.string s)) :
    Calls Try.prog 44 #[.func (.func 76) #[] #[.pointer (some ⟨Bn, 0, none⟩)]] w fun e W' => ∃ v, e = .returned v ∧ W'.ownsRow w.heap.size 9 1 v xs.length (txs xs) ∧ Below w.heap.size w W' := by
  go_enter Try.func44, Try.ntmps44
  go_wp2_with fail
  refine (callsIn_wide.1 (appendSeq_in Bn s xs hs hx w hBn)).mono ?_
  rintro e w1 ⟨v, rfl, ho, hb⟩
  have HO := Lib.hid ho
  have HB := Lib.hid hb
  clear ho hb
  go_wp2
  go_ret
  exact ⟨v, rfl, HO.out, HB.out⟩
/-- what Labels leaves: a new slice of the labels -/
def LabelsLeft (xs : List (List UInt8)) (w : World) (e : Ending) (w' : World) : Prop := ∃ v, e = .returned v ∧ w'.ownsRow w.heap.size 9 1 v xs.length (txs xs) ∧ Below w.heap.size w w'
theorem enc_len : ∀ ls : List (List UInt8), ls.length ≤ (enc ls).length
  | [] => Nat.le_refl _
  | l :: ls => by
    have := enc_len ls
    show ls.length + 1 ≤ (enc1 l ++ enc ls).length
    rw [List.length_append]
    unfold enc1
    simp only [List.length_cons]
    omega
theorem nm_len {s : ByteArray} {xs : List (List UInt8)} (hs : nm s = some xs) : xs.length ≤ s.size := by
  have := enc_len xs
  rw [← dec_eq hs, bl_length] at this
  exact this

set_option maxHeartbeats 800000 in
theorem labels_ok (s : ByteArray) (xs : List (List UInt8)) (hs : nm s = some xs) (h : s.size ≤ 254) (w : World) :
    Calls Try.prog 18 #[.string s] w (LabelsLeft xs w) := by
  have hck : chk s = 0 := by unfold chk; rw [hs]; rfl
  have hxl := nm_len hs
  have HS := Lib.hid hs
  clear hs
  go_enter Try.func18, Try.ntmps18
  go_wp2_with fail
  refine (check_short s h _).mono ?_
  rintro e w1 ⟨rfl, k, rfl⟩
  go_wp2_with fail
  refine (each_any s _).mono ?_
  rintro e w2 ⟨rfl, rfl⟩
  go_wp2_with fail
  refine (collect_any w.heap.size s xs HS.out (by omega) _ (Lib.cell_of_heap (heap_alloc_new (w.drewN k) _) 0)).mono ?_
  rintro e w3 ⟨v, rfl, ho, hb⟩
  have ho' : w3.ownsRow w.heap.size 9 1 v xs.length (txs xs) := by
    refine ⟨ho.1, ho.2.elim .inl fun ⟨g, cap, cur, hv, hg, r⟩ => .inr ⟨g, cap, cur, hv, ?_, r⟩⟩
    simp at hg
    omega
  have hb' : Below w.heap.size w w3 := ((below_drewN (Below.refl _ w) k).alloc (by simp) _).trans (hb.mono (by simp))
  have HO := Lib.hid ho'
  have HB := Lib.hid hb'
  clear ho hb ho' hb'
  go_wp2
  go_ret
  exact ⟨v, rfl, HO.out, HB.out⟩

set_option maxHeartbeats 800000 in
theorem labels_bad (s : ByteArray) (hs : nm s = none) (h : s.size ≤ 254) (w : World) :
    Calls Try.prog 18 #[.string s] w fun e w' => e = .returned (.slice none 0 0) ∧ ∃ k, w.drewN k = w' := by
  have hck : chk s = 4 := by unfold chk; rw [hs]; rfl
  clear hs
  go_enter Try.func18, Try.ntmps18
  go_wp2_with fail
  refine (check_short s h _).mono ?_
  rintro e w1 ⟨rfl, k, rfl⟩
  go_wp2
  go_ret
  exact ⟨rfl, k, rfl⟩
set_option maxHeartbeats 800000 in
theorem labels_long (s : ByteArray) (h : 254 < s.size) (w : World) :
    Calls Try.prog 18 #[.string s] w fun e w' => e = .returned (.slice none 0 0) ∧ w = w' := by
  go_enter Try.func18, Try.ntmps18
  go_wp2_with fail
  refine (check_long s h _).mono ?_
  rintro e w1 ⟨rfl, rfl⟩
  go_wp2
  go_ret
  exact ⟨rfl, rfl⟩
end Go.Proofs.Ytniambdfgojgeaa
