/- name.Read of plain labels between dots. -/
import Derived.Test.YtniambdfgojgeaaRdr
namespace Go.Proofs.Ytniambdfgojgeaa
open Go.RowKit Go.PlainAid

/-- labels, a dot behind each -/
def dots (xs : List (List UInt8)) : List UInt8 := xs.flatMap (fun l => l ++ [46])
theorem dots_split (xs : List (List UInt8)) (m : Nat) (l : List UInt8) (h : xs[m]? = some l) : dots xs = dots (xs.take m) ++ (l ++ 46 :: dots (xs.drop (m + 1))) := by
  have hm := (List.getElem?_eq_some_iff.1 h).1
  have e : xs = xs.take m ++ l :: xs.drop (m + 1) := by
    have h2 := (List.getElem?_eq_some_iff.1 h).2
    rw [← h2, List.getElem_cons_drop, List.take_append_drop]
  conv => lhs; rw [e]
  simp [dots]
theorem dots_take (xs : List (List UInt8)) (m : Nat) (l : List UInt8) (h : xs[m]? = some l) : dots (xs.take (m + 1)) = dots (xs.take m) ++ (l ++ [46]) := by
  rw [List.take_add_one, h]
  simp [dots]
/-- the text: the last dot may lack -/
def Dotted (s : ByteArray) (xs : List (List UInt8)) : Prop := bl s = dots xs ∨ bl s = (dots xs).dropLast
theorem Dotted.at {s : ByteArray} {xs : List (List UInt8)} (h : Dotted s xs) (m : Nat) (l : List UInt8) (hm : xs[m]? = some l) :
    ∃ post, bl s = dots (xs.take m) ++ (l ++ post) ∧ (post = [] ∨ ∃ r, post = 46 :: r) := by
  have e := dots_split xs m l hm
  rcases h with h | h
  · exact ⟨_, h.trans e, .inr ⟨_, rfl⟩⟩
  · refine ⟨(46 :: dots (xs.drop (m + 1))).dropLast, ?_, ?_⟩
    · rw [h, e, List.dropLast_append_of_ne_nil (by simp), List.dropLast_append_of_ne_nil (by simp)]
    · cases dots (xs.drop (m + 1)) with
      | nil => exact .inl rfl
      | cons c r => exact .inr ⟨_, rfl⟩
theorem Dotted.le {s : ByteArray} {xs : List (List UInt8)} (h : Dotted s xs) : s.size ≤ (dots xs).length := by
  rw [← bl_length]
  rcases h with h | h <;> rw [h]
  · exact Nat.le_refl _
  · simp
theorem Dotted.lt {s : ByteArray} {xs : List (List UInt8)} (h : Dotted s xs) (m : Nat) (l : List UInt8) (hm : xs[m]? = some l) (hl : 1 ≤ l.length) : (dots (xs.take m)).length < s.size := by
  obtain ⟨post, e, _⟩ := h.at m l hm
  rw [← bl_length, e, List.length_append, List.length_append]
  omega

theorem info9' : (Try.prog.info? 9).map (fun i => (i.zero, i.size, i.bytes)) = some (some (.string ByteArray.empty), 1, 16) := by kernel_rfl
theorem txs_step (xs : List (List UInt8)) (m : Nat) (l : List UInt8) (h : xs[m]? = some l) : txs (xs.take (m + 1)) = txs (xs.take m) ++ [.string (ofL l)] := by
  rw [List.take_add_one, h]
  simp [txs]

set_option maxRecDepth 100000 in
set_option maxHeartbeats 4000000 in
theorem nread_any (s : ByteArray) (xs : List (List UInt8)) (h : Dotted s xs) (h0 : 0 < xs.length) (hlab : ∀ l ∈ xs, Lab l) (hpl : ∀ l ∈ xs, ∀ c ∈ l, Plain c) (h254 : (enc xs).length ≤ 254) (hs : s.size ≤ 1000) (w : World) :
    Calls Try.prog 39 #[.string s] w fun e w' => e = .returned (.tuple #[.string (ofL (enc xs)), .int .i64 0]) ∧ Below w.heap.size w w' := by
  obtain ⟨i0, hi, hz0, hz1, hz2⟩ := info_parts info9'
  have hxl : xs.length ≤ 254 := Nat.le_trans (enc_len xs) h254
  have hle := h.le
  have hsp : 0 < s.size := by
    obtain ⟨l, hl⟩ : ∃ l, xs[0]? = some l := ⟨_, List.getElem?_eq_getElem h0⟩
    have := h.lt 0 l hl (hlab l (List.mem_of_getElem? hl)).1
    omega
  have hne := not_empty_list hsp
  have hnd : (s.toList == [46]) = false := by
    refine Bool.eq_false_iff.2 fun hh => ?_
    have hb : bl s = [46] := by
      have := eq_of_beq hh
      rw [Lib.toList_data] at this
      exact this
    obtain ⟨l, hl⟩ : ∃ l, xs[0]? = some l := ⟨_, List.getElem?_eq_getElem h0⟩
    obtain ⟨post, e, _⟩ := h.at 0 l hl
    have hL := hlab l (List.mem_of_getElem? hl)
    cases l with
    | nil => exact absurd hL.1 (by simp)
    | cons c r =>
      have e' : [46] = c :: (r ++ post) := hb.symm.trans e
      have hc := hpl _ (List.mem_of_getElem? hl) c (by simp)
      have : c = 46 := (List.cons.inj e').1.symm
      rw [this] at hc
      exact hc.2.2.1 rfl
  have HD := Lib.hid h
  have HL := Lib.hid hlab
  have HP := Lib.hid hpl
  clear h hlab hpl
  go_enter Try.func39, Try.ntmps39
  go_wp2_with fail
  go_loopw [4, 5] (fun v x wr => ∃ (m : Nat) (u : Value), u = v ∧ x = .int .i64 ((dots (xs.take m)).length : Nat) ∧ m ≤ xs.length ∧ wr.ownsRow w.heap.size 9 1 v m (txs (xs.take m)) ∧ Below w.heap.size w wr) (fun _ x _ => (dots xs).length - (intOf x).toNat)
  case atStart => exact ⟨0, _, rfl, rfl, Nat.zero_le _, World.ownsRow_nil _ _ _ _, Below.refl _ w⟩
  case round =>
    obtain ⟨m, v, rfl, rfl, hm, ho, hB⟩ := hrel
    by_cases hlt : m < xs.length
    · obtain ⟨l, hl⟩ : ∃ l, xs[m]? = some l := ⟨_, List.getElem?_eq_getElem hlt⟩
      have hL := HL.out l (List.mem_of_getElem? hl)
      have hi1 := HD.out.lt m l hl hL.1
      obtain ⟨post, hbl, hq⟩ := HD.out.at m l hl
      have hP := HP.out l (List.mem_of_getElem? hl)
      have hst := txs_step xs m l hl
      have hdt : (dots (xs.take (m + 1))).length = (dots (xs.take m)).length + l.length + 1 := by rw [dots_take xs m l hl]; simp; omega
      have hdl : (dots (xs.take m)).length + l.length < (dots xs).length := by
        rw [dots_split xs m l hl]
        simp
      have hl63 := hL.2
      have hws := hB.size
      have HO := Lib.hid ho
      have HB := Lib.hid hB
      have HS := Lib.hid hst
      have HLR := Lib.hid (lread_any s (dots (xs.take m)) l post hbl hL hP hq hs wr)
      obtain ⟨d, hd⟩ : ∃ d, (dots (xs.take m)).length = d := ⟨_, rfl⟩
      rw [hd] at hi1 hdt hdl HLR ⊢
      clear ho hB hst hbl hq hP hL hl hd
      go_wp2_with fail
      refine HLR.out.mono ?_
      rintro e w1 ⟨rfl, hb⟩
      have ho1 := (Keeps.of_below hb).owns HO.out (fun k hk hge => by have := (HO.out.lt k hk).2; omega)
      have hws1 := hb.size
      have HO1 := Lib.hid ho1
      have HB1 := Lib.hid (HB.out.trans (hb.mono hws))
      clear ho1 hb
      obtain ⟨ao, cap, rfl⟩ : ∃ ao cap, v = .slice ao m cap := by
        rcases HO1.out.2 with ⟨hv, h0⟩ | ⟨g, cap, cur, hv, _⟩
        · exact ⟨none, 0, by rw [hv, h0]⟩
        · exact ⟨_, _, hv⟩
      go_wp2_with (at_builtin; refine wpList_append_own _ rfl _ _ 34 rfl w.heap.size 9 i0 (.string ByteArray.empty) 1 16 Try.underlying34 hi hz0 hz1 hz2 rfl (by decide) _ _ _ rfl (HO1.out.alloc _) ⟨w1.heap.size, 0, none⟩ 1 1 [.string (ofL l)] rfl rfl ?c1 ?c2 ?c3 ?c4 ?c5 ?_)
      case c1 =>
        intro j u hj
        match j, hj with
        | 0, hj => simp at hj; subst hj; simp [Addr.add]
      case c2 => intro u hu; simp at hu; subst hu; rfl
      case c3 => unfold maxLen; omega
      case c4 => omega
      case c5 => simp; omega
      intro v' w2 hown' hgrow _
      have hrow : w2.ownsRow w.heap.size 9 1 v' (m + 1) (txs (xs.take (m + 1))) := by rw [HS.out]; exact hown'
      have hb2 : Below w.heap.size w w2 := (HB1.out.alloc (by omega) _).grown hgrow (by simp; omega) (fun k hk => (HO1.out.lt k hk).1)
      have HR := Lib.hid hrow
      have HB2 := Lib.hid hb2
      clear hrow hb2 hown' hgrow
      go_wp2_with fail
      go_roundw
      case rel => exact ⟨m + 1, _, rfl, by rw [hdt]; first | rfl | simp, by omega, HR.out, HB2.out⟩
      case measure => simp [intOf] <;> omega
    · obtain rfl : m = xs.length := by omega
      rw [List.take_length] at ho ⊢
      have hh := has_of_owns ho
      have HB := Lib.hid hB
      have HH := Lib.hid hh
      clear ho hB hh
      go_wp2_with fail
      refine (make_any _ _ HL.out h254 _ HH.out).mono ?_
      rintro e w1 ⟨rfl, hb⟩
      have HB2 := Lib.hid hb
      clear hb
      go_wp2
      go_ret2
      exact ⟨rfl, HB.out.trans (HB2.out.mono HB.out.size)⟩
end Go.Proofs.Ytniambdfgojgeaa
