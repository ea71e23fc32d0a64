/- label.Read, name.Read of plain labels. -/
import Derived.Test.YtniambdfgojgeaaMak
namespace Go.Proofs.Ytniambdfgojgeaa
open Go.RowKit Go.PlainAid

/-- an octet that stands for itself in a written label -/
def Plain (c : UInt8) : Prop := 32 < c.toNat ∧ c.toNat < 127 ∧ c.toNat ≠ 46 ∧ c.toNat ≠ 92

theorem bt_get {s : ByteArray} {i : Nat} {c : UInt8} (h : (bl s)[i]? = some c) : bt s i = c.toNat ∧ i < s.size := by
  have hi : i < s.size := by rw [← bl_length]; exact (List.getElem?_eq_some_iff.1 h).1
  refine ⟨?_, hi⟩
  unfold bl at h
  rw [List.getElem?_eq_getElem (by rw [Array.length_toList]; exact hi)] at h
  cases h
  unfold bt
  rw [dif_pos hi]
  rfl

theorem byte_step (l : List UInt8) (m : Nat) (c : UInt8) (h : l[m]? = some c) : Lib.byteCells (l.take (m + 1)) = Lib.byteCells (l.take m) ++ [.int .u8 (c.toNat : Int)] := by
  rw [List.take_add_one, h, Lib.byteCells_append]
  rfl

set_option maxHeartbeats 800000 in
theorem lplain_ok (c : Int) (h1 : 32 < c) (h2 : c < 127) (w : World) :
    Calls Try.prog 81 #[.int .u8 c] w fun e w' => e = .returned (.bool true) ∧ w = w' := by
  have d1 : decide (32 < c) = true := decide_eq_true h1
  have d2 : decide (c < 127) = true := decide_eq_true h2
  go_enter Try.func81, Try.ntmps81
  go_wp2
  go_ret
  exact ⟨rfl, rfl⟩

set_option maxRecDepth 100000 in
set_option maxHeartbeats 4000000 in
theorem lread_any (s : ByteArray) (pre l post : List UInt8) (h : bl s = pre ++ (l ++ post)) (hl : Lab l) (hp : ∀ c ∈ l, Plain c) (hq : post = [] ∨ ∃ r, post = 46 :: r) (hs : s.size ≤ 1000) (w : World) :
    Calls Try.prog 64 #[.string s, .int .i64 pre.length] w fun e w' => e = .returned (.tuple #[.string (ofL l), .int .i64 ((pre.length + l.length : Nat) : Int), .int .i64 0]) ∧ Below w.heap.size w w' := by
  obtain ⟨i0, hi, hz0, hz1, hz2⟩ := info_parts info5
  have hsz : s.size = pre.length + (l.length + post.length) := by rw [← bl_length, h, List.length_append, List.length_append]
  obtain ⟨h1, h63⟩ := hl
  have hb : ∀ m c, l[m]? = some c → bt s (pre.length + m) = c.toNat := by
    intro m c hm
    have hlt := (List.getElem?_eq_some_iff.1 hm).1
    refine (bt_get ?_).1
    rw [h, List.getElem?_append_right (by omega), Nat.add_sub_cancel_left, List.getElem?_append_left hlt, hm]
  have he : 0 < post.length → bt s (pre.length + l.length) = 46 := by
    intro h0
    rcases hq with rfl | ⟨r, rfl⟩
    · simp at h0
    · refine (bt_get (c := 46) ?_).1
      rw [h, List.getElem?_append_right (by omega), Nat.add_sub_cancel_left, List.getElem?_append_right (by omega), Nat.sub_self]
      rfl
  obtain ⟨p0, hp0⟩ : ∃ p0, pre.length = p0 := ⟨_, rfl⟩
  obtain ⟨q0, hq0⟩ : ∃ q0, post.length = q0 := ⟨_, rfl⟩
  rw [hp0] at hb he hsz ⊢
  rw [hq0] at he hsz
  have HP := Lib.hid hp
  have HBT := Lib.hid hb
  have HE := Lib.hid he
  clear hp hb he hq hp0 hq0 h
  go_enter Try.func64, Try.ntmps64
  go_wp2_with fail
  go_loopw [1, 7] (fun x v wr => ∃ (m : Nat) (u : Value), u = v ∧ x = .int .i64 (p0 + m : Nat) ∧ m ≤ l.length ∧ wr.ownsRow w.heap.size 5 1 v m (Lib.byteCells (l.take m)) ∧ Below w.heap.size w wr) (fun x _ _ => p0 + l.length - (intOf x).toNat)
  case atStart => exact ⟨0, _, rfl, rfl, Nat.zero_le _, World.ownsRow_nil _ _ _ _, Below.refl _ w⟩
  case round =>
    obtain ⟨m, v, rfl, rfl, hm, ho, hB⟩ := hrel
    by_cases hlt : m < l.length
    · obtain ⟨c, hc⟩ : ∃ c, l[m]? = some c := ⟨_, List.getElem?_eq_getElem hlt⟩
      obtain ⟨c1, c2, c3, c4⟩ := HP.out c (List.mem_of_getElem? hc)
      have hbm := HBT.out m c hc
      have hbs := get_bt s
      have hi0 : p0 + m < s.size := by omega
      have hc3 : bt s (p0 + m) ≠ 46 := by omega
      have hc4 : bt s (p0 + m) ≠ 92 := by omega
      have d1 : 32 < bt s (p0 + m) := by omega
      have d2 : bt s (p0 + m) < 127 := by omega
      have hst := byte_step l m c hc
      rw [← hbm] at hst
      have hne : ¬ ((m : Int) = 63) := by omega
      obtain ⟨ao, cap, rfl⟩ : ∃ ao cap, v = .slice ao m cap := by
        rcases ho.2 with ⟨hv, h0⟩ | ⟨g, cap, cur, hv, _⟩
        · exact ⟨none, 0, by rw [hv, h0]⟩
        · exact ⟨_, _, hv⟩
      have hws := hB.size
      have HO := Lib.hid ho
      have HB := Lib.hid hB
      have HS := Lib.hid hst
      clear ho hB hst c1 c2 c3 c4 hc hbm
      go_wp2_with fail
      refine (lplain_ok _ d1 d2 _).mono ?_
      rintro e w' ⟨rfl, rfl⟩
      go_wp2_with (at_builtin; refine wpList_append_own _ rfl _ _ 113 rfl w.heap.size 5 i0 (.int .u8 0) 1 1 Try.underlying113 hi hz0 hz1 hz2 rfl (by decide) _ _ _ rfl (HO.out.alloc _) ⟨wr.heap.size, 0, none⟩ 1 1 [.int .u8 (bt s (p0 + m))] rfl rfl ?c1 ?c2 ?c3 ?c4 ?c5 ?_)
      case c1 =>
        intro j u hj
        match j, hj with
        | 0, hj => simp at hj; subst hj; simp [Addr.add]
      case c2 => intro u hu; simp at hu; subst hu; rfl
      case c3 => unfold maxLen; omega
      case c4 => omega
      case c5 => simp; omega
      intro v' w2 hown' hgrow _
      have hrow : w2.ownsRow w.heap.size 5 1 v' (m + 1) (Lib.byteCells (l.take (m + 1))) := by rw [HS.out]; exact hown'
      have hb2 : Below w.heap.size w w2 := (HB.out.alloc (by omega) _).grown hgrow (by simp; omega) (fun k hk => (HO.out.lt k hk).1)
      have HR := Lib.hid hrow
      have HB2 := Lib.hid hb2
      clear hrow hb2 hown' hgrow
      go_wp2_with fail
      go_roundw
      case rel => exact ⟨m + 1, _, rfl, by simp <;> omega, by omega, HR.out, HB2.out⟩
      case measure => simp [intOf] <;> omega
    · obtain rfl : m = l.length := by omega
      have hlast : ∀ _ : 0 < q0, bt s (p0 + l.length) = 46 := HE.out
      obtain ⟨g, cap, cur, rfl, hBg, hg, hn, hr⟩ := ho.2.resolve_left (by omega)
      rw [List.take_length] at ho
      have hcv := run_convert_bytes_back (P := Try.prog) wr 113 9 5 ⟨g, 0, none⟩ cap l Try.underlying113 Try.underlying5 Try.underlying9 (fun j hj => ho.cells (g := g) rfl j _ (by rw [Lib.byteCells, List.getElem?_map, List.getElem?_eq_getElem hj]; rfl))
      have HB := Lib.hid hB
      clear ho hr hg hB
      by_cases hq : 0 < q0
      · have hi0 : p0 + l.length < s.size := by omega
        have hbs := get_bt s
        have h46 := hlast hq
        clear hlast
        go_wp2
        go_ret3
        exact ⟨by simp [ofL], HB.out⟩
      · obtain rfl : q0 = 0 := by omega
        clear hlast
        go_wp2
        go_ret3
        exact ⟨by simp [ofL], HB.out⟩
end Go.Proofs.Ytniambdfgojgeaa
