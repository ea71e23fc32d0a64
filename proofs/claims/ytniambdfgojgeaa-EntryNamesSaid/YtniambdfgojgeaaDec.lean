/- Names as octets, taken apart: plain lists. -/
import Derived.Test.YtniambdfgojgeaaBase
import Derived.PlainAid
import Derived.Lib.Strings
import Derived.Lib.IndexBytes
namespace Go.Proofs.Ytniambdfgojgeaa
open Go.RowKit Go.PlainAid

/-- the labels of a name; none: there is no such name -/
def decF : Nat → List UInt8 → Option (List (List UInt8))
  | _, [] => some []
  | 0, _ :: _ => none
  | f + 1, c :: r => if 1 ≤ c.toNat ∧ c.toNat ≤ 63 ∧ c.toNat ≤ r.length then (decF f (r.drop c.toNat)).map (r.take c.toNat :: ·) else none
def dec (l : List UInt8) : Option (List (List UInt8)) := decF l.length l
theorem decF_fuel : ∀ (f g : Nat) (l : List UInt8), l.length ≤ f → l.length ≤ g → decF f l = decF g l
  | 0, 0, _, _, _ => rfl
  | 0, g + 1, [], _, _ => rfl
  | f + 1, 0, [], _, _ => rfl
  | 0, g + 1, c :: r, h, _ => by simp at h
  | f + 1, 0, c :: r, _, h => by simp at h
  | f + 1, g + 1, [], _, _ => rfl
  | f + 1, g + 1, c :: r, h, h' => by
    simp only [List.length_cons] at h h'
    unfold decF
    rw [decF_fuel f g (r.drop c.toNat) (by rw [List.length_drop]; omega) (by rw [List.length_drop]; omega)]
theorem dec_nil : dec [] = some [] := rfl
theorem dec_cons (c : UInt8) (r : List UInt8) : dec (c :: r) = if 1 ≤ c.toNat ∧ c.toNat ≤ 63 ∧ c.toNat ≤ r.length then (dec (r.drop c.toNat)).map (r.take c.toNat :: ·) else none := by
  show decF (r.length + 1) (c :: r) = _
  unfold decF dec
  rw [decF_fuel r.length (r.drop c.toNat).length (r.drop c.toNat) (by rw [List.length_drop]; omega) (Nat.le_refl _)]
/-- labels put together -/
def enc1 (l : List UInt8) : List UInt8 := UInt8.ofNat l.length :: l
def enc (ls : List (List UInt8)) : List UInt8 := ls.flatMap enc1
def Lab (l : List UInt8) : Prop := 1 ≤ l.length ∧ l.length ≤ 63
theorem dec_enc1 (l r : List UInt8) (h : Lab l) : dec (enc1 l ++ r) = (dec r).map (l :: ·) := by
  have e : (UInt8.ofNat l.length).toNat = l.length := by rw [UInt8.toNat_ofNat']; have := h.2; omega
  show dec (UInt8.ofNat l.length :: (l ++ r)) = _
  rw [dec_cons, e, if_pos ⟨h.1, h.2, by simp⟩, List.drop_left, List.take_left]
theorem dec_enc : ∀ ls : List (List UInt8), (∀ l ∈ ls, Lab l) → dec (enc ls) = some ls
  | [], _ => rfl
  | l :: ls, h => by
    show dec (enc1 l ++ enc ls) = _
    rw [dec_enc1 l _ (h l (by simp)), dec_enc ls (fun x hx => h x (by simp [hx]))]
    rfl
theorem dec_some : ∀ (n : Nat) (x : List UInt8) (ls : List (List UInt8)), x.length ≤ n → dec x = some ls → x = enc ls ∧ ∀ l ∈ ls, Lab l
  | n, [], ls, _, h => by
    rw [dec_nil] at h
    cases h
    exact ⟨rfl, by simp⟩
  | 0, c :: r, ls, hn, h => by simp at hn
  | n + 1, c :: r, ls, hn, h => by
    rw [dec_cons] at h
    split at h
    · rename_i hc
      cases hd : dec (r.drop c.toNat) with
      | none => rw [hd] at h; cases h
      | some ls' =>
        rw [hd] at h
        cases h
        obtain ⟨he, hl⟩ := dec_some n (r.drop c.toNat) ls' (by rw [List.length_drop]; simp at hn; omega) hd
        have hlen : (r.take c.toNat).length = c.toNat := by rw [List.length_take]; omega
        refine ⟨?_, ?_⟩
        · show c :: r = enc1 (r.take c.toNat) ++ enc ls'
          rw [← he]
          unfold enc1
          rw [hlen, UInt8.ofNat_toNat, List.cons_append, List.take_append_drop]
        · intro l hl'
          rcases List.mem_cons.1 hl' with rfl | hl'
          · exact ⟨by omega, by omega⟩
          · exact hl l hl'
    · cases h
theorem dec_eq {x : List UInt8} {ls : List (List UInt8)} (h : dec x = some ls) : x = enc ls := (dec_some x.length x ls (Nat.le_refl _) h).1
theorem dec_lab {x : List UInt8} {ls : List (List UInt8)} (h : dec x = some ls) : ∀ l ∈ ls, Lab l := (dec_some x.length x ls (Nat.le_refl _) h).2

/-- of a text -/
def bl (s : ByteArray) : List UInt8 := s.data.toList
theorem bl_length (s : ByteArray) : (bl s).length = s.size := by unfold bl; rw [Array.length_toList]; rfl
theorem bl_extract (s : ByteArray) (a b : Nat) : bl (s.extract a b) = ((bl s).drop a).take (b - a) := by
  unfold bl
  rw [ByteArray.data_extract, Array.toList_extract, List.extract_eq_take_drop]
theorem bl_inj {s t : ByteArray} (h : bl s = bl t) : s = t := by
  cases s; cases t
  unfold bl at h
  congr 1
  exact Array.toList_inj.1 h
theorem bl_head (s : ByteArray) (h : 0 < s.size) : ∃ c r, bl s = c :: r ∧ bt s 0 = c.toNat := by
  cases hb : bl s with
  | nil => have := bl_length s; rw [hb] at this; simp at this; omega
  | cons c r =>
    refine ⟨c, r, rfl, ?_⟩
    unfold bt
    rw [dif_pos h]
    congr 1
    have : s[0] = (bl s)[0]'(by rw [bl_length]; exact h) := rfl
    rw [this]
    simp [hb]
theorem not_empty_list {s : ByteArray} (h : 0 < s.size) : s.toList.isEmpty = false := by
  rw [Lib.toList_data]
  cases hb : s.data.toList with
  | nil => have := bl_length s; unfold bl at this; rw [hb] at this; simp at this; omega
  | cons _ _ => rfl
theorem empty_bytes {s : ByteArray} (h : s.size = 0) : s = ByteArray.empty := by
  rcases s with ⟨a⟩
  have : a = #[] := Array.eq_empty_of_size_eq_zero h
  rw [this]; rfl
/-- a name's labels, as its octets tell them -/
def nm (s : ByteArray) : Option (List (List UInt8)) := dec (bl s)
theorem nm_empty {s : ByteArray} (h : s.size = 0) : nm s = some [] := by
  have : bl s = [] := List.eq_nil_of_length_eq_zero (by rw [bl_length]; exact h)
  unfold nm
  rw [this]
  rfl
def okHead (s : ByteArray) : Prop := 1 ≤ bt s 0 ∧ bt s 0 ≤ 63 ∧ bt s 0 < s.size
theorem nm_step {s : ByteArray} (h : 0 < s.size) (hh : okHead s) : nm s = (nm (s.extract (1 + bt s 0).toNat s.size)).map (bl (s.extract 1 (1 + bt s 0).toNat) :: ·) := by
  rw [show (1 + bt s 0).toNat = 1 + (bt s 0).toNat from by have := bt_nonneg s 0; omega]
  obtain ⟨c, r, hb, hc⟩ := bl_head s h
  have hl := bl_length s
  rw [hb] at hl
  simp only [List.length_cons] at hl
  obtain ⟨h1, h2, h3⟩ := hh
  rw [hc] at h1 h2 h3 ⊢
  simp only [Int.toNat_natCast]
  unfold nm
  rw [bl_extract, bl_extract, hb, dec_cons, if_pos ⟨by omega, by omega, by omega⟩]
  have e1 : (c :: r).drop (1 + c.toNat) = r.drop c.toNat := by rw [Nat.add_comm, List.drop_succ_cons]
  rw [e1, List.drop_succ_cons, List.drop_zero, show 1 + c.toNat - 1 = c.toNat from by omega, List.take_of_length_le (l := List.drop c.toNat r) (by rw [List.length_drop]; omega)]
theorem nm_bad {s : ByteArray} (h : 0 < s.size) (hh : ¬ okHead s) : nm s = none := by
  obtain ⟨c, r, hb, hc⟩ := bl_head s h
  have hl := bl_length s
  rw [hb] at hl
  simp only [List.length_cons] at hl
  unfold nm
  rw [hb, dec_cons, if_neg]
  intro ⟨h1, h2, h3⟩
  exact hh ⟨by omega, by omega, by omega⟩
end Go.Proofs.Ytniambdfgojgeaa
