/- The text of lengths within one another: plain octets. -/
import Derived.Test.YtniambdfgojgeaaPat
import Derived.Test.YtniambdfgojgeaaDec
namespace Go.Proofs.Ytniambdfgojgeaa
open Go.RowKit Go.PlainAid

theorem bl_append (a b : ByteArray) : bl (a ++ b) = bl a ++ bl b := by simp [bl, ByteArray.data_append]
theorem bl_bput (s : ByteArray) (k : Nat) (t : ByteArray) : bl (bput s k t) = (bl s).take k ++ bl t ++ (bl s).drop (k + t.size) := by simp [bl, bput]
theorem bsz (a b : ByteArray) : (a ++ b).size = a.size + b.size := ByteArray.size_append

section
variable (ss : Nat → ByteArray)
/-- k lengths, each with its text behind it -/
def tx (v : Nat → Int) : Nat → ByteArray
  | 0 => ByteArray.empty
  | k + 1 => tx v k ++ two (v k) ++ ss k
/-- where the k-th length stands -/
def pos : Nat → Nat
  | 0 => 0
  | k + 1 => pos k + 2 + (ss k).size
theorem tx_size (v : Nat → Int) : ∀ k, (tx ss v k).size = pos ss k
  | 0 => rfl
  | k + 1 => by
    show (tx ss v k ++ two (v k) ++ ss k).size = pos ss k + 2 + (ss k).size
    rw [bsz, bsz, tx_size v k, two_size]
theorem pos_lt : ∀ {j k : Nat}, j < k → pos ss j + 2 + (ss j).size ≤ pos ss k
  | j, 0, h => by omega
  | j, k + 1, h => by
    show _ ≤ pos ss k + 2 + (ss k).size
    rcases Nat.lt_or_ge j k with h' | h'
    · have := pos_lt h'
      omega
    · obtain rfl : j = k := by omega
      omega
theorem pos_le (h : ∀ j, (ss j).size ≤ 300) : ∀ k, pos ss k ≤ 302 * k
  | 0 => Nat.le_refl _
  | k + 1 => by
    show pos ss k + 2 + (ss k).size ≤ _
    have := pos_le h k
    have := h k
    omega
def upd (v : Nat → Int) (j : Nat) (x : Int) : Nat → Int := fun i => if i = j then x else v i
theorem tx_congr {v v' : Nat → Int} : ∀ {k : Nat}, (∀ i, i < k → v i = v' i) → tx ss v k = tx ss v' k
  | 0, _ => rfl
  | k + 1, h => by
    show tx ss v k ++ two (v k) ++ ss k = tx ss v' k ++ two (v' k) ++ ss k
    rw [tx_congr (fun i hi => h i (by omega)), h k (by omega)]
theorem bput_tx (v : Nat → Int) (x : Int) : ∀ {j k : Nat}, j < k → bput (tx ss v k) (pos ss j) (two x) = tx ss (upd v j x) k
  | j, 0, h => by omega
  | j, k + 1, h => by
    rcases Nat.lt_or_ge j k with h' | h'
    · have ih := bput_tx v x h'
      have hl := pos_lt ss h'
      have hs := tx_size ss v k
      have e : upd v j x k = v k := if_neg (by omega)
      show bput (tx ss v k ++ two (v k) ++ ss k) _ _ = tx ss (upd v j x) k ++ two (upd v j x k) ++ ss k
      rw [e, ← ih]
      apply bl_inj
      have hb := bl_length (tx ss v k)
      simp only [bl_bput, bl_append, List.append_assoc]
      rw [List.take_append_of_le_length (by omega), List.drop_append_of_le_length (by rw [two_size]; omega)]
    · obtain rfl : j = k := by omega
      have hs := tx_size ss v j
      have hb := bl_length (tx ss v j)
      have e : upd v j x j = x := if_pos rfl
      show bput (tx ss v j ++ two (v j) ++ ss j) _ _ = tx ss (upd v j x) j ++ two (upd v j x j) ++ ss j
      rw [e, tx_congr ss (v := upd v j x) (v' := v) (fun i hi => if_neg (by omega))]
      apply bl_inj
      have h2 : (bl (two (v j))).length = 2 := by rw [bl_length, two_size]
      have hdr : List.drop ((bl (tx ss v j)).length + 2) (bl (tx ss v j) ++ (bl (two (v j)) ++ bl (ss j))) = bl (ss j) := by
        rw [← List.append_assoc]
        exact List.drop_left' (by rw [List.length_append, h2])
      simp only [bl_bput, bl_append, List.append_assoc]
      rw [← hs, ← hb, List.take_left, two_size, hdr]
theorem tx_split (v : Nat → Int) : ∀ {j k : Nat}, j < k → ∃ R, tx ss v k = tx ss v j ++ (two (v j) ++ (ss j ++ R))
  | j, 0, h => by omega
  | j, k + 1, h => by
    rcases Nat.lt_or_ge j k with h' | h'
    · obtain ⟨R, hR⟩ := tx_split v h'
      refine ⟨R ++ (two (v k) ++ ss k), ?_⟩
      show tx ss v k ++ two (v k) ++ ss k = _
      rw [hR]
      simp only [ByteArray.append_assoc]
    · obtain rfl : j = k := by omega
      refine ⟨ByteArray.empty, ?_⟩
      show tx ss v j ++ two (v j) ++ ss j = _
      apply bl_inj
      simp [bl]
theorem bt_bl (s : ByteArray) (i : Nat) : bt s i = (((bl s)[i]?.map (fun c => (c.toNat : Int))).getD 0) := by
  unfold bt
  split
  · rename_i h
    rw [List.getElem?_eq_getElem (by rw [bl_length]; exact h)]
    rfl
  · rename_i h
    rw [List.getElem?_eq_none (by rw [bl_length]; omega)]
    rfl
theorem bt_append (a b : ByteArray) (i : Nat) : bt (a ++ b) (a.size + i) = bt b i := by
  rw [bt_bl, bt_bl, bl_append, ← bl_length a, List.getElem?_append_right (by omega), Nat.add_sub_cancel_left]
theorem bt_left (a b : ByteArray) (i : Nat) (h : i < a.size) : bt (a ++ b) i = bt a i := by
  rw [bt_bl, bt_bl, bl_append, List.getElem?_append_left (by rw [bl_length]; exact h)]
theorem two_bt (x : Int) (h0 : 0 ≤ x) (h1 : x ≤ 65535) : 256 * bt (two x) 0 + bt (two x) 1 = x := by
  have e0 : bt (two x) 0 = ((UInt8.ofNat (x / 256).toNat).toNat : Int) := rfl
  have e1 : bt (two x) 1 = ((UInt8.ofNat (x % 256).toNat).toNat : Int) := rfl
  rw [e0, e1, UInt8.toNat_ofNat', UInt8.toNat_ofNat']
  omega
/-- the k-th length is read where it stands -/
theorem tx_num (v : Nat → Int) {j k : Nat} (h : j < k) (h0 : 0 ≤ v j) (h1 : v j ≤ 65535) : 256 * bt (tx ss v k) (pos ss j) + bt (tx ss v k) (pos ss j + 1) = v j := by
  obtain ⟨R, hR⟩ := tx_split ss v h
  rw [hR]
  have hs := tx_size ss v j
  have a0 := bt_append (tx ss v j) (two (v j) ++ (ss j ++ R)) 0
  have a1 := bt_append (tx ss v j) (two (v j) ++ (ss j ++ R)) 1
  rw [hs] at a0 a1
  rw [Nat.add_zero] at a0
  rw [a0, a1, bt_left _ _ 0 (by rw [two_size]; omega), bt_left _ _ 1 (by rw [two_size]; omega)]
  exact two_bt (v j) h0 h1
/-- .. and behind it its text -/
theorem tx_text (v : Nat → Int) {j k : Nat} (h : j < k) : (tx ss v k).extract (pos ss j + 2) (pos ss j + 2 + (ss j).size) = ss j := by
  obtain ⟨R, hR⟩ := tx_split ss v h
  have hs := tx_size ss v j
  have hb := bl_length (tx ss v j)
  have h2 : (bl (two (v j))).length = 2 := by rw [bl_length, two_size]
  rw [hR]
  apply bl_inj
  rw [bl_extract, bl_append, bl_append, bl_append]
  rw [show pos ss j + 2 + (ss j).size - (pos ss j + 2) = (ss j).size from by omega]
  rw [← List.append_assoc, List.drop_left' (by rw [List.length_append]; omega), ← bl_length (ss j), List.take_left]
end
end Go.Proofs.Ytniambdfgojgeaa
