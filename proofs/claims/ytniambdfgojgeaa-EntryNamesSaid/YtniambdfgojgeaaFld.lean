/- label.Fold: upper case letters lowered. -/
import Derived.Test.YtniambdfgojgeaaNam
import Derived.Lib.ConvBytes
import Derived.Laws.IdiomStrings
namespace Go.Proofs.Ytniambdfgojgeaa
open Go.RowKit Go.PlainAid

/-- one octet lowered -/
def foldI (c : Int) : Int := if 65 ≤ c ∧ c ≤ 90 then c + 32 else c
def foldB (c : UInt8) : UInt8 := if 65 ≤ c.toNat ∧ c.toNat ≤ 90 then c + 32 else c
theorem foldB_toNat (c : UInt8) : ((foldB c).toNat : Int) = foldI c.toNat := by
  unfold foldB foldI
  by_cases h : 65 ≤ c.toNat ∧ c.toNat ≤ 90
  · rw [if_pos h, if_pos (by omega), UInt8.toNat_add]
    have : (32 : UInt8).toNat = 32 := rfl
    omega
  · rw [if_neg h, if_neg (by omega)]
/-- a label lowered -/
def foldL (l : List UInt8) : List UInt8 := l.map foldB
theorem foldL_length (l : List UInt8) : (foldL l).length = l.length := by simp [foldL]

set_option maxHeartbeats 800000 in
theorem fold1_any (c : Int) (h0 : 0 ≤ c) (h1 : c ≤ 255) (w : World) :
    Calls Try.prog 68 #[.int .u8 c] w fun e w' => e = .returned (.int .u8 (foldI c)) ∧ w = w' := by
  by_cases g1 : 65 ≤ c
  · have d1 : decide (65 ≤ c) = true := decide_eq_true g1
    by_cases g2 : c ≤ 90
    · have d2 : decide (c ≤ 90) = true := decide_eq_true g2
      have e1 : IntKind.u8.wrap (c - 65) = c - 65 := IntWalk.u8_in _ (by omega)
      have e2 : IntKind.u8.wrap (c - 65 + 97) = c + 32 := by
        rw [show c - 65 + 97 = c + 32 from by omega]
        exact IntWalk.u8_in _ (by omega)
      have hf : foldI c = c + 32 := if_pos ⟨g1, g2⟩
      go_enter Try.func68, Try.ntmps68
      go_wp2
      all_goals go_ret
      all_goals first | exact ⟨rfl, rfl⟩ | exact ⟨by rw [hf]; rfl, rfl⟩
    · have d2 : decide (c ≤ 90) = false := decide_eq_false g2
      have hf : foldI c = c := if_neg (fun h => g2 h.2)
      go_enter Try.func68, Try.ntmps68
      go_wp2
      all_goals go_ret
      all_goals first | exact ⟨rfl, rfl⟩ | exact ⟨by rw [hf]; rfl, rfl⟩
  · have d1 : decide (65 ≤ c) = false := decide_eq_false g1
    have hf : foldI c = c := if_neg (fun h => g1 h.1)
    go_enter Try.func68, Try.ntmps68
    go_wp2
    all_goals go_ret
    all_goals first | exact ⟨rfl, rfl⟩ | exact ⟨by rw [hf]; rfl, rfl⟩

/-- the bytes when the first i are lowered -/
def fAt (s : ByteArray) (i j : Nat) : Int := if j < i then foldI (bt s j) else bt s j
structure FoldIng (s : ByteArray) (i : Nat) (w wr : World) : Prop where
  cell : ∀ j, j < s.size → wr.cell? ⟨w.heap.size, j, none⟩ = some (.int .u8 (fAt s i j))
  free : ∀ j, j < s.size → wr.frozen? ⟨w.heap.size, j, none⟩ = false
  below : Below w.heap.size w wr
theorem bl_bt (s : ByteArray) (j : Nat) (h : j < s.size) : (bl s)[j]? = some (s[j]'h) := by
  unfold bl
  rw [List.getElem?_eq_getElem (by rw [Array.length_toList]; exact h)]
  rfl
theorem getD_bt (s : ByteArray) (j : Nat) (h : j < s.size) : ((s.data.toList.getD j 0).toNat : Int) = bt s j := by
  have := bl_bt s j h
  unfold bl at this
  rw [List.getD, this]
  unfold bt
  rw [dif_pos h]
  rfl
theorem folding_first (s : ByteArray) (w : World) : FoldIng s 0 w (Lib.bytesWorld w 5 s) where
  cell := fun j hj => by
    rw [Lib.bytesWorld_cell w 5 s j hj, getD_bt s j hj]
    rfl
  free := fun j hj => by
    have hs : s.size ≤ (Lib.bytesCells w 5 s).size := by
      unfold Lib.bytesCells
      rw [Array.size_append, Array.size_map]
      exact Nat.le_add_right _ _
    simp [World.frozen?, Lib.bytesWorld_at_new]
    omega
  below := Lib.below_freeze (((Below.refl _ w).drew).alloc (Nat.le_refl _) _) (Nat.le_refl _) _
theorem FoldIng.next {s : ByteArray} {i : Nat} {w wr : World} (h : FoldIng s i w wr) (hi : i < s.size) : FoldIng s (i + 1) w (wr.setCell ⟨w.heap.size, i, none⟩ (.int .u8 (foldI (bt s i)))) where
  cell := fun j hj => by
    by_cases hij : j = i
    · subst hij
      refine (World.cell?_setCell_same _ _ _ (h.cell j hj)).trans ?_
      simp [fAt]
    · refine (World.cell?_setCell_other _ _ _ _ (by intro e; cases e; exact hij rfl)).trans ?_
      rw [h.cell j hj]
      unfold fAt
      by_cases hlt : j < i
      · rw [if_pos hlt, if_pos (by omega)]
      · rw [if_neg hlt, if_neg (by omega)]
  free := fun j hj => (World.frozen?_setCell _ _ _ _).trans (h.free j hj)
  below := h.below.setCell (p := ⟨w.heap.size, i, none⟩) (Nat.le_refl _) _
theorem FoldIng.text {s : ByteArray} {w wr : World} (h : FoldIng s s.size w wr) (cap : Nat) :
    (convert 113 9 (.slice (some ⟨w.heap.size, 0, none⟩) s.size cap)).run Try.prog wr = .ok (.string ⟨(foldL (bl s)).toArray⟩) wr := by
  have hl : (foldL (bl s)).length = s.size := by rw [foldL_length, bl_length]
  have := run_convert_bytes_back (P := Try.prog) wr 113 9 5 ⟨w.heap.size, 0, none⟩ cap (foldL (bl s)) Try.underlying113 Try.underlying5 Try.underlying9 (fun j hj => by
    rw [hl] at hj
    refine (by cases j <;> simp [Addr.add] : wr.cell? ((⟨w.heap.size, 0, none⟩ : Addr).add j) = wr.cell? ⟨w.heap.size, j, none⟩).trans ?_
    rw [h.cell j hj]
    unfold fAt
    rw [if_pos hj]
    congr 2
    have hb := bl_bt s j hj
    have hq : (foldL (bl s))[j]? = some (foldB (s[j]'hj)) := by unfold foldL; rw [List.getElem?_map, hb]; rfl
    have hq' := (List.getElem?_eq_some_iff.1 hq).2
    rw [hq', foldB_toNat]
    unfold bt
    rw [dif_pos hj])
  rw [hl] at this
  exact this

set_option maxRecDepth 100000 in
set_option maxHeartbeats 1600000 in
theorem leach_any (s : ByteArray) (hs : s.size ≤ 1000) (w : World) :
    Calls Try.prog 69 #[.string s, .func (.func 68) #[] #[]] w fun e w' => e = .returned (.string ⟨(foldL (bl s)).toArray⟩) ∧ Below w.heap.size w w' := by
  have hcv := Lib.run_convert_string_bytes (P := Try.prog) w 9 113 5 s Try.underlying9 Try.underlying113 Try.underlying5
  have hF := Lib.hid (folding_first s w)
  obtain ⟨cap, hcap⟩ : ∃ c, grownCap w s.size 0 5 = c := ⟨_, rfl⟩
  obtain ⟨w0, hw0⟩ : ∃ x, Lib.bytesWorld w 5 s = x := ⟨_, rfl⟩
  rw [hcap, hw0] at hcv
  rw [hw0] at hF
  clear hcap hw0
  go_enter Try.func69, Try.ntmps69
  go_wp2_with fail
  go_loopw [12] (fun v wr => ∃ i : Nat, v = .int .i64 i ∧ i ≤ s.size ∧ FoldIng s i w wr) (fun v _ => s.size - (intOf v).toNat)
  case atStart => exact ⟨0, rfl, Nat.zero_le _, hF.out⟩
  case round =>
    obtain ⟨i, rfl, hi, hI⟩ := hrel
    by_cases hlt : i < s.size
    · have hc := hI.cell i hlt
      have hf := hI.free i hlt
      have e1 : fAt s i i = bt s i := by unfold fAt; rw [if_neg (by omega)]
      rw [e1] at hc
      have b0 := bt_nonneg s i
      have b1 := bt_le s i
      have HI := Lib.hid hI
      clear hI e1
      go_wp2_with fail
      refine (fold1_any (bt s i) b0 b1 _).mono ?_
      rintro e w1 ⟨rfl, rfl⟩
      go_wp2_with fail
      go_roundw
      case rel => exact ⟨i + 1, by simp, by omega, HI.out.next hlt⟩
      case measure => simp [intOf] <;> omega
    · obtain rfl : i = s.size := by omega
      have ht := hI.text cap
      have HB := Lib.hid hI.below
      clear hI
      go_wp2
      go_ret
      exact ⟨rfl, HB.out⟩

set_option maxHeartbeats 800000 in
theorem lfold_any (s : ByteArray) (hs : s.size ≤ 1000) (w : World) :
    Calls Try.prog 42 #[.string s] w fun e w' => e = .returned (.string ⟨(foldL (bl s)).toArray⟩) ∧ Below w.heap.size w w' := by
  go_enter Try.func42, Try.ntmps42
  go_wp2_with fail
  refine (leach_any s hs _).mono ?_
  rintro e w1 ⟨rfl, hb⟩
  have HB := Lib.hid hb
  clear hb
  go_wp2
  go_ret
  exact ⟨rfl, HB.out⟩
end Go.Proofs.Ytniambdfgojgeaa
