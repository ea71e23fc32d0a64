/- entry.each: over ports. -/
import Derived.Test.YtniambdfgojgeaaEco
import Derived.Deep.MidRow
namespace Go.Proofs.Ytniambdfgojgeaa
open Go.RowKit Go.PlainAid

theorem infoRec : (Try.prog.info? 66).map (fun i => (i.zero, i.size, i.bytes)) = some (some (.agg (#[.string ByteArray.empty, .int .i64 0, .int .i64 0, .int .u32 0] ++ dcs false 0 0 ⟨#[]⟩ 0)), 16, 160) := by kernel_rfl

/-- the cells of a record: its head, its datum -/
abbrev hds (name : ByteArray) (ty ttl : Int) : List Value := [.string name, .int .i64 ty, .int .i64 1, .int .u32 ttl]
abbrev rcs (name : ByteArray) (ty ttl : Int) (six : Bool) (hi lo : Int) (dn : ByteArray) (n2 : Int) : List Value := hds name ty ttl ++ (dcs six hi lo dn n2).toList

/-- the box of the record in each: its head as it was, a datum -/
structure RecBox (b : Nat) (hd : List Value) (w : World) : Prop where
  head : w.rangeAt b 0 hd
  there : w.there b 4 12
  lt : b < w.heap.size
theorem rangeAt_later {b o : Nat} {cs : List Value} {w w' : World} (h : w.rangeAt b o cs) (hb : w'.heap[b]? = w.heap[b]?) : w'.rangeAt b o cs := fun j v hv => (World.cell?_of_block hb).trans (h j v hv)
theorem there_later {b o n : Nat} {w w' : World} (h : w.there b o n) (hb : w'.heap[b]? = w.heap[b]?) : w'.there b o n := fun j hj => by
  rw [World.cell?_of_block (a := ⟨b, o + j, none⟩) hb]
  exact ⟨(h j hj).1, (frozen_block hb (o + j)).trans (h j hj).2⟩
theorem RecBox.later {b : Nat} {hd : List Value} {w w' : World} (h : RecBox b hd w) (hb : w'.heap[b]? = w.heap[b]?) (hs : w.heap.size ≤ w'.heap.size) : RecBox b hd w' :=
  ⟨rangeAt_later h.head hb, there_later h.there hb, Nat.lt_of_lt_of_le h.lt hs⟩
theorem RecBox.put {b : Nat} {name : ByteArray} {ty ttl : Int} {w : World} (h : RecBox b (hds name ty ttl) w) (ds : List Value) (hl : ds.length = 12) : RecBox b (hds name ty ttl) (w.setCells b 4 ds) ∧ (w.setCells b 4 ds).rangeAt b 0 (hds name ty ttl ++ ds) := by
  have h1 : (w.setCells b 4 ds).rangeAt b 0 (hds name ty ttl) := World.rangeAt_setCells_apart h.head b 4 ds (.inr (.inl (by simp)))
  have h2 : (w.setCells b 4 ds).rangeAt b 4 ds := World.rangeAt_setCells_same w b 4 ds (by rw [hl]; exact h.there)
  refine ⟨⟨h1, World.there_setCells h.there b 4 ds, ?_⟩, fun j v hv => ?_⟩
  · have : ∀ (ds : List Value) (o : Nat) (w : World), (w.setCells b o ds).heap.size = w.heap.size := by
      intro ds
      induction ds with
      | nil => intro o w; rfl
      | cons x ds ih => intro o w; rw [World.setCells, ih]; simp [World.setCell]
    rw [this]
    exact h.lt
  · by_cases hj : j < 4
    · rw [List.getElem?_append_left (by simpa using hj)] at hv
      exact h1 j v hv
    · rw [List.getElem?_append_right (by simp; omega)] at hv
      have := h2 (j - 4) v (by simpa using hv)
      rw [show 4 + (j - 4) = 0 + j from by omega] at this
      exact this
theorem below_setCells {B b : Nat} {a : World} (hb : B ≤ b) : ∀ (ds : List Value) (o : Nat) (w : World), Below B a w → Below B a (w.setCells b o ds)
  | [], _, _, h => h
  | x :: ds, o, w, h => by
    rw [World.setCells]
    exact below_setCells hb ds (o + 1) _ (h.setCell (p := ⟨b, o, none⟩) hb x)

theorem keeps_setCells (b : Nat) : ∀ (ds : List Value) (o : Nat) (w : World), Keeps (fun k => k = b) w (w.setCells b o ds)
  | [], _, w => by
    rw [World.setCells]
    exact Keeps.refl _ w
  | x :: ds, o, w => by
    rw [World.setCells]
    exact ((Keeps.refl (fun k => k = b) w).setCell (p := ⟨b, o, none⟩) (.inr rfl) x).trans (keeps_setCells b ds (o + 1) _) (fun _ _ h => h)

set_option maxRecDepth 100000 in
set_option maxHeartbeats 4000000 in
theorem each_ports (g cap ob : Nat) (owner name dn : ByteArray) (ty ttl : Int) (p q : Int) (hp : 0 ≤ p ∧ p ≤ 65535) (hq : 0 ≤ q ∧ q ≤ 65535) (w : World) (h0 : w.cell? ⟨g, 0, none⟩ = some (.int .i64 p)) (h1 : w.cell? ⟨g, 1, none⟩ = some (.int .i64 q))
    (ho : w.cell? ⟨ob, 0, none⟩ = some (.string owner)) (_hcap : 2 ≤ cap) :
    Calls Try.prog 50 #[.slice (some ⟨g, 0, none⟩) 2 cap, .func (.func 51) #[] #[.pointer (some ⟨ob, 0, none⟩)], .agg (hds name ty ttl ++ (dcs false 0 0 dn 0).toList).toArray] w
      (CloneIs w.heap.size 66 16 2 (rcs name ty ttl false 0 0 owner p ++ rcs name ty ttl false 0 0 owner q) w) := by
  obtain ⟨i0, hi, hz0, hz1, hz2⟩ := info_parts infoRec
  have hgl := World.block_lt_of_cell? w _ h0
  have hol := World.block_lt_of_cell? w _ ho
  go_enter Try.func50, Try.ntmps50
  go_wp2_with fail
  have hbx : RecBox w.heap.size (hds name ty ttl) (w.alloc (.cells #[.string name, .int .i64 ty, .int .i64 1, .int .u32 ttl, .bool false, .int .u64 0, .int .u64 0, .string dn, .string ⟨#[]⟩, .int .u32 0, .int .u32 0, .int .u32 0, .int .u32 0, .int .u32 0, .slice none 0 0, .string ⟨#[]⟩] 66)) := by
    have hh := heap_alloc_new w (.cells #[.string name, .int .i64 ty, .int .i64 1, .int .u32 ttl, .bool false, .int .u64 0, .int .u64 0, .string dn, .string ⟨#[]⟩, .int .u32 0, .int .u32 0, .int .u32 0, .int .u32 0, .int .u32 0, .slice none 0 0, .string ⟨#[]⟩] 66)
    refine ⟨fun j v hv => ?_, fun j hj => ⟨?_, Lib.frozen_of_heap hh _⟩, by simp⟩
    · rw [Nat.zero_add, Lib.cell_of_heap hh]
      match j, hv with
      | 0, hv => cases hv; rfl
      | 1, hv => cases hv; rfl
      | 2, hv => cases hv; rfl
      | 3, hv => cases hv; rfl
    · rw [Lib.cell_of_heap hh, Array.getElem?_eq_getElem (by simp; omega)]
      rfl
  have hb0 : Below w.heap.size w (w.alloc (.cells #[.string name, .int .i64 ty, .int .i64 1, .int .u32 ttl, .bool false, .int .u64 0, .int .u64 0, .string dn, .string ⟨#[]⟩, .int .u32 0, .int .u32 0, .int .u32 0, .int .u32 0, .int .u32 0, .slice none 0 0, .string ⟨#[]⟩] 66)) := (Below.refl _ w).alloc (Nat.le_refl _) _
  have HBX := Lib.hid hbx
  have HB0 := Lib.hid hb0
  clear hbx hb0
  obtain ⟨recs, hrecs⟩ : ∃ r, rcs name ty ttl false 0 0 owner p ++ rcs name ty ttl false 0 0 owner q = r := ⟨_, rfl⟩
  go_loopw [7, 14] (fun u v wr => ∃ (i : Nat) (x : Value), x = u ∧ v = .int .i64 i ∧ i ≤ 2 ∧ RecBox w.heap.size (hds name ty ttl) wr ∧ wr.ownsRow (w.heap.size + 1) 66 16 x i (recs.take (16 * i)) ∧ Below w.heap.size w wr) (fun _ v _ => 2 - (intOf v).toNat)
  case atStart => exact ⟨0, _, rfl, rfl, by omega, HBX.out, World.ownsRow_nil _ _ _ _, HB0.out⟩
  case round =>
    obtain ⟨i, x, rfl, rfl, hi2, hbx, hown, hB⟩ := hrel
    by_cases hlt : i < 2
    · obtain ⟨r, hr, hr0, hr1, hst⟩ : ∃ r, w.cell? ⟨g, i, none⟩ = some (.int .i64 r) ∧ 0 ≤ r ∧ r ≤ 65535 ∧ recs.take (16 * (i + 1)) = recs.take (16 * i) ++ rcs name ty ttl false 0 0 owner r := by
        rcases (by omega : i = 0 ∨ i = 1) with rfl | rfl
        · exact ⟨p, h0, hp.1, hp.2, by rw [← hrecs]; rfl⟩
        · exact ⟨q, h1, hq.1, hq.2, by rw [← hrecs]; rfl⟩
      have hcell := (hB.cell (p := ⟨g, i, none⟩) hgl).trans hr
      have hob := (hB.cell (p := ⟨ob, 0, none⟩) hol).trans ho
      have hws := hB.size
      have hlt1 := hbx.lt
      have HX := Lib.hid hbx
      have HO := Lib.hid hown
      have HB := Lib.hid hB
      have HS := Lib.hid hst
      clear hbx hown hB hst hr
      obtain ⟨ao, co, rfl⟩ := slice_of HO.out
      go_wp2_with fail
      refine (clo2 ob owner r ⟨hr0, hr1⟩ _ hob).mono ?_
      rintro e w2 ⟨rfl, hb2⟩
      have hx2 := (HX.out.later (hb2.block _ hlt1) hb2.size).later (w' := w2.alloc (.cells (dcs false 0 0 owner r) 64)) (Below.heap_alloc w2 _ _ (Nat.lt_of_lt_of_le hlt1 hb2.size)) (by simp)
      have ho2 := ((Keeps.of_below hb2).owns HO.out (fun k hk hge => by have := (HO.out.lt k hk).2; omega)).alloc (.cells (dcs false 0 0 owner r) 64)
      have hB2 := (HB.out.trans (hb2.mono hws)).alloc (by have := hb2.size; omega) (.cells (dcs false 0 0 owner r) 64)
      have HX2 := Lib.hid hx2
      have HO2 := Lib.hid ho2
      have HB2 := Lib.hid hB2
      clear hb2 hx2 ho2 hB2
      have tok1 : True := trivial
      have tok2 : True := trivial
      go_wp2_with (first
        | (have _t := tok1; refine wpList_store_mid rfl 64 _ _ rfl w.heap.size 4 (dcs false 0 0 owner r) rfl rfl HX2.out.there (by kernel_rfl) (by simp [Value.oneCell']) ?_; have hput := HX2.out.put (dcs false 0 0 owner r).toList rfl; have hbel := below_setCells (Nat.le_refl w.heap.size) (dcs false 0 0 owner r).toList 4 _ HB2.out; have hkp := keeps_setCells w.heap.size (dcs false 0 0 owner r).toList 4 (w2.alloc (.cells (dcs false 0 0 owner r) 64)); generalize hW : World.setCells _ w.heap.size 4 _ = W3; rw [hW] at hput hbel hkp; have ho3 := hkp.owns HO2.out (fun k hk hge => by have := (HO2.out.lt k hk).1; omega); have HX3 := Lib.hid hput.1; have HR3 := Lib.hid hput.2; have HB3 := Lib.hid hbel; have HO3 := Lib.hid ho3; clear tok1 hput hbel hkp ho3 hW)
        | (have _t := tok2; refine wpList_load_mid rfl 66 _ rfl w.heap.size 0 rfl (rcs name ty ttl false 0 0 owner r) _ HR3.out Try.underlying66 rfl (by kernel_rfl) ?_; clear tok2)
        | (at_builtin; refine wpList_append_own _ rfl _ _ 57 rfl (w.heap.size + 1) 66 i0 _ 16 160 Try.underlying57 hi hz0 hz1 hz2 rfl (by decide) _ _ _ rfl (HO3.out.alloc _) ⟨W3.heap.size, 0, none⟩ 1 1 (rcs name ty ttl false 0 0 owner r) rfl rfl ?c1 (by simp [Value.oneCell']) (by unfold maxLen; omega) (by omega) (by have := HX3.out.lt; simp; omega) ?_))
      intro v' w4 hown' hgrow _
      have hl3 := HX3.out.lt
      have hB4 : Below w.heap.size w w4 := (HB3.out.alloc HB3.out.size _).grown hgrow (by have := HB3.out.size; simp; omega) (fun k hk => by have := (HO3.out.lt k hk).1; omega)
      have hX4 : RecBox w.heap.size (hds name ty ttl) w4 := (HX3.out.later (w' := W3.alloc _) (Below.heap_alloc W3 _ _ hl3) (by simp)).later (hgrow.block _ (by simp; omega) (fun e => by have := (HO3.out.lt _ e.symm).1; omega)) hgrow.size
      have hO4 : w4.ownsRow (w.heap.size + 1) 66 16 v' (i + 1) (recs.take (16 * (i + 1))) := by rw [HS.out]; exact hown'
      have HB4 := Lib.hid hB4
      have HX4 := Lib.hid hX4
      have HO4 := Lib.hid hO4
      clear hB4 hX4 hO4 hown' hgrow
      go_wp2_with fail
      go_roundw
      case rel => exact ⟨i + 1, _, rfl, by simp, by omega, HX4.out, HO4.out, HB4.out⟩
      case measure => simp [intOf] <;> omega
    · obtain rfl : i = 2 := by omega
      have HO := Lib.hid hown
      have HB := Lib.hid hB
      clear hown hB hbx
      go_wp2_with fail
      go_ret
      refine ⟨_, rfl, ?_, HB.out⟩
      have := ownsRow_base HO.out (Nat.le_succ w.heap.size)
      rw [← hrecs] at this
      exact this

set_option maxRecDepth 100000 in
set_option maxHeartbeats 4000000 in
theorem each_name (g cap ob : Nat) (owner name dn : ByteArray) (ty ttl : Int) (w : World) (h0 : w.cell? ⟨g, 0, none⟩ = some (.string owner))
    (ho : w.cell? ⟨ob, 1, none⟩ = some (.int .i64 3)) (_hcap : 1 ≤ cap) :
    Calls Try.prog 52 #[.slice (some ⟨g, 0, none⟩) 1 cap, .func (.func 53) #[] #[.pointer (some ⟨ob, 0, none⟩)], .agg (hds name ty ttl ++ (dcs false 0 0 dn 0).toList).toArray] w
      (CloneIs w.heap.size 66 16 1 (rcs name ty ttl false 0 0 owner 0) w) := by
  obtain ⟨i0, hi, hz0, hz1, hz2⟩ := info_parts infoRec
  have hgl := World.block_lt_of_cell? w _ h0
  have hol := World.block_lt_of_cell? w _ ho
  go_enter Try.func52, Try.ntmps52
  go_wp2_with fail
  have hbx : RecBox w.heap.size (hds name ty ttl) (w.alloc (.cells #[.string name, .int .i64 ty, .int .i64 1, .int .u32 ttl, .bool false, .int .u64 0, .int .u64 0, .string dn, .string ⟨#[]⟩, .int .u32 0, .int .u32 0, .int .u32 0, .int .u32 0, .int .u32 0, .slice none 0 0, .string ⟨#[]⟩] 66)) := by
    have hh := heap_alloc_new w (.cells #[.string name, .int .i64 ty, .int .i64 1, .int .u32 ttl, .bool false, .int .u64 0, .int .u64 0, .string dn, .string ⟨#[]⟩, .int .u32 0, .int .u32 0, .int .u32 0, .int .u32 0, .int .u32 0, .slice none 0 0, .string ⟨#[]⟩] 66)
    refine ⟨fun j v hv => ?_, fun j hj => ⟨?_, Lib.frozen_of_heap hh _⟩, by simp⟩
    · rw [Nat.zero_add, Lib.cell_of_heap hh]
      match j, hv with
      | 0, hv => cases hv; rfl
      | 1, hv => cases hv; rfl
      | 2, hv => cases hv; rfl
      | 3, hv => cases hv; rfl
    · rw [Lib.cell_of_heap hh, Array.getElem?_eq_getElem (by simp; omega)]
      rfl
  have hb0 : Below w.heap.size w (w.alloc (.cells #[.string name, .int .i64 ty, .int .i64 1, .int .u32 ttl, .bool false, .int .u64 0, .int .u64 0, .string dn, .string ⟨#[]⟩, .int .u32 0, .int .u32 0, .int .u32 0, .int .u32 0, .int .u32 0, .slice none 0 0, .string ⟨#[]⟩] 66)) := (Below.refl _ w).alloc (Nat.le_refl _) _
  have HBX := Lib.hid hbx
  have HB0 := Lib.hid hb0
  clear hbx hb0
  obtain ⟨recs, hrecs⟩ : ∃ r, rcs name ty ttl false 0 0 owner 0 = r := ⟨_, rfl⟩
  have HRC := Lib.hid hrecs
  clear hrecs
  go_loopw [7, 14] (fun u v wr => ∃ (i : Nat) (x : Value), x = u ∧ v = .int .i64 i ∧ i ≤ 1 ∧ RecBox w.heap.size (hds name ty ttl) wr ∧ wr.ownsRow (w.heap.size + 1) 66 16 x i (recs.take (16 * i)) ∧ Below w.heap.size w wr) (fun _ v _ => 1 - (intOf v).toNat)
  case atStart => exact ⟨0, _, rfl, rfl, by omega, HBX.out, World.ownsRow_nil _ _ _ _, HB0.out⟩
  case round =>
    obtain ⟨i, x, rfl, rfl, hi2, hbx, hown, hB⟩ := hrel
    by_cases hlt : i < 1
    · obtain rfl : i = 0 := by omega
      have hst : recs.take (16 * (0 + 1)) = recs.take (16 * 0) ++ rcs name ty ttl false 0 0 owner 0 := by rw [← HRC.out]; rfl
      have hcell := (hB.cell (p := ⟨g, 0, none⟩) hgl).trans h0
      have hob := (hB.cell (p := ⟨ob, 1, none⟩) hol).trans ho
      have hws := hB.size
      have hlt1 := hbx.lt
      have HX := Lib.hid hbx
      have HO := Lib.hid hown
      have HB := Lib.hid hB
      have HS := Lib.hid hst
      clear hbx hown hB hst
      obtain ⟨ao, co, rfl⟩ := slice_of HO.out
      go_wp2_with fail
      refine (clo3 ob owner 3 _ hob).mono ?_
      rintro e w2 ⟨rfl, hb2⟩
      have hx2 := (HX.out.later (hb2.block _ hlt1) hb2.size).later (w' := w2.alloc (.cells (dcs false 0 0 owner 0) 64)) (Below.heap_alloc w2 _ _ (Nat.lt_of_lt_of_le hlt1 hb2.size)) (by simp)
      have ho2 := ((Keeps.of_below hb2).owns HO.out (fun k hk hge => by have := (HO.out.lt k hk).2; omega)).alloc (.cells (dcs false 0 0 owner 0) 64)
      have hB2 := (HB.out.trans (hb2.mono hws)).alloc (by have := hb2.size; omega) (.cells (dcs false 0 0 owner 0) 64)
      have HX2 := Lib.hid hx2
      have HO2 := Lib.hid ho2
      have HB2 := Lib.hid hB2
      clear hb2 hx2 ho2 hB2
      have tok1 : True := trivial
      have tok2 : True := trivial
      go_wp2_with (first
        | (have _t := tok1; refine wpList_store_mid rfl 64 _ _ rfl w.heap.size 4 (dcs false 0 0 owner 0) rfl rfl HX2.out.there (by kernel_rfl) (by simp [Value.oneCell']) ?_; have hput := HX2.out.put (dcs false 0 0 owner 0).toList rfl; have hbel := below_setCells (Nat.le_refl w.heap.size) (dcs false 0 0 owner 0).toList 4 _ HB2.out; have hkp := keeps_setCells w.heap.size (dcs false 0 0 owner 0).toList 4 (w2.alloc (.cells (dcs false 0 0 owner 0) 64)); generalize hW : World.setCells _ w.heap.size 4 _ = W3; rw [hW] at hput hbel hkp; have ho3 := hkp.owns HO2.out (fun k hk hge => by have := (HO2.out.lt k hk).1; omega); have HX3 := Lib.hid hput.1; have HR3 := Lib.hid hput.2; have HB3 := Lib.hid hbel; have HO3 := Lib.hid ho3; clear tok1 hput hbel hkp ho3 hW)
        | (have _t := tok2; refine wpList_load_mid rfl 66 _ rfl w.heap.size 0 rfl (rcs name ty ttl false 0 0 owner 0) _ HR3.out Try.underlying66 rfl (by kernel_rfl) ?_; clear tok2)
        | (at_builtin; refine wpList_append_own _ rfl _ _ 57 rfl (w.heap.size + 1) 66 i0 _ 16 160 Try.underlying57 hi hz0 hz1 hz2 rfl (by decide) _ _ _ rfl (HO3.out.alloc _) ⟨W3.heap.size, 0, none⟩ 1 1 (rcs name ty ttl false 0 0 owner 0) rfl rfl ?c1 (by simp [Value.oneCell']) (by unfold maxLen; omega) (by omega) (by have := HX3.out.lt; simp; omega) ?_))
      intro v' w4 hown' hgrow _
      have hl3 := HX3.out.lt
      have hB4 : Below w.heap.size w w4 := (HB3.out.alloc HB3.out.size _).grown hgrow (by have := HB3.out.size; simp; omega) (fun k hk => by have := (HO3.out.lt k hk).1; omega)
      have hX4 : RecBox w.heap.size (hds name ty ttl) w4 := (HX3.out.later (w' := W3.alloc _) (Below.heap_alloc W3 _ _ hl3) (by simp)).later (hgrow.block _ (by simp; omega) (fun e => by have := (HO3.out.lt _ e.symm).1; omega)) hgrow.size
      have hO4 : w4.ownsRow (w.heap.size + 1) 66 16 v' (0 + 1) (recs.take (16 * (0 + 1))) := by rw [HS.out]; exact hown'
      have HB4 := Lib.hid hB4
      have HX4 := Lib.hid hX4
      have HO4 := Lib.hid hO4
      clear hB4 hX4 hO4 hown' hgrow
      go_wp2_with fail
      go_roundw
      case rel => exact ⟨0 + 1, _, rfl, by simp, by omega, HX4.out, HO4.out, HB4.out⟩
      case measure => simp [intOf] <;> omega
    · obtain rfl : i = 1 := by omega
      have HO := Lib.hid hown
      have HB := Lib.hid hB
      clear hown hB hbx
      go_wp2_with fail
      go_ret
      refine ⟨_, rfl, ?_, HB.out⟩
      have := ownsRow_base HO.out (Nat.le_succ w.heap.size)
      rw [← HRC.out] at this
      exact this

set_option maxRecDepth 100000 in
set_option maxHeartbeats 4000000 in
theorem each_addr (m g cap ob : Nat) (name dn : ByteArray) (ty ttl lo : Int) (w : World) (hm : m = 1 ∨ m = 2) (hl : w.rangeAt g 0 [.bool false, .int .u64 0, .int .u64 lo]) (hl2 : m = 2 → w.rangeAt g 3 [.bool true, .int .u64 0, .int .u64 1])
    (ho : w.cell? ⟨ob, 0, none⟩ = some (.int .i64 1)) (hcap : m ≤ cap) :
    Calls Try.prog 47 #[.slice (some ⟨g, 0, none⟩) m cap, .func (.func 49) #[] #[.pointer (some ⟨ob, 0, none⟩)], .agg (hds name ty ttl ++ (dcs false 0 0 dn 0).toList).toArray] w
      (CloneIs w.heap.size 66 16 1 (rcs name ty ttl false 0 lo ⟨#[]⟩ 0) w) := by
  obtain ⟨i0, hi, hz0, hz1, hz2⟩ := info_parts infoRec
  have h0 : w.cell? ⟨g, 0, none⟩ = some (.bool false) := hl 0 _ rfl
  have h1 : w.cell? ⟨g, 1, none⟩ = some (.int .u64 0) := hl 1 _ rfl
  have h2 : w.cell? ⟨g, 2, none⟩ = some (.int .u64 lo) := hl 2 _ rfl
  have hgl := World.block_lt_of_cell? w _ h0
  have HL2 := Lib.hid hl2
  clear hl hl2
  have hol := World.block_lt_of_cell? w _ ho
  go_enter Try.func47, Try.ntmps47
  go_wp2_with fail
  have hbx : RecBox w.heap.size (hds name ty ttl) (w.alloc (.cells #[.string name, .int .i64 ty, .int .i64 1, .int .u32 ttl, .bool false, .int .u64 0, .int .u64 0, .string dn, .string ⟨#[]⟩, .int .u32 0, .int .u32 0, .int .u32 0, .int .u32 0, .int .u32 0, .slice none 0 0, .string ⟨#[]⟩] 66)) := by
    have hh := heap_alloc_new w (.cells #[.string name, .int .i64 ty, .int .i64 1, .int .u32 ttl, .bool false, .int .u64 0, .int .u64 0, .string dn, .string ⟨#[]⟩, .int .u32 0, .int .u32 0, .int .u32 0, .int .u32 0, .int .u32 0, .slice none 0 0, .string ⟨#[]⟩] 66)
    refine ⟨fun j v hv => ?_, fun j hj => ⟨?_, Lib.frozen_of_heap hh _⟩, by simp⟩
    · rw [Nat.zero_add, Lib.cell_of_heap hh]
      match j, hv with
      | 0, hv => cases hv; rfl
      | 1, hv => cases hv; rfl
      | 2, hv => cases hv; rfl
      | 3, hv => cases hv; rfl
    · rw [Lib.cell_of_heap hh, Array.getElem?_eq_getElem (by simp; omega)]
      rfl
  have hb0 : Below w.heap.size w (w.alloc (.cells #[.string name, .int .i64 ty, .int .i64 1, .int .u32 ttl, .bool false, .int .u64 0, .int .u64 0, .string dn, .string ⟨#[]⟩, .int .u32 0, .int .u32 0, .int .u32 0, .int .u32 0, .int .u32 0, .slice none 0 0, .string ⟨#[]⟩] 66)) := (Below.refl _ w).alloc (Nat.le_refl _) _
  have HBX := Lib.hid hbx
  have HB0 := Lib.hid hb0
  clear hbx hb0
  obtain ⟨recs, hrecs⟩ : ∃ r, rcs name ty ttl false 0 lo ⟨#[]⟩ 0 = r := ⟨_, rfl⟩
  have HRC := Lib.hid hrecs
  clear hrecs
  go_loopw [7, 14] (fun u v wr => ∃ (i : Nat) (x : Value), x = u ∧ v = .int .i64 i ∧ i ≤ m ∧ RecBox w.heap.size (hds name ty ttl) wr ∧ wr.ownsRow (w.heap.size + 1) 66 16 x (min i 1) (recs.take (16 * min i 1)) ∧ Below w.heap.size w wr) (fun _ v _ => m - (intOf v).toNat)
  case atStart => exact ⟨0, _, rfl, rfl, by omega, HBX.out, World.ownsRow_nil _ _ _ _, HB0.out⟩
  case round =>
    obtain ⟨i, x, rfl, rfl, hi2, hbx, hown, hB⟩ := hrel
    by_cases hlt : i < m
    · have hob := (hB.cell (p := ⟨ob, 0, none⟩) hol).trans ho
      have hws := hB.size
      have hlt1 := hbx.lt
      rcases (by omega : i = 0 ∨ (i = 1 ∧ m = 2)) with rfl | ⟨rfl, rfl⟩
      · have hst : recs.take (16 * (0 + 1)) = recs.take (16 * 0) ++ rcs name ty ttl false 0 lo ⟨#[]⟩ 0 := by rw [← HRC.out]; rfl
        have k0 := (hB.cell (p := ⟨g, 0, none⟩) hgl).trans h0
        have k1 := (hB.cell (p := ⟨g, 1, none⟩) hgl).trans h1
        have k2 := (hB.cell (p := ⟨g, 2, none⟩) hgl).trans h2
        have hown0 : wr.ownsRow (w.heap.size + 1) 66 16 x 0 (recs.take (16 * 0)) := hown
        have HX := Lib.hid hbx
        have HO := Lib.hid hown0
        have HB := Lib.hid hB
        have HS := Lib.hid hst
        clear hbx hown hown0 hB hst
        obtain ⟨ao, co, rfl⟩ := slice_of HO.out
        go_wp2_with fail
        refine (clo1 ob false 0 lo 1 _ ((World.cell?_of_block (w := wr) (Below.heap_alloc wr _ ob (World.block_lt_of_cell? wr _ hob))).trans hob)).mono ?_
        rintro e w2 ⟨rfl, hb2⟩
        have hbA : Below wr.heap.size wr w2 := ((Below.refl _ wr).alloc (Nat.le_refl _) _).trans (hb2.mono (by simp))
        have hx2 := (HX.out.later (hbA.block _ hlt1) hbA.size).later (w' := w2.alloc (.cells (dcs false 0 lo ⟨#[]⟩ 0) 64)) (Below.heap_alloc w2 _ _ (Nat.lt_of_lt_of_le hlt1 hbA.size)) (by simp)
        have ho2 := ((Keeps.of_below hbA).owns HO.out (fun k hk hge => by have := (HO.out.lt k hk).2; omega)).alloc (.cells (dcs false 0 lo ⟨#[]⟩ 0) 64)
        have hB2 := (HB.out.trans (hbA.mono hws)).alloc (by have := hbA.size; omega) (.cells (dcs false 0 lo ⟨#[]⟩ 0) 64)
        have HX2 := Lib.hid hx2
        have HO2 := Lib.hid ho2
        have HB2 := Lib.hid hB2
        clear hb2 hbA hx2 ho2 hB2
        have tok1 : True := trivial
        have tok2 : True := trivial
        go_wp2_with (first
          | (have _t := tok1; refine wpList_store_mid rfl 64 _ _ rfl w.heap.size 4 (dcs false 0 lo ⟨#[]⟩ 0) rfl rfl HX2.out.there (by kernel_rfl) (by simp [Value.oneCell']) ?_; have hput := HX2.out.put (dcs false 0 lo ⟨#[]⟩ 0).toList rfl; have hbel := below_setCells (Nat.le_refl w.heap.size) (dcs false 0 lo ⟨#[]⟩ 0).toList 4 _ HB2.out; have hkp := keeps_setCells w.heap.size (dcs false 0 lo ⟨#[]⟩ 0).toList 4 (w2.alloc (.cells (dcs false 0 lo ⟨#[]⟩ 0) 64)); generalize hW : World.setCells _ w.heap.size 4 _ = W3; rw [hW] at hput hbel hkp; have ho3 := hkp.owns HO2.out (fun k hk hge => by have := (HO2.out.lt k hk).1; omega); have HX3 := Lib.hid hput.1; have HR3 := Lib.hid hput.2; have HB3 := Lib.hid hbel; have HO3 := Lib.hid ho3; clear tok1 hput hbel hkp ho3 hW)
          | (have _t := tok2; refine wpList_load_mid rfl 66 _ rfl w.heap.size 0 rfl (rcs name ty ttl false 0 lo ⟨#[]⟩ 0) _ HR3.out Try.underlying66 rfl (by kernel_rfl) ?_; clear tok2)
          | (at_builtin; refine wpList_append_own _ rfl _ _ 57 rfl (w.heap.size + 1) 66 i0 _ 16 160 Try.underlying57 hi hz0 hz1 hz2 rfl (by decide) _ _ _ rfl (HO3.out.alloc _) ⟨W3.heap.size, 0, none⟩ 1 1 (rcs name ty ttl false 0 lo ⟨#[]⟩ 0) rfl rfl ?c1 (by simp [Value.oneCell']) (by unfold maxLen; omega) (by omega) (by have := HX3.out.lt; simp; omega) ?_))
        intro v' w4 hown' hgrow _
        have hl3 := HX3.out.lt
        have hB4 : Below w.heap.size w w4 := (HB3.out.alloc HB3.out.size _).grown hgrow (by have := HB3.out.size; simp; omega) (fun k hk => by have := (HO3.out.lt k hk).1; omega)
        have hX4 : RecBox w.heap.size (hds name ty ttl) w4 := (HX3.out.later (w' := W3.alloc _) (Below.heap_alloc W3 _ _ hl3) (by simp)).later (hgrow.block _ (by simp; omega) (fun e => by have := (HO3.out.lt _ e.symm).1; omega)) hgrow.size
        have hO4 : w4.ownsRow (w.heap.size + 1) 66 16 v' (0 + 1) (recs.take (16 * (0 + 1))) := by rw [HS.out]; exact hown'
        have HB4 := Lib.hid hB4
        have HX4 := Lib.hid hX4
        have HO4 := Lib.hid hO4
        clear hB4 hX4 hO4 hown' hgrow
        go_wp2_with fail
        go_roundw
        case rel => exact ⟨1, _, rfl, by simp, by omega, HX4.out, HO4.out, HB4.out⟩
        case measure => simp [intOf] <;> omega
      · have k0 := (hB.cell (p := ⟨g, 3, none⟩) hgl).trans (HL2.out rfl 0 _ rfl)
        have k1 := (hB.cell (p := ⟨g, 4, none⟩) hgl).trans (HL2.out rfl 1 _ rfl)
        have k2 := (hB.cell (p := ⟨g, 5, none⟩) hgl).trans (HL2.out rfl 2 _ rfl)
        have HX := Lib.hid hbx
        have HO := Lib.hid hown
        have HB := Lib.hid hB
        clear hbx hown hB
        obtain ⟨ao, co, rfl⟩ := slice_of HO.out
        go_wp2_with fail
        refine (clo1 ob true 0 1 1 _ ((World.cell?_of_block (w := wr) (Below.heap_alloc wr _ ob (World.block_lt_of_cell? wr _ hob))).trans hob)).mono ?_
        rintro e w2 ⟨rfl, hb2⟩
        have hbA : Below wr.heap.size wr w2 := ((Below.refl _ wr).alloc (Nat.le_refl _) _).trans (hb2.mono (by simp))
        have hx2 := (HX.out.later (hbA.block _ hlt1) hbA.size).later (w' := w2.alloc (.cells (dcs true 0 1 ⟨#[]⟩ 0) 64)) (Below.heap_alloc w2 _ _ (Nat.lt_of_lt_of_le hlt1 hbA.size)) (by simp)
        have ho2 := ((Keeps.of_below hbA).owns HO.out (fun k hk hge => by have := (HO.out.lt k hk).2; omega)).alloc (.cells (dcs true 0 1 ⟨#[]⟩ 0) 64)
        have hB2 := (HB.out.trans (hbA.mono hws)).alloc (by have := hbA.size; omega) (.cells (dcs true 0 1 ⟨#[]⟩ 0) 64)
        have HX2 := Lib.hid hx2
        have HO2 := Lib.hid ho2
        have HB2 := Lib.hid hB2
        clear hb2 hbA hx2 ho2 hB2
        go_wp2_with fail
        go_roundw
        case rel => exact ⟨_, _, _, _, _, _, _, _, _, _, _, _, _, _, _, _, _, _, _, _, _, _, ⟨2, _, rfl, rfl, by omega, HX2.out, HO2.out, HB2.out⟩, rfl⟩
        case measure => simp [intOf]
    · have him : i = m := by omega
      subst him
      have hmin : min i 1 = 1 := by omega
      rw [hmin] at hown
      have HO := Lib.hid hown
      have HB := Lib.hid hB
      clear hown hB hbx
      go_wp2_with fail
      go_ret
      refine ⟨_, rfl, ?_, HB.out⟩
      have := ownsRow_base HO.out (Nat.le_succ w.heap.size)
      rw [← HRC.out] at this
      exact this
end Go.Proofs.Ytniambdfgojgeaa
