/- octets.Writer: what its methods do. -/
import Derived.Test.YtniambdfgojgeaaApp
import Derived.BigQuiet
import Derived.Handy
import Derived.Deep.QuietTactic
namespace Go.Proofs.Ytniambdfgojgeaa
open Go.RowKit

theorem info5 : (Try.prog.info? 5).map (fun i => (i.zero, i.size, i.bytes)) = some (some (.int .u8 0), 1, 1) := by kernel_rfl

set_option maxHeartbeats 400000 in
theorem newWriter_any (m : Int) (h0 : 0 ≤ m) (h1 : m ≤ 100000) (w : World) :
    Calls Try.prog 29 #[.int .i64 m] w fun e w' => e = .returned (.pointer (some ⟨w.heap.size, 0, none⟩)) ∧ w.alloc (.cells #[.slice none 0 0, .int .i64 m, .int .i64 0] 115) = w' := by
  go_enter Try.func29, Try.ntmps29
  go_wp2
  all_goals go_ret
  · exact ⟨rfl, rfl⟩
  · obtain rfl : m = 0 := by omega
    exact ⟨rfl, rfl⟩

set_option maxHeartbeats 400000 in
theorem wErr_any (b : Nat) (e : Int) (w : World) (h2 : w.cell? ⟨b, 2, none⟩ = some (.int .i64 e)) :
    Calls Try.prog 60 #[.pointer (some ⟨b, 0, none⟩)] w fun x w' => x = .returned (.int .i64 e) ∧ w = w' := by
  go_enter Try.func60, Try.ntmps60
  go_wp2
  go_ret
  exact ⟨rfl, rfl⟩

set_option maxHeartbeats 400000 in
theorem wLen_any (b : Nat) (a : Option Addr) (n c : Nat) (w : World) (h2 : w.cell? ⟨b, 0, none⟩ = some (.slice a n c)) :
    Calls Try.prog 33 #[.pointer (some ⟨b, 0, none⟩)] w fun x w' => x = .returned (.int .i64 n) ∧ w = w' := by
  go_enter Try.func33, Try.ntmps33
  go_wp2
  go_ret
  exact ⟨rfl, rfl⟩

set_option maxHeartbeats 400000 in
theorem fits2 (v : Int) (h0 : 0 ≤ v) (h1 : v < 65536) (w : World) :
    Calls Try.prog 61 #[.int .u32 v, .int .i64 2] w fun x w' => x = .returned (.bool true) ∧ w = w' := by
  have hq : (v / 65536 == 0) = true := by simp; omega
  go_enter Try.func61, Try.ntmps61
  go_wp2
  go_ret
  exact ⟨rfl, rfl⟩

set_option maxHeartbeats 400000 in
theorem cut2 (v : Int) (h0 : 0 ≤ v) (h1 : v < 65536) (w : World) :
    Calls Try.prog 62 #[.int .u32 v, .int .i64 2] w fun x w' => x = .returned (.slice (some ⟨w.heap.size, 0, none⟩) 2 2) ∧ w.alloc (.cells #[.int .u8 (v / 256), .int .u8 (v % 256)] 5) = w' := by
  have hmk : ∀ w, (Instr.makeSlice 113 (.int .i64 2) (.int .i64 2)).run Try.prog w = .ok (.slice (some ⟨w.heap.size, 0, none⟩) 2 2) (w.alloc (.cells #[.int .u8 0, .int .u8 0] 5)) := fun _ => by kernel_rfl
  go_enter Try.func62, Try.ntmps62
  go_wp2
  go_rounds 3
  go_ret
  exact ⟨rfl, rfl⟩
/-- the writer in block b: its buffer's value, what it holds, how much it may hold, its error -/
def WAt (B b : Nat) (v : Value) (s : ByteArray) (most e : Int) (w : World) : Prop :=
  w.heap[b]? = some (.cells #[v, .int .i64 most, .int .i64 e] 115 (0, 0)) ∧ w.ownsRow B 5 1 v s.size (Lib.strCells s)
/-- what a write leaves: the writer holds s'; nothing else has changed but its own row -/
def WLeft (B b : Nat) (v : Value) (s' : ByteArray) (most e : Int) (w w' : World) : Prop :=
  ∃ v', WAt B b v' s' most e w' ∧ Keeps (fun k => k = b ∨ v.ownBlock = some k) w w' ∧ Placed v v' w.heap.size

theorem strCells_append (s t : ByteArray) : Lib.strCells (s ++ t) = Lib.strCells s ++ Lib.strCells t := by
  simp [Lib.strCells, ByteArray.data_append]

theorem WAt.ne {B b : Nat} {v : Value} {s : ByteArray} {most e : Int} {w : World} (h : WAt B b v s most e w) : v.ownBlock ≠ some b :=
  Lib.ownBlock_ne h.2 h.1 (by decide)
theorem owns_slice {B e : Nat} {n : Nat} {v : Value} {xs : List Value} {w : World} (h : w.ownsRow B e 1 v n xs) : ∃ a c, v = .slice a n c := by
  rcases h.2 with ⟨hv, h0⟩ | ⟨g, cap, cur, hv, _⟩
  · exact ⟨none, 0, by rw [hv, h0]⟩
  · exact ⟨_, _, hv⟩
theorem WAt.keep {B b : Nat} {v : Value} {s : ByteArray} {most e : Int} {w w' : World} (h : WAt B b v s most e w) {S : Nat → Prop} (hk : Keeps S w w') (hb : ¬ S b) (hv : ∀ k, v.ownBlock = some k → ¬ S k) : WAt B b v s most e w' :=
  ⟨hk.heap h.1 hb, hk.owns h.2 hv⟩
theorem WAt.put {B b : Nat} {v v' : Value} {s' : ByteArray} {most e : Int} {w : World} (hb : w.heap[b]? = some (.cells #[v, .int .i64 most, .int .i64 e] 115 (0, 0)))
    (hown : w.ownsRow B 5 1 v' s'.size (Lib.strCells s')) : WAt B b v' s' most e (w.setCell ⟨b, 0, none⟩ v') := by
  have hne := Lib.ownBlock_ne hown hb (by decide)
  refine ⟨by simp [World.setCell, Array.getElem?_modify, hb], ?_⟩
  exact ((Keeps.refl (fun k => k = b) w).setCell (p := ⟨b, 0, none⟩) (.inr rfl) v').owns hown (fun k hk e => hne (by rw [hk, e]))

theorem WLeft.other {B b : Nat} {v : Value} {s s' : ByteArray} {most e m' e' : Int} {w w' : World} (h : WLeft B b v s' most e w w') (ha : WAt B b v s m' e' w) {k : Nat} {cs : Array Value} {T : TypeId} {fr : Nat × Nat}
    (hk : w.heap[k]? = some (.cells cs T fr)) (hT : T ≠ 5) (hb : k ≠ b) : w'.heap[k]? = some (.cells cs T fr) := by
  obtain ⟨v', _, hK, _⟩ := h
  refine hK.heap hk ?_
  rintro (rfl | e)
  · exact hb rfl
  · exact Lib.ownBlock_ne ha.2 hk hT e
theorem WLeft.below {B b : Nat} {v : Value} {s s' : ByteArray} {most e m' e' : Int} {w0 w w' : World} (h : WLeft B b v s' most e w w') (ha : WAt B b v s m' e' w) {B0 : Nat} (h0 : Below B0 w0 w) (hB : B0 ≤ b) (hB0 : B0 ≤ B := by omega) : Below B0 w0 w' := by
  obtain ⟨v', _, hK, _⟩ := h
  refine ⟨hK.os.trans h0.os, hK.tape.trans h0.tape, hK.output.trans h0.output, Nat.le_trans h0.size hK.size, fun k hk => ?_⟩
  have hlt := lt_of_heap ha.1
  refine (hK.block k (by omega) ?_).trans (h0.block k hk)
  rintro (rfl | e)
  · omega
  · have := (ha.2.lt k e).1
    omega
theorem WLeft.size {B b : Nat} {v : Value} {s' : ByteArray} {most e : Int} {w w' : World} (h : WLeft B b v s' most e w w') : w.heap.size ≤ w'.heap.size := by
  obtain ⟨v', _, hK, _⟩ := h
  exact hK.size

/-- the text of an owned row of bytes -/
theorem run_text {B : Nat} {v : Value} {s : ByteArray} {w : World} (h : w.ownsRow B 5 1 v s.size (Lib.strCells s)) : (convert 113 9 v).run Try.prog w = .ok (.string s) w := by
  rcases h.2 with ⟨rfl, h0⟩ | ⟨g, cap, cur, rfl, _, hg, hn, _, _, htake⟩
  · have e : s = ByteArray.empty := by
      rcases s with ⟨a⟩
      have : a = #[] := Array.eq_empty_of_size_eq_zero h0
      rw [this]; rfl
    rw [run_convert_bytes_string w 113 9 5 none 0 0 Try.underlying113 Try.underlying5 Try.underlying9, e]
    simp [Conv.bytesToString]
  · have hl : s.data.toList.length = s.size := by rw [Array.length_toList]; rfl
    have := run_convert_bytes_back (P := Try.prog) w 113 9 5 ⟨g, 0, none⟩ cap s.data.toList Try.underlying113 Try.underlying5 Try.underlying9 (fun j hj => by
      have hadd : (⟨g, 0, none⟩ : Addr).add j = ⟨g, j, none⟩ := by unfold Addr.add; split <;> simp_all
      rw [hadd, cell_of_row w g j cur 5 (0, 0) hg]
      have h2 : (cur.toList.take (s.size * 1))[j]? = (Lib.strCells s)[j]? := by rw [htake]
      rw [List.getElem?_take, if_pos (by omega)] at h2
      rw [← Array.getElem?_toList, h2]
      simp [Lib.strCells, List.getElem?_eq_getElem hj])
    rw [hl] at this
    simpa using this

set_option maxRecDepth 100000 in
set_option maxHeartbeats 800000 in
theorem wPut_ok (B b : Nat) (v : Value) (s0 : ByteArray) (most : Int) (s : ByteArray) (w : World) (h : WAt B b v s0 most 0 w) (hfit : (s0.size : Int) + s.size ≤ most) (hmost : most ≤ 100000) (hB : B ≤ w.heap.size) :
    Calls Try.prog 35 #[.pointer (some ⟨b, 0, none⟩), .string s] w fun x w' => x = .returned (.int .i64 0) ∧ WLeft B b v (s0 ++ s) most 0 w w' := by
  obtain ⟨i0, hi, hz0, hz1, hz2⟩ := info_parts info5
  have hne := h.ne
  obtain ⟨hb, hown⟩ := h
  obtain ⟨a, c, rfl⟩ := owns_slice hown
  have c0 : w.cell? ⟨b, 0, none⟩ = some (.slice a s0.size c) := by rw [Lib.cell_of_heap hb]; rfl
  have c1 : w.cell? ⟨b, 1, none⟩ = some (.int .i64 most) := by rw [Lib.cell_of_heap hb]; rfl
  have c2 : w.cell? ⟨b, 2, none⟩ = some (.int .i64 0) := by rw [Lib.cell_of_heap hb]; rfl
  have hn : ¬ (most - s0.size < (s.size : Int)) := by omega
  have hx : 0 ≤ most := by omega
  go_enter Try.func35, Try.ntmps35
  go_wp2_with (go_at_call 60; refine (wErr_any b 0 _ c2).mono ?_; rintro e w' ⟨rfl, rfl⟩)
  go_quiet (fail)
  go_wp2_with (at_builtin; refine wpList_append_placed_string rfl _ _ 113 9 rfl B 5 i0 Try.underlying113 Try.underlying9 hi hz0 hz1 hz2 _ _ _ rfl (show (w.drewN nq).ownsRow B 5 1 (.slice a s0.size c) s0.size (Lib.strCells s0) from hown) s rfl ?c3 ?c4 ?c5 ?_)
  case c3 => unfold maxLen; omega
  case c4 => omega
  case c5 => exact hB
  intro v' w2 hown' hgrow hpl
  have hk2 : Keeps (fun k => k = b ∨ (Value.slice a s0.size c).ownBlock = some k) w w2 := ((Keeps.refl _ w).drewN nq).grown hgrow (fun k hk => .inr (.inr hk))
  have hb2 : w2.heap[b]? = some (.cells #[.slice a s0.size c, .int .i64 most, .int .i64 0] 115 (0, 0)) := (hgrow.block b (lt_of_heap hb) (fun e => hne e.symm)).trans hb
  have f0 : w2.frozen? ⟨b, 0, none⟩ = false := Lib.frozen_of_heap hb2 0
  have d0 : w2.cell? ⟨b, 0, none⟩ = some (.slice a s0.size c) := by rw [Lib.cell_of_heap hb2]; rfl
  obtain ⟨a', c', rfl⟩ := owns_slice hown'
  go_wp2
  go_ret
  refine ⟨rfl, _, WAt.put hb2 (s' := s0 ++ s) ?_, hk2.setCell (p := ⟨b, 0, none⟩) (.inr (.inl rfl)) _, hpl.out⟩
  rw [ByteArray.size_append, strCells_append]
  exact hown'
/-- two octets of a number -/
def two (v : Int) : ByteArray := ⟨#[UInt8.ofNat (v / 256).toNat, UInt8.ofNat (v % 256).toNat]⟩
theorem two_size (v : Int) : (two v).size = 2 := rfl
theorem run_two (v : Int) (h0 : 0 ≤ v) (h1 : v < 65536) (w : World) :
    (convert 113 9 (.slice (some ⟨w.heap.size, 0, none⟩) 2 2)).run Try.prog (w.alloc (.cells #[.int .u8 (v / 256), .int .u8 (v % 256)] 5)) = .ok (.string (two v)) (w.alloc (.cells #[.int .u8 (v / 256), .int .u8 (v % 256)] 5)) := by
  have e1 : (UInt8.ofNat (v / 256).toNat).toNat = (v / 256).toNat := by rw [UInt8.toNat_ofNat']; omega
  have e2 : (UInt8.ofNat (v % 256).toNat).toNat = (v % 256).toNat := by rw [UInt8.toNat_ofNat']; omega
  refine run_text (B := 0) (s := two v) ⟨rfl, .inr ⟨w.heap.size, 2, _, rfl, Nat.zero_le _, heap_alloc_new w _, Nat.le_refl _, by unfold maxLen; omega, rfl, ?_⟩⟩
  simp only [two, Lib.strCells, List.map_cons, List.map_nil, e1, e2]
  rw [Int.toNat_of_nonneg (by omega), Int.toNat_of_nonneg (by omega)]
  rfl

set_option maxRecDepth 100000 in
set_option maxHeartbeats 800000 in
theorem wNum2_ok (B b : Nat) (v : Value) (s0 : ByteArray) (most : Int) (n : Int) (h0 : 0 ≤ n) (h1 : n < 65536) (w : World) (h : WAt B b v s0 most 0 w) (hfit : (s0.size : Int) + 2 ≤ most) (hmost : most ≤ 100000) (hB : B ≤ w.heap.size) :
    Calls Try.prog 30 #[.pointer (some ⟨b, 0, none⟩), .int .u32 n, .int .i64 2] w fun x w' => x = .returned (.int .i64 0) ∧ WLeft B b v (s0 ++ two n) most 0 w w' := by
  have c2 : w.cell? ⟨b, 2, none⟩ = some (.int .i64 0) := by rw [Lib.cell_of_heap h.1]; rfl
  have hr := run_two n h0 h1 w
  have h' : WAt B b v s0 most 0 (w.alloc (.cells #[.int .u8 (n / 256), .int .u8 (n % 256)] 5)) := h.keep (S := fun _ => False) ((Keeps.refl _ w).alloc _) (fun x => x) (fun _ _ x => x)
  have H := Lib.hid h
  have H' := Lib.hid h'
  clear h h'
  go_enter Try.func30, Try.ntmps30
  go_wp2_with (go_at_call 60; refine (wErr_any b 0 _ c2).mono ?_; rintro e w' ⟨rfl, rfl⟩)
  go_wp2_with (go_at_call 61; refine (fits2 n h0 h1 _).mono ?_; rintro e w' ⟨rfl, rfl⟩)
  go_wp2_with (go_at_call 62; refine (cut2 n h0 h1 _).mono ?_; rintro e w' ⟨rfl, rfl⟩)
  go_wp2_with (go_at_call 35; refine (wPut_ok B b v s0 most (two n) _ H'.out (by rw [two_size]; exact hfit) hmost (by simp; omega)).mono ?_; rintro e w' ⟨rfl, hw'⟩)
  go_ret
  obtain ⟨v', hv', hk, hpl⟩ := hw'
  exact ⟨rfl, v', hv', ((Keeps.refl _ w).alloc _).trans hk (fun _ _ x => x), fun g hg => (hpl g hg).imp_right (fun x => by simp at x; omega)⟩

set_option maxHeartbeats 400000 in
theorem wText_any (B b : Nat) (v : Value) (s : ByteArray) (most e : Int) (w : World) (h : WAt B b v s most e w) :
    Calls Try.prog 31 #[.pointer (some ⟨b, 0, none⟩)] w fun x w' => x = .returned (.string s) ∧ w = w' := by
  have hr := run_text h.2
  have c0 : w.cell? ⟨b, 0, none⟩ = some v := by rw [Lib.cell_of_heap h.1]; rfl
  obtain ⟨a, c, rfl⟩ := owns_slice h.2
  clear h
  go_enter Try.func31, Try.ntmps31
  go_wp2
  go_ret
  exact ⟨rfl, rfl⟩
end Go.Proofs.Ytniambdfgojgeaa
