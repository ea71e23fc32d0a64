/- pack.Packer: New, Err, Put, Text, push, pop, Begin, End. -/
import Derived.Test.YtniambdfgojgeaaPck
namespace Go.Proofs.Ytniambdfgojgeaa
open Go.RowKit

set_option maxHeartbeats 800000 in
theorem pNew (most : Int) (h0 : 0 ≤ most) (h1 : most ≤ 65535) (w : World) :
    Calls Try.prog 10 #[.int .i64 most] w fun x w' => x = .returned (.pointer (some ⟨w.heap.size + 2, 0, none⟩)) ∧
      PAt w.heap.size (w.heap.size + 2) w.heap.size (w.heap.size + 1) (.slice none 0 0) (.slice none 0 0) ByteArray.empty most 0 [] [] w' ∧ Below w.heap.size w w' := by
  have hmm := @run_makeMap Try.prog
  go_enter Try.func10, Try.ntmps10
  go_wp2_with (go_at_call 29; refine (newWriter_any most h0 (by omega) _).mono ?_; rintro e w' ⟨rfl, rfl⟩)
  go_ret
  refine ⟨rfl, ⟨by omega, ?_, ⟨?_, World.ownsRow_nil _ _ _ _⟩, ⟨0, .map [], Nat.le_refl _, ?_, fun k => ⟨fun _ => rfl, fun a ha => by cases ha⟩⟩, World.ownsRow_nil _ _ _ _⟩, ?_⟩
  · have := heap_alloc_new ((w.alloc (.cells #[.slice none 0 0, .int .i64 most, .int .i64 0] 115)).alloc (.map #[] 0)) (.cells #[.pointer (some ⟨w.heap.size, 0, none⟩), .map (some (w.heap.size + 1)), .slice none 0 0] 82)
    simpa using this
  · exact (Below.heap_alloc _ _ _ (by simp; omega)).trans ((Below.heap_alloc _ _ _ (by simp)).trans (heap_alloc_new w _))
  · have := World.ownsMap_made (H := Unit) (w.alloc (.cells #[.slice none 0 0, .int .i64 most, .int .i64 0] 115)) Try.prog 43 (plainElem Try.prog 3)
    have := this.alloc (.cells #[.pointer (some ⟨w.heap.size, 0, none⟩), .map (some (w.heap.size + 1)), .slice none 0 0] 82)
    simpa using this
  · exact (((Below.refl _ _).alloc (Nat.le_refl _) _).alloc (by simp) _).alloc (by simp; omega) _

set_option maxHeartbeats 800000 in
theorem pErr {B p b m : Nat} {v bv : Value} {s : ByteArray} {most e : Int} {L : List (ByteArray × Nat)} {ks : List Int} {w : World} (h : PAt B p b m v bv s most e L ks w) :
    Calls Try.prog 36 #[.pointer (some ⟨p, 0, none⟩)] w fun x w' => x = .returned (.int .i64 e) ∧ w = w' := by
  have c0 : w.cell? ⟨p, 0, none⟩ = some (.pointer (some ⟨b, 0, none⟩)) := by rw [Lib.cell_of_heap h.hp]; rfl
  have c2 : w.cell? ⟨b, 2, none⟩ = some (.int .i64 e) := by rw [Lib.cell_of_heap h.hw.1]; rfl
  clear h
  go_enter Try.func36, Try.ntmps36
  go_wp2_with (go_at_call 60; refine (wErr_any b e _ c2).mono ?_; rintro e w' ⟨rfl, rfl⟩)
  go_ret
  exact ⟨rfl, rfl⟩

set_option maxHeartbeats 800000 in
theorem pText {B p b m : Nat} {v bv : Value} {s : ByteArray} {most e : Int} {L : List (ByteArray × Nat)} {ks : List Int} {w : World} (h : PAt B p b m v bv s most e L ks w) :
    Calls Try.prog 14 #[.pointer (some ⟨p, 0, none⟩)] w fun x w' => x = .returned (.string s) ∧ w = w' := by
  have c0 : w.cell? ⟨p, 0, none⟩ = some (.pointer (some ⟨b, 0, none⟩)) := by rw [Lib.cell_of_heap h.hp]; rfl
  have hw := Lib.hid h.hw
  clear h
  go_enter Try.func14, Try.ntmps14
  go_wp2_with (go_at_call 31; refine (wText_any B b v s most e _ hw.out).mono ?_; rintro e w' ⟨rfl, rfl⟩)
  go_ret
  exact ⟨rfl, rfl⟩

set_option maxHeartbeats 800000 in
theorem pPut_ok {B p b m : Nat} {v bv : Value} {s : ByteArray} {most : Int} {L : List (ByteArray × Nat)} {ks : List Int} {w : World} (h : PAt B p b m v bv s most 0 L ks w) (t : ByteArray) (hfit : (s.size : Int) + t.size ≤ most) (hmost : most ≤ 100000) :
    Calls Try.prog 12 #[.pointer (some ⟨p, 0, none⟩), .string t] w fun x w' => x = .returned (.int .i64 0) ∧ PLeft B p b m v bv (s ++ t) most 0 L ks w w' := by
  have c0 : w.cell? ⟨p, 0, none⟩ = some (.pointer (some ⟨b, 0, none⟩)) := by rw [Lib.cell_of_heap h.hp]; rfl
  have hBw : B ≤ w.heap.size := by have := lt_of_heap h.hp; have := h.hB; omega
  have H := Lib.hid h
  clear h
  go_enter Try.func12, Try.ntmps12
  go_wp2_with (go_at_call 35; refine (wPut_ok B b v s most t _ H.out.hw hfit hmost hBw).mono ?_; rintro e w' ⟨rfl, hl⟩)
  go_ret
  exact ⟨rfl, H.out.wrote hl⟩

set_option maxRecDepth 100000 in
set_option maxHeartbeats 800000 in
theorem pPush {B p b m : Nat} {v bv : Value} {s : ByteArray} {most e : Int} {L : List (ByteArray × Nat)} {ks : List Int} {w : World} (h : PAt B p b m v bv s most e L ks w) (k : Int) (hks : ks.length ≤ 1000) :
    Calls Try.prog 34 #[.pointer (some ⟨p, 2, none⟩), .int .i64 k] w fun x w' => x = .returned (.tuple #[]) ∧ PLeft B p b m v bv s most e L (ks ++ [k]) w w' := by
  obtain ⟨i0, hi, hz0, hz1, hz2⟩ := info_parts info3
  have c2 : w.cell? ⟨p, 2, none⟩ = some bv := by rw [Lib.cell_of_heap h.hp]; rfl
  have hlt := lt_of_heap h.hp
  obtain ⟨a, c, rfl⟩ := owned_form h.hk
  have hk := h.hk
  have hBw := h.hB
  have H := Lib.hid h
  clear h
  go_enter Try.func34, Try.ntmps34
  go_wp2_with (at_builtin; refine wpList_append_placed rfl _ _ 31 rfl B 3 i0 (.int .i64 0) 1 8 Try.underlying31 hi hz0 hz1 hz2 rfl (by decide) _ _ _ rfl (hk.alloc _) ⟨w.heap.size, 0, none⟩ 1 1 [.int .i64 k] rfl rfl ?c1 ?c2 (by decide) ?c3 ?c4 ?c5 ?_)
  case c1 => exact cell_one_new _ _ _
  case c2 => intro u hu; simp at hu; subst hu; rfl
  case c3 => unfold maxLen; omega
  case c4 => omega
  case c5 => simp; omega
  intro v' w2 hown' hgrow hpl
  have hK : Keeps (fun k => k = p ∨ (Value.slice a ks.length c).ownBlock = some k) w w2 := ((Keeps.refl _ w).alloc _).grown hgrow (fun j hj => .inr (.inr hj))
  have hp2 : w2.heap[p]? = some (.cells #[.pointer (some ⟨b, 0, none⟩), .map (some m), .slice a ks.length c] 82 (0, 0)) :=
    (hgrow.block p (by simp; omega) (fun x => H.out.kp x.symm)).trans ((Below.heap_alloc w _ p hlt).trans H.out.hp)
  have d2 : w2.cell? ⟨p, 2, none⟩ = some (.slice a ks.length c) := by rw [Lib.cell_of_heap hp2]; rfl
  have f2 : w2.frozen? ⟨p, 2, none⟩ = false := Lib.frozen_of_heap hp2 2
  obtain ⟨g', c', rfl⟩ := owned_some hown' (by omega)
  have HK := Lib.hid hK
  have HP := Lib.hid hp2
  have HO := Lib.hid hown'
  clear hK hp2 hown' hgrow hk
  go_wp2
  go_end0
  have hK1 := HK.out.setCell (p := ⟨p, 2, none⟩) (.inr (.inl rfl)) (.slice (some ⟨g', 0, none⟩) (ks.length + 1) c')
  have h := H.out
  have hne : (Value.slice (some ⟨g', 0, none⟩) (ks.length + 1) c').ownBlock ≠ some p := fun x => by
    obtain ⟨cs, hc⟩ := owned_cells HO.out x
    have := hc.symm.trans HP.out
    simp at this
  refine ⟨rfl, v, .slice (some ⟨g', 0, none⟩) (ks.length + 1) c', ⟨h.hB, ?_, h.hw.keep hK1 ?_ ?_, h.hm.keep hK1 ?_, ?_⟩, hK1.mono ?_, Placed.refl _ _, ?_⟩
  · simp [World.setCell, Array.getElem?_modify, HP.out]
  · rintro (x | x)
    · exact h.pb x.symm
    · exact h.kb x
  · rintro j hj (x | x)
    · exact h.vp (by rw [hj, x])
    · exact h.vk hj x
  · rintro (x | x)
    · exact h.pm x.symm
    · exact h.km x
  · rw [List.map_append, List.length_append]
    exact ((Keeps.refl (fun j => j = p) w2).setCell (p := ⟨p, 2, none⟩) (.inr rfl) _).owns HO.out (fun j hj x => hne (by rw [hj, x]))
  · rintro j _ (x | x)
    · exact .inl x
    · exact .inr (.inr (.inr (.inr x)))
  · intro g hg
    rcases hpl.out g hg with x | x
    · exact .inl x
    · exact .inr (by simpa using Nat.le_of_succ_le x)

set_option maxRecDepth 100000 in
set_option maxHeartbeats 800000 in
theorem pBegin_ok {B p b m : Nat} {v bv : Value} {s : ByteArray} {most : Int} {L : List (ByteArray × Nat)} {ks : List Int} {w : World} (h : PAt B p b m v bv s most 0 L ks w) (hfit : (s.size : Int) + 2 ≤ most) (hmost : most ≤ 100000) (hks : ks.length ≤ 1000) :
    Calls Try.prog 11 #[.pointer (some ⟨p, 0, none⟩)] w fun x w' => x = .returned (.tuple #[.int .i64 s.size, .int .i64 0]) ∧ PLeft B p b m v bv (s ++ two 0) most 0 L (ks ++ [(s.size : Int)]) w w' := by
  have c0 : w.cell? ⟨p, 0, none⟩ = some (.pointer (some ⟨b, 0, none⟩)) := by rw [Lib.cell_of_heap h.hp]; rfl
  have hBw : B ≤ w.heap.size := by have := lt_of_heap h.hp; have := h.hB; omega
  have d0 : w.cell? ⟨b, 0, none⟩ = some v := by rw [Lib.cell_of_heap h.hw.1]; rfl
  obtain ⟨a, c, hv⟩ := owned_form h.hw.2
  rw [hv] at d0
  have H := Lib.hid h
  have HV := Lib.hid hv
  clear h hv
  go_enter Try.func11, Try.ntmps11
  go_wp2_with fail
  refine (wLen_any b a s.size c _ d0).mono ?_
  rintro e w' ⟨rfl, rfl⟩
  go_wp2_with fail
  refine (wNum2_ok B b v s most 0 (by decide) (by decide) _ H.out.hw hfit hmost hBw).mono ?_
  rintro e w1 ⟨rfl, hl⟩
  obtain ⟨v1, bv1, h1, hK, hp1, hp2⟩ := H.out.wrote hl
  have H1 := Lib.hid h1
  have HK := Lib.hid hK
  clear h1 hl hK d0 c0
  go_wp2_with fail
  refine (pPush H1.out (s.size : Int) hks).mono ?_
  rintro e w2 ⟨rfl, hl2⟩
  have HL := Lib.hid hl2
  clear hl2
  go_wp2
  go_ret2
  exact ⟨rfl, PLeft.then HK.out hp1 hp2 HL.out⟩

theorem owned_pop {w : World} {B e g c n : Nat} {xs : List Value} {x : Value} (h : w.ownsRow B e 1 (.slice (some ⟨g, 0, none⟩) (n + 1) c) (n + 1) (xs ++ [x])) : w.ownsRow B e 1 (.slice (some ⟨g, 0, none⟩) n c) n xs := by
  have hl : xs.length = n := by have := h.1; simp at this; omega
  refine ⟨by omega, .inr ?_⟩
  rcases h.2 with ⟨hv, _⟩ | ⟨g', cap, cur, hv, hb, hg, hn, hm, hs, ht⟩
  · cases hv
  · cases hv
    refine ⟨g, c, cur, rfl, hb, hg, by omega, hm, hs, ?_⟩
    have := congrArg (List.take n) ht
    rw [Nat.mul_one, List.take_take, Nat.min_eq_left (by omega), List.take_left' hl] at this
    rw [Nat.mul_one]
    exact this

set_option maxRecDepth 100000 in
set_option maxHeartbeats 800000 in
theorem pPop_yes {B p b m : Nat} {v bv : Value} {s : ByteArray} {most e : Int} {L : List (ByteArray × Nat)} {ks : List Int} {w : World} (k : Int) (h : PAt B p b m v bv s most e L (ks ++ [k]) w) (hks : ks.length ≤ 1000) :
    Calls Try.prog 37 #[.pointer (some ⟨p, 2, none⟩), .int .i64 k] w fun x w' => x = .returned (.bool true) ∧ PLeft B p b m v bv s most e L ks w w' := by
  have c2 : w.cell? ⟨p, 2, none⟩ = some bv := by rw [Lib.cell_of_heap h.hp]; rfl
  have f2 : w.frozen? ⟨p, 2, none⟩ = false := Lib.frozen_of_heap h.hp 2
  obtain ⟨g, c, rfl⟩ := owned_some h.hk (by simp)
  have hg : w.cell? ⟨g, ks.length, none⟩ = some (.int .i64 k) := by
    have := h.hk.cells (g := g) rfl ks.length (.int .i64 k) (by simp)
    have hadd : (⟨g, 0, none⟩ : Addr).add ks.length = ⟨g, ks.length, none⟩ := by unfold Addr.add; split <;> simp_all
    rwa [hadd] at this
  have hcap : ks.length + 1 ≤ c := by
    rcases h.hk.2 with ⟨hv, _⟩ | ⟨g', cap, cur, hv, _, _, hn, _⟩
    · cases hv
    · cases hv
      simpa using hn
  have hmax : c ≤ 9223372036854775807 := by
    rcases h.hk.2 with ⟨hv, _⟩ | ⟨g', cap, cur, hv, _, _, hn, hm, _⟩
    · cases hv
    · cases hv
      exact hm
  have H := Lib.hid h
  clear h
  rw [show (ks ++ [k]).length = ks.length + 1 from by simp] at c2
  go_enter Try.func37, Try.ntmps37
  go_wp2
  go_ret
  have h := H.out
  have hK1 : Keeps (fun j => j = p) w (w.setCell ⟨p, 2, none⟩ (.slice (some ⟨g, 0, none⟩) ks.length c)) := (Keeps.refl (fun j => j = p) w).setCell (p := ⟨p, 2, none⟩) (.inr rfl) _
  refine ⟨rfl, v, .slice (some ⟨g, 0, none⟩) ks.length c, ⟨h.hB, ?_, h.hw.keep hK1 (fun x => h.pb x.symm) ?_, h.hm.keep hK1 (fun x => h.pm x.symm), ?_⟩, hK1.mono (fun j _ x => .inl x), Placed.refl _ _, fun j hj => .inl hj⟩
  · simp [World.setCell, Array.getElem?_modify, h.hp]
  · intro j hj x
    exact h.vp (by rw [hj, x])
  · have hown := h.hk
    rw [show (ks ++ [k]).length = ks.length + 1 from by simp, List.map_append] at hown
    refine hK1.owns (owned_pop hown) (fun j hj x => h.kp ?_)
    rw [← x]
    exact hj

set_option maxRecDepth 100000 in
set_option maxHeartbeats 800000 in
theorem pPop_no {B p b m : Nat} {v bv : Value} {s : ByteArray} {most e : Int} {L : List (ByteArray × Nat)} {ks : List Int} {w : World} (k k' : Int) (h : PAt B p b m v bv s most e L (ks ++ [k]) w) (hks : ks.length ≤ 1000) (hne : k ≠ k') :
    Calls Try.prog 37 #[.pointer (some ⟨p, 2, none⟩), .int .i64 k'] w fun x w' => x = .returned (.bool false) ∧ w = w' := by
  have c2 : w.cell? ⟨p, 2, none⟩ = some bv := by rw [Lib.cell_of_heap h.hp]; rfl
  obtain ⟨g, c, rfl⟩ := owned_some h.hk (by simp)
  have hg : w.cell? ⟨g, ks.length, none⟩ = some (.int .i64 k) := by
    have := h.hk.cells (g := g) rfl ks.length (.int .i64 k) (by simp)
    have hadd : (⟨g, 0, none⟩ : Addr).add ks.length = ⟨g, ks.length, none⟩ := by unfold Addr.add; split <;> simp_all
    rwa [hadd] at this
  have ht : (k != k') = true := by rw [bne_iff_ne]; exact hne
  clear h hne
  rw [show (ks ++ [k]).length = ks.length + 1 from by simp] at c2
  go_enter Try.func37, Try.ntmps37
  go_wp2
  go_ret
  exact ⟨rfl, rfl⟩

set_option maxRecDepth 100000 in
set_option maxHeartbeats 800000 in
theorem pEnd_no {B p b m : Nat} {v bv : Value} {s : ByteArray} {most : Int} {L : List (ByteArray × Nat)} {ks : List Int} {w : World} (k k' : Int) (h : PAt B p b m v bv s most 0 L (ks ++ [k]) w) (hks : ks.length ≤ 1000) (hne : k ≠ k') :
    Calls Try.prog 13 #[.pointer (some ⟨p, 0, none⟩), .int .i64 k'] w fun x w' => x = .returned (.int .i64 9) ∧ w = w' := by
  have H := Lib.hid h
  have HN := Lib.hid hne
  clear h hne
  go_enter Try.func13, Try.ntmps13
  go_wp2_with (first | (go_at_call 36; refine (pErr H.out).mono ?_; rintro e w' ⟨rfl, rfl⟩) | (go_at_call 37; refine (pPop_no k k' H.out hks HN.out).mono ?_; rintro e w' ⟨rfl, rfl⟩))
  go_ret
  exact ⟨rfl, rfl⟩

set_option maxRecDepth 100000 in
set_option maxHeartbeats 800000 in
theorem pEnd_ok {B p b m : Nat} {v bv : Value} {s : ByteArray} {most : Int} {L : List (ByteArray × Nat)} {ks : List Int} {w : World} (k : Nat) (h : PAt B p b m v bv s most 0 L (ks ++ [(k : Int)]) w) (hks : ks.length ≤ 1000) (hk : k + 2 ≤ s.size) (hs : s.size ≤ 65535) :
    Calls Try.prog 13 #[.pointer (some ⟨p, 0, none⟩), .int .i64 k] w fun x w' => x = .returned (.int .i64 0) ∧ PLeft B p b m v bv (bput s k (two ((s.size : Int) - k - 2))) most 0 L ks w w' := by
  have H := Lib.hid h
  clear h
  go_enter Try.func13, Try.ntmps13
  go_wp2_with fail
  refine (pErr H.out).mono ?_
  rintro e w' ⟨rfl, rfl⟩
  go_wp2_with fail
  refine (pPop_yes (k : Int) H.out hks).mono ?_
  rintro e w1 ⟨rfl, v1, bv1, h1, hK, hp1, hp2⟩
  have c0 : w1.cell? ⟨p, 0, none⟩ = some (.pointer (some ⟨b, 0, none⟩)) := by rw [Lib.cell_of_heap h1.hp]; rfl
  have d0 : w1.cell? ⟨b, 0, none⟩ = some v1 := by rw [Lib.cell_of_heap h1.hw.1]; rfl
  obtain ⟨a, c, hv⟩ := owned_form h1.hw.2
  rw [hv] at d0
  have H1 := Lib.hid h1
  have HK := Lib.hid hK
  have HV := Lib.hid hv
  have d1 : w1.drew.cell? ⟨b, 0, none⟩ = some (.slice a s.size c) := d0
  have hwd : WAt B b v1 s most 0 w1.drew := h1.hw
  have HWD := Lib.hid hwd
  clear h1 hK hv hwd
  go_wp2_with fail
  have e1 : IntKind.i64.wrap ((s.size : Int) - k) = (s.size : Int) - k := IntWalk.i64_in _ (by omega)
  have e2 : IntKind.i64.wrap ((s.size : Int) - k - 2) = (s.size : Int) - k - 2 := IntWalk.i64_in _ (by omega)
  have e3 : IntKind.u32.wrap ((s.size : Int) - k - 2) = (s.size : Int) - k - 2 := IntWalk.u32_in _ (by omega)
  go_region_with (first
    | (go_at_call 33; refine (wLen_any b a s.size c _ d1).mono ?_; rintro e w' ⟨rfl, rfl⟩)
    | (go_at_call 38; refine (wPatch2_ok B b v1 s most k ((s.size : Int) - k - 2) _ HWD.out hk (by omega) (by omega) (by omega)).mono ?_; rintro e w' ⟨rfl, hl⟩))
  all_goals (have HL := Lib.hid hl; clear hl)
  all_goals go_wp2
  all_goals go_ret
  all_goals exact ⟨rfl, PLeft.then HK.out.drew hp1 hp2 ((H1.out.drewN 1).wrote HL.out)⟩
end Go.Proofs.Ytniambdfgojgeaa
