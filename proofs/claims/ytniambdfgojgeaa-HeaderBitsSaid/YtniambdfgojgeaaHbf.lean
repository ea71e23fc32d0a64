/- HeaderBits: whatever header comes in, the law's function returns true, and the header reads behind the call as it read before: no condition. -/
import Derived.Test.YtniambdfgojgeaaHbm
import Derived.Test.YtniambdfgojgeaaFrm
namespace Go.Proofs.Ytniambdfgojgeaa
open Go.RowKit Go.WideShapes Go.ChangeShapes

theorem cells25 : Try.prog.cellsOf 25 = 14 := by kernel_rfl
theorem cells23 : Try.prog.cellsOf 23 = 4 := by kernel_rfl
theorem cells22 : Try.prog.cellsOf 22 = 1 := by kernel_rfl
theorem cells3 : Try.prog.cellsOf 3 = 1 := by kernel_rfl
theorem cells4 : Try.prog.cellsOf 4 = 1 := by kernel_rfl

section
variable {H : Type} {enc : TypeId × Value → H} {w : World} {base : Nat} {spare : Nat → Bool} {held : Bool}
theorem list_succ {α : Type} {l : List α} {n : Nat} (h : l.length = n + 1) : ∃ a t, l = a :: t ∧ t.length = n := by
  cases l with
  | nil => simp at h
  | cons a t => exact ⟨a, t, rfl, by simpa using h⟩
theorem list_nil {α : Type} {l : List α} (h : l.length = 0) : l = [] := List.eq_nil_of_length_eq_zero h
theorem list14 {l : List Value} (h : l.length = 14) : ∃ a0 a1 a2 a3 a4 a5 a6 a7 a8 a9 a10 a11 a12 a13, l = [a0, a1, a2, a3, a4, a5, a6, a7, a8, a9, a10, a11, a12, a13] := by
  obtain ⟨a0, l0, rfl, h0⟩ := list_succ h
  obtain ⟨a1, l1, rfl, h1⟩ := list_succ h0
  obtain ⟨a2, l2, rfl, h2⟩ := list_succ h1
  obtain ⟨a3, l3, rfl, h3⟩ := list_succ h2
  obtain ⟨a4, l4, rfl, h4⟩ := list_succ h3
  obtain ⟨a5, l5, rfl, h5⟩ := list_succ h4
  obtain ⟨a6, l6, rfl, h6⟩ := list_succ h5
  obtain ⟨a7, l7, rfl, h7⟩ := list_succ h6
  obtain ⟨a8, l8, rfl, h8⟩ := list_succ h7
  obtain ⟨a9, l9, rfl, h9⟩ := list_succ h8
  obtain ⟨a10, l10, rfl, h10⟩ := list_succ h9
  obtain ⟨a11, l11, rfl, h11⟩ := list_succ h10
  obtain ⟨a12, l12, rfl, h12⟩ := list_succ h11
  obtain ⟨a13, l13, rfl, h13⟩ := list_succ h12
  obtain rfl := list_nil h13
  exact ⟨a0, a1, a2, a3, a4, a5, a6, a7, a8, a9, a10, a11, a12, a13, rfl⟩
set_option maxRecDepth 100000 in
theorem open_hdr {r0 : Reach} {b0 : Nat} {v : Value} {d : DataW H} {p : List MemPlace} (hv : Value.okWide Try.prog w r0 b0 25 v) (h : DataW.Trod enc Try.prog w base spare held 25 v d p) :
    ∃ (id : Int) (r : Bool) (op : Int) (aa tc rd ra ad cd : Bool) (rc c0 c1 c2 c3 : Int), v = .agg #[.int .u16 id, .bool r, .int .i64 op, .bool aa, .bool tc, .bool rd, .bool ra, .bool ad, .bool cd, .int .i64 rc, .int .i64 c0, .int .i64 c1, .int .i64 c2, .int .i64 c3] ∧ 0 ≤ id ∧ id ≤ 65535 := by
  obtain ⟨cs, rfl, hsz⟩ := okWide_struct Try.underlying25 hv
  obtain ⟨l⟩ := cs
  obtain ⟨a0, a1, a2, a3, a4, a5, a6, a7, a8, a9, a10, a11, a12, a13, rfl⟩ := list14 (l := l) (hsz.trans cells25)
  obtain ⟨fuel, hf⟩ := h
  obtain ⟨xs, n, _, _, _, _, hg⟩ := DataW.trod_struct Try.underlying25 hf
  have g0 : DataW.trod enc Try.prog w base spare held n 22 (List.take (Try.prog.cellsOf 22) (List.drop 0 [a0, a1, a2, a3, a4, a5, a6, a7, a8, a9, a10, a11, a12, a13])) = xs[0]? := hg 0 _ rfl
  have g1 : DataW.trod enc Try.prog w base spare held n 4 (List.take (Try.prog.cellsOf 4) (List.drop 1 [a0, a1, a2, a3, a4, a5, a6, a7, a8, a9, a10, a11, a12, a13])) = xs[1]? := hg 1 _ rfl
  have g2 : DataW.trod enc Try.prog w base spare held n 3 (List.take (Try.prog.cellsOf 3) (List.drop 2 [a0, a1, a2, a3, a4, a5, a6, a7, a8, a9, a10, a11, a12, a13])) = xs[2]? := hg 2 _ rfl
  have g3 : DataW.trod enc Try.prog w base spare held n 4 (List.take (Try.prog.cellsOf 4) (List.drop 3 [a0, a1, a2, a3, a4, a5, a6, a7, a8, a9, a10, a11, a12, a13])) = xs[3]? := hg 3 _ rfl
  have g4 : DataW.trod enc Try.prog w base spare held n 4 (List.take (Try.prog.cellsOf 4) (List.drop 4 [a0, a1, a2, a3, a4, a5, a6, a7, a8, a9, a10, a11, a12, a13])) = xs[4]? := hg 4 _ rfl
  have g5 : DataW.trod enc Try.prog w base spare held n 4 (List.take (Try.prog.cellsOf 4) (List.drop 5 [a0, a1, a2, a3, a4, a5, a6, a7, a8, a9, a10, a11, a12, a13])) = xs[5]? := hg 5 _ rfl
  have g6 : DataW.trod enc Try.prog w base spare held n 4 (List.take (Try.prog.cellsOf 4) (List.drop 6 [a0, a1, a2, a3, a4, a5, a6, a7, a8, a9, a10, a11, a12, a13])) = xs[6]? := hg 6 _ rfl
  have g7 : DataW.trod enc Try.prog w base spare held n 4 (List.take (Try.prog.cellsOf 4) (List.drop 7 [a0, a1, a2, a3, a4, a5, a6, a7, a8, a9, a10, a11, a12, a13])) = xs[7]? := hg 7 _ rfl
  have g8 : DataW.trod enc Try.prog w base spare held n 4 (List.take (Try.prog.cellsOf 4) (List.drop 8 [a0, a1, a2, a3, a4, a5, a6, a7, a8, a9, a10, a11, a12, a13])) = xs[8]? := hg 8 _ rfl
  have g9 : DataW.trod enc Try.prog w base spare held n 3 (List.take (Try.prog.cellsOf 3) (List.drop 9 [a0, a1, a2, a3, a4, a5, a6, a7, a8, a9, a10, a11, a12, a13])) = xs[9]? := hg 9 _ rfl
  have g10 : DataW.trod enc Try.prog w base spare held n 23 (List.take (Try.prog.cellsOf 23) (List.drop 10 [a0, a1, a2, a3, a4, a5, a6, a7, a8, a9, a10, a11, a12, a13])) = xs[10]? := hg 10 _ rfl
  have some_of : ∀ {i : Nat} {t : TypeId} {cs : List Value}, i < xs.length → DataW.trod enc Try.prog w base spare held n t cs = xs[i]? → ∃ x, DataW.trod enc Try.prog w base spare held n t cs = some x :=
    fun hi e => ⟨_, e.trans (List.getElem?_eq_getElem hi)⟩
  have hl : xs.length = 11 := by assumption
  simp only [List.drop_succ_cons, List.drop_zero, List.take_succ_cons, List.take_zero, cells22, cells3, cells4, cells23] at g0 g1 g2 g3 g4 g5 g6 g7 g8 g9 g10
  obtain ⟨x0, e0⟩ := some_of (by omega) g0
  obtain ⟨x1, e1⟩ := some_of (by omega) g1
  obtain ⟨x2, e2⟩ := some_of (by omega) g2
  obtain ⟨x3, e3⟩ := some_of (by omega) g3
  obtain ⟨x4, e4⟩ := some_of (by omega) g4
  obtain ⟨x5, e5⟩ := some_of (by omega) g5
  obtain ⟨x6, e6⟩ := some_of (by omega) g6
  obtain ⟨x7, e7⟩ := some_of (by omega) g7
  obtain ⟨x8, e8⟩ := some_of (by omega) g8
  obtain ⟨x9, e9⟩ := some_of (by omega) g9
  obtain ⟨x10, e10⟩ := some_of (by omega) g10
  obtain ⟨id, i0, _, wid⟩ := DataW.trod_int Try.underlying22 e0
  obtain ⟨r, i1, _⟩ := DataW.trod_bool Try.underlying4 e1
  obtain ⟨op, i2, _, _⟩ := DataW.trod_int Try.underlying3 e2
  obtain ⟨aa, i3, _⟩ := DataW.trod_bool Try.underlying4 e3
  obtain ⟨tc, i4, _⟩ := DataW.trod_bool Try.underlying4 e4
  obtain ⟨rd, i5, _⟩ := DataW.trod_bool Try.underlying4 e5
  obtain ⟨ra, i6, _⟩ := DataW.trod_bool Try.underlying4 e6
  obtain ⟨ad, i7, _⟩ := DataW.trod_bool Try.underlying4 e7
  obtain ⟨cd, i8, _⟩ := DataW.trod_bool Try.underlying4 e8
  obtain ⟨rc, i9, _, _⟩ := DataW.trod_int Try.underlying3 e9
  obtain ⟨ys, m, _, _, _, hyl, hy⟩ := DataW.trod_array Try.underlying23 e10
  have k0 := (hy 0 (by decide)).trans (List.getElem?_eq_getElem (by omega))
  have k1 := (hy 1 (by decide)).trans (List.getElem?_eq_getElem (by omega))
  have k2 := (hy 2 (by decide)).trans (List.getElem?_eq_getElem (by omega))
  have k3 := (hy 3 (by decide)).trans (List.getElem?_eq_getElem (by omega))
  simp only [cells3, Nat.mul_one, List.drop_succ_cons, List.drop_zero, List.take_succ_cons, List.take_zero] at k0 k1 k2 k3
  obtain ⟨c0, j0, _, _⟩ := DataW.trod_int Try.underlying3 k0
  obtain ⟨c1, j1, _, _⟩ := DataW.trod_int Try.underlying3 k1
  obtain ⟨c2, j2, _, _⟩ := DataW.trod_int Try.underlying3 k2
  obtain ⟨c3, j3, _, _⟩ := DataW.trod_int Try.underlying3 k3
  simp only [List.cons.injEq, and_true] at i0 i1 i2 i3 i4 i5 i6 i7 i8 i9 j0 j1 j2 j3
  subst i0 i1 i2 i3 i4 i5 i6 i7 i8 i9 j0 j1 j2 j3
  have hx : 0 ≤ id ∧ id ≤ 65535 := by simpa [Lit.wf, IntKind.min, IntKind.max, IntKind.signed, IntKind.bits] using wid
  exact ⟨id, r, op, aa, tc, rd, ra, ad, cd, rc, c0, c1, c2, c3, rfl, hx.1, hx.2⟩
end

set_option maxRecDepth 100000 in
theorem headerBits_lifted (os : Os) (started : os.Started) (H : Type) (enc : TypeId × Value → H) :
    ReturnsInHanded {} Try.checked os 3 .any (Rows.headerBitsSpec.pre6 enc Try.prog Try.f3 Rows.headerBitsRow.domain false) (Rows.headerBitsSpec.post enc Try.prog Try.f3 false true false false) := by
  refine returnsInHanded_of_change (C := Try.checked) own started (by kernel_rfl) Try.func3
    (ChangeSpec.witness6 (enc := enc) (C := Try.checked) false ⟨#[], #[.agg #[.int .u16 0, .bool false, .int .i64 0, .bool false, .bool false, .bool false, .bool false, .bool false, .bool false, .int .i64 0, .int .i64 0, .int .i64 0, .int .i64 0, .int .i64 0]], []⟩ 8 (by kernel_rfl) (by kernel_rfl) (by kernel_rfl) (by kernel_rfl)) ?_
  intro W base args ds gs before hval0 hW hcnd _
  have hval : ∀ (j : Nat) t v, Try.f3.params[j]? = some t → args[j]? = some v → Value.okWide Try.prog W .any base t v := hval0
  have hW' := hW
  obtain ⟨p, q, hA0, hV, rfl, hfz, hnd⟩ := hW
  have hA : DataW.TrodAll enc Try.prog W 0 (fun _ => true) true Try.f3.params.toList args.toList ds p := hA0
  rw [Try.params3] at hA hval
  obtain ⟨v0, vs0, d0, ds0, p0, q0, hargs, rfl, rfl, h0, r0⟩ := trodAll_cons hA
  obtain ⟨rfl, rfl, rfl⟩ := trodAll_nil r0
  obtain rfl : args = #[v0] := by cases args; simp_all
  obtain ⟨rfl, rfl⟩ := trodVars_none hV
  obtain ⟨id, r, op, aa, tc, rd, ra, ad, cd, rc, c0, c1, c2, c3, rfl, hi, hi'⟩ := open_hdr (hval 0 25 v0 rfl rfl) h0
  clear hA0 hval0
  simp only [List.append_nil] at hW'
  refine (bits_walk id r op aa tc rd ra ad cd rc c0 c1 c2 c3 W hi hi').mono fun e W' ⟨he, hb⟩ => ?_
  subst he
  have hlt := hW'.lt
  exact ⟨_, rfl, post_of_below (pa := p0 ++ []) (pv := []) hW' (fun _ _ _ => trodAll_cons_mk (shut_bool Try.underlying4 _) trodAll_mk0)
    (fun sp hsp => trodAll_cons_mk (WideElems.Trod_stays (by kernel_rfl) (by kernel_rfl) (of_decide_eq_true (by kernel_rfl)) h0 (fun x hx => hb.same (hlt x hx)) (fun x hx => hsp x hx)) trodAll_mk0) (fun _ _ => rfl) (by simp)
    hb (ok_one (by kernel_rfl) rfl (okWide_bool_mk Try.underlying4 _))⟩

theorem headerBits_holds : Rows.HeaderBitsSaid :=
  OpenClaim.holds_of_wide 3 Try.f3 rfl rfl rfl rfl rfl rfl rfl ⟨rfl, rfl, rfl, rfl, rfl⟩ rfl rfl rfl rfl rfl (by kernel_rfl) Try.func3 (by kernel_rfl)
    (of_decide_eq_true (by kernel_rfl)) (by unfold Func.isWrapper; first | (rw [if_pos (by decide +kernel)]; kernel_rfl) | (rw [if_neg (by decide +kernel)]; exact ⟨rfl, rfl⟩))
    (fun os started H enc _ => headerBits_lifted os started H enc)
#print axioms headerBits_holds
end Go.Proofs.Ytniambdfgojgeaa
