/- The law HeaderBits: its walk. -/
import Derived.Test.YtniambdfgojgeaaHdp
import Derived.PlainAid
namespace Go.Proofs.Ytniambdfgojgeaa
open Go.RowKit Go.PlainAid

def HPut (id : Int) (r : Bool) (op : Int) (aa tc rd ra ad cd : Bool) (rc c0 c1 c2 c3 : Int) (x : Ending) (w w' : World) : Prop :=
  (x = .returned (.tuple #[.string ByteArray.empty, .int .i64 2]) ∨ (HVal op rc c0 c1 c2 c3 ∧ x = .returned (.tuple #[.string (hOct id r op aa tc rd ra ad cd rc c0 c1 c2 c3), .int .i64 0]))) ∧ Below w.heap.size w w'

set_option maxRecDepth 100000 in
set_option maxHeartbeats 1600000 in
theorem hPut_any (id : Int) (r : Bool) (op : Int) (aa tc rd ra ad cd : Bool) (rc c0 c1 c2 c3 : Int) (w : World) (hi : 0 ≤ id) (hi' : id ≤ 65535) :
    Calls Try.prog 8 #[.agg #[.int .u16 id, .bool r, .int .i64 op, .bool aa, .bool tc, .bool rd, .bool ra, .bool ad, .bool cd, .int .i64 rc, .int .i64 c0, .int .i64 c1, .int .i64 c2, .int .i64 c3]] w
      (HPut id r op aa tc rd ra ad cd rc c0 c1 c2 c3 · w) := by
  by_cases hv : HVal op rc c0 c1 c2 c3
  · obtain ⟨ho, ho', hr, hr', h0, h0', h1, h1', h2, h2', h3, h3'⟩ := hv
    refine (hPut_ok id r op aa tc rd ra ad cd rc c0 c1 c2 c3 w hi hi' ho ho' hr hr' h0 h0' h1 h1' h2 h2' h3 h3').mono ?_
    rintro e w' ⟨rfl, hb⟩
    exact ⟨.inr ⟨⟨ho, ho', hr, hr', h0, h0', h1, h1', h2, h2', h3, h3'⟩, rfl⟩, hb⟩
  · have HV := Lib.hid hv
    clear hv
    go_enter Try.func8, Try.ntmps8
    go_wp2_with fail
    refine (hCheck_bad id r op aa tc rd ra ad cd rc c0 c1 c2 c3 _).mono ?_
    rintro e w1 ⟨hx, hb1⟩
    rcases hx with rfl | hx
    · have hB1 : Below w.heap.size w w1 := ((Below.refl _ w).alloc (Nat.le_refl _) _).trans (hb1.mono (by simp))
      clear hb1
      go_wp2
      go_ret2
      exact ⟨.inl rfl, hB1⟩
    · exact absurd hx HV.out

set_option maxRecDepth 100000 in
set_option maxHeartbeats 1600000 in
theorem lives06 (w : World) : Calls Try.prog 7 #[] w fun x w' => x = .returned (.bool true) ∧ Below w.heap.size w w' := by
  have he : hOct 1 false 0 false false true false false false 0 1 0 0 0 = ⟨#[0, 1, 1, 0, 0, 1, 0, 0, 0, 0, 0, 0]⟩ := by decide +kernel
  go_enter Try.func7, Try.ntmps7
  go_wp2_with fail
  refine (hPut_ok 1 false 0 false false true false false false 0 1 0 0 0 w (by decide) (by decide) (by decide) (by decide) (by decide) (by decide) (by decide) (by decide) (by decide) (by decide) (by decide) (by decide) (by decide) (by decide)).mono ?_
  rw [he]
  rintro e w' ⟨rfl, hb⟩
  go_wp2
  go_ret
  exact ⟨rfl, hb⟩
end Go.Proofs.Ytniambdfgojgeaa
