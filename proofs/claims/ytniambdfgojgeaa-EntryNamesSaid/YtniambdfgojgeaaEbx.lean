/- A list of blocks that are known whole, from world to world. Plain lemmas; no program. -/
import Derived.Test.YtniambdfgojgeaaElv
namespace Go.Proofs.Ytniambdfgojgeaa
open Go.RowKit

/-- these blocks are there, no two are one -/
structure Boxes (l : List (Nat × Obj)) (w : World) : Prop where
  at' : ∀ p ∈ l, w.heap[p.1]? = some p.2
  nodup : (l.map Prod.fst).Nodup
namespace Boxes
theorem nil (w : World) : Boxes [] w := ⟨fun _ hp => (List.not_mem_nil hp).elim, List.nodup_nil⟩
theorem lt {l : List (Nat × Obj)} {w : World} (h : Boxes l w) {p : Nat × Obj} (hp : p ∈ l) : p.1 < w.heap.size := lt_of_heap (h.at' p hp)
theorem later {l : List (Nat × Obj)} {w w' : World} (h : Boxes l w) (hb : Below w.heap.size w w') : Boxes l w' :=
  ⟨fun p hp => (hb.block _ (h.lt hp)).trans (h.at' p hp), h.nodup⟩
theorem new {l : List (Nat × Obj)} {w w' : World} (h : Boxes l w) (hb : Below w.heap.size w w') {b : Nat} {o : Obj} (hn : w'.heap[b]? = some o) (hge : w.heap.size ≤ b) : Boxes ((b, o) :: l) w' :=
  ⟨fun p hp => by
    rcases List.mem_cons.1 hp with rfl | hp
    · exact hn
    · exact (h.later hb).at' p hp, by
    rw [List.map_cons, List.nodup_cons]
    refine ⟨fun hm => ?_, h.nodup⟩
    obtain ⟨p, hp, he⟩ := List.mem_map.1 hm
    have := h.lt hp
    omega⟩
theorem get {l : List (Nat × Obj)} {w : World} (h : Boxes l w) (i : Nat) (hi : i < l.length) : w.heap[(l[i]).1]? = some (l[i]).2 := h.at' _ (List.getElem_mem hi)
theorem turn {l1 l2 : List (Nat × Obj)} {b : Nat} {o o' : Obj} {w w' : World} (h : Boxes (l1 ++ (b, o) :: l2) w) (hk : Keeps (fun k => k = b) w w') (hn : w'.heap[b]? = some o') : Boxes (l1 ++ (b, o') :: l2) w' := by
  have hnd := h.nodup
  rw [List.map_append, List.map_cons] at hnd
  refine ⟨fun p hp => ?_, by rw [List.map_append, List.map_cons]; exact hnd⟩
  have hne : ∀ q : Nat × Obj, q ∈ l1 ∨ q ∈ l2 → q.1 ≠ b := fun q hq e => by
    have hd := List.nodup_append.1 hnd
    rcases hq with hq | hq
    · exact hd.2.2 q.1 (List.mem_map_of_mem hq) b (List.mem_cons_self ..) e
    · exact (List.nodup_cons.1 hd.2.1).1 (List.mem_map.2 ⟨q, hq, e⟩)
  rcases List.mem_append.1 hp with hp | hp
  · exact (hk.block _ (h.lt (List.mem_append_left _ hp)) (hne p (.inl hp))).trans (h.at' p (List.mem_append_left _ hp))
  · rcases List.mem_cons.1 hp with rfl | hp
    · exact hn
    · have hm : p ∈ l1 ++ (b, o) :: l2 := List.mem_append_right _ (List.mem_cons_of_mem _ hp)
      exact (hk.block _ (h.lt hm) (hne p (.inr hp))).trans (h.at' p hm)
theorem drewN {l : List (Nat × Obj)} {w : World} (h : Boxes l w) (n : Nat) : Boxes l (w.drewN n) := ⟨h.at', h.nodup⟩
theorem g0 {p : Nat × Obj} {l : List (Nat × Obj)} {w : World} (h : Boxes (p :: l) w) : w.heap[p.1]? = some p.2 := h.at' p (List.mem_cons_self ..)
theorem g1 {q0 p : Nat × Obj} {l : List (Nat × Obj)} {w : World} (h : Boxes (q0 :: p :: l) w) : w.heap[p.1]? = some p.2 := h.at' p (List.mem_cons_of_mem _ (List.mem_cons_self ..))
theorem g2 {q0 q1 p : Nat × Obj} {l : List (Nat × Obj)} {w : World} (h : Boxes (q0 :: q1 :: p :: l) w) : w.heap[p.1]? = some p.2 := h.at' p (List.mem_cons_of_mem _ (List.mem_cons_of_mem _ (List.mem_cons_self ..)))
theorem g3 {q0 q1 q2 p : Nat × Obj} {l : List (Nat × Obj)} {w : World} (h : Boxes (q0 :: q1 :: q2 :: p :: l) w) : w.heap[p.1]? = some p.2 := h.at' p (List.mem_cons_of_mem _ (List.mem_cons_of_mem _ (List.mem_cons_of_mem _ (List.mem_cons_self ..))))
theorem g4 {q0 q1 q2 q3 p : Nat × Obj} {l : List (Nat × Obj)} {w : World} (h : Boxes (q0 :: q1 :: q2 :: q3 :: p :: l) w) : w.heap[p.1]? = some p.2 := h.at' p (List.mem_cons_of_mem _ (List.mem_cons_of_mem _ (List.mem_cons_of_mem _ (List.mem_cons_of_mem _ (List.mem_cons_self ..)))))
theorem g5 {q0 q1 q2 q3 q4 p : Nat × Obj} {l : List (Nat × Obj)} {w : World} (h : Boxes (q0 :: q1 :: q2 :: q3 :: q4 :: p :: l) w) : w.heap[p.1]? = some p.2 := h.at' p (List.mem_cons_of_mem _ (List.mem_cons_of_mem _ (List.mem_cons_of_mem _ (List.mem_cons_of_mem _ (List.mem_cons_of_mem _ (List.mem_cons_self ..))))))
theorem g6 {q0 q1 q2 q3 q4 q5 p : Nat × Obj} {l : List (Nat × Obj)} {w : World} (h : Boxes (q0 :: q1 :: q2 :: q3 :: q4 :: q5 :: p :: l) w) : w.heap[p.1]? = some p.2 := h.at' p (List.mem_cons_of_mem _ (List.mem_cons_of_mem _ (List.mem_cons_of_mem _ (List.mem_cons_of_mem _ (List.mem_cons_of_mem _ (List.mem_cons_of_mem _ (List.mem_cons_self ..)))))))
theorem g7 {q0 q1 q2 q3 q4 q5 q6 p : Nat × Obj} {l : List (Nat × Obj)} {w : World} (h : Boxes (q0 :: q1 :: q2 :: q3 :: q4 :: q5 :: q6 :: p :: l) w) : w.heap[p.1]? = some p.2 := h.at' p (List.mem_cons_of_mem _ (List.mem_cons_of_mem _ (List.mem_cons_of_mem _ (List.mem_cons_of_mem _ (List.mem_cons_of_mem _ (List.mem_cons_of_mem _ (List.mem_cons_of_mem _ (List.mem_cons_self ..))))))))
theorem g8 {q0 q1 q2 q3 q4 q5 q6 q7 p : Nat × Obj} {l : List (Nat × Obj)} {w : World} (h : Boxes (q0 :: q1 :: q2 :: q3 :: q4 :: q5 :: q6 :: q7 :: p :: l) w) : w.heap[p.1]? = some p.2 := h.at' p (List.mem_cons_of_mem _ (List.mem_cons_of_mem _ (List.mem_cons_of_mem _ (List.mem_cons_of_mem _ (List.mem_cons_of_mem _ (List.mem_cons_of_mem _ (List.mem_cons_of_mem _ (List.mem_cons_of_mem _ (List.mem_cons_self ..)))))))))
theorem g9 {q0 q1 q2 q3 q4 q5 q6 q7 q8 p : Nat × Obj} {l : List (Nat × Obj)} {w : World} (h : Boxes (q0 :: q1 :: q2 :: q3 :: q4 :: q5 :: q6 :: q7 :: q8 :: p :: l) w) : w.heap[p.1]? = some p.2 := h.at' p (List.mem_cons_of_mem _ (List.mem_cons_of_mem _ (List.mem_cons_of_mem _ (List.mem_cons_of_mem _ (List.mem_cons_of_mem _ (List.mem_cons_of_mem _ (List.mem_cons_of_mem _ (List.mem_cons_of_mem _ (List.mem_cons_of_mem _ (List.mem_cons_self ..))))))))))
theorem g10 {q0 q1 q2 q3 q4 q5 q6 q7 q8 q9 p : Nat × Obj} {l : List (Nat × Obj)} {w : World} (h : Boxes (q0 :: q1 :: q2 :: q3 :: q4 :: q5 :: q6 :: q7 :: q8 :: q9 :: p :: l) w) : w.heap[p.1]? = some p.2 := h.at' p (List.mem_cons_of_mem _ (List.mem_cons_of_mem _ (List.mem_cons_of_mem _ (List.mem_cons_of_mem _ (List.mem_cons_of_mem _ (List.mem_cons_of_mem _ (List.mem_cons_of_mem _ (List.mem_cons_of_mem _ (List.mem_cons_of_mem _ (List.mem_cons_of_mem _ (List.mem_cons_self ..)))))))))))
theorem g11 {q0 q1 q2 q3 q4 q5 q6 q7 q8 q9 q10 p : Nat × Obj} {l : List (Nat × Obj)} {w : World} (h : Boxes (q0 :: q1 :: q2 :: q3 :: q4 :: q5 :: q6 :: q7 :: q8 :: q9 :: q10 :: p :: l) w) : w.heap[p.1]? = some p.2 := h.at' p (List.mem_cons_of_mem _ (List.mem_cons_of_mem _ (List.mem_cons_of_mem _ (List.mem_cons_of_mem _ (List.mem_cons_of_mem _ (List.mem_cons_of_mem _ (List.mem_cons_of_mem _ (List.mem_cons_of_mem _ (List.mem_cons_of_mem _ (List.mem_cons_of_mem _ (List.mem_cons_of_mem _ (List.mem_cons_self ..))))))))))))
theorem g12 {q0 q1 q2 q3 q4 q5 q6 q7 q8 q9 q10 q11 p : Nat × Obj} {l : List (Nat × Obj)} {w : World} (h : Boxes (q0 :: q1 :: q2 :: q3 :: q4 :: q5 :: q6 :: q7 :: q8 :: q9 :: q10 :: q11 :: p :: l) w) : w.heap[p.1]? = some p.2 := h.at' p (List.mem_cons_of_mem _ (List.mem_cons_of_mem _ (List.mem_cons_of_mem _ (List.mem_cons_of_mem _ (List.mem_cons_of_mem _ (List.mem_cons_of_mem _ (List.mem_cons_of_mem _ (List.mem_cons_of_mem _ (List.mem_cons_of_mem _ (List.mem_cons_of_mem _ (List.mem_cons_of_mem _ (List.mem_cons_of_mem _ (List.mem_cons_self ..)))))))))))))
theorem g13 {q0 q1 q2 q3 q4 q5 q6 q7 q8 q9 q10 q11 q12 p : Nat × Obj} {l : List (Nat × Obj)} {w : World} (h : Boxes (q0 :: q1 :: q2 :: q3 :: q4 :: q5 :: q6 :: q7 :: q8 :: q9 :: q10 :: q11 :: q12 :: p :: l) w) : w.heap[p.1]? = some p.2 := h.at' p (List.mem_cons_of_mem _ (List.mem_cons_of_mem _ (List.mem_cons_of_mem _ (List.mem_cons_of_mem _ (List.mem_cons_of_mem _ (List.mem_cons_of_mem _ (List.mem_cons_of_mem _ (List.mem_cons_of_mem _ (List.mem_cons_of_mem _ (List.mem_cons_of_mem _ (List.mem_cons_of_mem _ (List.mem_cons_of_mem _ (List.mem_cons_of_mem _ (List.mem_cons_self ..))))))))))))))
theorem g14 {q0 q1 q2 q3 q4 q5 q6 q7 q8 q9 q10 q11 q12 q13 p : Nat × Obj} {l : List (Nat × Obj)} {w : World} (h : Boxes (q0 :: q1 :: q2 :: q3 :: q4 :: q5 :: q6 :: q7 :: q8 :: q9 :: q10 :: q11 :: q12 :: q13 :: p :: l) w) : w.heap[p.1]? = some p.2 := h.at' p (List.mem_cons_of_mem _ (List.mem_cons_of_mem _ (List.mem_cons_of_mem _ (List.mem_cons_of_mem _ (List.mem_cons_of_mem _ (List.mem_cons_of_mem _ (List.mem_cons_of_mem _ (List.mem_cons_of_mem _ (List.mem_cons_of_mem _ (List.mem_cons_of_mem _ (List.mem_cons_of_mem _ (List.mem_cons_of_mem _ (List.mem_cons_of_mem _ (List.mem_cons_of_mem _ (List.mem_cons_self ..)))))))))))))))
theorem g15 {q0 q1 q2 q3 q4 q5 q6 q7 q8 q9 q10 q11 q12 q13 q14 p : Nat × Obj} {l : List (Nat × Obj)} {w : World} (h : Boxes (q0 :: q1 :: q2 :: q3 :: q4 :: q5 :: q6 :: q7 :: q8 :: q9 :: q10 :: q11 :: q12 :: q13 :: q14 :: p :: l) w) : w.heap[p.1]? = some p.2 := h.at' p (List.mem_cons_of_mem _ (List.mem_cons_of_mem _ (List.mem_cons_of_mem _ (List.mem_cons_of_mem _ (List.mem_cons_of_mem _ (List.mem_cons_of_mem _ (List.mem_cons_of_mem _ (List.mem_cons_of_mem _ (List.mem_cons_of_mem _ (List.mem_cons_of_mem _ (List.mem_cons_of_mem _ (List.mem_cons_of_mem _ (List.mem_cons_of_mem _ (List.mem_cons_of_mem _ (List.mem_cons_of_mem _ (List.mem_cons_self ..))))))))))))))))
end Boxes

abbrev ecs (host : ByteArray) (kind : Int) (cluster : ByteArray) (addrs : Value) (al : ByteArray) (ports : Value) (ttl : Int) : Array Value := #[.string host, .int .i64 kind, .string cluster, addrs, .string al, ports, .int .u32 ttl]
abbrev eobj (cs : Array Value) : Obj := .cells cs 52 (0, 0)
abbrev ezero : Obj := .cells #[.string ⟨#[]⟩, .int .i64 0, .string ⟨#[]⟩, .slice none 0 0, .string ⟨#[]⟩, .slice none 0 0, .int .u32 0] 52
theorem box_new (w : World) (cs : Array Value) : ((w.alloc ezero).setRow w.heap.size cs).heap[w.heap.size]? = some (eobj cs) ∧ Below w.heap.size w ((w.alloc ezero).setRow w.heap.size cs) := by
  have h := heap_alloc_new w ezero
  exact ⟨setRow_heap _ _ _ cs _ _ h, below_setRow ((Below.refl _ w).alloc (Nat.le_refl _) _) (Nat.le_refl _) (lt_of_heap h)⟩
theorem cell_set {w : World} {b : Nat} {cs : Array Value} {T : TypeId} (h : w.heap[b]? = some (.cells cs T (0, 0))) (j : Nat) (v : Value) : (w.setCell ⟨b, j, none⟩ v).heap[b]? = some (.cells (cs.setIfInBounds j v) T (0, 0)) := by
  rw [setCell_eq_setRow _ _ _ _ _ _ _ h]
  exact setRow_heap _ _ _ _ _ _ h
theorem keeps_cell (w : World) (b j : Nat) (v : Value) : Keeps (fun k => k = b) w (w.setCell ⟨b, j, none⟩ v) := (Keeps.refl (fun k => k = b) w).setCell (p := ⟨b, j, none⟩) (.inr rfl) v
abbrev oAddrs (a : Bool) (x y : Int) (c : Bool) (z t : Int) : Obj := .cells #[.bool a, .int .u64 x, .int .u64 y, .bool c, .int .u64 z, .int .u64 t] 56 (0, 0)
abbrev oPorts (p q : Int) : Obj := .cells #[.int .i64 p, .int .i64 q] 3 (0, 0)
theorem Boxes.new2 {l : List (Nat × Obj)} {w w' : World} (h : Boxes l w) (hb : Below w.heap.size w w') {b c : Nat} {o o' : Obj} (hn : w'.heap[b]? = some o) (hge : w.heap.size ≤ b) (hn' : w'.heap[c]? = some o') (hge' : w.heap.size ≤ c) (hne : c ≠ b) : Boxes ((c, o') :: (b, o) :: l) w' := by
  have h1 := h.new hb hn hge
  refine ⟨fun p hp => ?_, ?_⟩
  · rcases List.mem_cons.1 hp with rfl | hp
    · exact hn'
    · exact h1.at' p hp
  · rw [List.map_cons, List.nodup_cons]
    refine ⟨fun hm => ?_, h1.nodup⟩
    rcases List.mem_cons.1 hm with e | hm
    · exact hne e
    · obtain ⟨p, hp, he⟩ := List.mem_map.1 hm
      have := h.lt hp
      have he' : p.1 = c := he
      omega
theorem Boxes.fixed {l : List (Nat × Obj)} {w w' : World} (h : Boxes l w) (hb : Below w.heap.size w w') {ga gp : Nat} (hf : FixedAt w.heap.size ga gp w') : Boxes ((gp, oPorts 80 443) :: (ga, oAddrs false 0 16909060 true 0 1) :: l) w' :=
  h.new2 hb hf.ra hf.ba hf.rp hf.bp (fun e => by
    have h1 := hf.ra
    rw [← e, hf.rp] at h1
    have h2 := Option.some.inj h1
    injection h2 with h3
    have h4 := congrArg Array.size h3
    simp at h4)
theorem size_set (w : World) (p : Addr) (v : Value) : (w.setCell p v).heap.size = w.heap.size := by simp [World.setCell]
theorem cell_alloc_box {w : World} {b : Nat} {cs : Array Value} {T : TypeId} (h : w.heap[b]? = some (.cells cs T (0, 0))) (o : Obj) : (w.alloc o).heap[b]? = some (.cells cs T (0, 0)) := (Below.heap_alloc w o b (lt_of_heap h)).trans h
theorem own_box {B size n : Nat} {e : TypeId} {v : Value} {xs : List Value} {w : World} (h : w.ownsRow B e size v n xs) (h0 : 0 < n) :
    ∃ g cap cur, v = .slice (some ⟨g, 0, none⟩) n cap ∧ n ≤ cap ∧ B ≤ g ∧ w.heap[g]? = some (.cells cur e (0, 0)) ∧ ∀ (j : Nat) (u : Value), xs[j]? = some u → cur[j]? = some u := by
  have hc := fun g hg => h.cells (g := g) hg
  rcases h.2 with ⟨_, hz⟩ | ⟨g, cap, cur, rfl, hB, hg, hn, hr⟩
  · omega
  · refine ⟨g, cap, cur, rfl, hn, hB, hg, fun j u hj => ?_⟩
    have := hc g rfl j u hj
    rw [row_add, Lib.cell_of_heap hg] at this
    exact this
/-- the blocks of EntryNames -/
abbrev enBoxes (ba bb bc bd be ga gp ha hp bq : Nat) : List (Nat × Obj) :=
  [(be, eobj (ecs hostBA 1 textX (.slice (some ⟨ha, 0, none⟩) 2 2) ByteArray.empty (.slice (some ⟨hp, 0, none⟩) 2 2) 30)), (hp, oPorts 80 443), (ha, oAddrs false 0 16909060 false 0 16909060), (bq, oPorts 443 80), (bd, eobj (ecs hostBA 1 textX (.slice (some ⟨ga, 0, none⟩) 2 2) ByteArray.empty (.slice (some ⟨bq, 0, none⟩) 2 2) 30)), (gp, oPorts 80 443), (ga, oAddrs false 0 16909060 true 0 1), (bc, eobj (ecs ⟨#[1, 65]⟩ 3 ByteArray.empty (.slice none 0 0) ⟨#[1, 42, 1, 98]⟩ (.slice none 0 0) 0)), (bb, eobj (ecs ⟨#[1, 42, 1, 120]⟩ 2 ⟨#[121]⟩ (.slice none 0 0) ByteArray.empty (.slice none 0 0) 0)), (ba, eobj (ecs ⟨#[1, 65]⟩ 3 ByteArray.empty (.slice none 0 0) ⟨#[1, 98]⟩ (.slice none 0 0) 0))]
theorem below_boxes {l : List (Nat × Obj)} {B : Nat} {w w' : World} (h : Boxes l w) (hb : Below B w w') (hl : ∀ p ∈ l, p.1 < B) : Boxes l w' := ⟨fun p hp => (hb.block _ (hl p hp)).trans (h.at' p hp), h.nodup⟩
theorem CheckIs.now {e : Value} {c : Int} {w : World} (h : CheckIs e c w) : Calls Try.prog 24 #[e] w fun x w' => x = .returned (.int .i64 c) ∧ Below w.heap.size w w' := h w (Below.refl _ w)
theorem ck_a (w : World) : CheckIs (ev ⟨#[1, 65]⟩ 3 ByteArray.empty (.slice none 0 0) ⟨#[1, 98]⟩ (.slice none 0 0) 0) 0 w :=
  check_alias ⟨#[1, 65]⟩ ⟨#[1, 98]⟩ _ _ nm_A (by decide) (by decide) nm_b (by decide) (by decide) false w (fun W => wild_no ⟨#[1, 98]⟩ _ nm_b (by simp) (by decide) (by decide) W)
theorem ck_b (w : World) : CheckIs (ev ⟨#[1, 42, 1, 120]⟩ 2 ⟨#[121]⟩ (.slice none 0 0) ByteArray.empty (.slice none 0 0) 0) 0 w :=
  check_auto ⟨#[1, 42, 1, 120]⟩ ⟨#[121]⟩ _ nm_sx (by decide) (by decide) (by decide) (by decide) w
theorem ck_c (w : World) : CheckIs (ev ⟨#[1, 65]⟩ 3 ByteArray.empty (.slice none 0 0) ⟨#[1, 42, 1, 98]⟩ (.slice none 0 0) 0) 2 w :=
  check_alias ⟨#[1, 65]⟩ ⟨#[1, 42, 1, 98]⟩ _ _ nm_A (by decide) (by decide) nm_sb (by decide) (by decide) true w (fun W => wild_ok ⟨#[1, 42, 1, 98]⟩ _ nm_sb (by decide) W)
theorem ck_d {ga bq : Nat} {w : World} (ha : w.heap[ga]? = some (oAddrs false 0 16909060 true 0 1)) (hp : w.heap[bq]? = some (oPorts 443 80)) : CheckIs (ev hostBA 1 textX (.slice (some ⟨ga, 0, none⟩) 2 2) ByteArray.empty (.slice (some ⟨bq, 0, none⟩) 2 2) 30) 2 w :=
  check_fixed (c := true) (p := 443) (q := 80) hostBA textX _ 30 nm_ba (by decide) (by decide) (by decide) (by decide) (by omega) (twoAddrs_of ha) (acheck_four _ (by omega) (by omega)) (acheck_six 0 1) (by omega) hp (by omega) (by omega) (by omega)
theorem ck_e {ha hp : Nat} {w : World} (h : w.heap[ha]? = some (oAddrs false 0 16909060 false 0 16909060)) (h' : w.heap[hp]? = some (oPorts 80 443)) : CheckIs (ev hostBA 1 textX (.slice (some ⟨ha, 0, none⟩) 2 2) ByteArray.empty (.slice (some ⟨hp, 0, none⟩) 2 2) 30) 2 w :=
  check_fixed (c := false) (p := 80) (q := 443) hostBA textX _ 30 nm_ba (by decide) (by decide) (by decide) (by decide) (by omega) (twoAddrs_of h) (acheck_four _ (by omega) (by omega)) (acheck_four _ (by omega) (by omega)) (by omega) h' (by omega) (by omega) (by omega)
theorem host_two' (a b : UInt8) (g : Nat) (W : World) (h : W.heap[g]? = some (.cells #[.string ⟨#[a]⟩, .string ⟨#[b]⟩] 9 (0, 0))) : Calls Try.prog 20 #[.slice (some ⟨g, 0, none⟩) 2 2] W fun e w' => e = .returned (.string ⟨#[1, a, 1, b]⟩) ∧ Below W.heap.size W w' := by
  refine (host_any g 2 [[a], [b]] (by simp [Lab]) (by simp [enc, enc1]) W (lt_of_heap h) (Nat.le_refl _) (fun i l hi => ?_)).mono ?_
  · match i, hi with
    | 0, hi => cases hi; exact Lib.cell_of_heap h 0
    | 1, hi => cases hi; exact Lib.cell_of_heap h 1
  · rintro e w' ⟨rfl, hb⟩
    exact ⟨rfl, hb⟩
theorem fold_A : foldN [[65]] = ⟨#[1, 97]⟩ := by decide
theorem twoAddrs_cur {w : World} {g : Nat} {cur : Array Value} (hg : w.heap[g]? = some (.cells cur 56 (0, 0))) (hc : ∀ (j : Nat) (u : Value), fixedA[j]? = some u → cur[j]? = some u) (v : Int) (hv : cur[2]? = some (.int .u64 v)) : TwoAddrs g false true 0 v 0 1 w :=
  ⟨lt_of_heap hg, (Lib.cell_of_heap hg 0).trans (hc 0 _ rfl), (Lib.cell_of_heap hg 1).trans (hc 1 _ rfl), (Lib.cell_of_heap hg 2).trans hv, (Lib.cell_of_heap hg 3).trans (hc 3 _ rfl), (Lib.cell_of_heap hg 4).trans (hc 4 _ rfl), (Lib.cell_of_heap hg 5).trans (hc 5 _ rfl)⟩
theorem twoAddrs_five {w : World} {g : Nat} {cur : Array Value} (hg : w.heap[g]? = some (.cells (cur.setIfInBounds 2 (.int .u64 5)) 56 (0, 0))) (hc : ∀ (j : Nat) (u : Value), fixedA[j]? = some u → cur[j]? = some u) : TwoAddrs g false true 0 5 0 1 w := by
  have h2 := hc 2 _ rfl
  have hlt : 2 < cur.size := (Array.getElem?_eq_some_iff.1 h2).1
  have hs : ∀ j, j ≠ 2 → (cur.setIfInBounds 2 (.int .u64 5))[j]? = cur[j]? := fun j hj => Array.getElem?_setIfInBounds_ne (Ne.symm hj)
  have hs2 : (cur.setIfInBounds 2 (.int .u64 5))[2]? = some (.int .u64 5) := by rw [Array.getElem?_setIfInBounds_self, if_pos hlt]
  exact ⟨lt_of_heap hg, (Lib.cell_of_heap hg 0).trans ((hs 0 (by omega)).trans (hc 0 _ rfl)), (Lib.cell_of_heap hg 1).trans ((hs 1 (by omega)).trans (hc 1 _ rfl)), (Lib.cell_of_heap hg 2).trans hs2, (Lib.cell_of_heap hg 3).trans ((hs 3 (by omega)).trans (hc 3 _ rfl)), (Lib.cell_of_heap hg 4).trans ((hs 4 (by omega)).trans (hc 4 _ rfl)), (Lib.cell_of_heap hg 5).trans ((hs 5 (by omega)).trans (hc 5 _ rfl))⟩
theorem same_fix {B B' ga gp ga' gp' : Nat} {w : World} (h : FixedAt B ga gp w) (h' : FixedAt B' ga' gp' w) : Calls Try.prog 26 #[fixedV ga gp, fixedV ga' gp'] w fun e w' => e = .returned (.bool true) ∧ Below w.heap.size w w' :=
  same_rows hostBA textX ByteArray.empty 1 30 ga gp ga' gp' 2 2 2 2 w true
    (fun W hW => equalA_same ga ga' 2 2 false true 0 16909060 0 1 W (twoAddrs_of (h.later hW).ra) (twoAddrs_of (h'.later hW).ra) (Nat.le_refl _) (Nat.le_refl _))
    (fun W hW => equalI_same gp gp' 2 2 80 443 W (Lib.cell_of_heap (h.later hW).rp 0) (Lib.cell_of_heap (h.later hW).rp 1) (Lib.cell_of_heap (h'.later hW).rp 0) (Lib.cell_of_heap (h'.later hW).rp 1) (Nat.le_refl _) (Nat.le_refl _))
theorem same_five {B ga gp fa fp ca cp : Nat} {ua up : Array Value} {w : World} (h : FixedAt B ga gp w) (ha : w.heap[fa]? = some (.cells (ua.setIfInBounds 2 (.int .u64 5)) 56 (0, 0))) (hua : ∀ (j : Nat) (u : Value), fixedA[j]? = some u → ua[j]? = some u) (hp : w.heap[fp]? = some (.cells up 3 (0, 0))) (hup : ∀ (j : Nat) (u : Value), fixedP[j]? = some u → up[j]? = some u) (hca : 2 ≤ ca) (hcp : 2 ≤ cp) :
    Calls Try.prog 26 #[fixedV ga gp, ev hostBA 1 textX (.slice (some ⟨fa, 0, none⟩) 2 ca) ByteArray.empty (.slice (some ⟨fp, 0, none⟩) 2 cp) 30] w fun e w' => e = .returned (.bool false) ∧ Below w.heap.size w w' :=
  same_rows hostBA textX ByteArray.empty 1 30 ga gp fa fp 2 2 ca cp w false
    (fun W hW => equalA_diff ga fa 2 ca false true 0 16909060 5 0 1 W (by omega) (twoAddrs_of (h.later hW).ra) (twoAddrs_five ((hW.block _ (lt_of_heap ha)).trans ha) hua) (Nat.le_refl _) hca)
    (fun W hW => equalI_same gp fp 2 cp 80 443 W (Lib.cell_of_heap (h.later hW).rp 0) (Lib.cell_of_heap (h.later hW).rp 1) ((Lib.cell_of_heap ((hW.block _ (lt_of_heap hp)).trans hp) 0).trans (hup 0 _ rfl)) ((Lib.cell_of_heap ((hW.block _ (lt_of_heap hp)).trans hp) 1).trans (hup 1 _ rfl)) (Nat.le_refl _) hcp)
/-- all the blocks of the statement, and what its last line reads of them -/
abbrev enAll (bf fa ca fp cp : Nat) (up ua : Array Value) (gs : Nat) (us : Array Value) (gr : Nat) (ur : Array Value) (ba bb bc bd be ga gp ha hp bq : Nat) : List (Nat × Obj) :=
  (bf, eobj (ecs hostBA 1 textX (.slice (some ⟨fa, 0, none⟩) 2 ca) ByteArray.empty (.slice (some ⟨fp, 0, none⟩) 2 cp) 30)) :: (fp, .cells up 3 (0, 0)) :: (fa, .cells (ua.setIfInBounds 2 (.int .u64 5)) 56 (0, 0)) :: (gs, .cells us 66 (0, 0)) :: (gr, .cells ur 66 (0, 0)) :: enBoxes ba bb bc bd be ga gp ha hp bq
theorem en_cells {bf fa ca fp cp : Nat} {up ua : Array Value} {gs : Nat} {us : Array Value} {gr : Nat} {ur : Array Value} {ba bb bc bd be ga gp ha hp bq : Nat} {W : World} (h : Boxes (enAll bf fa ca fp cp up ua gs us gr ur ba bb bc bd be ga gp ha hp bq) W)
    (hu : ∀ (j : Nat) (u : Value), (rcs ⟨#[1, 113]⟩ 5 0 false 0 0 ⟨#[1, 98]⟩ 0)[j]? = some u → ur[j]? = some u) :
    ((((W.cell? ⟨ba, 0, none⟩ = some (.string ⟨#[1, 65]⟩) ∧ W.cell? ⟨ba, 1, none⟩ = some (.int .i64 3) ∧ W.cell? ⟨ba, 2, none⟩ = some (.string ByteArray.empty)) ∧ (W.cell? ⟨ba, 3, none⟩ = some (.slice none 0 0) ∧ W.cell? ⟨ba, 4, none⟩ = some (.string ⟨#[1, 98]⟩)) ∧ W.cell? ⟨ba, 5, none⟩ = some (.slice none 0 0) ∧ W.cell? ⟨ba, 6, none⟩ = some (.int .u32 0)) ∧ ((W.cell? ⟨bb, 0, none⟩ = some (.string ⟨#[1, 42, 1, 120]⟩) ∧ W.cell? ⟨bb, 1, none⟩ = some (.int .i64 2) ∧ W.cell? ⟨bb, 2, none⟩ = some (.string ⟨#[121]⟩)) ∧ (W.cell? ⟨bb, 3, none⟩ = some (.slice none 0 0) ∧ W.cell? ⟨bb, 4, none⟩ = some (.string ByteArray.empty)) ∧ W.cell? ⟨bb, 5, none⟩ = some (.slice none 0 0) ∧ W.cell? ⟨bb, 6, none⟩ = some (.int .u32 0))) ∧ ((W.cell? ⟨bc, 0, none⟩ = some (.string ⟨#[1, 65]⟩) ∧ W.cell? ⟨bc, 1, none⟩ = some (.int .i64 3) ∧ W.cell? ⟨bc, 2, none⟩ = some (.string ByteArray.empty)) ∧ (W.cell? ⟨bc, 3, none⟩ = some (.slice none 0 0) ∧ W.cell? ⟨bc, 4, none⟩ = some (.string ⟨#[1, 42, 1, 98]⟩)) ∧ W.cell? ⟨bc, 5, none⟩ = some (.slice none 0 0) ∧ W.cell? ⟨bc, 6, none⟩ = some (.int .u32 0)) ∧ ((W.cell? ⟨bd, 0, none⟩ = some (.string hostBA) ∧ W.cell? ⟨bd, 1, none⟩ = some (.int .i64 1) ∧ W.cell? ⟨bd, 2, none⟩ = some (.string textX)) ∧ (W.cell? ⟨bd, 3, none⟩ = some (.slice (some ⟨ga, 0, none⟩) 2 2) ∧ W.cell? ⟨bd, 4, none⟩ = some (.string ByteArray.empty)) ∧ W.cell? ⟨bd, 5, none⟩ = some (.slice (some ⟨bq, 0, none⟩) 2 2) ∧ W.cell? ⟨bd, 6, none⟩ = some (.int .u32 30))) ∧ (((W.cell? ⟨be, 0, none⟩ = some (.string hostBA) ∧ W.cell? ⟨be, 1, none⟩ = some (.int .i64 1) ∧ W.cell? ⟨be, 2, none⟩ = some (.string textX)) ∧ (W.cell? ⟨be, 3, none⟩ = some (.slice (some ⟨ha, 0, none⟩) 2 2) ∧ W.cell? ⟨be, 4, none⟩ = some (.string ByteArray.empty)) ∧ W.cell? ⟨be, 5, none⟩ = some (.slice (some ⟨hp, 0, none⟩) 2 2) ∧ W.cell? ⟨be, 6, none⟩ = some (.int .u32 30)) ∧ ((W.cell? ⟨bf, 0, none⟩ = some (.string hostBA) ∧ W.cell? ⟨bf, 1, none⟩ = some (.int .i64 1) ∧ W.cell? ⟨bf, 2, none⟩ = some (.string textX)) ∧ (W.cell? ⟨bf, 3, none⟩ = some (.slice (some ⟨fa, 0, none⟩) 2 ca) ∧ W.cell? ⟨bf, 4, none⟩ = some (.string ByteArray.empty)) ∧ W.cell? ⟨bf, 5, none⟩ = some (.slice (some ⟨fp, 0, none⟩) 2 cp) ∧ W.cell? ⟨bf, 6, none⟩ = some (.int .u32 30))) ∧ (W.cell? ⟨gr, 0, none⟩ = some (.string ⟨#[1, 113]⟩) ∧ W.cell? ⟨gr, 7, none⟩ = some (.string ⟨#[1, 98]⟩)) := by
  obtain ⟨a0, a1, a2, a3, a4, a5, a6, _⟩ := box_cells h.g14
  obtain ⟨b0, b1, b2, b3, b4, b5, b6, _⟩ := box_cells h.g13
  obtain ⟨c0, c1, c2, c3, c4, c5, c6, _⟩ := box_cells h.g12
  obtain ⟨d0, d1, d2, d3, d4, d5, d6, _⟩ := box_cells h.g9
  obtain ⟨e0, e1, e2, e3, e4, e5, e6, _⟩ := box_cells h.g5
  obtain ⟨f0, f1, f2, f3, f4, f5, f6, _⟩ := box_cells h.g0
  exact ⟨⟨⟨⟨⟨a0, a1, a2⟩, ⟨a3, a4⟩, a5, a6⟩, ⟨⟨b0, b1, b2⟩, ⟨b3, b4⟩, b5, b6⟩⟩, ⟨⟨c0, c1, c2⟩, ⟨c3, c4⟩, c5, c6⟩, ⟨⟨d0, d1, d2⟩, ⟨d3, d4⟩, d5, d6⟩⟩, ⟨⟨⟨e0, e1, e2⟩, ⟨e3, e4⟩, e5, e6⟩, ⟨⟨f0, f1, f2⟩, ⟨f3, f4⟩, f5, f6⟩⟩, (Lib.cell_of_heap h.g4 0).trans (hu 0 _ rfl), (Lib.cell_of_heap h.g4 7).trans (hu 7 _ rfl)⟩
theorem key_A (w : World) : Calls Try.prog 25 #[ev ⟨#[1, 65]⟩ 3 ByteArray.empty (.slice none 0 0) ⟨#[1, 98]⟩ (.slice none 0 0) 0] w fun e w' => e = .returned (.string ⟨#[1, 97]⟩) ∧ Below w.heap.size w w' := by
  have h := key_any ⟨#[1, 65]⟩ ByteArray.empty ⟨#[1, 98]⟩ 3 0 (.slice none 0 0) (.slice none 0 0) _ nm_A (by decide) w
  rw [fold_A] at h
  exact h
theorem host_one' (a : UInt8) (g : Nat) (W : World) (h : W.heap[g]? = some (.cells #[.string ⟨#[a]⟩] 9 (0, 0))) : Calls Try.prog 20 #[.slice (some ⟨g, 0, none⟩) 1 1] W fun e w' => e = .returned (.string ⟨#[1, a]⟩) ∧ Below W.heap.size W w' := by
  refine (host_any g 1 [[a]] (by simp [Lab]) (by simp [enc, enc1]) W (lt_of_heap h) (Nat.le_refl _) (fun i l hi => ?_)).mono ?_
  · match i, hi with
    | 0, hi => cases hi; exact Lib.cell_of_heap h 0
  · rintro e w' ⟨rfl, hb⟩
    exact ⟨rfl, hb⟩
theorem ck_0 (w : World) : CheckIs (ev ⟨#[]⟩ 0 ⟨#[]⟩ (.slice none 0 0) ⟨#[]⟩ (.slice none 0 0) 0) 2 w := check_empty ByteArray.empty ByteArray.empty 0 0 _ _ w
theorem ck_x (w : World) : CheckIs (ev ⟨#[120]⟩ 0 ⟨#[]⟩ (.slice none 0 0) ⟨#[]⟩ (.slice none 0 0) 0) 4 w := check_badhost textX ByteArray.empty ByteArray.empty 0 0 _ _ nm_x (by decide) w
end Go.Proofs.Ytniambdfgojgeaa
