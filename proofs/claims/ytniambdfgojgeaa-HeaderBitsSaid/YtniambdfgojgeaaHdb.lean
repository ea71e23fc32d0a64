/- The bits of a header's flags: plain numbers. -/
import Derived.Test.YtniambdfgojgeaaBase
namespace Go.Proofs.Ytniambdfgojgeaa
open Go.RowKit

theorem nat_or_bit (x i : Nat) (h : x / 2 ^ i % 2 = 0) : x ||| 2 ^ i = x + 2 ^ i := by
  have hq : x = 2 ^ (i + 1) * (x / 2 ^ (i + 1)) + x % 2 ^ i := by
    have h1 := Nat.div_add_mod x (2 ^ i)
    have h2 := Nat.div_add_mod (x / 2 ^ i) 2
    rw [h, Nat.add_zero, Nat.div_div_eq_div_mul] at h2
    rw [Nat.pow_succ, Nat.mul_assoc]
    rw [h2]
    omega
  have hr : x % 2 ^ i < 2 ^ i := Nat.mod_lt _ (Nat.two_pow_pos i)
  have hr2 : x % 2 ^ i < 2 ^ (i + 1) := by rw [Nat.pow_succ]; omega
  have hr3 : 2 ^ i * 1 + x % 2 ^ i < 2 ^ (i + 1) := by rw [Nat.pow_succ]; omega
  generalize x / 2 ^ (i + 1) = q at hq
  generalize x % 2 ^ i = r at hq hr hr2 hr3
  rw [hq, Nat.two_pow_add_eq_or_of_lt hr2 q, Nat.or_assoc, Nat.or_comm r]
  rw [show 2 ^ i ||| r = 2 ^ i * 1 + r from by rw [Nat.two_pow_add_eq_or_of_lt hr 1, Nat.mul_one]]
  rw [← Nat.two_pow_add_eq_or_of_lt hr3 q, ← Nat.two_pow_add_eq_or_of_lt hr2 q]
  omega

/-- a flag's bit -/
def fb (b : Bool) (n : Int) : Int := if b then n else 0
/-- the flags' number behind k of them -/
def fs (op rc : Int) (r aa tc rd ra ad cd : Bool) : Nat → Int
  | 0 => op * 2048 + rc
  | 1 => op * 2048 + rc + fb r 32768
  | 2 => op * 2048 + rc + fb r 32768 + fb aa 1024
  | 3 => op * 2048 + rc + fb r 32768 + fb aa 1024 + fb tc 512
  | 4 => op * 2048 + rc + fb r 32768 + fb aa 1024 + fb tc 512 + fb rd 256
  | 5 => op * 2048 + rc + fb r 32768 + fb aa 1024 + fb tc 512 + fb rd 256 + fb ra 128
  | 6 => op * 2048 + rc + fb r 32768 + fb aa 1024 + fb tc 512 + fb rd 256 + fb ra 128 + fb ad 32
  | _ => op * 2048 + rc + fb r 32768 + fb aa 1024 + fb tc 512 + fb rd 256 + fb ra 128 + fb ad 32 + fb cd 16

theorem or_bit (x : Int) (i : Nat) (hx : 0 ≤ x) (hx' : x < 65536) (hi : i < 16) (h : x / 2 ^ i % 2 = 0) : bits .or .u32 x (2 ^ i) = x + 2 ^ i := by
  obtain ⟨n, rfl⟩ := Int.eq_ofNat_of_zero_le hx
  have hp : 2 ^ i ≤ 2 ^ 15 := Nat.pow_le_pow_right (by omega) (by omega)
  have h' : n / 2 ^ i % 2 = 0 := by exact_mod_cast h
  have := u32_or_nat n (2 ^ i) (by omega) (by omega)
  rw [nat_or_bit n i h'] at this
  rw [Int.natCast_add, Int.natCast_pow] at this
  exact this

theorem or_start (op rc : Int) (h0 : 0 ≤ op) (h1 : op ≤ 15) (h2 : 0 ≤ rc) (h3 : rc ≤ 15) : bits .or .u32 (op * 2048) rc = op * 2048 + rc := by
  obtain ⟨n, rfl⟩ := Int.eq_ofNat_of_zero_le h0
  obtain ⟨m, rfl⟩ := Int.eq_ofNat_of_zero_le h2
  have := u32_or_nat (n * 2048) m (by omega) (by omega)
  rw [nat_join 11 (n * 2048) m (by omega) (by omega)] at this
  rw [Int.natCast_add, Int.natCast_mul] at this
  exact this

theorem fb_cases (b : Bool) (n : Int) : fb b n = n ∨ fb b n = 0 := by cases b <;> simp [fb]
theorem fs_bd (op rc : Int) (r aa tc rd ra ad cd : Bool) (h0 : 0 ≤ op) (h1 : op ≤ 15) (h2 : 0 ≤ rc) (h3 : rc ≤ 15) (k : Nat) : 0 ≤ fs op rc r aa tc rd ra ad cd k ∧ fs op rc r aa tc rd ra ad cd k < 65536 := by
  have a1 := fb_cases r 32768; have a2 := fb_cases aa 1024; have a3 := fb_cases tc 512; have a4 := fb_cases rd 256
  have a5 := fb_cases ra 128; have a6 := fb_cases ad 32; have a7 := fb_cases cd 16
  match k with
  | 0 | 1 | 2 | 3 | 4 | 5 | 6 | k + 7 => simp only [fs]; omega
theorem fs_or0 (op rc : Int) (r aa tc rd ra ad cd : Bool) (h0 : 0 ≤ op) (h1 : op ≤ 15) (h2 : 0 ≤ rc) (h3 : rc ≤ 15) : bits .or .u32 (fs op rc r aa tc rd ra ad cd 0) 32768 = fs op rc true aa tc rd ra ad cd 1 := by
  have hb := fs_bd op rc r aa tc rd ra ad cd h0 h1 h2 h3 0
  rw [show (32768 : Int) = 2 ^ 15 from rfl, or_bit _ 15 hb.1 hb.2 (by omega) (by simp only [fs]; omega)]
  simp only [fs, fb, if_true]; omega
theorem fs_or1 (op rc : Int) (r aa tc rd ra ad cd : Bool) (h0 : 0 ≤ op) (h1 : op ≤ 15) (h2 : 0 ≤ rc) (h3 : rc ≤ 15) : bits .or .u32 (fs op rc r aa tc rd ra ad cd 1) 1024 = fs op rc r true tc rd ra ad cd 2 := by
  have hb := fs_bd op rc r aa tc rd ra ad cd h0 h1 h2 h3 1
  have a1 := fb_cases r 32768
  rw [show (1024 : Int) = 2 ^ 10 from rfl, or_bit _ 10 hb.1 hb.2 (by omega) (by simp only [fs]; omega)]
  simp only [fs, fb, if_true]; omega
theorem fs_or2 (op rc : Int) (r aa tc rd ra ad cd : Bool) (h0 : 0 ≤ op) (h1 : op ≤ 15) (h2 : 0 ≤ rc) (h3 : rc ≤ 15) : bits .or .u32 (fs op rc r aa tc rd ra ad cd 2) 512 = fs op rc r aa true rd ra ad cd 3 := by
  have hb := fs_bd op rc r aa tc rd ra ad cd h0 h1 h2 h3 2
  have a1 := fb_cases r 32768; have a2 := fb_cases aa 1024
  rw [show (512 : Int) = 2 ^ 9 from rfl, or_bit _ 9 hb.1 hb.2 (by omega) (by simp only [fs]; omega)]
  simp only [fs, fb, if_true]; omega
theorem fs_or3 (op rc : Int) (r aa tc rd ra ad cd : Bool) (h0 : 0 ≤ op) (h1 : op ≤ 15) (h2 : 0 ≤ rc) (h3 : rc ≤ 15) : bits .or .u32 (fs op rc r aa tc rd ra ad cd 3) 256 = fs op rc r aa tc true ra ad cd 4 := by
  have hb := fs_bd op rc r aa tc rd ra ad cd h0 h1 h2 h3 3
  have a1 := fb_cases r 32768; have a2 := fb_cases aa 1024; have a3 := fb_cases tc 512
  rw [show (256 : Int) = 2 ^ 8 from rfl, or_bit _ 8 hb.1 hb.2 (by omega) (by simp only [fs]; omega)]
  simp only [fs, fb, if_true]; omega
theorem fs_or4 (op rc : Int) (r aa tc rd ra ad cd : Bool) (h0 : 0 ≤ op) (h1 : op ≤ 15) (h2 : 0 ≤ rc) (h3 : rc ≤ 15) : bits .or .u32 (fs op rc r aa tc rd ra ad cd 4) 128 = fs op rc r aa tc rd true ad cd 5 := by
  have hb := fs_bd op rc r aa tc rd ra ad cd h0 h1 h2 h3 4
  have a1 := fb_cases r 32768; have a2 := fb_cases aa 1024; have a3 := fb_cases tc 512; have a4 := fb_cases rd 256
  rw [show (128 : Int) = 2 ^ 7 from rfl, or_bit _ 7 hb.1 hb.2 (by omega) (by simp only [fs]; omega)]
  simp only [fs, fb, if_true]; omega
theorem fs_or5 (op rc : Int) (r aa tc rd ra ad cd : Bool) (h0 : 0 ≤ op) (h1 : op ≤ 15) (h2 : 0 ≤ rc) (h3 : rc ≤ 15) : bits .or .u32 (fs op rc r aa tc rd ra ad cd 5) 32 = fs op rc r aa tc rd ra true cd 6 := by
  have hb := fs_bd op rc r aa tc rd ra ad cd h0 h1 h2 h3 5
  have a1 := fb_cases r 32768; have a2 := fb_cases aa 1024; have a3 := fb_cases tc 512; have a4 := fb_cases rd 256
  have a5 := fb_cases ra 128
  rw [show (32 : Int) = 2 ^ 5 from rfl, or_bit _ 5 hb.1 hb.2 (by omega) (by simp only [fs]; omega)]
  simp only [fs, fb, if_true]; omega
theorem fs_or6 (op rc : Int) (r aa tc rd ra ad cd : Bool) (h0 : 0 ≤ op) (h1 : op ≤ 15) (h2 : 0 ≤ rc) (h3 : rc ≤ 15) : bits .or .u32 (fs op rc r aa tc rd ra ad cd 6) 16 = fs op rc r aa tc rd ra ad true 7 := by
  have hb := fs_bd op rc r aa tc rd ra ad cd h0 h1 h2 h3 6
  have a1 := fb_cases r 32768; have a2 := fb_cases aa 1024; have a3 := fb_cases tc 512; have a4 := fb_cases rd 256
  have a5 := fb_cases ra 128; have a6 := fb_cases ad 32
  rw [show (16 : Int) = 2 ^ 4 from rfl, or_bit _ 4 hb.1 hb.2 (by omega) (by simp only [fs]; omega)]
  simp only [fs, fb, if_true]; omega
theorem fs_no0 (op rc : Int) (aa tc rd ra ad cd : Bool) : fs op rc false aa tc rd ra ad cd 0 = fs op rc false aa tc rd ra ad cd 1 := by simp [fs, fb]
theorem fs_no1 (op rc : Int) (r tc rd ra ad cd : Bool) : fs op rc r false tc rd ra ad cd 1 = fs op rc r false tc rd ra ad cd 2 := by simp [fs, fb]
theorem fs_no2 (op rc : Int) (r aa rd ra ad cd : Bool) : fs op rc r aa false rd ra ad cd 2 = fs op rc r aa false rd ra ad cd 3 := by simp [fs, fb]
theorem fs_no3 (op rc : Int) (r aa tc ra ad cd : Bool) : fs op rc r aa tc false ra ad cd 3 = fs op rc r aa tc false ra ad cd 4 := by simp [fs, fb]
theorem fs_no4 (op rc : Int) (r aa tc rd ad cd : Bool) : fs op rc r aa tc rd false ad cd 4 = fs op rc r aa tc rd false ad cd 5 := by simp [fs, fb]
theorem fs_no5 (op rc : Int) (r aa tc rd ra cd : Bool) : fs op rc r aa tc rd ra false cd 5 = fs op rc r aa tc rd ra false cd 6 := by simp [fs, fb]
theorem fs_no6 (op rc : Int) (r aa tc rd ra ad : Bool) : fs op rc r aa tc rd ra ad false 6 = fs op rc r aa tc rd ra ad false 7 := by simp [fs, fb]

theorem ofInt_i64' (a : Nat) (ha : a < 9223372036854775808) : (BitVec.ofInt 64 (a : Int)).toNat = a := by
  rw [BitVec.ofInt_natCast, BitVec.toNat_ofNat]; exact Nat.mod_eq_of_lt (by omega)
theorem i64_and_nat' (a b : Nat) (ha : a < 9223372036854775808) (hb : b < 9223372036854775808) : bits .and .i64 (a : Int) (b : Int) = ((a &&& b : Nat) : Int) := by
  have hx : a &&& b < 2 ^ 63 := Nat.and_lt_two_pow _ (by omega)
  show IntKind.i64.wrap ((BitVec.ofInt 64 (a : Int) &&& BitVec.ofInt 64 (b : Int)).toNat : Int) = _
  rw [BitVec.toNat_and, ofInt_i64' a ha, ofInt_i64' b hb, IntKind.wrap_i64]
  omega
theorem and1_i64 (x : Int) (h0 : 0 ≤ x) (h1 : x < 65536) : bits .and .i64 x 1 = x % 2 := by
  obtain ⟨n, rfl⟩ := Int.eq_ofNat_of_zero_le h0
  have := i64_and_nat' n 1 (by omega) (by omega)
  rw [nat_mask1] at this
  exact this
theorem and15_i64 (x : Int) (h0 : 0 ≤ x) (h1 : x < 65536) : bits .and .i64 x 15 = x % 16 := by
  obtain ⟨n, rfl⟩ := Int.eq_ofNat_of_zero_le h0
  have := i64_and_nat' n 15 (by omega) (by omega)
  rw [nat_mask4] at this
  exact this
theorem flag_test (x : Int) (h0 : 0 ≤ x) (h1 : x < 65536) (b : Bool) (h : x % 2 = fb b 1) : (!(bits .and .i64 x 1 == 1) == b) = false := by
  rw [and1_i64 x h0 h1, h]
  cases b <;> rfl
theorem fb_scale (b : Bool) (n : Int) : fb b n = fb b 1 * n := by cases b <;> simp [fb]
theorem fs_tests (op rc : Int) (r aa tc rd ra ad cd : Bool) (h0 : 0 ≤ op) (h1 : op ≤ 15) (h2 : 0 ≤ rc) (h3 : rc ≤ 15) : let F := fs op rc r aa tc rd ra ad cd 7
    ((!(bits .and .i64 (F / 32768) 1 == 1) == r) = false ∧ (!(bits .and .i64 (F / 1024) 1 == 1) == aa) = false ∧ (!(bits .and .i64 (F / 512) 1 == 1) == tc) = false ∧ (!(bits .and .i64 (F / 256) 1 == 1) == rd) = false) ∧
    ((!(bits .and .i64 (F / 128) 1 == 1) == ra) = false ∧ (!(bits .and .i64 (F / 32) 1 == 1) == ad) = false ∧ (!(bits .and .i64 (F / 16) 1 == 1) == cd) = false) ∧
    (bits .and .i64 (F / 2048) 15 == op) = true ∧ (bits .and .i64 F 15 == rc) = true ∧ (bits .and .i64 (F / 64) 1 == 0) = true := by
  intro F
  have hb := fs_bd op rc r aa tc rd ra ad cd h0 h1 h2 h3 7
  have a1 := fb_cases r 1; have a2 := fb_cases aa 1; have a3 := fb_cases tc 1; have a4 := fb_cases rd 1
  have a5 := fb_cases ra 1; have a6 := fb_cases ad 1; have a7 := fb_cases cd 1
  have e : F = op * 2048 + rc + fb r 1 * 32768 + fb aa 1 * 1024 + fb tc 1 * 512 + fb rd 1 * 256 + fb ra 1 * 128 + fb ad 1 * 32 + fb cd 1 * 16 := by
    show fs op rc r aa tc rd ra ad cd 7 = _
    simp only [fs]
    rw [fb_scale r 32768, fb_scale aa 1024, fb_scale tc 512, fb_scale rd 256, fb_scale ra 128, fb_scale ad 32, fb_scale cd 16]
  have hb0 : 0 ≤ F := hb.1
  have hb1 : F < 65536 := hb.2
  generalize F = x at e hb0 hb1
  refine ⟨⟨flag_test _ (by omega) (by omega) _ ?_, flag_test _ (by omega) (by omega) _ ?_, flag_test _ (by omega) (by omega) _ ?_, flag_test _ (by omega) (by omega) _ ?_⟩,
    ⟨flag_test _ (by omega) (by omega) _ ?_, flag_test _ (by omega) (by omega) _ ?_, flag_test _ (by omega) (by omega) _ ?_⟩, ?_, ?_, ?_⟩
  · omega
  · omega
  · omega
  · omega
  · omega
  · omega
  · omega
  · rw [and15_i64 _ (by omega) (by omega)]; simp only [beq_iff_eq]; omega
  · rw [and15_i64 _ (by omega) (by omega)]; simp only [beq_iff_eq]; omega
  · rw [and1_i64 _ (by omega) (by omega)]; simp only [beq_iff_eq]; omega
end Go.Proofs.Ytniambdfgojgeaa
