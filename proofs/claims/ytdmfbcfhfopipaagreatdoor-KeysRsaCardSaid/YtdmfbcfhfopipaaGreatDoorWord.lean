/- Words of 32 bits; bits.RotateLeft32, digest.mix, digest.keys. -/
import Derived.Test.YtdmfbcfhfopipaaGreatDoorBits
import Derived.Test.YtdmfbcfhfopipaaGreatDoorBase
namespace Go.Proofs.YtdmfbcfhfopipaaGreatDoor
open Go.RowKit

abbrev W32 := BitVec 32
/-- A word as the model's whole number. -/
def wd (x : W32) : Int := (x.toNat : Int)
def vw (x : W32) : Value := .int .u32 (wd x)
theorem wd_lit (n : Nat) (h : n < 4294967296) : wd (BitVec.ofNat 32 n) = (n : Int) := by simp [wd]; omega
theorem wd_nonneg (x : W32) : 0 ≤ wd x := by simp [wd]
theorem wd_lt (x : W32) : wd x < 4294967296 := by have := x.isLt; simp only [wd]; omega
theorem wd_inj {x y : W32} (h : wd x = wd y) : x = y := by apply BitVec.eq_of_toNat_eq; simp only [wd] at h; omega
theorem ofInt_wd (x : W32) : BitVec.ofInt 32 (wd x) = x := by simp [wd]
theorem wd_xor (x y : W32) : bits .xor .u32 (wd x) (wd y) = wd (x ^^^ y) := by
  show IntKind.u32.wrap ((BitVec.ofInt 32 (wd x) ^^^ BitVec.ofInt 32 (wd y)).toNat : Int) = _
  rw [ofInt_wd, ofInt_wd, IntKind.wrap_u32]; have := (x ^^^ y).isLt; simp only [wd]; omega
theorem wd_or (x y : W32) : bits .or .u32 (wd x) (wd y) = wd (x ||| y) := by
  show IntKind.u32.wrap ((BitVec.ofInt 32 (wd x) ||| BitVec.ofInt 32 (wd y)).toNat : Int) = _
  rw [ofInt_wd, ofInt_wd, IntKind.wrap_u32]; have := (x ||| y).isLt; simp only [wd]; omega
theorem wd_and (x y : W32) : bits .and .u32 (wd x) (wd y) = wd (x &&& y) := by
  show IntKind.u32.wrap ((BitVec.ofInt 32 (wd x) &&& BitVec.ofInt 32 (wd y)).toNat : Int) = _
  rw [ofInt_wd, ofInt_wd, IntKind.wrap_u32]; have := (x &&& y).isLt; simp only [wd]; omega
theorem wd_add (x y : W32) : IntKind.u32.wrap (wd x + wd y) = wd (x + y) := by
  rw [IntKind.wrap_u32]; simp only [wd, BitVec.toNat_add]; omega
theorem wd_shl (x : W32) (n : Nat) : wd x * 2 ^ n % 4294967296 = wd (x <<< n) := by
  have e2 : ((x.toNat : Int) * 2 ^ n) = ((x.toNat * 2 ^ n : Nat) : Int) := by push_cast; rfl
  simp only [wd, BitVec.toNat_shiftLeft, Nat.shiftLeft_eq]
  rw [e2, show (2 ^ 32 : Nat) = 4294967296 from rfl]
  omega
theorem wd_shr (x : W32) (n : Nat) : wd x / 2 ^ n = wd (x >>> n) := by
  simp only [wd, BitVec.toNat_ushiftRight, Nat.shiftRight_eq_div_pow]
  push_cast; rfl

/-- The turn of a word to the left (k mod 32). -/
def rotW (x : W32) (k : Nat) : W32 := (x <<< k) ||| (x >>> (32 - k))
def rotS (k : Int) : Nat := (k % 32).toNat
theorem rotS_le (k : Int) : rotS k < 32 := by unfold rotS; omega
theorem and31 (k : Int) : bits .and .u64 (IntKind.u64.wrap k) 31 = (rotS k : Int) := by
  have h1 := rotS_le k
  have hk : ∃ n : Nat, IntKind.u64.wrap k = (n : Int) ∧ n < 18446744073709551616 ∧ n % 32 = rotS k := by
    refine ⟨(IntKind.u64.wrap k).toNat, ?_, ?_, ?_⟩ <;> rw [IntKind.wrap_u64] <;> (try unfold rotS) <;> omega
  obtain ⟨n, e, hn, hm⟩ := hk
  rw [e]
  show IntKind.u64.wrap ((BitVec.ofInt 64 (n : Int) &&& BitVec.ofInt 64 ((31 : Nat) : Int)).toNat : Int) = _
  rw [BitVec.toNat_and, ofInt_i64 n (by omega), ofInt_i64 31 (by omega), show (31 : Nat) = 2 ^ 5 - 1 from rfl, Nat.and_two_pow_sub_one_eq_mod, IntKind.wrap_u64]
  omega

theorem rot_any (x : W32) (k : Int) (w : World) : Calls Tryz.prog 83 #[.int .u32 (wd x), .int .i64 k] w fun e w' => e = .returned (.int .u32 (wd (rotW x (rotS k)))) ∧ w = w' := by
  have hs := and31 k
  have h1 := rotS_le k
  have q1 := wd_shl x (rotS k)
  have q3 : IntKind.u64.wrap (32 - (rotS k : Int)) = ((32 - rotS k : Nat) : Int) := by rw [IntKind.wrap_u64]; omega
  have q2 := wd_shr x (32 - rotS k)
  have q4 : bits .or .u32 (wd (x <<< rotS k)) (wd (x >>> (32 - rotS k))) = wd (rotW x (rotS k)) := wd_or _ _
  generalize hq : rotW x (rotS k) = r at q4 ⊢
  have q1' := Lib.hid hq; clear hq
  go_enter Tryz.func83, Tryz.ntmps83
  go_wp2_with fail
  go_ret
  exact ⟨rfl, rfl⟩

/-- Three turns. -/
def mixW (x : W32) (a b c : Int) : W32 := (rotW x (rotS (-a)) ^^^ rotW x (rotS (-b))) ^^^ rotW x (rotS (-c))
theorem mix_any (x : W32) (a b c : Int) (w : World) (ha : 0 ≤ a ∧ a < 64) (hb : 0 ≤ b ∧ b < 64) (hc : 0 ≤ c ∧ c < 64) :
    Calls Tryz.prog 84 #[.int .u32 (wd x), .int .i64 a, .int .i64 b, .int .i64 c] w fun e w' => e = .returned (.int .u32 (wd (mixW x a b c))) ∧ w = w' := by
  have q1 : IntKind.i64.wrap (-a) = -a := IntWalk.i64_in _ (by omega)
  have q2 : IntKind.i64.wrap (-b) = -b := IntWalk.i64_in _ (by omega)
  have q3 : IntKind.i64.wrap (-c) = -c := IntWalk.i64_in _ (by omega)
  have q4 := wd_xor
  have q5 : (rotW x (rotS (-a)) ^^^ rotW x (rotS (-b))) ^^^ rotW x (rotS (-c)) = mixW x a b c := rfl
  go_enter Tryz.func84, Tryz.ntmps84
  go_wp2_with (go_at_call 83; refine (rot_any _ _ _).mono ?_; rintro e w' ⟨rfl, rfl⟩)
  go_ret
  exact ⟨rfl, rfl⟩
end Go.Proofs.YtdmfbcfhfopipaaGreatDoor
