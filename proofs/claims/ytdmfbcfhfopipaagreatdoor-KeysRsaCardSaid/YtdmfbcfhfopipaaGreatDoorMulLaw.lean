/- The laws of products, shifts and powers, digit by digit. -/
import Derived.Test.YtdmfbcfhfopipaaGreatDoorVal
namespace Go.Proofs.YtdmfbcfhfopipaaGreatDoor
theorem mul_step {A c P M Z x y o : Nat} (h : A + c * P = Z + M) (A' t lo hi : Nat) (ht : t = x * y + o + c) (hlo : t = lo + 4294967296 * hi) (hA : A' + P * o = A + P * lo) : A' + hi * (P * 4294967296) = Z + (M + x * y * P) := by
  have e1 : P * t = x * y * P + P * o + c * P := by rw [ht]; grind
  have e2 : P * t = P * lo + hi * (P * 4294967296) := by rw [hlo]; grind
  omega
/-- Digit i, and what is above. -/
theorem div_split (x i : Nat) : x / 4294967296 ^ i = x / 4294967296 ^ i % 4294967296 + 4294967296 * (x / 4294967296 ^ (i + 1)) := by
  rw [Nat.pow_succ, ← Nat.div_div_eq_div_mul]
  omega
theorem shr_dig (W i b : Nat) (hb : b < 32) : W / 2 ^ b / 4294967296 ^ i % 4294967296 = ((W / 4294967296 ^ i % 4294967296 + W / 4294967296 ^ (i + 1) % 4294967296 * 4294967296) / 2 ^ b) % 4294967296 := by
  rw [Nat.div_div_eq_div_mul, Nat.mul_comm, ← Nat.div_div_eq_div_mul]
  have h1 := div_split W i
  generalize W / 4294967296 ^ (i + 1) = Y at *
  generalize W / 4294967296 ^ i = X at *
  have hk : 2 ^ b * 2 ^ (32 - b) = 4294967296 := by rw [← Nat.pow_add, show b + (32 - b) = 32 by omega]
  have hp : 0 < 2 ^ b := Nat.two_pow_pos b
  generalize 2 ^ b = k at *
  generalize 2 ^ (32 - b) = m at *
  have e : X = (X % 4294967296 + Y % 4294967296 * 4294967296) + k * (m * (4294967296 * (Y / 4294967296))) := by
    rw [← Nat.mul_assoc, hk]
    omega
  conv => lhs; rw [e, Nat.add_mul_div_left _ _ hp]
  rw [show m * (4294967296 * (Y / 4294967296)) = 4294967296 * (m * (Y / 4294967296)) by grind, Nat.add_mul_mod_self_left]
theorem bit_dig (e k : Nat) : (e / 4294967296 ^ (k / 32) % 4294967296) / 2 ^ (k % 32) % 2 = e / 2 ^ k % 2 := by
  have h1 : (4294967296 : Nat) ^ (k / 32) = 2 ^ (32 * (k / 32)) := by rw [Nat.pow_mul]
  have h2 : 2 ^ k = 2 ^ (32 * (k / 32)) * 2 ^ (k % 32) := by rw [← Nat.pow_add]; congr 1; omega
  rw [h1, h2, ← Nat.div_div_eq_div_mul]
  generalize e / 2 ^ (32 * (k / 32)) = X
  have hk : 2 ^ (k % 32) * (2 * 2 ^ (31 - k % 32)) = 4294967296 := by
    rw [show (2 : Nat) * 2 ^ (31 - k % 32) = 2 ^ (1 + (31 - k % 32)) by rw [Nat.pow_add], ← Nat.pow_add, show k % 32 + (1 + (31 - k % 32)) = 32 by omega]
  have hp : 0 < 2 ^ (k % 32) := Nat.two_pow_pos _
  generalize 2 ^ (k % 32) = a at *
  generalize 2 ^ (31 - k % 32) = m at *
  have e : X = X % 4294967296 + a * (2 * (m * (X / 4294967296))) := by
    rw [show a * (2 * (m * (X / 4294967296))) = (a * (2 * m)) * (X / 4294967296) by grind, hk]
    omega
  conv => rhs; rw [e, Nat.add_mul_div_left _ _ hp]
  omega
theorem pow_low (s e k n : Nat) : s ^ (e % 2 ^ (k + 1)) % n = if e / 2 ^ k % 2 = 1 then (s ^ (e % 2 ^ k) % n) * (s ^ 2 ^ k % n) % n else s ^ (e % 2 ^ k) % n := by
  have h : e % 2 ^ (k + 1) = e % 2 ^ k + 2 ^ k * (e / 2 ^ k % 2) := by rw [Nat.pow_succ, Nat.mod_mul]
  rw [h]
  split
  · rename_i h1
    rw [h1, Nat.mul_one, Nat.pow_add, Nat.mul_mod]
  · rename_i h1
    rw [show e / 2 ^ k % 2 = 0 by omega, Nat.mul_zero, Nat.add_zero]
theorem pow_two (s k n : Nat) : s ^ 2 ^ (k + 1) % n = (s ^ 2 ^ k % n) * (s ^ 2 ^ k % n) % n := by
  rw [Nat.pow_succ, Nat.pow_mul, Nat.pow_two, Nat.mul_mod]
theorem pow_high (s e k n : Nat) : s ^ (e / 2 ^ k) % n = if e / 2 ^ k % 2 = 1 then ((s ^ (e / 2 ^ (k + 1)) % n) * (s ^ (e / 2 ^ (k + 1)) % n) % n) * (s % n) % n else (s ^ (e / 2 ^ (k + 1)) % n) * (s ^ (e / 2 ^ (k + 1)) % n) % n := by
  have h : e / 2 ^ k = 2 * (e / 2 ^ (k + 1)) + e / 2 ^ k % 2 := by rw [Nat.pow_succ, ← Nat.div_div_eq_div_mul]; omega
  generalize hz : e / 2 ^ k % 2 = z at h
  have hz2 : z < 2 := by omega
  generalize e / 2 ^ (k + 1) = y at *
  rw [h, Nat.pow_add, Nat.mul_comm 2 y, Nat.pow_mul, Nat.pow_two]
  split
  · rename_i h1
    rw [h1, Nat.pow_one, Nat.mul_mod (s ^ y * s ^ y) s, ← Nat.mul_mod (s ^ y) (s ^ y)]
  · rw [show z = 0 by omega, Nat.pow_zero, Nat.mul_one, ← Nat.mul_mod]
/-- Shifted up: one digit more. -/
theorem shl_step {A A' P x k d : Nat} (h : A = x * k) (hA : A' = A + P * (d * k % 4294967296) + P * 4294967296 * (d * k / 4294967296)) : A' = (x + P * d) * k := by
  have e : P * (d * k) = P * (d * k % 4294967296) + P * 4294967296 * (d * k / 4294967296) := by
    rw [Nat.mul_assoc, ← Nat.mul_add, Nat.mod_add_div]
  rw [hA, h, Nat.add_mul, Nat.mul_assoc P d k, e]
  omega
theorem nd_digN (x j : Nat) : ((nd x).getD j 0).toNat = x / 4294967296 ^ j % 4294967296 := by rw [nd_dig, BitVec.toNat_ofNat]
theorem dig_eq {x y j : Nat} (h : x / 4294967296 ^ (j + 1) = y / 4294967296 ^ (j + 1)) (hd : (nd x).getD j 0 = (nd y).getD j 0) : x / 4294967296 ^ j = y / 4294967296 ^ j := by
  have h1 := congrArg BitVec.toNat hd
  rw [nd_digN, nd_digN] at h1
  rw [div_split x j, div_split y j, h1, h]
theorem dig_lt {x y j : Nat} (h : x / 4294967296 ^ (j + 1) = y / 4294967296 ^ (j + 1)) (hd : ((nd x).getD j 0).toNat < ((nd y).getD j 0).toNat) : x < y := by
  rw [nd_digN, nd_digN] at hd
  refine Nat.lt_of_not_le fun hle => ?_
  have h1 : y / 4294967296 ^ j ≤ x / 4294967296 ^ j := Nat.div_le_div_right hle
  have hx := div_split x j
  have hy := div_split y j
  rw [h] at hx
  omega
theorem len_lt {x y : Nat} (h : (nd x).length < (nd y).length) : x < y := by
  refine Nat.lt_of_not_le fun hle => ?_
  have := nd_len_mono hle
  omega
theorem top_eq {x y : Nat} (h : (nd x).length = (nd y).length) : x / 4294967296 ^ (nd x).length = y / 4294967296 ^ (nd x).length := by
  rw [Nat.div_eq_of_lt (nd_high x), Nat.div_eq_of_lt (by rw [h]; exact nd_high y)]
/-- Which of two numbers is less. -/
def cmpI (x y : Nat) : Int := if x < y then -1 else if x = y then 0 else 1
theorem cmpI_lt {x y : Nat} (h : x < y) : cmpI x y = -1 := by rw [cmpI, if_pos h]
theorem cmpI_gt {x y : Nat} (h : y < x) : cmpI x y = 1 := by rw [cmpI, if_neg (by omega), if_neg (by omega)]
theorem cmpI_eq (x : Nat) : cmpI x x = 0 := by rw [cmpI, if_neg (by omega), if_pos rfl]
theorem cmpI_neg {x y : Nat} : cmpI x y < 0 ↔ x < y := by unfold cmpI; split <;> (try split) <;> omega
theorem cmpI_nonneg {x y : Nat} : 0 ≤ cmpI x y ↔ y ≤ x := by unfold cmpI; split <;> (try split) <;> omega
theorem cmpI_zero {x y : Nat} : cmpI x y = 0 ↔ x = y := by unfold cmpI; split <;> (try split) <;> omega
end Go.Proofs.YtdmfbcfhfopipaaGreatDoor
