/- The number that digits of 32 bits tell, the least first; a number's own digits. -/
import Derived.Test.YtdmfbcfhfopipaaGreatDoorTrimLaw
namespace Go.Proofs.YtdmfbcfhfopipaaGreatDoor
open Go.RowKit

/-- The number that digits tell. -/
def va : List W32 → Nat
  | [] => 0
  | x :: l => x.toNat + 4294967296 * va l
theorem va_append (a b : List W32) : va (a ++ b) = va a + 4294967296 ^ a.length * va b := by
  induction a with
  | nil => simp [va]
  | cons x a ih =>
    rw [List.cons_append, va, va, ih, List.length_cons, Nat.pow_succ, Nat.mul_add, ← Nat.mul_assoc, Nat.mul_comm 4294967296 (4294967296 ^ a.length)]
    omega
theorem va_lt (l : List W32) : va l < 4294967296 ^ l.length := by
  induction l with
  | nil => simp [va]
  | cons x l ih =>
    have hx : x.toNat < 4294967296 := x.isLt
    rw [va, List.length_cons, Nat.pow_succ]
    omega
theorem va_zero (n : Nat) : va (List.replicate n 0) = 0 := by
  induction n with
  | zero => rfl
  | succ n ih => rw [List.replicate_succ, va, ih]; rfl
theorem va_take (l : List W32) (i : Nat) (h : i < l.length) : va (l.take (i + 1)) = va (l.take i) + 4294967296 ^ i * (l.getD i 0).toNat := by
  rw [List.take_succ_eq_append_getElem h, va_append, List.length_take, Nat.min_eq_left (by omega)]
  simp [va, List.getD, h]
theorem va_split (l : List W32) (i : Nat) (h : i ≤ l.length) : va l = va (l.take i) + 4294967296 ^ i * va (l.drop i) := by
  conv => lhs; rw [← List.take_append_drop i l]
  rw [va_append, List.length_take, Nat.min_eq_left h]
theorem va_drop (l : List W32) (i : Nat) (h : i < l.length) : va (l.drop i) = (l.getD i 0).toNat + 4294967296 * va (l.drop (i + 1)) := by
  rw [List.drop_eq_getElem_cons h, va]
  simp [List.getD, h]
theorem va_set (l : List W32) (i : Nat) (x : W32) (h : i < l.length) : va (l.set i x) + 4294967296 ^ i * (l.getD i 0).toNat = va l + 4294967296 ^ i * x.toNat := by
  induction l generalizing i with
  | nil => simp at h
  | cons y l ih =>
    cases i with
    | zero => simp [va, List.getD]; omega
    | succ i =>
      have := ih i (by simpa using h)
      rw [List.set_cons_succ, va, va, List.getD_cons_succ, Nat.pow_succ]
      rw [Nat.mul_comm (4294967296 ^ i) 4294967296, Nat.mul_assoc, Nat.mul_assoc]
      omega
theorem ofNat_toNat (x : W32) (y : Nat) : BitVec.ofNat 32 (x.toNat + 4294967296 * y) = x := by
  apply BitVec.eq_of_toNat_eq
  have hx : x.toNat < 4294967296 := x.isLt
  rw [BitVec.toNat_ofNat]
  omega
theorem va_dig (l : List W32) (i : Nat) : l.getD i 0 = BitVec.ofNat 32 (va l / 4294967296 ^ i) := by
  induction l generalizing i with
  | nil => simp [va]
  | cons x l ih =>
    cases i with
    | zero => rw [va, Nat.pow_zero, Nat.div_one, ofNat_toNat]; rfl
    | succ i =>
      rw [List.getD_cons_succ, ih i, va, Nat.pow_succ, Nat.mul_comm _ 4294967296, ← Nat.div_div_eq_div_mul]
      have hx : x.toNat < 4294967296 := x.isLt
      rw [show (x.toNat + 4294967296 * va l) / 4294967296 = va l by omega]
/-- A number's digits. -/
def nd (n : Nat) : List W32 := if h : n = 0 then [] else BitVec.ofNat 32 n :: nd (n / 4294967296)
termination_by n
decreasing_by omega
theorem nd_zero : nd 0 = [] := by rw [nd]; simp
theorem nd_pos {n : Nat} (h : n ≠ 0) : nd n = BitVec.ofNat 32 n :: nd (n / 4294967296) := by rw [nd, dif_neg h]
theorem va_nd (n : Nat) : va (nd n) = n := by
  induction n using Nat.strongRecOn with
  | _ n ih =>
    by_cases h : n = 0
    · subst h; rw [nd_zero]; rfl
    · rw [nd_pos h, va, ih _ (by omega), BitVec.toNat_ofNat]; omega
theorem nd_last (n : Nat) (h : n ≠ 0) : 0 < (nd n).length ∧ (nd n).getD ((nd n).length - 1) 0 ≠ 0 := by
  induction n using Nat.strongRecOn with
  | _ n ih =>
    rw [nd_pos h]
    by_cases h2 : n / 4294967296 = 0
    · rw [h2, nd_zero]
      refine ⟨by simp, fun h3 => ?_⟩
      have h4 : BitVec.ofNat 32 n = 0 := by simpa using h3
      have h5 := congrArg BitVec.toNat h4
      rw [BitVec.toNat_ofNat] at h5
      simp at h5
      omega
    · have h3 := ih _ (by omega) h2
      refine ⟨by simp, ?_⟩
      rw [List.length_cons, show (nd (n / 4294967296)).length + 1 - 1 = ((nd (n / 4294967296)).length - 1) + 1 by omega, List.getD_cons_succ]
      exact h3.2
theorem trimN_last (l : List W32) (h : 0 < l.length) (hl : l.getD (l.length - 1) 0 ≠ 0) : trimN l l.length = l.length := by
  obtain ⟨n, hn⟩ : ∃ n, l.length = n + 1 := ⟨l.length - 1, by omega⟩
  rw [hn] at hl ⊢
  rw [Nat.add_sub_cancel] at hl
  rw [trimN, if_neg hl]
theorem trim_nd (n : Nat) : trimL (nd n) = nd n := by
  by_cases h : n = 0
  · subst h; rw [nd_zero]; rfl
  · obtain ⟨h1, h2⟩ := nd_last n h
    rw [trimL, trimN_last _ h1 h2, List.take_length]
theorem nd_va (l : List W32) : nd (va l) = trimL l := by
  rw [← trim_nd]
  refine trim_ext fun i => ?_
  rw [va_dig (nd (va l)), va_nd, ← va_dig]
theorem va_trim (l : List W32) : va (trimL l) = va l := by rw [← nd_va, va_nd]
theorem nd_dig (n i : Nat) : (nd n).getD i 0 = BitVec.ofNat 32 (n / 4294967296 ^ i) := by rw [va_dig, va_nd]
theorem nd_low (n : Nat) (h : n ≠ 0) : 4294967296 ^ ((nd n).length - 1) ≤ n := by
  obtain ⟨h1, h2⟩ := nd_last n h
  obtain ⟨k, hk⟩ : ∃ k, (nd n).length = k + 1 := ⟨(nd n).length - 1, by omega⟩
  rw [hk, Nat.add_sub_cancel] at h2
  rw [hk, Nat.add_sub_cancel]
  rw [nd_dig] at h2
  have : n / 4294967296 ^ k ≠ 0 := fun h3 => h2 (by rw [h3]; rfl)
  have := (Nat.div_ne_zero_iff.mp this).2
  exact this
theorem nd_high (n : Nat) : n < 4294967296 ^ (nd n).length := by
  have := va_lt (nd n)
  rwa [va_nd] at this
theorem nd_len_le (n k : Nat) (h : n < 4294967296 ^ k) : (nd n).length ≤ k := by
  by_cases h0 : n = 0
  · subst h0; rw [nd_zero]; exact Nat.zero_le _
  · have h1 := nd_low n h0
    have h2 := (nd_last n h0).1
    have h3 : 4294967296 ^ ((nd n).length - 1) < 4294967296 ^ k := Nat.lt_of_le_of_lt h1 h
    have := (Nat.pow_lt_pow_iff_right (by omega : 1 < 4294967296)).mp h3
    omega
theorem nd_len_mono {m n : Nat} (h : m ≤ n) : (nd m).length ≤ (nd n).length := nd_len_le _ _ (Nat.lt_of_le_of_lt h (nd_high n))
theorem nd_len_mul (m n : Nat) : (nd (m * n)).length ≤ (nd m).length + (nd n).length := by
  refine nd_len_le _ _ ?_
  rw [Nat.pow_add]
  exact Nat.mul_lt_mul_of_lt_of_lt (nd_high m) (nd_high n)
theorem nd_nil {n : Nat} : nd n = [] ↔ n = 0 := by
  constructor
  · intro h
    have := va_nd n
    rw [h] at this
    exact this.symm
  · rintro rfl; exact nd_zero
theorem nd_inj {m n : Nat} (h : nd m = nd n) : m = n := by rw [← va_nd m, h, va_nd]
end Go.Proofs.YtdmfbcfhfopipaaGreatDoor
