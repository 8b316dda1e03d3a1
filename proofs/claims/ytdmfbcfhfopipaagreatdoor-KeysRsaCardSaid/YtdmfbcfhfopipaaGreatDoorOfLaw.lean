/- The digits of bytes, told from their end: the program's and the document's. -/
import Derived.Test.YtdmfbcfhfopipaaGreatDoorTrimLaw
namespace Go.Proofs.YtdmfbcfhfopipaaGreatDoor
open Go.RowKit

/-- Byte k of a row, the last first; none behind its beginning. -/
def rb (l : List UInt8) (k : Nat) : Nat := if k < l.length then (l.getD (l.length - 1 - k) 0).toNat else 0
theorem rb_lt (l : List UInt8) (k : Nat) : rb l k < 256 := by
  unfold rb
  split
  · exact UInt8.toNat_lt _
  · omega
/-- Digit d, n of its four bytes taken. -/
def partN (l : List UInt8) (d : Nat) : Nat → Nat
  | 0 => 0
  | n + 1 => partN l d n * 256 + rb l (4 * d + 3 - n)
theorem partN_lt (l : List UInt8) (d n : Nat) : partN l d n < 2 ^ (8 * n) := by
  induction n with
  | zero => simp [partN]
  | succ n ih =>
    have := rb_lt l (4 * d + 3 - n)
    have e : 2 ^ (8 * (n + 1)) = 2 ^ (8 * n) * 256 := by rw [show 8 * (n + 1) = 8 * n + 8 by omega, Nat.pow_add]
    rw [partN, e]
    omega
theorem partN_zero (l : List UInt8) (d n : Nat) (h : l.length ≤ 4 * d + 4 - n) (hn : n ≤ 4) : partN l d n = 0 := by
  induction n with
  | zero => rfl
  | succ n ih =>
    rw [partN, ih (by omega) (by omega), rb, if_neg (by omega)]
theorem or_disjoint (y x a : Nat) (hx : x < 2 ^ 8) : (y * 2 ^ (8 * (a + 1))) ||| (x * 2 ^ (8 * a)) = (y * 256 + x) * 2 ^ (8 * a) := by
  have hb : x * 2 ^ (8 * a) < 2 ^ (8 * (a + 1)) := by
    rw [show 8 * (a + 1) = 8 + 8 * a by omega, Nat.pow_add]
    exact Nat.mul_lt_mul_of_pos_right hx (Nat.two_pow_pos _)
  have h := Nat.two_pow_add_eq_or_of_lt hb y
  rw [Nat.mul_comm y, ← h]
  rw [show 8 * (a + 1) = 8 * a + 8 by omega, Nat.pow_add, Nat.add_mul, Nat.mul_comm y 256, Nat.mul_assoc]
  congr 1
  exact Nat.mul_comm _ _
theorem set_getD (l : List W32) (i j : Nat) (x : W32) (hi : i < l.length) : (l.set i x).getD j 0 = if j = i then x else l.getD j 0 := by
  simp only [List.getD, List.getElem?_set]
  by_cases e : i = j
  · subst e; simp [hi]
  · rw [if_neg e, if_neg (fun h => e h.symm)]
theorem ofRun_part (l : List UInt8) : ∀ i, i ≤ l.length → ∀ d, 4 * d < l.length → ((ofRun l i).getD d 0).toNat = partN l d (4 - min 4 (l.length - 4 * d - i)) * 2 ^ (8 * min 4 (l.length - 4 * d - i)) := by
  intro i
  induction i with
  | zero =>
    intro _ d hd
    have hz : partN l d (4 - min 4 (l.length - 4 * d - 0)) = 0 := by
      by_cases h4 : 4 ≤ l.length - 4 * d - 0
      · rw [show 4 - min 4 (l.length - 4 * d - 0) = 0 by omega]; rfl
      · exact partN_zero l d _ (by omega) (by omega)
    rw [hz]
    simp [ofRun, List.getD, show d < (l.length + 3) / 4 by omega]
  | succ i ih =>
    intro hi d hd
    rw [ofRun, set_getD _ _ _ _ (by rw [ofRun_len]; omega)]
    by_cases e : d = (l.length - 1 - i) / 4
    · rw [if_pos e, ← e]
      have hs := ih (by omega) d hd
      generalize ha : (l.length - 1 - i) % 4 = a
      have h1 : min 4 (l.length - 4 * d - i) = a + 1 := by omega
      have h2 : min 4 (l.length - 4 * d - (i + 1)) = a := by omega
      rw [h1] at hs
      rw [h2]
      have ha4 : a < 4 := by omega
      have hrb : rb l (4 * d + 3 - (4 - (a + 1))) = (l.getD i 0).toNat := by
        rw [rb, if_pos (by omega), show l.length - 1 - (4 * d + 3 - (4 - (a + 1))) = i by omega]
      rw [show 4 - a = (4 - (a + 1)) + 1 by omega, partN, hrb]
      have hx := (l.getD i 0).toNat_lt
      have hp := partN_lt l d (4 - (a + 1))
      generalize (l.getD i 0).toNat = x at hx ⊢
      generalize partN l d (4 - (a + 1)) = y at hs hp ⊢
      rw [BitVec.toNat_or, hs, BitVec.toNat_shiftLeft, BitVec.toNat_ofNat, Nat.shiftLeft_eq]
      have hlt : x * 2 ^ (8 * a) < 2 ^ 32 := by
        refine Nat.lt_of_lt_of_le (Nat.mul_lt_mul_of_pos_right (show x < 2 ^ 8 by omega) (Nat.two_pow_pos _)) ?_
        rw [← Nat.pow_add]
        exact Nat.pow_le_pow_right (by omega) (by omega)
      rw [Nat.mod_eq_of_lt (show x < 2 ^ 32 by omega), Nat.mod_eq_of_lt hlt]
      exact or_disjoint y x a (by omega)
    · rw [if_neg e, ih (by omega) d hd]
      have h1 : min 4 (l.length - 4 * d - i) = min 4 (l.length - 4 * d - (i + 1)) := by omega
      rw [h1]
theorem ofRun_dig (l : List UInt8) (d : Nat) : ((ofRun l l.length).getD d 0).toNat = partN l d 4 := by
  by_cases h : 4 * d < l.length
  · have := ofRun_part l l.length (Nat.le_refl _) d h
    rw [this, show min 4 (l.length - 4 * d - l.length) = 0 by omega]
    simp
  · rw [partN_zero l d 4 (by omega) (by omega), getD_past _ _ (by rw [ofRun_len]; omega)]
    rfl
/-- The document's digits. -/
def docDigs (l : List UInt8) : List W32 := (List.range ((l.length + 3) / 4)).map fun d => BitVec.ofNat 32 (partN l d 4)
theorem docDigs_len (l : List UInt8) : (docDigs l).length = (l.length + 3) / 4 := by simp [docDigs]
theorem docDigs_dig (l : List UInt8) (d : Nat) : (docDigs l).getD d 0 = BitVec.ofNat 32 (partN l d 4) := by
  by_cases h : d < (l.length + 3) / 4
  · simp [docDigs, List.getD, h]
  · rw [getD_past _ _ (by rw [docDigs_len]; omega), partN_zero l d 4 (by omega) (by omega)]
    rfl
theorem strip_rb (l : List UInt8) (k : Nat) : rb (stripL l) k = rb l k := by
  unfold stripL
  induction l with
  | nil => rfl
  | cons a l ih =>
    unfold Lib.trimLeftB at *
    rw [List.dropWhile_cons]
    split
    · rename_i hz
      rw [ih]
      have ha : a = 0 := by simpa using hz
      subst ha
      unfold rb
      by_cases h : k < l.length
      · rw [if_pos h, if_pos (by simp; omega), List.length_cons, show l.length + 1 - 1 - k = (l.length - 1 - k) + 1 by omega]
        rfl
      · rw [if_neg h]
        split
        · rename_i h2
          rw [List.length_cons] at h2 ⊢
          rw [show l.length + 1 - 1 - k = 0 by omega]
          rfl
        · rfl
    · rfl
theorem strip_part (l : List UInt8) (d n : Nat) : partN (stripL l) d n = partN l d n := by
  induction n with
  | zero => rfl
  | succ n ih => rw [partN, partN, ih, strip_rb]
theorem doc_trim (l : List UInt8) : trimL (docDigs l) = numDigs l := by
  rw [numDigs]
  refine trim_ext fun d => ?_
  rw [docDigs_dig, ← strip_part, ← ofRun_dig]
  simp
end Go.Proofs.YtdmfbcfhfopipaaGreatDoor
