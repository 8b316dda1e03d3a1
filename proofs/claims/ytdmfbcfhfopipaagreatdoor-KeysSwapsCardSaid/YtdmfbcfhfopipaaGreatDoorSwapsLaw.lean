/- KeysSwaps: what its law computes is true. -/
import Derived.Test.YtdmfbcfhfopipaaGreatDoorFitsLaw
namespace Go.Proofs.YtdmfbcfhfopipaaGreatDoor
open Go.RowKit

def tagW (n : Nat) : Int := if n % 2 = 0 then 256 else 1
theorem tagSum_set : ∀ (l : List UInt8) (i p : Nat) (x : UInt8), p < l.length →
    tagSum (l.set p x) i = tagSum l i + tagW (i + p) * ((x.toNat : Int) - ((l.getD p 0).toNat : Int)) := by
  intro l
  induction l with
  | nil => intro i p x h; simp at h
  | cons b l ih =>
    intro i p x h
    cases p with
    | zero =>
      simp only [List.set_cons_zero, tagSum, tagW, Nat.add_zero, List.getD_cons_zero]
      split <;> omega
    | succ p =>
      simp only [List.set_cons_succ, tagSum, List.getD_cons_succ]
      rw [ih (i + 1) p x (by simpa using h), show i + (p + 1) = i + 1 + p by omega]
      omega

/-- Two pairs of bytes, changed for each other. -/
def swapL (l : List UInt8) (a b : Nat) : List UInt8 :=
  (((l.set a (l.getD b 0)).set (a + 1) (l.getD (b + 1) 0)).set b (l.getD a 0)).set (b + 1) (l.getD (a + 1) 0)
theorem swapL_len (l : List UInt8) (a b : Nat) : (swapL l a b).length = l.length := by simp [swapL]
theorem getD_set_ne {l : List UInt8} {p q : Nat} (x : UInt8) (h : p ≠ q) : (l.set p x).getD q 0 = l.getD q 0 := by
  simp [List.getD, List.getElem?_set_ne h]
theorem set_getD_self (l : List UInt8) (p : Nat) : l.set p (l.getD p 0) = l := by
  by_cases h : p < l.length
  · simp [List.getD, List.getElem?_eq_getElem h]
  · rw [List.set_eq_of_length_le (by omega)]
theorem swapL_same (l : List UInt8) (a : Nat) : swapL l a a = l := by
  have e : (l.set a (l.getD a 0)).set (a + 1) (l.getD (a + 1) 0) = l := by rw [set_getD_self, set_getD_self]
  rw [swapL, e, e]
theorem swapL_sum (l : List UInt8) (a b : Nat) (ha : a % 2 = 0) (hb : b % 2 = 0) (la : a + 1 < l.length) (lb : b + 1 < l.length) : tagSum (swapL l a b) 0 = tagSum l 0 := by
  by_cases h : a = b
  · subst h; rw [swapL_same]
  · unfold swapL
    rw [tagSum_set _ _ _ _ (by simp; omega), tagSum_set _ _ _ _ (by simp; omega), tagSum_set _ _ _ _ (by simp; omega), tagSum_set _ _ _ _ (by omega)]
    rw [getD_set_ne _ (by omega), getD_set_ne _ (by omega), getD_set_ne _ (by omega), getD_set_ne _ (by omega), getD_set_ne _ (by omega), getD_set_ne _ (by omega)]
    simp only [tagW, Nat.zero_add]
    rw [if_pos ha, if_pos hb, if_neg (by omega), if_neg (by omega)]
    omega
theorem swap_tag {d c : ByteArray} {a b : Nat} (hc : c.data.toList = swapL d.data.toList a b) (ha : a % 2 = 0) (hb : b % 2 = 0) (la : a + 1 < d.size) (lb : b + 1 < d.size) : tagOf c = tagOf d := by
  have hl : d.data.toList.length = d.size := by simp
  rw [tagOf, tagOf, hc, swapL_sum _ _ _ ha hb (by omega) (by omega)]
theorem keyRight_same {d c : ByteArray} (h : c.size = d.size) : keyRight c = keyRight d := by rw [keyRight, keyRight, h]
theorem digest_err_size {d c : ByteArray} (kind : Int) (owner : ByteArray) (h : c.size = d.size) : (keysDigest kind owner c).2 = (keysDigest kind owner d).2 := by
  unfold keysDigest
  rw [keyRight_same h]
  split
  · rfl
  · split
    · rfl
    · split
      · rfl
      · split <;> rfl
theorem keysOf_2 (owner d : ByteArray) (kind : Int) : (keysOf owner d kind).2 = (keysDigest kind owner d).2 := by
  unfold keysOf
  split
  · rename_i h; rw [h]
  · rfl
theorem keysOf_tag (owner d : ByteArray) (kind : Int) : (keysOf owner d kind).1.tag = if (keysDigest kind owner d).2 = 0 then tagOf d else 0 := by
  unfold keysOf
  split <;> rfl
end Go.Proofs.YtdmfbcfhfopipaaGreatDoor
