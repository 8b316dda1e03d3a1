/- The document's own words of a digest (its chapter 4): left, right, word, rounds, tell. -/
import Derived.Test.YtdmfbcfhfopipaaGreatDoorBlocks
namespace Go.Proofs.YtdmfbcfhfopipaaGreatDoor
open Go.RowKit

/-- The turn of a word to the right. -/
def rorW (x : W32) (n : Nat) : W32 := (x >>> n) ||| (x <<< (32 - n))
theorem ref_left (x : W32) (n : Nat) (h : n < 32) (w : World) : Calls Tryz.prog 67 #[.int .u32 (wd x), .int .i64 n] w fun e w' => e = .returned (.int .u32 (wd (rotW x n))) ∧ ∃ m, w' = w.drewN m := by
  have q1 := wd_shl x n
  have q2 := wd_shr x (32 - n)
  have q3 : IntKind.i64.wrap (32 - (n : Int)) = ((32 - n : Nat) : Int) := by rw [IntWalk.i64_in _ (by omega)]; omega
  have q5 : (32 : Int) - (n : Int) = ((32 - n : Nat) : Int) := by omega
  have q4 : bits .or .u32 (wd (x <<< n)) (wd (x >>> (32 - n))) = wd (rotW x n) := wd_or _ _
  generalize hq : rotW x n = r at q4 ⊢
  have q1' := Lib.hid hq; clear hq
  have m1 : min n 32 = n := by omega
  have m2 : min (32 - n) 32 = 32 - n := by omega
  have hn : (0 : Int) ≤ (n : Int) := by omega
  go_enter Tryz.func67, Tryz.ntmps67
  go_wp2_with fail
  go_quiet (fail)
  go_wp2_with fail
  go_ret
  exact ⟨rfl, nq, rfl⟩
theorem ref_ror (x : W32) (n : Nat) (h : n < 32) (w : World) : Calls Tryz.prog 71 #[.int .u32 (wd x), .int .i64 n] w fun e w' => e = .returned (.int .u32 (wd (rorW x n))) ∧ ∃ m, w' = w.drewN m := by
  have q1 := wd_shl x (32 - n)
  have q2 := wd_shr x n
  have q3 : IntKind.i64.wrap (32 - (n : Int)) = ((32 - n : Nat) : Int) := by rw [IntWalk.i64_in _ (by omega)]; omega
  have q5 : (32 : Int) - (n : Int) = ((32 - n : Nat) : Int) := by omega
  have q4 : bits .or .u32 (wd (x >>> n)) (wd (x <<< (32 - n))) = wd (rorW x n) := wd_or _ _
  generalize hq : rorW x n = r at q4 ⊢
  have q1' := Lib.hid hq; clear hq
  have m1 : min n 32 = n := by omega
  have m2 : min (32 - n) 32 = 32 - n := by omega
  have hn : (0 : Int) ≤ (n : Int) := by omega
  go_enter Tryz.func71, Tryz.ntmps71
  go_wp2_with fail
  go_quiet (fail)
  go_wp2_with fail
  go_ret
  exact ⟨rfl, nq, rfl⟩

theorem word4_nat (a b c d : UInt8) : (word4 a b c d).toNat = a.toNat * 16777216 + b.toNat * 65536 + c.toNat * 256 + d.toNat := by
  have ha := a.toNat_lt; have hb := b.toNat_lt; have hc := c.toNat_lt; have hd := d.toNat_lt
  have e1 : ∀ (x : Nat) (k : Nat), x < 256 → k ≤ 24 → (BitVec.ofNat 32 x <<< k).toNat = x <<< k := by
    intro x k hx hk
    rw [BitVec.toNat_shiftLeft, BitVec.toNat_ofNat, Nat.mod_eq_of_lt (a := x) (by omega), Nat.mod_eq_of_lt]
    rw [Nat.shiftLeft_eq]
    have : 2 ^ k ≤ 2 ^ 24 := Nat.pow_le_pow_right (by omega) hk
    have : x * 2 ^ k ≤ 255 * 2 ^ 24 := Nat.mul_le_mul (by omega) this
    omega
  rw [word4, BitVec.toNat_or, BitVec.toNat_or, BitVec.toNat_or, e1 _ _ ha (by omega), e1 _ _ hb (by omega), e1 _ _ hc (by omega), BitVec.toNat_ofNat, Nat.mod_eq_of_lt (a := d.toNat) (by omega)]
  have s1 : a.toNat <<< 24 ||| b.toNat <<< 16 = (a.toNat * 256 + b.toNat) <<< 16 := by
    rw [← Nat.shiftLeft_add_eq_or_of_lt (i := 24) (by rw [Nat.shiftLeft_eq]; omega)]
    rw [Nat.shiftLeft_eq, Nat.shiftLeft_eq, Nat.shiftLeft_eq]; omega
  have s2 : (a.toNat * 256 + b.toNat) <<< 16 ||| c.toNat <<< 8 = ((a.toNat * 256 + b.toNat) * 256 + c.toNat) <<< 8 := by
    rw [← Nat.shiftLeft_add_eq_or_of_lt (i := 16) (by rw [Nat.shiftLeft_eq]; omega)]
    rw [Nat.shiftLeft_eq, Nat.shiftLeft_eq, Nat.shiftLeft_eq]; omega
  rw [s1, s2, ← Nat.shiftLeft_add_eq_or_of_lt (i := 8) (by omega), Nat.shiftLeft_eq]; omega
set_option maxRecDepth 100000 in
theorem ref_word_at (s : ByteArray) (p p1 p2 p3 : Nat) (i1 : (p : Int) + 1 = (p1 : Int)) (i2 : (p : Int) + 2 = (p2 : Int)) (i3 : (p : Int) + 3 = (p3 : Int)) (l0 : p < s.size) (l1 : p1 < s.size) (l2 : p2 < s.size) (l3 : p3 < s.size) (hs : s.size ≤ 9223372036854775000)
    (x0 x1 x2 x3 : UInt8) (hx0 : s[p] = x0) (hx1 : s[p1] = x1) (hx2 : s[p2] = x2) (hx3 : s[p3] = x3) (w : World) :
    Calls Tryz.prog 66 #[.string s, .int .i64 p] w fun e w' => e = .returned (.int .u32 (wd (word4 x0 x1 x2 x3))) ∧ ∃ m, w' = w.drewN m := by
  have b0 := x0.toNat_lt; have b1 := x1.toNat_lt; have b2 := x2.toNat_lt; have b3 := x3.toNat_lt
  have hw : wd (word4 x0 x1 x2 x3) = (x0.toNat : Int) * 16777216 + (x1.toNat : Int) * 65536 + (x2.toNat : Int) * 256 + (x3.toNat : Int) := by
    rw [wd, word4_nat]; omega
  generalize wd (word4 x0 x1 x2 x3) = r at hw ⊢
  have HW := Lib.hid hw
  clear hw
  go_enter Tryz.func66, Tryz.ntmps66
  go_wp2_with fail
  go_quiet (fail)
  go_wp2_with fail
  go_ret
  refine ⟨ret_int ?_, nq, rfl⟩
  rw [HW.out]
theorem getD_get (s : ByteArray) (k : Nat) (h : k < s.size) : s.data.toList.getD k 0 = s[k] := by
  simp [List.getD, List.getElem?_eq_getElem (show k < s.data.toList.length by simpa using h)]; rfl
theorem ref_word (s : ByteArray) (p : Nat) (h : p + 3 < s.size) (hs : s.size ≤ 9223372036854775000) (w : World) :
    Calls Tryz.prog 66 #[.string s, .int .i64 p] w fun e w' => e = .returned (.int .u32 (wd (word4 (s.data.toList.getD p 0) (s.data.toList.getD (p + 1) 0) (s.data.toList.getD (p + 2) 0) (s.data.toList.getD (p + 3) 0)))) ∧ ∃ m, w' = w.drewN m :=
  ref_word_at s p (p + 1) (p + 2) (p + 3) (by omega) (by omega) (by omega) (by omega) (by omega) (by omega) h hs _ _ _ _ (getD_get s _ _).symm (getD_get s _ _).symm (getD_get s _ _).symm (getD_get s _ _).symm w

/-- The words of the rounds, in a row of the call's own. -/
theorem ref_rounds (w : World) : Calls Tryz.prog 70 #[] w fun e w' => e = .returned (.slice (some ⟨w.heap.size, 0, none⟩) 64 64) ∧ w' = w.alloc (.cells (encW K256) 64) := by
  rw [K256_enc]
  go_enter Tryz.func70, Tryz.ntmps70
  go_wp2_with fail
  go_ret
  exact ⟨rfl, rfl⟩
end Go.Proofs.YtdmfbcfhfopipaaGreatDoor
