/- The digests' schedules: a row of all words (the document's) and a ring of sixteen (the program's) give the same. -/
import Derived.Test.YtdmfbcfhfopipaaGreatDoorRefWord
import Derived.Test.YtdmfbcfhfopipaaGreatDoorSum1
import Derived.Test.YtdmfbcfhfopipaaGreatDoorSum2
namespace Go.Proofs.YtdmfbcfhfopipaaGreatDoor
open Go.RowKit

theorem ror_rot (x : W32) (n : Nat) (h0 : 0 < n) (h : n < 32) : rorW x n = rotW x (32 - n) := by
  rw [rorW, rotW, BitVec.or_comm, show 32 - (32 - n) = n by omega]
theorem ch_eq (a b c : W32) : (a &&& b) ^^^ ((a ^^^ 4294967295#32) &&& c) = c ^^^ (a &&& (b ^^^ c)) := by
  apply BitVec.eq_of_getLsbD_eq
  intro i hi
  have h1 : (4294967295#32).getLsbD i = true := by
    rw [show (4294967295#32) = BitVec.allOnes 32 from rfl, BitVec.getLsbD_allOnes]
    exact decide_eq_true hi
  simp only [BitVec.getLsbD_xor, BitVec.getLsbD_and, h1]
  cases a.getLsbD i <;> cases b.getLsbD i <;> cases c.getLsbD i <;> rfl
theorem ch1_eq (b c d : W32) : (b &&& c) ||| ((b ^^^ 4294967295#32) &&& d) = d ^^^ (b &&& (c ^^^ d)) := by
  apply BitVec.eq_of_getLsbD_eq
  intro i hi
  have h1 : (4294967295#32).getLsbD i = true := by
    rw [show (4294967295#32) = BitVec.allOnes 32 from rfl, BitVec.getLsbD_allOnes]
    exact decide_eq_true hi
  simp only [BitVec.getLsbD_xor, BitVec.getLsbD_and, BitVec.getLsbD_or, h1]
  cases b.getLsbD i <;> cases c.getLsbD i <;> cases d.getLsbD i <;> rfl
theorem maj_eq (a b c : W32) : ((a &&& b) ^^^ (a &&& c)) ^^^ (b &&& c) = (a &&& b) ||| (c &&& (a ||| b)) := by
  apply BitVec.eq_of_getLsbD_eq
  intro i _
  simp only [BitVec.getLsbD_xor, BitVec.getLsbD_and, BitVec.getLsbD_or]
  cases a.getLsbD i <;> cases b.getLsbD i <;> cases c.getLsbD i <;> rfl
theorem maj1_eq (b c d : W32) : ((b &&& c) ||| (b &&& d)) ||| (c &&& d) = (b &&& c) ||| (d &&& (b ||| c)) := by
  apply BitVec.eq_of_getLsbD_eq
  intro i _
  simp only [BitVec.getLsbD_and, BitVec.getLsbD_or]
  cases b.getLsbD i <;> cases c.getLsbD i <;> cases d.getLsbD i <;> rfl
def r0 (x : W32) : W32 := (rorW x 7 ^^^ rorW x 18) ^^^ x >>> (3 : Nat)
def r1 (x : W32) : W32 := (rorW x 17 ^^^ rorW x 19) ^^^ x >>> (10 : Nat)
theorem r0_eq (x : W32) : r0 x = g0 x := by
  rw [r0, g0, ror_rot x 7 (by omega) (by omega), ror_rot x 18 (by omega) (by omega)]; rfl
theorem r1_eq (x : W32) : r1 x = g1 x := by
  rw [r1, g1, ror_rot x 17 (by omega) (by omega), ror_rot x 19 (by omega) (by omega)]; rfl
def ror3 (x : W32) (a b c : Nat) : W32 := (rorW x a ^^^ rorW x b) ^^^ rorW x c
theorem ror3_6 (x : W32) : ror3 x 6 11 25 = mixW x 6 11 25 := by
  rw [ror3, mixW, ror_rot x 6 (by omega) (by omega), ror_rot x 11 (by omega) (by omega), ror_rot x 25 (by omega) (by omega)]; rfl
theorem ror3_2 (x : W32) : ror3 x 2 13 22 = mixW x 2 13 22 := by
  rw [ror3, mixW, ror_rot x 2 (by omega) (by omega), ror_rot x 13 (by omega) (by omega), ror_rot x 22 (by omega) (by omega)]; rfl

/-- A row of words, each made of those ahead of it. -/
def schedW (b : List W32) (f : List W32 → Nat → W32) : Nat → List W32
  | 0 => []
  | i + 1 => schedW b f i ++ [if i < 16 then b.getD i 0 else f (schedW b f i) i]
theorem schedW_len (b : List W32) (f : List W32 → Nat → W32) (i : Nat) : (schedW b f i).length = i := by
  induction i with
  | zero => rfl
  | succ i ih => simp [schedW, ih]
def atW (b : List W32) (f : List W32 → Nat → W32) (k : Nat) : W32 := if k < 16 then b.getD k 0 else f (schedW b f k) k
theorem schedW_get (b : List W32) (f : List W32 → Nat → W32) (i k : Nat) (h : k < i) : (schedW b f i).getD k 0 = atW b f k := by
  induction i with
  | zero => omega
  | succ i ih =>
    rw [schedW]
    by_cases e : k = i
    · subst e
      rw [List.getD_eq_getElem?_getD, List.getElem?_append_right (by rw [schedW_len]; omega), schedW_len, Nat.sub_self]
      rfl
    · rw [List.getD_eq_getElem?_getD, List.getElem?_append_left (by rw [schedW_len]; omega), ← List.getD_eq_getElem?_getD]
      exact ih (by omega)
def f2 (l : List W32) (i : Nat) : W32 := ((l.getD (i - 16) 0 + r0 (l.getD (i - 15) 0)) + l.getD (i - 7) 0) + r1 (l.getD (i - 2) 0)
def f160 (l : List W32) (i : Nat) : W32 := rotW (((l.getD (i - 3) 0 ^^^ l.getD (i - 8) 0) ^^^ l.getD (i - 14) 0) ^^^ l.getD (i - 16) 0) 1

theorem getD_set_same {l : List W32} {p : Nat} (x : W32) (h : p < l.length) : (l.set p x).getD p 0 = x := by simp [List.getD, h]
theorem getD_set_far {l : List W32} {p q : Nat} (x : W32) (h : p ≠ q) : (l.set p x).getD q 0 = l.getD q 0 := by simp [List.getD, List.getElem?_set_ne h]
/-- A ring that keeps the last sixteen. -/
theorem ring_at (b : List W32) (_h16 : b.length = 16) (f : List W32 → Nat → W32) (R : Nat → List W32) (ring : List W32 → Nat → List W32) (h0 : R 0 = b) (hs : ∀ n, R (n + 1) = ring (R n) n) (hlen : ∀ n, (R n).length = 16)
    (hlow : ∀ r n, n < 16 → ring r n = r)
    (hring : ∀ r n, 16 ≤ n → r.length = 16 → (∀ k, k < n → n ≤ k + 16 → r.getD (k % 16) 0 = atW b f k) → ring r n = r.set (n % 16) (f (schedW b f n) n)) :
    ∀ n k, (k < 16 ∨ k < n) → n ≤ k + 16 → (R n).getD (k % 16) 0 = atW b f k := by
  intro n
  induction n with
  | zero =>
    intro k hk _
    have hk' : k < 16 := by omega
    rw [h0, Nat.mod_eq_of_lt hk', atW, if_pos hk']
  | succ n ih =>
    intro k hk hnk
    rw [hs]
    by_cases hn : n < 16
    · rw [hlow _ _ hn]
      exact ih k (by omega) (by omega)
    · rw [hring _ _ (by omega) (hlen n) (fun j h1 h2 => ih j (.inr h1) h2)]
      by_cases e : k = n
      · subst e
        rw [getD_set_same _ (by rw [hlen]; omega), atW, if_neg hn]
      · rw [getD_set_far _ (by omega)]
        exact ih k (.inr (by omega)) (by omega)

theorem run2_word (h b : List W32) (h16 : b.length = 16) (n : Nat) : (run2 h b (n + 1)).1 = step2 (run2 h b n).1 (K256.getD n 0) (atW b f2 n) := by
  have key := ring_at b h16 f2 (fun n => (run2 h b n).2) ring2 rfl (fun n => rfl) (fun n => (run2_len h b n).2.trans h16) (fun r n hn => by rw [ring2, if_neg (by omega)])
    (fun r n hn hr hk => by
      rw [ring2, if_pos hn]
      congr 1
      rw [f2, schedW_get _ _ _ _ (by omega), schedW_get _ _ _ _ (by omega), schedW_get _ _ _ _ (by omega), schedW_get _ _ _ _ (by omega), r0_eq, r1_eq,
        ← hk (n - 16) (by omega) (by omega), ← hk (n - 15) (by omega) (by omega), ← hk (n - 7) (by omega) (by omega), ← hk (n - 2) (by omega) (by omega), show (n - 16) % 16 = n % 16 by omega]
      rw [BitVec.add_assoc, BitVec.add_assoc, BitVec.add_assoc])
  have := key (n + 1) n (.inr (by omega)) (by omega)
  show step2 (run2 h b n).1 (K256.getD n 0) ((run2 h b (n + 1)).2.getD (n % 16) 0) = _
  rw [this]
theorem run1_word (h b : List W32) (h16 : b.length = 16) (n : Nat) : (run1 h b (n + 1)).1 = step1 (run1 h b n).1 n (atW b f160 n) := by
  have key := ring_at b h16 f160 (fun n => (run1 h b n).2) ring1 rfl (fun n => rfl) (fun n => (run1_len h b n).2.trans h16) (fun r n hn => by rw [ring1, if_neg (by omega)])
    (fun r n hn hr hk => by
      rw [ring1, if_pos hn]
      congr 1
      rw [f160, schedW_get _ _ _ _ (by omega), schedW_get _ _ _ _ (by omega), schedW_get _ _ _ _ (by omega), schedW_get _ _ _ _ (by omega),
        ← hk (n - 16) (by omega) (by omega), ← hk (n - 14) (by omega) (by omega), ← hk (n - 8) (by omega) (by omega), ← hk (n - 3) (by omega) (by omega), show (n - 16) % 16 = n % 16 by omega]
      rfl)
  have := key (n + 1) n (.inr (by omega)) (by omega)
  show step1 (run1 h b n).1 n ((run1 h b (n + 1)).2.getD (n % 16) 0) = _
  rw [this]
theorem step2_ref (v0 v1 v2 v3 v4 v5 v6 v7 k w : W32) : step2 [v0, v1, v2, v3, v4, v5, v6, v7] k w =
    [((((v7 + ror3 v4 6 11 25) + ((v4 &&& v5) ^^^ ((v4 ^^^ 4294967295#32) &&& v6))) + k) + w) + (ror3 v0 2 13 22 + (((v0 &&& v1) ^^^ (v0 &&& v2)) ^^^ (v1 &&& v2))), v0, v1, v2,
      v3 + ((((v7 + ror3 v4 6 11 25) + ((v4 &&& v5) ^^^ ((v4 ^^^ 4294967295#32) &&& v6))) + k) + w), v4, v5, v6] := by
  rw [ror3_6, ror3_2, ch_eq, maj_eq]; rfl
end Go.Proofs.YtdmfbcfhfopipaaGreatDoor
