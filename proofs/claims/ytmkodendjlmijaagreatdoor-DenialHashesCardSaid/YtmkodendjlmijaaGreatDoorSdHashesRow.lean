import Derived.Test.YtmkodendjlmijaaGreatDoorSd3
import Derived.Test.YtmkodendjlmijaaGreatDoorSd7
import Derived.StillTailTactics
import Derived.Test.YtmkodendjlmijaaGreatDoorProg
import Derived.Test.YtmkodendjlmijaaGreatDoorSd4
import Derived.Deep.OwnRows
import Derived.Laws.CopyRow
import Derived.Test.YtmkodendjlmijaaGreatDoorSd6
import Derived.Test.YtmkodendjlmijaaGreatDoorRows
import Derived.Test.YtmkodendjlmijaaGreatDoorTie
import Derived.Test.YtmkodendjlmijaaGreatDoorCards
import Derived.ProofKit
import Derived.OpenShut
import Derived.LaidMore
import Derived.Lay
import Derived.SevenTiedAt
import Derived.Stop.Joined
/- The document's own words of a digest (its chapter 4): left, right, word, rounds, tell. -/
namespace Go.Proofs.YtmkodendjlmijaaGreatDoor
open Go.RowKit

/-- The turn of a word to the right. -/
def rorW (x : W32) (n : Nat) : W32 := (x >>> n) ||| (x <<< (32 - n))
theorem ref_left (x : W32) (n : Nat) (h : n < 32) (w : World) : Calls Tryz.prog 54 #[.int .u32 (wd x), .int .i64 n] w fun e w' => e = .returned (.int .u32 (wd (rotW x n))) ∧ ∃ m, w' = w.drewN m := by
  have q1 := wd_shl x n
  have q2 := wd_shr x (32 - n)
  have q3 : IntKind.i64.wrap (32 - (n : Int)) = ((32 - n : Nat) : Int) := by rw [IntWalk.i64_in _ (by omega)]; omega
  have q5 : (32 : Int) - (n : Int) = ((32 - n : Nat) : Int) := by omega
  have q4 : bits .or .u32 (wd (x <<< n)) (wd (x >>> (32 - n))) = wd (rotW x n) := wd_or _ _
  generalize hq : rotW x n = r at q4 ⊢
  have q1' := Lib.hid hq; clear hq
  have m1 : min n 32 = n := by omega
  have m2 : min (32 - n) 32 = 32 - n := by omega
  have hn : (0 : Int) ≤ (n : Int) := by omega
  go_enter Tryz.func54, Tryz.ntmps54
  go_wp2_with fail
  go_quiet (fail)
  go_wp2_with fail
  go_ret
  exact ⟨rfl, nq, rfl⟩
theorem word4_nat (a b c d : UInt8) : (word4 a b c d).toNat = a.toNat * 16777216 + b.toNat * 65536 + c.toNat * 256 + d.toNat := by
  have ha := a.toNat_lt; have hb := b.toNat_lt; have hc := c.toNat_lt; have hd := d.toNat_lt
  have e1 : ∀ (x : Nat) (k : Nat), x < 256 → k ≤ 24 → (BitVec.ofNat 32 x <<< k).toNat = x <<< k := by
    intro x k hx hk
    rw [BitVec.toNat_shiftLeft, BitVec.toNat_ofNat, Nat.mod_eq_of_lt (a := x) (by omega), Nat.mod_eq_of_lt]
    rw [Nat.shiftLeft_eq]
    have : 2 ^ k ≤ 2 ^ 24 := Nat.pow_le_pow_right (by omega) hk
    have : x * 2 ^ k ≤ 255 * 2 ^ 24 := Nat.mul_le_mul (by omega) this
    omega
  rw [word4, BitVec.toNat_or, BitVec.toNat_or, BitVec.toNat_or, e1 _ _ ha (by omega), e1 _ _ hb (by omega), e1 _ _ hc (by omega), BitVec.toNat_ofNat, Nat.mod_eq_of_lt (a := d.toNat) (by omega)]
  have s1 : a.toNat <<< 24 ||| b.toNat <<< 16 = (a.toNat * 256 + b.toNat) <<< 16 := by
    rw [← Nat.shiftLeft_add_eq_or_of_lt (i := 24) (by rw [Nat.shiftLeft_eq]; omega)]
    rw [Nat.shiftLeft_eq, Nat.shiftLeft_eq, Nat.shiftLeft_eq]; omega
  have s2 : (a.toNat * 256 + b.toNat) <<< 16 ||| c.toNat <<< 8 = ((a.toNat * 256 + b.toNat) * 256 + c.toNat) <<< 8 := by
    rw [← Nat.shiftLeft_add_eq_or_of_lt (i := 16) (by rw [Nat.shiftLeft_eq]; omega)]
    rw [Nat.shiftLeft_eq, Nat.shiftLeft_eq, Nat.shiftLeft_eq]; omega
  rw [s1, s2, ← Nat.shiftLeft_add_eq_or_of_lt (i := 8) (by omega), Nat.shiftLeft_eq]; omega
set_option maxRecDepth 100000 in
theorem ref_word_at (s : ByteArray) (p p1 p2 p3 : Nat) (i1 : (p : Int) + 1 = (p1 : Int)) (i2 : (p : Int) + 2 = (p2 : Int)) (i3 : (p : Int) + 3 = (p3 : Int)) (l0 : p < s.size) (l1 : p1 < s.size) (l2 : p2 < s.size) (l3 : p3 < s.size) (hs : s.size ≤ 9223372036854775000)
    (x0 x1 x2 x3 : UInt8) (hx0 : s[p] = x0) (hx1 : s[p1] = x1) (hx2 : s[p2] = x2) (hx3 : s[p3] = x3) (w : World) :
    Calls Tryz.prog 53 #[.string s, .int .i64 p] w fun e w' => e = .returned (.int .u32 (wd (word4 x0 x1 x2 x3))) ∧ ∃ m, w' = w.drewN m := by
  have b0 := x0.toNat_lt; have b1 := x1.toNat_lt; have b2 := x2.toNat_lt; have b3 := x3.toNat_lt
  have hw : wd (word4 x0 x1 x2 x3) = (x0.toNat : Int) * 16777216 + (x1.toNat : Int) * 65536 + (x2.toNat : Int) * 256 + (x3.toNat : Int) := by
    rw [wd, word4_nat]; omega
  generalize wd (word4 x0 x1 x2 x3) = r at hw ⊢
  have HW := Lib.hid hw
  clear hw
  go_enter Tryz.func53, Tryz.ntmps53
  go_wp2_with fail
  go_quiet (fail)
  go_wp2_with fail
  go_ret
  refine ⟨ret_int ?_, nq, rfl⟩
  rw [HW.out]
theorem getD_get (s : ByteArray) (k : Nat) (h : k < s.size) : s.data.toList.getD k 0 = s[k] := by
  simp [List.getD, List.getElem?_eq_getElem (show k < s.data.toList.length by simpa using h)]; rfl
theorem ref_word (s : ByteArray) (p : Nat) (h : p + 3 < s.size) (hs : s.size ≤ 9223372036854775000) (w : World) :
    Calls Tryz.prog 53 #[.string s, .int .i64 p] w fun e w' => e = .returned (.int .u32 (wd (word4 (s.data.toList.getD p 0) (s.data.toList.getD (p + 1) 0) (s.data.toList.getD (p + 2) 0) (s.data.toList.getD (p + 3) 0)))) ∧ ∃ m, w' = w.drewN m :=
  ref_word_at s p (p + 1) (p + 2) (p + 3) (by omega) (by omega) (by omega) (by omega) (by omega) (by omega) h hs _ _ _ _ (getD_get s _ _).symm (getD_get s _ _).symm (getD_get s _ _).symm (getD_get s _ _).symm w

end Go.Proofs.YtmkodendjlmijaaGreatDoor

/- The digests' schedules: a row of all words (the document's) and a ring of sixteen (the program's) give the same. -/
namespace Go.Proofs.YtmkodendjlmijaaGreatDoor
open Go.RowKit

theorem ror_rot (x : W32) (n : Nat) (h0 : 0 < n) (h : n < 32) : rorW x n = rotW x (32 - n) := by
  rw [rorW, rotW, BitVec.or_comm, show 32 - (32 - n) = n by omega]
theorem ch_eq (a b c : W32) : (a &&& b) ^^^ ((a ^^^ 4294967295#32) &&& c) = c ^^^ (a &&& (b ^^^ c)) := by
  apply BitVec.eq_of_getLsbD_eq
  intro i hi
  have h1 : (4294967295#32).getLsbD i = true := by
    rw [show (4294967295#32) = BitVec.allOnes 32 from rfl, BitVec.getLsbD_allOnes]
    exact decide_eq_true hi
  simp only [BitVec.getLsbD_xor, BitVec.getLsbD_and, h1]
  cases a.getLsbD i <;> cases b.getLsbD i <;> cases c.getLsbD i <;> rfl
theorem ch1_eq (b c d : W32) : (b &&& c) ||| ((b ^^^ 4294967295#32) &&& d) = d ^^^ (b &&& (c ^^^ d)) := by
  apply BitVec.eq_of_getLsbD_eq
  intro i hi
  have h1 : (4294967295#32).getLsbD i = true := by
    rw [show (4294967295#32) = BitVec.allOnes 32 from rfl, BitVec.getLsbD_allOnes]
    exact decide_eq_true hi
  simp only [BitVec.getLsbD_xor, BitVec.getLsbD_and, BitVec.getLsbD_or, h1]
  cases b.getLsbD i <;> cases c.getLsbD i <;> cases d.getLsbD i <;> rfl
theorem maj_eq (a b c : W32) : ((a &&& b) ^^^ (a &&& c)) ^^^ (b &&& c) = (a &&& b) ||| (c &&& (a ||| b)) := by
  apply BitVec.eq_of_getLsbD_eq
  intro i _
  simp only [BitVec.getLsbD_xor, BitVec.getLsbD_and, BitVec.getLsbD_or]
  cases a.getLsbD i <;> cases b.getLsbD i <;> cases c.getLsbD i <;> rfl
theorem maj1_eq (b c d : W32) : ((b &&& c) ||| (b &&& d)) ||| (c &&& d) = (b &&& c) ||| (d &&& (b ||| c)) := by
  apply BitVec.eq_of_getLsbD_eq
  intro i _
  simp only [BitVec.getLsbD_and, BitVec.getLsbD_or]
  cases b.getLsbD i <;> cases c.getLsbD i <;> cases d.getLsbD i <;> rfl
def r0 (x : W32) : W32 := (rorW x 7 ^^^ rorW x 18) ^^^ x >>> (3 : Nat)
def r1 (x : W32) : W32 := (rorW x 17 ^^^ rorW x 19) ^^^ x >>> (10 : Nat)
theorem r0_eq (x : W32) : r0 x = g0 x := by
  rw [r0, g0, ror_rot x 7 (by omega) (by omega), ror_rot x 18 (by omega) (by omega)]; rfl
theorem r1_eq (x : W32) : r1 x = g1 x := by
  rw [r1, g1, ror_rot x 17 (by omega) (by omega), ror_rot x 19 (by omega) (by omega)]; rfl
def ror3 (x : W32) (a b c : Nat) : W32 := (rorW x a ^^^ rorW x b) ^^^ rorW x c
theorem ror3_6 (x : W32) : ror3 x 6 11 25 = mixW x 6 11 25 := by
  rw [ror3, mixW, ror_rot x 6 (by omega) (by omega), ror_rot x 11 (by omega) (by omega), ror_rot x 25 (by omega) (by omega)]; rfl
theorem ror3_2 (x : W32) : ror3 x 2 13 22 = mixW x 2 13 22 := by
  rw [ror3, mixW, ror_rot x 2 (by omega) (by omega), ror_rot x 13 (by omega) (by omega), ror_rot x 22 (by omega) (by omega)]; rfl

/-- A row of words, each made of those ahead of it. -/
def schedW (b : List W32) (f : List W32 → Nat → W32) : Nat → List W32
  | 0 => []
  | i + 1 => schedW b f i ++ [if i < 16 then b.getD i 0 else f (schedW b f i) i]
theorem schedW_len (b : List W32) (f : List W32 → Nat → W32) (i : Nat) : (schedW b f i).length = i := by
  induction i with
  | zero => rfl
  | succ i ih => simp [schedW, ih]
def atW (b : List W32) (f : List W32 → Nat → W32) (k : Nat) : W32 := if k < 16 then b.getD k 0 else f (schedW b f k) k
theorem schedW_get (b : List W32) (f : List W32 → Nat → W32) (i k : Nat) (h : k < i) : (schedW b f i).getD k 0 = atW b f k := by
  induction i with
  | zero => omega
  | succ i ih =>
    rw [schedW]
    by_cases e : k = i
    · subst e
      rw [List.getD_eq_getElem?_getD, List.getElem?_append_right (by rw [schedW_len]; omega), schedW_len, Nat.sub_self]
      rfl
    · rw [List.getD_eq_getElem?_getD, List.getElem?_append_left (by rw [schedW_len]; omega), ← List.getD_eq_getElem?_getD]
      exact ih (by omega)
def f2 (l : List W32) (i : Nat) : W32 := ((l.getD (i - 16) 0 + r0 (l.getD (i - 15) 0)) + l.getD (i - 7) 0) + r1 (l.getD (i - 2) 0)
def f160 (l : List W32) (i : Nat) : W32 := rotW (((l.getD (i - 3) 0 ^^^ l.getD (i - 8) 0) ^^^ l.getD (i - 14) 0) ^^^ l.getD (i - 16) 0) 1

theorem getD_set_same {l : List W32} {p : Nat} (x : W32) (h : p < l.length) : (l.set p x).getD p 0 = x := by simp [List.getD, h]
theorem getD_set_far {l : List W32} {p q : Nat} (x : W32) (h : p ≠ q) : (l.set p x).getD q 0 = l.getD q 0 := by simp [List.getD, List.getElem?_set_ne h]
/-- A ring that keeps the last sixteen. -/
theorem ring_at (b : List W32) (_h16 : b.length = 16) (f : List W32 → Nat → W32) (R : Nat → List W32) (ring : List W32 → Nat → List W32) (h0 : R 0 = b) (hs : ∀ n, R (n + 1) = ring (R n) n) (hlen : ∀ n, (R n).length = 16)
    (hlow : ∀ r n, n < 16 → ring r n = r)
    (hring : ∀ r n, 16 ≤ n → r.length = 16 → (∀ k, k < n → n ≤ k + 16 → r.getD (k % 16) 0 = atW b f k) → ring r n = r.set (n % 16) (f (schedW b f n) n)) :
    ∀ n k, (k < 16 ∨ k < n) → n ≤ k + 16 → (R n).getD (k % 16) 0 = atW b f k := by
  intro n
  induction n with
  | zero =>
    intro k hk _
    have hk' : k < 16 := by omega
    rw [h0, Nat.mod_eq_of_lt hk', atW, if_pos hk']
  | succ n ih =>
    intro k hk hnk
    rw [hs]
    by_cases hn : n < 16
    · rw [hlow _ _ hn]
      exact ih k (by omega) (by omega)
    · rw [hring _ _ (by omega) (hlen n) (fun j h1 h2 => ih j (.inr h1) h2)]
      by_cases e : k = n
      · subst e
        rw [getD_set_same _ (by rw [hlen]; omega), atW, if_neg hn]
      · rw [getD_set_far _ (by omega)]
        exact ih k (.inr (by omega)) (by omega)

theorem run2_word (h b : List W32) (h16 : b.length = 16) (n : Nat) : (run2 h b (n + 1)).1 = step2 (run2 h b n).1 (K256.getD n 0) (atW b f2 n) := by
  have key := ring_at b h16 f2 (fun n => (run2 h b n).2) ring2 rfl (fun n => rfl) (fun n => (run2_len h b n).2.trans h16) (fun r n hn => by rw [ring2, if_neg (by omega)])
    (fun r n hn hr hk => by
      rw [ring2, if_pos hn]
      congr 1
      rw [f2, schedW_get _ _ _ _ (by omega), schedW_get _ _ _ _ (by omega), schedW_get _ _ _ _ (by omega), schedW_get _ _ _ _ (by omega), r0_eq, r1_eq,
        ← hk (n - 16) (by omega) (by omega), ← hk (n - 15) (by omega) (by omega), ← hk (n - 7) (by omega) (by omega), ← hk (n - 2) (by omega) (by omega), show (n - 16) % 16 = n % 16 by omega]
      rw [BitVec.add_assoc, BitVec.add_assoc, BitVec.add_assoc])
  have := key (n + 1) n (.inr (by omega)) (by omega)
  show step2 (run2 h b n).1 (K256.getD n 0) ((run2 h b (n + 1)).2.getD (n % 16) 0) = _
  rw [this]
theorem run1_word (h b : List W32) (h16 : b.length = 16) (n : Nat) : (run1 h b (n + 1)).1 = step1 (run1 h b n).1 n (atW b f160 n) := by
  have key := ring_at b h16 f160 (fun n => (run1 h b n).2) ring1 rfl (fun n => rfl) (fun n => (run1_len h b n).2.trans h16) (fun r n hn => by rw [ring1, if_neg (by omega)])
    (fun r n hn hr hk => by
      rw [ring1, if_pos hn]
      congr 1
      rw [f160, schedW_get _ _ _ _ (by omega), schedW_get _ _ _ _ (by omega), schedW_get _ _ _ _ (by omega), schedW_get _ _ _ _ (by omega),
        ← hk (n - 16) (by omega) (by omega), ← hk (n - 14) (by omega) (by omega), ← hk (n - 8) (by omega) (by omega), ← hk (n - 3) (by omega) (by omega), show (n - 16) % 16 = n % 16 by omega]
      rfl)
  have := key (n + 1) n (.inr (by omega)) (by omega)
  show step1 (run1 h b n).1 n ((run1 h b (n + 1)).2.getD (n % 16) 0) = _
  rw [this]
theorem step2_ref (v0 v1 v2 v3 v4 v5 v6 v7 k w : W32) : step2 [v0, v1, v2, v3, v4, v5, v6, v7] k w =
    [((((v7 + ror3 v4 6 11 25) + ((v4 &&& v5) ^^^ ((v4 ^^^ 4294967295#32) &&& v6))) + k) + w) + (ror3 v0 2 13 22 + (((v0 &&& v1) ^^^ (v0 &&& v2)) ^^^ (v1 &&& v2))), v0, v1, v2,
      v3 + ((((v7 + ror3 v4 6 11 25) + ((v4 &&& v5) ^^^ ((v4 ^^^ 4294967295#32) &&& v6))) + k) + w), v4, v5, v6] := by
  rw [ror3_6, ror3_2, ch_eq, maj_eq]; rfl
end Go.Proofs.YtmkodendjlmijaaGreatDoor

/- A region that draws its order: first an operation that yields in whatever world and that the end alone waits for ('out = append(out, ..)': the move of out); then operations that read; then a forced end. -/
namespace Go.Proofs.YtmkodendjlmijaaGreatDoor
open Go

section
variable {P : Program} {md : Region.Mode} {ops : Array Oper} {w : World} {n m : Nat}

def sinkFrom (md : Region.Mode) (ops : Array Oper) (m n : Nat) : Bool :=
  (List.range n).all fun i => decide (i < m) || (List.range (n + 1)).any fun j => decide (i < j) && Region.waitsFor md ops j i
structure InvFrom (md : Region.Mode) (ops : Array Oper) (m n : Nat) (listed : Array Bool) : Prop where
  head : HeadInv md ops n listed
  low : ∀ i, i < m → listed.getD i false = true
theorem InvFrom.set {i : Nat} {listed : Array Bool} (h : InvFrom md ops m n listed) (hi : i ∈ Region.ready md ops listed) (hn : i < n) : InvFrom md ops m n (listed.setIfInBounds i true) :=
  ⟨h.head.set hi hn, fun k hk => by
    by_cases e : i = k
    · subst e; exact getD_set_true (h.low i hk)
    · rw [getD_set_ne false e]; exact h.low k hk⟩

theorem waits_from (hs : sinkFrom md ops m n = true) (hc : Region.chainB md ops n = true) {listed : Array Bool} (inv : InvFrom md ops m n listed) :
    ∀ (d i : Nat), n - i = d → i < n → listed.getD i true = false → ∀ t, n ≤ t → t ∉ Region.ready md ops listed := by
  intro d
  induction d using Nat.strongRecOn with
  | _ d ih =>
    intro i hd hi hun t ht hr
    obtain ⟨_, ot, hot, hall⟩ := mem_ready.1 hr
    have htl : t < ops.size := (Array.getElem?_eq_some_iff.1 hot).1
    rcases Nat.eq_or_lt_of_le ht with e | hlt
    · subst e
      have h1 := List.all_eq_true.1 hs i (List.mem_range.2 hi)
      simp only [Bool.or_eq_true, decide_eq_true_eq] at h1
      rcases h1 with h1 | h1
      · have h3 := getD_both hun
        rw [inv.low i h1] at h3; cases h3
      · obtain ⟨j, hj, h2⟩ := List.any_eq_true.1 h1
        simp only [Bool.and_eq_true, decide_eq_true_eq] at h2
        have hjn := List.mem_range.1 hj
        obtain ⟨oj, hoj, e, he, hb, hon⟩ := Region.waitsFor_spec h2.2
        by_cases hjt : j = n
        · subst hjt
          obtain rfl := Option.some.inj (hoj.symm.trans hot)
          have h3 := hall e he hb
          rw [hon, getD_both hun] at h3; cases h3
        · cases hl : listed.getD j false with
          | true =>
            have h3 := inv.head.closed j oj hoj hl e he hb
            rw [hon, getD_both hun] at h3; cases h3
          | false => exact ih (n - j) (by omega) j rfl (by omega) (getD_in (by rw [inv.head.size]; omega) hl) n (Nat.le_refl _) hr
    · have h1 := List.all_eq_true.1 hc t (List.mem_range.2 htl)
      simp only [Bool.or_eq_true, decide_eq_true_eq] at h1
      rcases h1 with h1 | h1
      · omega
      · obtain ⟨o', ho', e, he, hb, hon⟩ := Region.waitsFor_spec h1
        obtain rfl := Option.some.inj (ho'.symm.trans hot)
        have h2 := hall e he hb
        rw [hon, getD_both (inv.head.tail (t - 1) (by omega) (by omega))] at h2; cases h2

theorem head_first {i : Nat} {oi : Oper} {v : Value} {L : Array Bool → Act → Prop} (hi : ops[i]? = some oi) (hsel : ∀ (j : Nat) (o : Oper) cs b, ops[j]? = some o → o.op ≠ .select cs b)
    (hs : sinkFrom md ops m n = true) (hc : Region.chainB md ops n = true) (hin : i < n) (hdone : ∀ listed a, L listed a → ∀ j ∈ Region.ready md ops listed, n ≤ j) :
    ∀ (f : Nat) (listed : Array Bool) (a : Act), InvFrom md ops m n listed →
      (∀ j oj, ops[j]? = some oj → j ≠ i → listed.getD j true = false → (∀ e ∈ oj.after, Region.binds md e = true → e.on ≠ i) → oi.apart ops oj = true) →
      i ∈ Region.ready md ops listed → YieldsAt P ops w oi v a →
      wpAnyL P md ops w n L f (listed.setIfInBounds i true) (a.put oi.dst v) → wpAnyL P md ops w n L (f + 1) listed a := by
  intro f
  induction f with
  | zero =>
    intro listed a inv _ hr hy H
    have hun := (mem_ready.1 hr).1
    refine ⟨fun h => (by rw [h] at hr; cases hr), fun j hj => ?_⟩
    have hjn : j < n := Nat.lt_of_not_le fun h => waits_from hs hc inv _ i rfl hin hun j h hj
    refine ⟨hjn, ?_⟩
    by_cases hji : j = i
    · subst hji; exact hy.stOp hi H
    · have := hdone _ _ H j (ready_mono hj hji)
      omega
  | succ f ih =>
    intro listed a inv hfree hr hy H
    have hun := (mem_ready.1 hr).1
    refine ⟨fun h => (by rw [h] at hr; cases hr), fun j hj => ?_⟩
    have hjn : j < n := Nat.lt_of_not_le fun h => waits_from hs hc inv _ i rfl hin hun j h hj
    refine ⟨hjn, ?_⟩
    by_cases hji : j = i
    · subst hji; exact hy.stOp hi H
    · have h1 := (H.2 j (ready_mono hj hji)).2
      obtain ⟨hjun, oj, hoj, hall⟩ := mem_ready.1 hj
      have hnot : ∀ e ∈ oj.after, Region.binds md e = true → e.on ≠ i := fun e he hb heq => by
        have h3 := hall e he hb
        rw [heq, getD_both hun] at h3
        cases h3
      have h2 := stOp_put hoj (hfree j oj hoj hji hjun hnot) (fun cs b => hsel i oi cs b hi) (fun cs b => hsel j oj cs b hoj) hy h1
      have hfree' : ∀ k ok, ops[k]? = some ok → k ≠ i → (listed.setIfInBounds j true).getD k true = false →
          (∀ e ∈ ok.after, Region.binds md e = true → e.on ≠ i) → oi.apart ops ok = true := fun k ok hk hki hkun hno => by
        refine hfree k ok hk hki ?_ hno
        by_cases hjk : j = k
        · subst hjk; exact hjun
        · rw [getD_set_ne true hjk] at hkun; exact hkun
      refine stOp_mono (fun a' h3 => ih (listed.setIfInBounds j true) a' (inv.set hj hjn) hfree' (ready_mono hr (Ne.symm hji)) h3.1 ?_) h2
      rw [Array.setIfInBounds_comm _ _ hji]
      exact h3.2

theorem heads_lex {g : Nat} {Lq : Act → Prop} (hsel : Region.noSelect ops = true) (hs : sinkFrom md ops m n = true) (hc : Region.chainB md ops n = true) :
    ∀ (l : List Oper) (k : Nat) (listed : Array Bool) (a : Act), (∀ j, j < l.length → l[j]? = ops[k + j]?) → k + l.length = n → InvFrom md ops m n listed →
    Region.lexHead md ops g l.length k listed = true → wpStill P ops w Lq l a →
    wpAnyL P md ops w n (fun listed' a' => Region.seqB md ops g n listed' = true ∧ Lq a') l.length listed a := by
  intro l
  induction l with
  | nil =>
    intro k listed a _ hk _ hB h
    simp only [List.length_nil, Nat.add_zero] at hk
    subst hk
    exact ⟨hB, h⟩
  | cons o l ih =>
    intro k listed a hl hk inv hB h
    have h0 : ops[k]? = some o := by simpa using (hl 0 (by simp)).symm
    simp only [List.length_cons, Region.lexHead, Bool.and_eq_true] at hB
    have hkn : k < n := by simp only [List.length_cons] at hk; omega
    have hr : k ∈ Region.ready md ops listed := by simpa using hB.1.1
    have hst : stOp P ops w k (wpStill P ops w Lq l) a := by unfold stOp; simp only [h0]; exact h
    obtain ⟨v, hy, hK⟩ := yieldsAt_of_stOp h0 hst
    exact head_first h0 (Region.noSelect_spec hsel) hs hc hkn (fun listed' a' hL => seqB_ready hL.1) l.length listed a inv (Region.free_spec h0 hB.1.2) hr hy
      (ih (k + 1) _ _ (fun j hj => by have := hl (j + 1) (by simp; omega); simpa [Nat.add_assoc, Nat.add_comm 1 j] using this) (by simp only [List.length_cons] at hk; omega) (inv.set hr hkn) hB.2 hK)

def oneThenB (md : Region.Mode) (ops : Array Oper) (n : Nat) : Bool :=
  Region.noSelect ops && decide (1 < n) && decide (n < ops.size) && sinkFrom md ops 1 n && Region.chainB md ops n && (Region.ready md ops (Array.replicate ops.size false)).contains 0 && Region.free md ops (Array.replicate ops.size false) 0
    && (match ops[0]? with | some o => o.after.isEmpty | none => false)
    && Region.lexHead md ops (ops.size - n) (n - 1) 1 ((Array.replicate ops.size false).setIfInBounds 0 true)

theorem wp_one_then {id : Nat} {Q : Exit → Act → World → Prop} {a : Act} {l : List Oper} {o0 : Oper} (n : Nat) (v : Value) (hm : P.follows .mixedOrders = true) (h0 : l.toArray[0]? = some o0) (hB : oneThenB .any l.toArray n = true)
    (hQ : ∀ c a w, Q (.panic c) (a.put o0.dst v) w → Q (.panic c) a w) (hy : Yields P l.toArray o0 v a)
    (h : wpStill P l.toArray { w with drawn := w.drawn + 1 } (fun a' => wpList P l.toArray Q (l.drop n) a' { w with drawn := w.drawn + 1 }) ((l.take n).drop 1) (a.put o0.dst v)) : (Code.region id l.toArray true).wp P Q a w := by
  simp only [oneThenB, Bool.and_eq_true, decide_eq_true_eq] at hB
  obtain ⟨⟨⟨⟨⟨⟨⟨⟨hsel, h1n⟩, hn⟩, hs⟩, hc⟩, hr⟩, hf⟩, haf⟩, hlex⟩ := hB
  have hsz : l.toArray.size = l.length := by simp
  have hn' : n < l.length := by rw [← hsz]; exact hn
  have htl : ((l.take n).drop 1).length = n - 1 := by simp; omega
  have hdl : (l.drop n).length = l.toArray.size - n := by simp
  have hr' : 0 ∈ Region.ready .any l.toArray (Array.replicate l.toArray.size false) := by simpa using hr
  have inv0 : HeadInv .any l.toArray n (Array.replicate l.toArray.size false) :=
    ⟨by simp, fun j oj _ hl => (by rw [getD_replicate_false] at hl; cases hl), fun t _ ht => getD_in (by simpa using ht) (getD_replicate_false _ _)⟩
  have inv1 : InvFrom .any l.toArray 1 n ((Array.replicate l.toArray.size false).setIfInBounds 0 true) :=
    ⟨inv0.set hr' (by omega), fun i hi => by
      obtain rfl : i = 0 := by omega
      simp [show 0 < l.length by omega]⟩
  have H := heads_lex (P := P) (w := { w with drawn := w.drawn + 1 }) (md := .any) (g := l.toArray.size - n) hsel hs hc ((l.take n).drop 1) 1 _ (a.put o0.dst v) (fun j hj => by
    rw [htl] at hj
    rw [List.getElem?_drop, List.getElem?_take, if_pos (by omega)]
    simp) (by rw [htl]; omega) inv1 (by rw [htl]; exact hlex) h
  have H2 := wpAny_of_head (Q' := Q) (g := l.toArray.size - n) (fun listed a' hL => by
    have := wpAny_of_seq (md := .any) (Q' := Q) (l.drop n) n listed a' { w with drawn := w.drawn + 1 } (fun j => by simp [List.getElem?_drop]) (by rw [hdl]; exact hL.1) hL.2
    rwa [hdl] at this) _ _ _ H
  rw [htl] at H2
  refine wp_region_any hm ?_
  have e : l.toArray.size = (n - 1 + (l.toArray.size - n)) + 1 := by omega
  rw [e]
  have H3 := wpAny_take h0 hsel hf hr hQ hy H2
  simpa [show n - 1 + (l.length - n) + 1 = l.length by omega] using H3
end
end Go.Proofs.YtmkodendjlmijaaGreatDoor

/- The document's own digest's bytes (its chapter 4): tell, padded. -/
namespace Go.Proofs.YtmkodendjlmijaaGreatDoor
open Go.RowKit

set_option maxRecDepth 100000 in
set_option maxHeartbeats 400000 in
theorem ref_tell (l : List W32) (g c : Nat) (t : TypeId) (w : World) (hl : l.length ≤ 1000) (hb : Blk w g (encW l) t) : Calls Tryz.prog 55 #[.slice (some ⟨g, 0, none⟩) l.length c] w fun e w' => e = .returned (.string (bs (tellW l))) ∧ Below w.heap.size w w' := by
  have HC := Lib.hid (fun W (h : Below w.heap.size w W) i (hi : i < l.length) => show W.cell? ⟨g, i, none⟩ = some (.int .u32 (wd (l.getD i 0))) from by rw [(hb.below h hb.lt).cell i, encW_get l i hi])
  clear hb
  have hmix : Tryz.prog.follows .mixedOrders = true := by kernel_rfl
  go_enter Tryz.func55, Tryz.ntmps55
  go_wp2
  go_loopw [3, 4] (fun v i wr => ∃ k : Nat, k ≤ l.length ∧ i = .int .i64 k ∧ Hid (OwnB w.heap.size v (tellW (l.take k)) wr) ∧ Hid (Below w.heap.size w wr ∧ w.heap.size ≤ wr.heap.size)) (fun _ i _ => l.length - (intOf i).toNat)
  case atStart => exact ⟨0, Nat.zero_le _, rfl, Lib.hid (OwnB.nil _ _), Lib.hid ⟨Below.refl _ _, Nat.le_refl _⟩⟩
  case round =>
    obtain ⟨k, hk, rfl, hO, hB⟩ := hrel
    by_cases hlt : k < l.length
    · have hcell := HC.out wr hB.out.1 k hlt
      generalize hx : l.getD k 0 = x at hcell
      have Hx := Lib.hid hx; clear hx
      have s1 : wd x / (16777216 : Int) = wd (x >>> (24 : Nat)) := wd_shr x 24
      have s2 : wd x / (65536 : Int) = wd (x >>> (16 : Nat)) := wd_shr x 16
      have s3 : wd x / (256 : Int) = wd (x >>> (8 : Nat)) := wd_shr x 8
      have s4 := by8_int
      have hlk := (tellW_len (l.take k)).trans (by rw [List.length_take, Nat.min_eq_left hk])
      have HL := Lib.hid hlk; clear hlk
      have info := info_u8b
      go_wp2_with fail
      refine wp_one_then 24 u3 hmix rfl (by kernel_rfl) (fun _ _ _ h => h) (.inl ⟨rfl, fun _ => rfl⟩) ?_
      simp only [List.take_succ_cons, List.take_zero, List.drop_succ_cons, List.drop_zero]
      repeat still_step
      refine wpStill_nil ?_
      change wpList _ _ _ _ _ wr.drew
      have hO1 : Hid (OwnB w.heap.size u3 (tellW (l.take k)) wr.drew) := hO
      have hB1 : Hid (Below w.heap.size w wr.drew ∧ w.heap.size ≤ wr.drew.heap.size) := Lib.hid ⟨⟨hB.out.1.os, hB.out.1.tape, hB.out.1.output, hB.out.1.size, hB.out.1.block⟩, hB.out.2⟩
      generalize wr.drew = W1 at hO1 hB1
      clear hcell hO hB
      go_wp2_with (at_builtin; go_loud (refine ownB_append hO1.out hB1.out.1 hB1.out.2 (four x) (by have := HL.out; simp only [four, List.length_cons, List.length_nil]; omega) rfl _ _ rfl _ 4 4 rfl rfl rfl rfl ?_))
      intro v1 w1 h1 h2 h3
      have ht : tellW (l.take (k + 1)) = tellW (l.take k) ++ four x := by rw [tellW_take l k hlt, Hx.out]
      rw [← ht] at h1
      have H1 := Lib.hid h1; have H2 := Lib.hid (And.intro h2 h3)
      clear h1 h2 h3 ht hO1 hB1
      go_wp2
      go_roundw
      case rel => exact ⟨k + 1, by omega, by go_num, H1, H2⟩
      case measure => simp [intOf]; omega
    · obtain rfl : k = l.length := by omega
      rw [List.take_length] at hO
      have hcv := hO.out.string
      have HV := Lib.hid hB.out.1
      go_wp2
      go_ret
      exact ⟨rfl, HV.out⟩
end Go.Proofs.YtmkodendjlmijaaGreatDoor

/- The document's own text made up to blocks (its chapter 4). -/
namespace Go.Proofs.YtmkodendjlmijaaGreatDoor
open Go.RowKit

def lenPd : Value → Nat
  | .slice _ n _ => n
  | _ => 0
def zerosOf (n : Nat) : Nat := (119 - n % 64) % 64
theorem zerosOf_lt (n k : Nat) (h : k < zerosOf n) : (n + 1 + k) % 64 ≠ 56 := by unfold zerosOf at h; omega
theorem zerosOf_eq (n : Nat) : (n + 1 + zerosOf n) % 64 = 56 := by unfold zerosOf; omega
theorem lenB_next (N m : Nat) : lenB N (m + 1) = lenB N m ++ [UInt8.ofNat (N / 2 ^ (56 - 8 * m))] := by simp [lenB, List.range_succ]

set_option maxRecDepth 100000 in
set_option maxHeartbeats 600000 in
theorem ref_padded (s : ByteArray) (hs : s.size ≤ 140737488351232) (w : World) : Calls Tryz.prog 52 #[.string s] w fun e w' => e = .returned (.string (bs (padL s.data.toList))) ∧ Below w.heap.size w w' := by
  have hcv := conv_string_bytes w s
  have hst := byAt_new w s hs
  have hbl := below_bytesWorld w 5 s
  have hsz := Lib.bytesWorld_size w 5 s
  have hl : s.data.toList.length = s.size := by simp
  have hp : padL s.data.toList = s.data.toList ++ (padT s.size ++ lenB (8 * s.size) 8) := by
    rw [padL, hl, Nat.mod_eq_of_lt (by omega)]
  generalize padL s.data.toList = P at hp ⊢
  generalize s.data.toList = l at hst hl hp
  generalize Lib.bytesWorld w 5 s = W0 at hcv hst hbl hsz
  generalize grownCap w s.size 0 5 = cap at hcv hst
  have H0 : Hid (ByAt w.heap.size (.slice (some ⟨w.heap.size, 0, none⟩) s.size cap) l W0 ∧ Below w.heap.size w W0 ∧ w.heap.size ≤ W0.heap.size) := Lib.hid ⟨hst, hbl, by omega⟩
  have HP := Lib.hid hp; have HL := Lib.hid hl
  have info := info_u8b
  clear hst hbl hsz hp hl
  go_enter Tryz.func52, Tryz.ntmps52
  go_wp2_with (at_builtin; go_loud (refine byAt_append H0.out.1 H0.out.2.1 H0.out.2.2 128 (by rw [HL.out]; omega) rfl _ _ rfl _ 1 1 rfl rfl rfl rfl ?_))
  intro v1 w1 a1 a2 a3
  have A1 := Lib.hid (And.intro a1 (And.intro a2 a3))
  clear a1 a2 a3
  clear H0 hcv
  have hA1 : Hid (ByAt w.heap.size v1 (l ++ 128 :: List.replicate 0 0) w1 ∧ Below w.heap.size w w1 ∧ w.heap.size ≤ w1.heap.size) := A1
  clear A1
  go_wp2_with fail
  go_loopw [4] (fun v wr => ∃ k : Nat, k ≤ zerosOf s.size ∧ Hid (ByAt w.heap.size v (l ++ 128 :: List.replicate k 0) wr ∧ Below w.heap.size w wr ∧ w.heap.size ≤ wr.heap.size)) (fun v _ => s.size + 1 + zerosOf s.size - lenPd v)
  case atStart => exact ⟨0, Nat.zero_le _, hA1⟩
  case round =>
    obtain ⟨k, hk, hA⟩ := hrel
    have hlen : (l ++ 128 :: List.replicate k 0).length = s.size + 1 + k := by simp [HL.out]; omega
    obtain ⟨g, cap', e⟩ := hA.out.1.slice
    rw [hlen] at e
    generalize hn : s.size + 1 + k = n at e hlen
    have HN := Lib.hid hn
    have HLen := Lib.hid hlen
    subst e
    by_cases hz : k < zerosOf s.size
    · have hq : ((n : Int) % 64 != 56) = true := by have := zerosOf_lt _ _ hz; simp; omega
      clear hn hlen
      go_wp2_with (at_builtin; go_loud (refine byAt_append hA.out.1 hA.out.2.1 hA.out.2.2 0 (by rw [HLen.out]; have := HN.out; have : zerosOf s.size < 64 := Nat.mod_lt _ (by omega); omega) rfl _ _ rfl _ 1 1 rfl rfl rfl rfl ?_))
      intro v1 w1 a1 a2 a3
      have A1 := Lib.hid (And.intro a1 (And.intro a2 a3))
      clear a1 a2 a3
      have A2 : Hid (ByAt w.heap.size v1 (l ++ 128 :: List.replicate (k + 1) 0) w1 ∧ Below w.heap.size w w1 ∧ w.heap.size ≤ w1.heap.size) := by
        have h := A1.out
        rw [← List.replicate_succ'] at h
        exact Lib.hid h
      obtain ⟨g2, cap2, e2⟩ := A2.out.1.slice
      have hl2 : (l ++ 128 :: List.replicate (k + 1) 0).length = n + 1 := by have := HN.out; simp [HL.out]; omega
      rw [hl2] at e2
      have E2 := Lib.hid e2
      clear A1 e2 hA
      go_wp2_with fail
      go_roundw
      case rel => exact ⟨k + 1, by omega, A2⟩
      case measure =>
        have h1 := HN.out
        rw [E2.out]
        simp only [lenPd]
        omega
    · obtain rfl : k = zerosOf s.size := by omega
      have hq : ((n : Int) % 64 != 56) = false := by have := zerosOf_eq s.size; simp; omega
      have hB : Hid (ByAt w.heap.size (.slice (some ⟨g, 0, none⟩) n cap') (l ++ (padT s.size ++ lenB (8 * s.size) 0)) wr ∧ Below w.heap.size w wr ∧ w.heap.size ≤ wr.heap.size) := by
        have h := hA.out
        rw [show padT s.size ++ lenB (8 * s.size) 0 = 128 :: List.replicate (zerosOf s.size) 0 by simp [padT, lenB, zerosOf]]
        exact Lib.hid h
      clear hA hn hlen
      have HN2 : Hid (n = s.size + 1 + zerosOf s.size) := Lib.hid HN.out.symm
      clear HN HLen
      go_wp2_with fail
      go_loopw [4, 5] (fun v z wr => ∃ (j : Nat) (zi : Int), j ≤ 8 ∧ Hid (zi = 7 - (j : Int)) ∧ z = .int .i64 zi ∧ Hid (ByAt w.heap.size v (l ++ (padT s.size ++ lenB (8 * s.size) j)) wr ∧ Below w.heap.size w wr ∧ w.heap.size ≤ wr.heap.size)) (fun _ z _ => (intOf z + 1).toNat)
      case atStart => exact ⟨0, 7, by omega, Lib.hid (by omega), rfl, hB⟩
      case round =>
        obtain ⟨j, zi, hj, hz7, rfl, hA⟩ := hrel
        by_cases hlt : j < 8
        · obtain ⟨kk, hkk⟩ : ∃ kk : Nat, kk = 7 - j := ⟨_, rfl⟩
          obtain rfl : zi = (kk : Int) := by have := hz7.out; omega
          obtain ⟨sh, hsh⟩ : ∃ sh : Nat, sh = 8 * kk := ⟨_, rfl⟩
          have h8 : (8 : Int) * (kk : Int) = (sh : Int) := by omega
          have hsl : sh ≤ 56 := by omega
          have hkl : kk ≤ 7 := by omega
          have hm : min sh 64 = sh := by omega
          have hbv : 8 * (s.size : Int) / 2 ^ sh % 256 = ((UInt8.ofNat (8 * s.size / 2 ^ sh)).toNat : Int) := by
            have e1 : (8 * (s.size : Int) / 2 ^ sh) = ((8 * s.size / 2 ^ sh : Nat) : Int) := by push_cast; rfl
            rw [e1]
            simp
          have hnx : lenB (8 * s.size) (j + 1) = lenB (8 * s.size) j ++ [UInt8.ofNat (8 * s.size / 2 ^ sh)] := by rw [lenB_next, show 56 - 8 * j = sh by omega]
          generalize UInt8.ofNat (8 * s.size / 2 ^ sh) = by_ at hbv hnx
          have hlen : (l ++ (padT s.size ++ lenB (8 * s.size) j)).length ≤ 140737488352000 := by
            have : zerosOf s.size < 64 := Nat.mod_lt _ (by omega)
            simp [padT, lenB, HL.out]; omega
          have HLN := Lib.hid hlen
          have HNX := Lib.hid hnx
          have HKK := Lib.hid hkk
          clear hlen hnx hkk hsh
          go_wp2_with (at_builtin; go_loud (refine byAt_append hA.out.1 hA.out.2.1 hA.out.2.2 by_ (by exact Nat.lt_of_le_of_lt HLN.out (by omega)) rfl _ _ rfl _ 1 1 rfl rfl rfl rfl ?_))
          intro v1 w1 a1 a2 a3
          have A1 := Lib.hid (And.intro a1 (And.intro a2 a3))
          clear a1 a2 a3
          have A2 : Hid (ByAt w.heap.size v1 (l ++ (padT s.size ++ lenB (8 * s.size) (j + 1))) w1 ∧ Below w.heap.size w w1 ∧ w.heap.size ≤ w1.heap.size) := by
            have h := A1.out
            rw [← HNX.out] at h
            exact Lib.hid h
          clear A1 hA
          go_wp2_with fail
          go_roundw
          case rel => exact ⟨j + 1, (kk : Int) - 1, by omega, Lib.hid (by have := HKK.out; omega), rfl, A2⟩
          case measure => simp [intOf]
        · obtain rfl : j = 8 := by omega
          obtain rfl : zi = -1 := by have := hz7.out; omega
          have hcs := hA.out.1.string
          rw [← HP.out] at hcs
          have HV := Lib.hid hA.out.2.1
          clear hA
          go_wp2_with fail
          go_ret
          exact ⟨rfl, HV.out⟩
end Go.Proofs.YtmkodendjlmijaaGreatDoor

/- Great numbers in memory; number.trim, number.Of, Nat.Bits. -/
namespace Go.Proofs.YtmkodendjlmijaaGreatDoor
open Go.RowKit

/-- The digits that a slice holds, in a row from lo on. -/
def DigsAt (lo : Nat) (w : World) (A : Option Addr) (l : List W32) : Prop := l = [] ∨ ∃ b, A = some ⟨b, 0, none⟩ ∧ lo ≤ b ∧ b < w.heap.size ∧ ∀ i, i < l.length → w.cell? ⟨b, i, none⟩ = some (.int .u32 (wd (l.getD i 0)))
/-- A number's value, of these digits. -/
def NatV (lo : Nat) (w : World) (v : Value) (l : List W32) : Prop := ∃ A c, v = .agg #[.slice A l.length c] ∧ l.length ≤ c ∧ c ≤ 9223372036854775807 ∧ DigsAt lo w A l
theorem DigsAt.below {lo : Nat} {w w' : World} {A : Option Addr} {l : List W32} (h : DigsAt lo w A l) (hb : Below w.heap.size w w') : DigsAt lo w' A l := by
  rcases h with h | ⟨b, rfl, hlo, hlt, hc⟩
  · exact .inl h
  · exact .inr ⟨b, rfl, hlo, Nat.lt_of_lt_of_le hlt hb.size, fun i hi => by rw [hb.cell (p := ⟨b, i, none⟩) hlt]; exact hc i hi⟩
theorem DigsAt.low {lo : Nat} {w : World} {A : Option Addr} {l : List W32} (h : DigsAt lo w A l) {p : Addr} (hp : p.block < lo) (v : Value) : DigsAt lo (w.setCell p v) A l := by
  rcases h with h | ⟨b, rfl, hlo, hlt, hc⟩
  · exact .inl h
  · refine .inr ⟨b, rfl, hlo, by simpa using hlt, fun i hi => ?_⟩
    rw [World.cell?_of_block (w := w)]
    · exact hc i hi
    · exact heap_setCell_other _ _ _ _ (by simp; omega)
theorem DigsAt.mono {lo lo' : Nat} {w : World} {A : Option Addr} {l : List W32} (h : DigsAt lo w A l) (hl : lo' ≤ lo) : DigsAt lo' w A l := by
  rcases h with h | ⟨b, rfl, hlo, hlt, hc⟩
  · exact .inl h
  · exact .inr ⟨b, rfl, by omega, hlt, hc⟩
theorem NatV.below {lo : Nat} {w w' : World} {v : Value} {l : List W32} (h : NatV lo w v l) (hb : Below w.heap.size w w') : NatV lo w' v l := by
  obtain ⟨A, c, h1, h2, h3, h4⟩ := h
  exact ⟨A, c, h1, h2, h3, h4.below hb⟩
theorem NatV.low {lo : Nat} {w : World} {v : Value} {l : List W32} (h : NatV lo w v l) {p : Addr} (hp : p.block < lo) (u : Value) : NatV lo (w.setCell p u) v l := by
  obtain ⟨A, c, h1, h2, h3, h4⟩ := h
  exact ⟨A, c, h1, h2, h3, h4.low hp u⟩
theorem NatV.mono {lo lo' : Nat} {w : World} {v : Value} {l : List W32} (h : NatV lo w v l) (hl : lo' ≤ lo) : NatV lo' w v l := by
  obtain ⟨A, c, h1, h2, h3, h4⟩ := h
  exact ⟨A, c, h1, h2, h3, h4.mono hl⟩
theorem DigsAt.take {lo : Nat} {w : World} {A : Option Addr} {l : List W32} (h : DigsAt lo w A l) (n : Nat) : DigsAt lo w A (l.take n) := by
  rcases h with h | ⟨b, rfl, hlo, hlt, hc⟩
  · subst h; exact .inl (by simp)
  · refine .inr ⟨b, rfl, hlo, hlt, fun i hi => ?_⟩
    rw [List.length_take] at hi
    rw [hc i (by omega)]
    simp [List.getD, show i < n by omega]

def trimN (l : List W32) : Nat → Nat
  | 0 => 0
  | n + 1 => if l.getD n 0 = 0 then trimN l n else n + 1
def trimL (l : List W32) : List W32 := l.take (trimN l l.length)
theorem trimN_le (l : List W32) (n : Nat) : trimN l n ≤ n := by
  induction n with
  | zero => exact Nat.le_refl _
  | succ n ih => unfold trimN; split <;> omega
theorem trimL_len (l : List W32) : (trimL l).length = trimN l l.length := by
  have := trimN_le l l.length
  simp [trimL]; omega

def ofRun (s : List UInt8) : Nat → List W32
  | 0 => List.replicate ((s.length + 3) / 4) 0
  | i + 1 => (ofRun s i).set ((s.length - 1 - i) / 4) ((ofRun s i).getD ((s.length - 1 - i) / 4) 0 ||| (BitVec.ofNat 32 (s.getD i 0).toNat <<< (8 * ((s.length - 1 - i) % 4))))
theorem ofRun_len (s : List UInt8) (i : Nat) : (ofRun s i).length = (s.length + 3) / 4 := by
  induction i with
  | zero => simp [ofRun]
  | succ i ih => simp [ofRun, ih]
theorem ofval (y : W32) (x : UInt8) (sh : Nat) : bits .or .u32 (wd y) ((x.toNat : Int) % 4294967296 * 2 ^ sh % 4294967296) = wd (y ||| (BitVec.ofNat 32 x.toNat <<< sh)) := by
  have m : (x.toNat : Int) % 4294967296 = (x.toNat : Int) := by have := x.toNat_lt; omega
  rw [m, shl_byte, wd_or]
def stripL (s : List UInt8) : List UInt8 := Lib.trimLeftB s 0
def numDigs (s : List UInt8) : List W32 := trimL (ofRun (stripL s) (stripL s).length)

theorem info_u32 : (Tryz.prog.info? 83).map (fun i => (i.zero, i.size, i.bytes)) = some (some (.int .u32 0), 1, 4) := by kernel_rfl
theorem made_enc (n : Nat) : madeCells #[Value.int .u32 0] n = encW (List.replicate n 0) := by
  apply Array.ext_getElem?
  intro i
  by_cases h : i < n
  · rw [encW_get _ _ (by simpa using h)]
    simp [madeCells, h, wd, Nat.mod_one]
  · simp [madeCells, encW, h]

end Go.Proofs.YtmkodendjlmijaaGreatDoor

/- The document's own SHA-256 (its chapter 4): it is the program's. -/
namespace Go.Proofs.YtmkodendjlmijaaGreatDoor
open Go.RowKit

theorem ref_left_at (x : W32) (k : Int) (h0 : 0 ≤ k) (h : k < 32) (w : World) : Calls Tryz.prog 54 #[.int .u32 (wd x), .int .i64 k] w fun e w' => e = .returned (.int .u32 (wd (rotW x k.toNat))) ∧ ∃ m, w' = w.drewN m := by
  have := ref_left x k.toNat (by omega) w
  rw [Int.toNat_of_nonneg h0] at this
  exact this

/-- The rows of a digest: what is so far, the words of the rounds. -/
structure R2 (w : World) (hb kb : Nat) (st : List W32) (W : World) : Prop where
  len : st.length = 8
  h : Blk W hb (encW st) 83
  k : Blk W kb (encW K256) 83
  below : Below w.heap.size w W
  hlo : w.heap.size ≤ hb
  ne : hb ≠ kb
theorem R2.next {w W W' : World} {hb kb : Nat} {st : List W32} (h : R2 w hb kb st W) (hB : Below W.heap.size W W') : R2 w hb kb st W' :=
  ⟨h.len, h.h.below hB h.h.lt, h.k.below hB h.k.lt, h.below.trans (hB.mono h.below.size), h.hlo, h.ne⟩
theorem R2.drewN {w W : World} {hb kb : Nat} {st : List W32} (h : R2 w hb kb st W) (n : Nat) : R2 w hb kb st (W.drewN n) := ⟨h.len, h.h, h.k, ⟨h.below.os, h.below.tape, h.below.output, h.below.size, h.below.block⟩, h.hlo, h.ne⟩
theorem R2.set {w W : World} {hb kb : Nat} {st : List W32} (h : R2 w hb kb st W) (p : Addr) (v : Value) (h1 : hb ≠ p.block) (h2 : kb ≠ p.block) (h3 : w.heap.size ≤ p.block) : R2 w hb kb st (W.setCell p v) :=
  ⟨h.len, h.h.other h1 v, h.k.other h2 v, h.below.setCell h3 v, h.hlo, h.ne⟩
/-- The words, so far. -/
def soFar (b : List W32) (f : List W32 → Nat → W32) (m j : Nat) : List W32 := schedW b f j ++ List.replicate (m - j) 0
theorem soFar_len (b : List W32) (f : List W32 → Nat → W32) (m j : Nat) (h : j ≤ m) : (soFar b f m j).length = m := by simp [soFar, schedW_len]; omega
theorem soFar_get (b : List W32) (f : List W32 → Nat → W32) (m j k : Nat) (h : k < j) : (soFar b f m j).getD k 0 = (schedW b f j).getD k 0 := by
  rw [soFar, List.getD_eq_getElem?_getD, List.getElem?_append_left (by rw [schedW_len]; exact h), ← List.getD_eq_getElem?_getD]
theorem soFar_next (b : List W32) (f : List W32 → Nat → W32) (m j : Nat) (h : j < m) (x : W32) (hx : (if j < 16 then b.getD j 0 else f (schedW b f j) j) = x) : soFar b f m (j + 1) = (soFar b f m j).set j x := by
  rw [soFar, soFar, show m - j = (m - (j + 1)) + 1 by omega, List.replicate_succ, List.set_append, if_neg (by rw [schedW_len]; omega), schedW_len, Nat.sub_self, List.set_cons_zero, schedW, hx]
  simp
theorem soFar_all (b : List W32) (f : List W32 → Nat → W32) (m : Nat) : soFar b f m m = schedW b f m := by simp [soFar]

def zer (n : Nat) : List W32 := List.replicate n 0
theorem make_zer (n : Nat) (h : n ≤ 1000) (w : World) : (Instr.makeSlice 91 (.int .i64 (n : Int)) (.int .i64 (n : Int))).run Tryz.prog w = .ok (.slice (some ⟨w.heap.size, 0, none⟩) n n) (w.alloc (.cells (encW (zer n)) 83)) := by
  rw [zer, ← made_enc]
  exact run_make_row' 91 83 (.int .u32 0) 4 Tryz.underlying91 info_u32 rfl .i64 .i64 n (by omega) (by omega) w
theorem make64 (w : World) : (Instr.makeSlice 91 (.int .i64 64) (.int .i64 64)).run Tryz.prog w = .ok (.slice (some ⟨w.heap.size, 0, none⟩) 64 64) (w.alloc (.cells (encW (zer 64)) 83)) := make_zer 64 (by omega) w
theorem make8 (w : World) : (Instr.makeSlice 91 (.int .i64 8) (.int .i64 8)).run Tryz.prog w = .ok (.slice (some ⟨w.heap.size, 0, none⟩) 8 8) (w.alloc (.cells (encW (zer 8)) 83)) := make_zer 8 (by omega) w
theorem make80 (w : World) : (Instr.makeSlice 91 (.int .i64 80) (.int .i64 80)).run Tryz.prog w = .ok (.slice (some ⟨w.heap.size, 0, none⟩) 80 80) (w.alloc (.cells (encW (zer 80)) 83)) := make_zer 80 (by omega) w

theorem copy8 (st : List W32) (h8 : st.length = 8) (W : World) (hb : Nat) (hB : Blk W hb (encW st) 83) : (Builtin.copy_ #[91, 91] 3 #[.slice (some ⟨W.heap.size, 0, none⟩) 8 8, .slice (some ⟨hb, 0, none⟩) 8 8]).run Tryz.prog (W.alloc (.cells (encW (zer 8)) 83)) = .ok (.int .i64 8) (W.alloc (.cells (encW st) 83)) := by
  have hz : (encW (zer 8)).size = 8 := by rw [encW_size]; rfl
  have hl : (st.map vw).length = 8 := by simp [h8]
  have h := run_copy_row (P := Tryz.prog) (W.alloc (.cells (encW (zer 8)) 83)) 91 91 3 83 W.heap.size 0 8 8 ⟨hb, 0, none⟩ 8 8 (encW (zer 8)) 83 (st.map vw) Tryz.underlying91 (by kernel_rfl) (Blk.new W _ _) hl
    (World.news_of_block (cs := encW st) (t := 83) (fr := (0, 0)) (hB.alloc _)) (by rw [hl, hz]; omega) (by intro v hv; obtain ⟨x, _, rfl⟩ := List.mem_map.1 hv; rfl)
  rw [h, hl]
  have e : ((encW (zer 8)).toList.take 0 ++ st.map vw ++ (encW (zer 8)).toList.drop (0 + 8)).toArray = encW st := by
    rw [List.take_zero, List.nil_append, List.drop_of_length_le (by simp [hz]), List.append_nil]; rfl
  rw [e, World.setRow_alloc_new]
  rfl
theorem eight_cells (v0 v1 v2 v3 v4 v5 v6 v7 : W32) (W : World) (b : Nat) (h : Blk W b (encW [v0, v1, v2, v3, v4, v5, v6, v7]) 83) :
    W.cell? ⟨b, 0, none⟩ = some (.int .u32 (wd v0)) ∧ W.cell? ⟨b, 1, none⟩ = some (.int .u32 (wd v1)) ∧ W.cell? ⟨b, 2, none⟩ = some (.int .u32 (wd v2)) ∧ W.cell? ⟨b, 3, none⟩ = some (.int .u32 (wd v3)) ∧
    W.cell? ⟨b, 4, none⟩ = some (.int .u32 (wd v4)) ∧ W.cell? ⟨b, 5, none⟩ = some (.int .u32 (wd v5)) ∧ W.cell? ⟨b, 6, none⟩ = some (.int .u32 (wd v6)) ∧ W.cell? ⟨b, 7, none⟩ = some (.int .u32 (wd v7)) :=
  ⟨h.cell 0, h.cell 1, h.cell 2, h.cell 3, h.cell 4, h.cell 5, h.cell 6, h.cell 7⟩
theorem next_eight {v0 v1 v2 v3 v4 v5 v6 v7 : W32} (W : World) (vb wb hb kb : Nat) (w : World) (st nv bl : List W32) (cs : Array Value) (hcs : encW nv = cs) (h : Blk W vb (encW [v0, v1, v2, v3, v4, v5, v6, v7]) 83 ∧ Blk W wb (encW (schedW bl f2 64)) 83 ∧ R2 w hb kb st W) :
    Blk (W.alloc (.cells cs 83)) W.heap.size (encW nv) 83 ∧ Blk (W.alloc (.cells cs 83)) wb (encW (schedW bl f2 64)) 83 ∧ R2 w hb kb st (W.alloc (.cells cs 83)) ∧ hb < W.heap.size := by
  subst hcs
  exact ⟨Blk.new _ _ _, h.2.1.alloc _, h.2.2.next ((Below.refl _ W).alloc (Nat.le_refl _) _), h.2.2.h.lt⟩
theorem eight_enc (a b c d e f g h : W32) : encW [a, b, c, d, e, f, g, h] = #[.int .u32 (wd a), .int .u32 (wd b), .int .u32 (wd c), .int .u32 (wd d), .int .u32 (wd e), .int .u32 (wd f), .int .u32 (wd g), .int .u32 (wd h)] := rfl
theorem row_cell (b : List W32) (f : List W32 → Nat → W32) (m j k : Nat) (hj : j ≤ m) (h : k < j) (W : World) (wb : Nat) (hA : Blk W wb (encW (soFar b f m j)) 83) : W.cell? ⟨wb, k, none⟩ = some (.int .u32 (wd ((schedW b f j).getD k 0))) := by
  rw [hA.cell, encW_get _ _ (by rw [soFar_len _ _ _ _ hj]; omega), soFar_get _ _ _ _ _ h]
theorem block_word (S : ByteArray) (P : List UInt8) (p : Nat) (hSD : S.data.toList = P) (hpl : p + 64 ≤ S.size) (hSle : S.size ≤ 140737488355328) (j : Nat) (hj : j < 16) (W : World) :
    Calls Tryz.prog 53 #[.string S, .int .i64 ((p : Int) + 4 * (j : Int))] W fun e w' => e = .returned (.int .u32 (wd ((wordsN (P.drop p) 16).getD j 0))) ∧ ∃ m, w' = W.drewN m := by
  have h := ref_word S (p + 4 * j) (by omega) (by omega) W
  have hd : ∀ k, P.getD (p + k) 0 = (P.drop p).getD k 0 := fun k => by simp [List.getD, List.getElem?_drop]
  have hw : (wordsN (P.drop p) 16).getD j 0 = word4 ((P.drop p).getD (4 * j) 0) ((P.drop p).getD (4 * j + 1) 0) ((P.drop p).getD (4 * j + 2) 0) ((P.drop p).getD (4 * j + 3) 0) := by
    rw [wordsN, List.getD_eq_getElem?_getD, List.getElem?_map, List.getElem?_range hj]
    rfl
  rw [hSD, show p + 4 * j + 1 = p + (4 * j + 1) by omega, show p + 4 * j + 2 = p + (4 * j + 2) by omega, show p + 4 * j + 3 = p + (4 * j + 3) by omega, hd, hd, hd, hd, ← hw] at h
  have e2 : ((p + 4 * j : Nat) : Int) = (p : Int) + 4 * (j : Int) := by push_cast; rfl
  rw [e2] at h
  exact h

end Go.Proofs.YtmkodendjlmijaaGreatDoor

/- The document's own SHA-1 (its chapter 4): it is the program's. -/
namespace Go.Proofs.YtmkodendjlmijaaGreatDoor
open Go.RowKit

/-- The row of a digest, of five words. -/
structure R1 (w : World) (hb : Nat) (st : List W32) (W : World) : Prop where
  len : st.length = 5
  h : Blk W hb (encW st) 83
  below : Below w.heap.size w W
  hlo : w.heap.size ≤ hb
theorem R1.next {w W W' : World} {hb : Nat} {st : List W32} (h : R1 w hb st W) (hB : Below W.heap.size W W') : R1 w hb st W' :=
  ⟨h.len, h.h.below hB h.h.lt, h.below.trans (hB.mono h.below.size), h.hlo⟩
theorem R1.drewN {w W : World} {hb : Nat} {st : List W32} (h : R1 w hb st W) (n : Nat) : R1 w hb st (W.drewN n) := ⟨h.len, h.h, ⟨h.below.os, h.below.tape, h.below.output, h.below.size, h.below.block⟩, h.hlo⟩
theorem R1.set {w W : World} {hb : Nat} {st : List W32} (h : R1 w hb st W) (p : Addr) (v : Value) (h1 : hb ≠ p.block) (h3 : w.heap.size ≤ p.block) : R1 w hb st (W.setCell p v) :=
  ⟨h.len, h.h.other h1 v, h.below.setCell h3 v, h.hlo⟩
theorem sum_regroup (r f e k y : W32) : (((r + f) + e) + k) + y = ((r + (f + k)) + e) + y := by
  congr 1
  rw [BitVec.add_assoc (r + f) e k, BitVec.add_comm e k, ← BitVec.add_assoc (r + f) k e, BitVec.add_assoc r f k]
/-- What a round adds, and its constant. -/
def fOf (k : Nat) (b c d : W32) : W32 :=
  if k < 20 then (b &&& c) ||| ((b ^^^ 4294967295#32) &&& d) else if k < 40 then (b ^^^ c) ^^^ d else if k < 60 then ((b &&& c) ||| (b &&& d)) ||| (c &&& d) else (b ^^^ c) ^^^ d
def kOf (k : Nat) : W32 := if k < 20 then 1518500249#32 else if k < 40 then 1859775393#32 else if k < 60 then 2400959708#32 else 3395469782#32
theorem f1_ref (k : Nat) (b c d : W32) (h : k < 80) : f1 k b c d = fOf k b c d + kOf k := by
  unfold fOf kOf
  by_cases h1 : k < 20
  · rw [f1_a k b c d h1, if_pos h1, if_pos h1, ch1_eq]
  · rw [if_neg h1, if_neg h1]
    by_cases h2 : k < 40
    · rw [f1_b k b c d (by omega), if_pos h2, if_pos h2]
    · rw [if_neg h2, if_neg h2]
      by_cases h3 : k < 60
      · rw [f1_c k b c d (by omega), if_pos h3, if_pos h3, maj1_eq]
      · rw [f1_d k b c d (by omega), if_neg h3, if_neg h3]
theorem step1_ref (v0 v1 v2 v3 v4 y : W32) (k : Nat) (h : k < 80) : step1 [v0, v1, v2, v3, v4] k y = [(((rotW v0 5 + fOf k v1 v2 v3) + v4) + kOf k) + y, v0, rotW v1 30, v2, v3] := by
  rw [sum_regroup, ← f1_ref k v1 v2 v3 h]; rfl
theorem five_put (st : List W32) (v0 v1 v2 v3 v4 u0 u1 u2 u3 u4 : W32) (h : st = [u0, u1, u2, u3, u4]) (W : World) (hb : Nat) (hB : Blk W hb (encW st) 83) :
    Blk (((((W.setCell ⟨hb, 0, none⟩ (.int .u32 (wd (u0 + v0)))).setCell ⟨hb, 1, none⟩ (.int .u32 (wd (u1 + v1)))).setCell ⟨hb, 2, none⟩ (.int .u32 (wd (u2 + v2)))).setCell ⟨hb, 3, none⟩ (.int .u32 (wd (u3 + v3)))).setCell ⟨hb, 4, none⟩ (.int .u32 (wd (u4 + v4)))) hb (encW (List.zipWith (· + ·) st [v0, v1, v2, v3, v4])) 83 := by
  subst h
  have := ((((hB.set 0 (.int .u32 (wd (u0 + v0)))).set 1 (.int .u32 (wd (u1 + v1)))).set 2 (.int .u32 (wd (u2 + v2)))).set 3 (.int .u32 (wd (u3 + v3)))).set 4 (.int .u32 (wd (u4 + v4)))
  simpa [encW, vw] using this

set_option maxRecDepth 100000 in
set_option maxHeartbeats 2000000 in
theorem ref_sum160 (s : ByteArray) (hs : s.size ≤ 140737488351232) (w : World) : Calls Tryz.prog 28 #[.string s] w fun e w' => e = .returned (.string (bs (sum160 s.data.toList))) ∧ Below w.heap.size w w' := by
  have hpd := fun w => ref_padded s hs w
  have hP64 := padL_len s.data.toList
  have hPle : (padL s.data.toList).length ≤ 140737488355328 := by
    have : zerosOf s.size < 64 := Nat.mod_lt _ (by omega)
    have hl : s.data.toList.length = s.size := by simp
    simp [padL, padT, lenB]; omega
  have hfin : foldB comp1 ((padL s.data.toList).length / 64) H160 (padL s.data.toList) = sha1 s.data.toList := rfl
  have hsum : sum160 s.data.toList = tellW (sha1 s.data.toList) := rfl
  have hfl : (sha1 s.data.toList).length = 5 := foldB_len _ comp1_len _ _ _
  rw [hsum]
  clear hsum
  generalize sha1 s.data.toList = fin at hfin hfl ⊢
  generalize padL s.data.toList = P at hpd hP64 hPle hfin
  obtain ⟨N, hN⟩ : ∃ N, P.length = 64 * N := ⟨P.length / 64, by omega⟩
  rw [hN, Nat.mul_div_cancel_left _ (by omega)] at hfin
  have hSz : (bs P).size = 64 * N := by rw [bs_size, hN]
  have hSd : (bs P).data.toList = P := by simp [bs]
  generalize bs P = S at hpd hSz hSd
  have HSZ := Lib.hid hSz; have HPD := Lib.hid hpd; have HSD := Lib.hid hSd; have HPN := Lib.hid hN; have HFL := Lib.hid hfl
  have hSle : S.size ≤ 140737488355328 := by omega
  have hke := H160_enc
  have hmix : Tryz.prog.follows .mixedOrders = true := by kernel_rfl
  have hxor := wd_xor
  have hadd := wd_add
  have hand := wd_and
  have hor := wd_or
  clear hpd hP64 hPle hSd hN hfl hs hSz
  go_enter Tryz.func28, Tryz.ntmps28
  go_wp2_with (first
    | (go_at_call 52; refine (HPD.out _).mono ?_; rintro e w2 ⟨rfl, hB2⟩; replace hB2 := Lib.hid hB2))
  have hR0 : R1 w w.heap.size H160 w2 := by
    have b1 : Blk (w.alloc (.cells (encW H160) 83)) w.heap.size (encW H160) 83 := Blk.new w _ _
    have bl : Below w.heap.size w (w.alloc (.cells (encW H160) 83)) := (Below.refl _ w).alloc (Nat.le_refl _) _
    exact ⟨rfl, b1.below hB2.out b1.lt, bl.trans (hB2.out.mono bl.size), Nat.le_refl _⟩
  have HR := Lib.hid hR0
  clear hR0 hB2
  obtain ⟨hb, hbe⟩ : ∃ hb, hb = w.heap.size := ⟨_, rfl⟩
  rw [← hbe] at HR
  rw [show (⟨w.heap.size, 0, none⟩ : Addr) = ⟨hb, 0, none⟩ by rw [hbe]]
  clear hbe
  have hmk := make80
  go_loopw [5] (fun i wr => ∃ (n p : Nat) (st : List W32), n ≤ N ∧ i = .int .i64 (p : Int) ∧ Hid (p = 64 * n) ∧ Hid (foldB comp1 (N - n) st (P.drop p) = fin) ∧ Hid (R1 w hb st wr)) (fun i _ => S.size - (intOf i).toNat)
  case atStart => exact ⟨0, 0, H160, Nat.zero_le _, rfl, Lib.hid rfl, Lib.hid hfin, HR⟩
  case round =>
    obtain ⟨n, p, st, hn, rfl, hpn, hfo, hR⟩ := hrel
    by_cases hlt : n < N
    · have hpl : p + 64 ≤ S.size := by have := hpn.out; have := HSZ.out; omega
      have hps : (p : Int) < (S.size : Int) := by omega
      repeat (first | (fail) | go_values | go_skip | go_guarded | go_step | go_upon | go_back)
      have hb16 : (wordsN (P.drop p) 16).length = 16 := by simp [wordsN]
      have hwd := fun j hj W => block_word S P p HSD.out hpl hSle j hj W
      generalize hbl : wordsN (P.drop p) 16 = bl at hb16 hwd
      have HBL := Lib.hid hbl; have HWD := Lib.hid hwd; have H16 := Lib.hid hb16
      obtain ⟨wb, hwb⟩ : ∃ wb, wb = wr.heap.size := ⟨_, rfl⟩
      have hw0 : Blk (wr.alloc (.cells (encW (zer 80)) 83)) wb (encW (soFar bl f160 80 0)) 83 := by
        rw [hwb]; exact Blk.new wr (encW (zer 80)) 83
      have hR1 := hR.out.next ((Below.refl _ wr).alloc (Nat.le_refl _) (.cells (encW (zer 80)) 83))
      have hbw : hb ≠ wb := by have := hR.out.h.lt; omega
      have hlw : w.heap.size ≤ wb := by have := hR.out.below.size; omega
      rw [show (⟨wr.heap.size, 0, none⟩ : Addr) = ⟨wb, 0, none⟩ by rw [hwb]]
      generalize wr.alloc (.cells (encW (zer 80)) 83) = Wa at hw0 hR1 ⊢
      have HA0 := Lib.hid (And.intro hw0 hR1)
      clear hbl hwd hb16 hw0 hR1 hR hwb hmk
      go_loopw [7] (fun i wr => ∃ j : Nat, j ≤ 80 ∧ i = .int .i64 j ∧ Hid (Blk wr wb (encW (soFar bl f160 80 j)) 83 ∧ R1 w hb st wr)) (fun i _ => 80 - (intOf i).toNat)
      case atStart => exact ⟨0, Nat.zero_le _, rfl, HA0⟩
      case round =>
        obtain ⟨j, hj, rfl, hA⟩ := hrel
        by_cases hj80 : j < 80
        · by_cases hj16 : j < 16
          · have hd1 : decide ((j : Int) < 80) = true := decide_eq_true (by omega)
            have hd2 : decide ((j : Int) < 16) = true := decide_eq_true (by omega)
            have hix : (j : Int) < 80 := by omega
            have hjl : j < 80 := hj80
            have hp4 : (p : Int) + 4 * (j : Int) ≤ 140737488355328 := by omega
            have hcw := HWD.out j hj16
            have HC := Lib.hid hcw
            clear hcw
            have hnx := soFar_next bl f160 80 j hj80 (bl.getD j 0) (by rw [if_pos hj16])
            generalize bl.getD j 0 = x at HC hnx
            have HNX := Lib.hid hnx
            clear hnx
            repeat (first | (fail) | go_values | go_skip | go_guarded | go_step | go_upon | go_back)
            refine (HC.out _).mono ?_
            rintro e w3 ⟨rfl, m, rfl⟩
            simp only []
            have hA1 : Hid (Blk (wr.drewN m) wb (encW (soFar bl f160 80 j)) 83 ∧ R1 w hb st (wr.drewN m)) := Lib.hid ⟨hA.out.1, hA.out.2.drewN m⟩
            generalize wr.drewN m = W1 at hA1 ⊢
            have hc : W1.cell? ⟨wb, j, none⟩ = some (.int .u32 (wd ((soFar bl f160 80 j).getD j 0))) := by rw [hA1.out.1.cell, encW_get _ _ (by rw [soFar_len _ _ _ _ hj]; exact hj80)]
            have hf := hA1.out.1.free j
            clear HC hA
            repeat (first | (fail) | go_values | go_skip | go_guarded | go_step | go_upon | go_back)
            have hA2 : Hid (Blk (W1.setCell ⟨wb, j, none⟩ (.int .u32 (wd x))) wb (encW (soFar bl f160 80 (j + 1))) 83 ∧ R1 w hb st (W1.setCell ⟨wb, j, none⟩ (.int .u32 (wd x)))) :=
              Lib.hid ⟨by rw [HNX.out, ← encW_set]; exact hA1.out.1.set j _, hA1.out.2.set ⟨wb, j, none⟩ _ hbw hlw⟩
            clear hA1 hc hf
            repeat (first | (fail) | go_values | go_skip | go_guarded | go_step | go_upon | go_back)
            go_roundw
            case rel => exact ⟨j + 1, by omega, by go_num, hA2⟩
            case measure => simp [intOf]; omega
          · have hd1 : decide ((j : Int) < 80) = true := decide_eq_true (by omega)
            have hd2 : decide ((j : Int) < 16) = false := decide_eq_false (by omega)
            have hix : (j : Int) < 80 := by omega
            obtain ⟨k3, m3, e3⟩ : ∃ k : Nat, (j : Int) - 3 = (k : Int) ∧ k = j - 3 := ⟨j - 3, by omega, rfl⟩
            obtain ⟨k8, m8, e8⟩ : ∃ k : Nat, (j : Int) - 8 = (k : Int) ∧ k = j - 8 := ⟨j - 8, by omega, rfl⟩
            obtain ⟨k14, m14, e14⟩ : ∃ k : Nat, (j : Int) - 14 = (k : Int) ∧ k = j - 14 := ⟨j - 14, by omega, rfl⟩
            obtain ⟨k16, m16, e16⟩ : ∃ k : Nat, (j : Int) - 16 = (k : Int) ∧ k = j - 16 := ⟨j - 16, by omega, rfl⟩
            have b3 : (k3 : Int) < 80 := by omega
            have b8 : (k8 : Int) < 80 := by omega
            have b14 : (k14 : Int) < 80 := by omega
            have b16 : (k16 : Int) < 80 := by omega
            have hnx := soFar_next bl f160 80 j hj80 (rotW ((((schedW bl f160 j).getD k3 0 ^^^ (schedW bl f160 j).getD k8 0) ^^^ (schedW bl f160 j).getD k14 0) ^^^ (schedW bl f160 j).getD k16 0) 1) (by rw [if_neg hj16, f160, e3, e8, e14, e16])
            have rc := fun k (h : k < j) W (hA : Blk W wb (encW (soFar bl f160 80 j)) 83) => row_cell bl f160 80 j k hj h W wb hA
            obtain ⟨x3, X3⟩ : ∃ x, (schedW bl f160 j).getD k3 0 = x := ⟨_, rfl⟩
            obtain ⟨x8, X8⟩ : ∃ x, (schedW bl f160 j).getD k8 0 = x := ⟨_, rfl⟩
            obtain ⟨x14, X14⟩ : ∃ x, (schedW bl f160 j).getD k14 0 = x := ⟨_, rfl⟩
            obtain ⟨x16, X16⟩ : ∃ x, (schedW bl f160 j).getD k16 0 = x := ⟨_, rfl⟩
            have c3 := rc k3 (by omega) wr hA.out.1
            have c8 := rc k8 (by omega) wr hA.out.1
            have c14 := rc k14 (by omega) wr hA.out.1
            have c16 := rc k16 (by omega) wr hA.out.1
            rw [X3, X8, X14, X16] at hnx
            rw [X3] at c3
            rw [X8] at c8
            rw [X14] at c14
            rw [X16] at c16
            have HNX := Lib.hid hnx
            clear hnx rc X3 X8 X14 X16 e3 e8 e14 e16
            repeat (first | (fail) | go_values | go_skip | go_guarded | go_step | go_upon | go_back)
            refine wp_draw 26 (C := fun w' => ∃ n, w' = wr.drewN n) hmix (by kernel_rfl) (by kernel_rfl) (by kernel_rfl) (by simp) ⟨1, rfl⟩ ?_
            simp only [List.take_succ_cons, List.take_zero, List.drop_succ_cons, List.drop_zero]
            repeat (go_big_quiet_step ((go_at_call 54; exact Calls.quiet_of (ref_left_at _ _ (by omega) (by omega) _))))
            refine wpQuiet_nil ?_
            intro _ hw'
            obtain ⟨nq, hw''⟩ := hw'
            subst hw''
            have hA1 : Hid (Blk (wr.drewN nq) wb (encW (soFar bl f160 80 j)) 83 ∧ R1 w hb st (wr.drewN nq)) := Lib.hid ⟨hA.out.1, hA.out.2.drewN nq⟩
            generalize wr.drewN nq = W1 at hA1 ⊢
            have hc : W1.cell? ⟨wb, j, none⟩ = some (.int .u32 (wd ((soFar bl f160 80 j).getD j 0))) := by rw [hA1.out.1.cell, encW_get _ _ (by rw [soFar_len _ _ _ _ hj]; exact hj80)]
            have hf := hA1.out.1.free j
            clear hA c3 c8 c14 c16
            have hA3 : Hid (Blk (W1.setCell ⟨wb, j, none⟩ (.int .u32 (wd (rotW (((x3 ^^^ x8) ^^^ x14) ^^^ x16) 1)))) wb (encW (soFar bl f160 80 (j + 1))) 83 ∧ R1 w hb st (W1.setCell ⟨wb, j, none⟩ (.int .u32 (wd (rotW (((x3 ^^^ x8) ^^^ x14) ^^^ x16) 1))))) :=
              Lib.hid ⟨by rw [HNX.out, ← encW_set]; exact hA1.out.1.set j _, hA1.out.2.set ⟨wb, j, none⟩ _ hbw hlw⟩
            clear hA1
            go_wp2_with fail
            go_roundw
            case rel => exact ⟨j + 1, by omega, by go_num, hA3⟩
            case measure => simp [intOf]; omega
        · obtain rfl : j = 80 := by omega
          have hd1 : decide ((80 : Int) < 80) = false := rfl
          rw [soFar_all] at hA
          obtain ⟨u0, u1, u2, u3, u4, hst⟩ := len5 st hA.out.2.len
          have g0 : wr.cell? ⟨hb, 0, none⟩ = some (.int .u32 (wd u0)) := by rw [hA.out.2.h.cell, hst]; rfl
          have g1 : wr.cell? ⟨hb, 1, none⟩ = some (.int .u32 (wd u1)) := by rw [hA.out.2.h.cell, hst]; rfl
          have g2 : wr.cell? ⟨hb, 2, none⟩ = some (.int .u32 (wd u2)) := by rw [hA.out.2.h.cell, hst]; rfl
          have g3 : wr.cell? ⟨hb, 3, none⟩ = some (.int .u32 (wd u3)) := by rw [hA.out.2.h.cell, hst]; rfl
          have g4 : wr.cell? ⟨hb, 4, none⟩ = some (.int .u32 (wd u4)) := by rw [hA.out.2.h.cell, hst]; rfl
          have HST := Lib.hid hst
          clear hst
          repeat (first | (fail) | go_values | go_skip | go_guarded | go_step | go_upon | go_back)
          clear g0 g1 g2 g3 g4
          have hA0 : Hid (Blk wr wb (encW (schedW bl f160 80)) 83 ∧ R1 w hb st wr) := hA
          have hst0 : Hid ((run1 st bl 0).1 = [u0, u1, u2, u3, u4]) := HST
          clear hA
          go_loopw [8, 9, 10, 11, 12, 13] (fun a b c d e i wr => ∃ (k : Nat) (v0 v1 v2 v3 v4 : W32), k ≤ 80 ∧ i = .int .i64 k ∧ a = .int .u32 (wd v0) ∧ b = .int .u32 (wd v1) ∧ c = .int .u32 (wd v2) ∧ d = .int .u32 (wd v3) ∧ e = .int .u32 (wd v4) ∧ Hid ((run1 st bl k).1 = [v0, v1, v2, v3, v4]) ∧ Hid (Blk wr wb (encW (schedW bl f160 80)) 83 ∧ R1 w hb st wr)) (fun _ _ _ _ _ i _ => 80 - (intOf i).toNat)
          case atStart => exact ⟨0, u0, u1, u2, u3, u4, Nat.zero_le _, rfl, rfl, rfl, rfl, rfl, rfl, hst0, hA0⟩
          case round =>
            obtain ⟨k, v0, v1, v2, v3, v4, hk, rfl, rfl, rfl, rfl, rfl, rfl, hv, hA⟩ := hrel
            by_cases hk80 : k < 80
            · have hd2 : decide ((k : Int) < 80) = true := decide_eq_true (by omega)
              have hki : (k : Int) < 80 := by omega
              have hnx := run1_word st bl H16.out k
              rw [hv.out] at hnx
              obtain ⟨y, Y⟩ : ∃ y, atW bl f160 k = y := ⟨_, rfl⟩
              rw [Y, step1_ref v0 v1 v2 v3 v4 y k hk80] at hnx
              have ay : wr.cell? ⟨wb, k, none⟩ = some (.int .u32 (wd y)) := by rw [hA.out.1.cell, encW_get _ _ (by rw [schedW_len]; exact hk80), schedW_get _ _ _ _ hk80, Y]
              have hx4 : ∀ x : W32, bits .xor .u32 (wd x) 4294967295 = wd (x ^^^ 4294967295#32) := fun x => wd_xor x 4294967295#32
              have hk0 : ∀ x : W32, IntKind.u32.wrap (wd x + 1518500249) = wd (x + 1518500249#32) := fun x => wd_add x 1518500249#32
              have hk1 : ∀ x : W32, IntKind.u32.wrap (wd x + 1859775393) = wd (x + 1859775393#32) := fun x => wd_add x 1859775393#32
              have hk2 : ∀ x : W32, IntKind.u32.wrap (wd x + 2400959708) = wd (x + 2400959708#32) := fun x => wd_add x 2400959708#32
              have hk3 : ∀ x : W32, IntKind.u32.wrap (wd x + 3395469782) = wd (x + 3395469782#32) := fun x => wd_add x 3395469782#32
              clear Y hv
              by_cases h1 : k < 20
              · have hf : fOf k v1 v2 v3 = (v1 &&& v2) ||| ((v1 ^^^ 4294967295#32) &&& v3) := by unfold fOf; (repeat (first | rw [if_pos (by omega)] | rw [if_neg (by omega)]))
                have hc : kOf k = 1518500249#32 := by unfold kOf; (repeat (first | rw [if_pos (by omega)] | rw [if_neg (by omega)]))
                rw [hf, hc] at hnx
                have qa : decide ((k : Int) < 20) = true := by simp; omega
                have qb : decide ((k : Int) < 40) = true := by simp; omega
                have qc : decide ((k : Int) < 60) = true := by simp; omega
                have HN := Lib.hid hnx
                clear hnx hf hc
                repeat (first | (fail) | go_values | go_skip | go_guarded | go_step | go_upon | go_back)
                go_quiet ((go_at_call 54; exact Calls.quiet_of (ref_left_at _ _ (by omega) (by omega) _)))
                have hA1 : Hid (Blk (wr.drewN nq) wb (encW (schedW bl f160 80)) 83 ∧ R1 w hb st (wr.drewN nq)) := Lib.hid ⟨hA.out.1, hA.out.2.drewN nq⟩
                generalize wr.drewN nq = W1 at hA1 ⊢
                clear ay hA
                repeat (first | ((go_at_call 54; refine (Hid.out (p := _) ?_))) | go_values | go_skip | go_guarded | go_step | go_upon | go_back)
                refine Lib.hid ?_
                refine (ref_left_at _ _ (by omega) (by omega) _).mono ?_
                rintro e W2 ⟨rfl, m, rfl⟩
                simp only []
                have hA2 : Hid (Blk (W1.drewN m) wb (encW (schedW bl f160 80)) 83 ∧ R1 w hb st (W1.drewN m)) := Lib.hid ⟨hA1.out.1, hA1.out.2.drewN m⟩
                generalize W1.drewN m = W2 at hA2 ⊢
                clear hA1
                repeat (first | (fail) | go_values | go_skip | go_guarded | go_step | go_upon | go_back)
                go_roundw
                case rel => exact ⟨k + 1, _, _, _, _, _, by omega, by go_num, rfl, rfl, rfl, rfl, rfl, HN, hA2⟩
                case measure => simp [intOf]; omega
              · by_cases h2 : k < 40
                · have hf : fOf k v1 v2 v3 = (v1 ^^^ v2) ^^^ v3 := by unfold fOf; (repeat (first | rw [if_pos (by omega)] | rw [if_neg (by omega)]))
                  have hc : kOf k = 1859775393#32 := by unfold kOf; (repeat (first | rw [if_pos (by omega)] | rw [if_neg (by omega)]))
                  rw [hf, hc] at hnx
                  have qa : decide ((k : Int) < 20) = false := by simp; omega
                  have qb : decide ((k : Int) < 40) = true := by simp; omega
                  have qc : decide ((k : Int) < 60) = true := by simp; omega
                  have HN := Lib.hid hnx
                  clear hnx hf hc
                  repeat (first | (fail) | go_values | go_skip | go_guarded | go_step | go_upon | go_back)
                  go_quiet ((go_at_call 54; exact Calls.quiet_of (ref_left_at _ _ (by omega) (by omega) _)))
                  have hA1 : Hid (Blk (wr.drewN nq) wb (encW (schedW bl f160 80)) 83 ∧ R1 w hb st (wr.drewN nq)) := Lib.hid ⟨hA.out.1, hA.out.2.drewN nq⟩
                  generalize wr.drewN nq = W1 at hA1 ⊢
                  clear ay hA
                  repeat (first | ((go_at_call 54; refine (Hid.out (p := _) ?_))) | go_values | go_skip | go_guarded | go_step | go_upon | go_back)
                  refine Lib.hid ?_
                  refine (ref_left_at _ _ (by omega) (by omega) _).mono ?_
                  rintro e W2 ⟨rfl, m, rfl⟩
                  simp only []
                  have hA2 : Hid (Blk (W1.drewN m) wb (encW (schedW bl f160 80)) 83 ∧ R1 w hb st (W1.drewN m)) := Lib.hid ⟨hA1.out.1, hA1.out.2.drewN m⟩
                  generalize W1.drewN m = W2 at hA2 ⊢
                  clear hA1
                  repeat (first | (fail) | go_values | go_skip | go_guarded | go_step | go_upon | go_back)
                  go_roundw
                  case rel => exact ⟨k + 1, _, _, _, _, _, by omega, by go_num, rfl, rfl, rfl, rfl, rfl, HN, hA2⟩
                  case measure => simp [intOf]; omega
                · by_cases h3 : k < 60
                  · have hf : fOf k v1 v2 v3 = ((v1 &&& v2) ||| (v1 &&& v3)) ||| (v2 &&& v3) := by unfold fOf; (repeat (first | rw [if_pos (by omega)] | rw [if_neg (by omega)]))
                    have hc : kOf k = 2400959708#32 := by unfold kOf; (repeat (first | rw [if_pos (by omega)] | rw [if_neg (by omega)]))
                    rw [hf, hc] at hnx
                    have qa : decide ((k : Int) < 20) = false := by simp; omega
                    have qb : decide ((k : Int) < 40) = false := by simp; omega
                    have qc : decide ((k : Int) < 60) = true := by simp; omega
                    have HN := Lib.hid hnx
                    clear hnx hf hc
                    repeat (first | (fail) | go_values | go_skip | go_guarded | go_step | go_upon | go_back)
                    go_quiet ((go_at_call 54; exact Calls.quiet_of (ref_left_at _ _ (by omega) (by omega) _)))
                    have hA1 : Hid (Blk (wr.drewN nq) wb (encW (schedW bl f160 80)) 83 ∧ R1 w hb st (wr.drewN nq)) := Lib.hid ⟨hA.out.1, hA.out.2.drewN nq⟩
                    generalize wr.drewN nq = W1 at hA1 ⊢
                    clear ay hA
                    repeat (first | ((go_at_call 54; refine (Hid.out (p := _) ?_))) | go_values | go_skip | go_guarded | go_step | go_upon | go_back)
                    refine Lib.hid ?_
                    refine (ref_left_at _ _ (by omega) (by omega) _).mono ?_
                    rintro e W2 ⟨rfl, m, rfl⟩
                    simp only []
                    have hA2 : Hid (Blk (W1.drewN m) wb (encW (schedW bl f160 80)) 83 ∧ R1 w hb st (W1.drewN m)) := Lib.hid ⟨hA1.out.1, hA1.out.2.drewN m⟩
                    generalize W1.drewN m = W2 at hA2 ⊢
                    clear hA1
                    repeat (first | (fail) | go_values | go_skip | go_guarded | go_step | go_upon | go_back)
                    go_roundw
                    case rel => exact ⟨k + 1, _, _, _, _, _, by omega, by go_num, rfl, rfl, rfl, rfl, rfl, HN, hA2⟩
                    case measure => simp [intOf]; omega
                  · have hf : fOf k v1 v2 v3 = (v1 ^^^ v2) ^^^ v3 := by unfold fOf; (repeat (first | rw [if_pos (by omega)] | rw [if_neg (by omega)]))
                    have hc : kOf k = 3395469782#32 := by unfold kOf; (repeat (first | rw [if_pos (by omega)] | rw [if_neg (by omega)]))
                    rw [hf, hc] at hnx
                    have qa : decide ((k : Int) < 20) = false := by simp; omega
                    have qb : decide ((k : Int) < 40) = false := by simp; omega
                    have qc : decide ((k : Int) < 60) = false := by simp; omega
                    have HN := Lib.hid hnx
                    clear hnx hf hc
                    repeat (first | (fail) | go_values | go_skip | go_guarded | go_step | go_upon | go_back)
                    go_quiet ((go_at_call 54; exact Calls.quiet_of (ref_left_at _ _ (by omega) (by omega) _)))
                    have hA1 : Hid (Blk (wr.drewN nq) wb (encW (schedW bl f160 80)) 83 ∧ R1 w hb st (wr.drewN nq)) := Lib.hid ⟨hA.out.1, hA.out.2.drewN nq⟩
                    generalize wr.drewN nq = W1 at hA1 ⊢
                    clear ay hA
                    repeat (first | ((go_at_call 54; refine (Hid.out (p := _) ?_))) | go_values | go_skip | go_guarded | go_step | go_upon | go_back)
                    refine Lib.hid ?_
                    refine (ref_left_at _ _ (by omega) (by omega) _).mono ?_
                    rintro e W2 ⟨rfl, m, rfl⟩
                    simp only []
                    have hA2 : Hid (Blk (W1.drewN m) wb (encW (schedW bl f160 80)) 83 ∧ R1 w hb st (W1.drewN m)) := Lib.hid ⟨hA1.out.1, hA1.out.2.drewN m⟩
                    generalize W1.drewN m = W2 at hA2 ⊢
                    clear hA1
                    repeat (first | (fail) | go_values | go_skip | go_guarded | go_step | go_upon | go_back)
                    go_roundw
                    case rel => exact ⟨k + 1, _, _, _, _, _, by omega, by go_num, rfl, rfl, rfl, rfl, rfl, HN, hA2⟩
                    case measure => simp [intOf]; omega
            · obtain rfl : k = 80 := by omega
              have hd2 : decide ((80 : Int) < 80) = false := rfl
              obtain ⟨y0, y1, y2, y3, y4, hst⟩ := len5 st hA.out.2.len
              have g0 : wr.cell? ⟨hb, 0, none⟩ = some (.int .u32 (wd y0)) := by rw [hA.out.2.h.cell, hst]; rfl
              have g1 : wr.cell? ⟨hb, 1, none⟩ = some (.int .u32 (wd y1)) := by rw [hA.out.2.h.cell, hst]; rfl
              have g2 : wr.cell? ⟨hb, 2, none⟩ = some (.int .u32 (wd y2)) := by rw [hA.out.2.h.cell, hst]; rfl
              have g3 : wr.cell? ⟨hb, 3, none⟩ = some (.int .u32 (wd y3)) := by rw [hA.out.2.h.cell, hst]; rfl
              have g4 : wr.cell? ⟨hb, 4, none⟩ = some (.int .u32 (wd y4)) := by rw [hA.out.2.h.cell, hst]; rfl
              have fr := hA.out.2.h.free
              have hcp : comp1 st bl = List.zipWith (· + ·) st [v0, v1, v2, v3, v4] := by rw [← hv.out]; rfl
              have hnx : foldB comp1 (N - (n + 1)) (comp1 st bl) (P.drop (p + 64)) = fin := by
                have h := hfo.out
                rw [show N - n = (N - (n + 1)) + 1 by omega, foldB_succ, HBL.out, List.drop_drop] at h
                exact h
              have hpt := five_put st v0 v1 v2 v3 v4 y0 y1 y2 y3 y4 hst wr hb hA.out.2.h
              rw [← hcp] at hpt
              have hbl := (((((hA.out.2.below.setCell (p := ⟨hb, 0, none⟩) hA.out.2.hlo (.int .u32 (wd (y0 + v0)))).setCell (p := ⟨hb, 1, none⟩) hA.out.2.hlo (.int .u32 (wd (y1 + v1)))).setCell (p := ⟨hb, 2, none⟩) hA.out.2.hlo (.int .u32 (wd (y2 + v2)))).setCell (p := ⟨hb, 3, none⟩) hA.out.2.hlo (.int .u32 (wd (y3 + v3)))).setCell (p := ⟨hb, 4, none⟩) hA.out.2.hlo (.int .u32 (wd (y4 + v4))))
              have HRn : Hid (R1 w hb (comp1 st bl) (((((wr.setCell ⟨hb, 0, none⟩ (.int .u32 (wd (y0 + v0)))).setCell ⟨hb, 1, none⟩ (.int .u32 (wd (y1 + v1)))).setCell ⟨hb, 2, none⟩ (.int .u32 (wd (y2 + v2)))).setCell ⟨hb, 3, none⟩ (.int .u32 (wd (y3 + v3)))).setCell ⟨hb, 4, none⟩ (.int .u32 (wd (y4 + v4))))) :=
                Lib.hid ⟨by rw [comp1_len]; exact hA.out.2.len, hpt, hbl, hA.out.2.hlo⟩
              have hp64 : (p : Int) + 64 = ((p + 64 : Nat) : Int) := by push_cast; rfl
              have hp2 : p + 64 ≤ 140737488355328 := by omega
              have HP64 := Lib.hid hp64; have HNX := Lib.hid hnx
              clear hA hp64 hnx hcp hpt hbl hst hv
              repeat (first | (fail) | go_values | go_skip | go_guarded | go_step | go_upon | go_back)
              go_roundw
              case rel => exact ⟨n + 1, p + 64, comp1 st bl, by omega, by rw [← HP64.out], Lib.hid (by have := hpn.out; omega), HNX, HRn⟩
              case measure => simp [intOf]; omega
    · obtain rfl : n = N := by omega
      have hpS : ¬ ((p : Int) < (S.size : Int)) := by have := hpn.out; have := HSZ.out; omega
      have hst : st = fin := by
        have h := hfo.out
        rw [Nat.sub_self] at h
        exact h
      subst hst
      have htl := fun W h => ref_tell st hb 5 83 W (by rw [HFL.out]; omega) h
      rw [HFL.out] at htl
      have HTL := Lib.hid htl
      clear htl
      repeat (first | (fail) | go_values | go_skip | go_guarded | go_step | go_upon | go_back)
      refine (HTL.out _ hR.out.h).mono ?_
      rintro e w9 ⟨rfl, hB9⟩
      simp only []
      have HB9 := Lib.hid (hR.out.below.trans (hB9.mono hR.out.below.size))
      clear hB9
      go_wp2_with fail
      go_ret
      exact ⟨rfl, HB9.out⟩
end Go.Proofs.YtmkodendjlmijaaGreatDoor

/- The document's hash of a name (its chapter 9): it is the program's. -/
namespace Go.Proofs.YtmkodendjlmijaaGreatDoor
open Go.RowKit

set_option maxRecDepth 100000 in
theorem ref_hash (n salt : ByteArray) (rounds : Int) (w : World) : Calls Tryz.prog 9 #[.string n, .string salt, .int .i64 rounds] w (PairP (hashR n salt rounds) w) := by
  have h1 := fun w => ref_right n w
  cases hr : nameRight n with
  | false =>
    rw [show hashR n salt rounds = (⟨#[]⟩, 2) from if_pos hr]
    rw [hr] at h1
    have HR := Lib.hid h1
    clear h1 hr
    go_enter Tryz.func9, Tryz.ntmps9
    go_wp2_with (go_at_call 27; refine (HR.out _).mono ?_; rintro e w1 ⟨rfl, hb1⟩)
    go_ret2
    exact ⟨rfl, hb1⟩
  | true =>
  rw [hr] at h1
  have hn : ¬ nameRight n = false := by rw [hr]; simp
  have h2 := fun w => ref_lower n w
  have hz : (nameLower n).size ≤ 255 := by
    have h := (right_size0 hr).2
    rw [nameLower, if_pos hr, size_lowS]; exact h
  have HR := Lib.hid h1
  clear h1 hr
  by_cases c1 : rounds < 0
  · rw [show hashR n salt rounds = (⟨#[]⟩, 1) by rw [hashR, if_neg hn, if_pos (.inl c1)]]
    have q1 : decide (rounds < 0) = true := decide_eq_true c1
    clear hn h2 hz c1
    go_enter Tryz.func9, Tryz.ntmps9
    go_wp2_with (go_at_call 27; refine (HR.out _).mono ?_; rintro e w1 ⟨rfl, hb1⟩)
    go_ret2
    exact ⟨rfl, hb1⟩
  have q1 : decide (rounds < 0) = false := decide_eq_false c1
  by_cases c2 : 65535 < rounds
  · rw [show hashR n salt rounds = (⟨#[]⟩, 1) by rw [hashR, if_neg hn, if_pos (.inr c2)]]
    have q2 : decide ((65535 : Int) < rounds) = true := decide_eq_true c2
    clear hn h2 hz c1 c2
    go_enter Tryz.func9, Tryz.ntmps9
    go_wp2_with (go_at_call 27; refine (HR.out _).mono ?_; rintro e w1 ⟨rfl, hb1⟩)
    go_ret2
    exact ⟨rfl, hb1⟩
  have q2 : decide ((65535 : Int) < rounds) = false := decide_eq_false c2
  by_cases c3 : 255 < salt.size
  · rw [show hashR n salt rounds = (⟨#[]⟩, 3) by rw [hashR, if_neg hn, if_neg (by omega), if_pos c3]]
    have q3 : decide ((255 : Int) < (salt.size : Int)) = true := decide_eq_true (by omega)
    clear hn h2 hz c1 c2 c3
    go_enter Tryz.func9, Tryz.ntmps9
    go_wp2_with (go_at_call 27; refine (HR.out _).mono ?_; rintro e w1 ⟨rfl, hb1⟩)
    go_ret2
    exact ⟨rfl, hb1⟩
  have q3 : decide ((255 : Int) < (salt.size : Int)) = false := decide_eq_false (by omega)
  rw [show hashR n salt rounds = (hashIt salt (rounds.toNat + 1) (nameLower n), 0) by rw [hashR, if_neg hn, if_neg (by omega), if_neg c3]]
  obtain ⟨r, rfl⟩ : ∃ r : Nat, rounds = (r : Int) := ⟨rounds.toNat, by omega⟩
  have hrd : (r : Int) ≤ 65535 := by omega
  have hss : salt.size ≤ 255 := by omega
  rw [Int.toNat_natCast]
  generalize nameLower n = low at *
  have hs0 := fun w => ref_sum160 (low ++ salt) (by rw [ByteArray.size_append]; omega) w
  have hst0 : hashIt salt (r + 1) low = hashIt salt r (sumB low salt) := rfl
  have hsz0 := sumB_size low salt
  rw [show bs (sum160 (low ++ salt).data.toList) = sumB low salt from rfl] at hs0
  rw [hst0]
  have n0 : ¬ 9223372036854775807 < low.size + salt.size := by omega
  generalize sumB low salt = x0 at *
  have HL := Lib.hid h2
  have HSS := Lib.hid hss
  have HS0 := Lib.hid hs0
  clear hn h2 c1 c2 c3 hss hs0 hst0
  go_enter Tryz.func9, Tryz.ntmps9
  go_wp2_with (first | (go_at_call 27; refine (HR.out _).mono ?_; rintro e w1 ⟨rfl, hb1⟩) | (go_at_call 29; refine (HL.out _).mono ?_; rintro e w2 ⟨rfl, hb2⟩) | (go_at_call 28; refine (HS0.out _).mono ?_; rintro e w4 ⟨rfl, hb4⟩))
  have hbt := hb1.trans (hb2.mono hb1.size)
  have HB := Lib.hid (hbt.trans (hb4.mono hbt.size))
  clear hb1 hb2 hb4 hbt HR HL HS0
  go_loopw [9, 10] (fun h i wr => ∃ (k : Nat) (x : ByteArray), k ≤ r ∧ i = .int .i64 k ∧ h = .string x ∧ x.size ≤ 255 ∧ Hid (hashIt salt (r - k) x = hashIt salt r x0) ∧ Hid (Below w.heap.size w wr)) (fun _ i _ => r - (intOf i).toNat)
  case atStart => exact ⟨0, x0, by omega, rfl, rfl, by omega, Lib.hid rfl, HB⟩
  case round =>
    obtain ⟨k, x, hk, rfl, rfl, hx, hh, hB⟩ := hrel
    by_cases hlt : k < r
    · have hs := fun w => ref_sum160 (x ++ salt) (by rw [ByteArray.size_append]; have := HSS.out; omega) w
      have hst : hashIt salt (r - (k + 1)) (sumB x salt) = hashIt salt r x0 := by
        rw [← hh.out, show r - k = (r - (k + 1)) + 1 by omega]; rfl
      have hss := sumB_size x salt
      rw [show bs (sum160 (x ++ salt).data.toList) = sumB x salt from rfl] at hs
      have n1 : ¬ 9223372036854775807 < x.size + salt.size := by have := HSS.out; omega
      generalize sumB x salt = y at *
      have HS := Lib.hid hs; have HT := Lib.hid hst
      have q4 : (k : Int) < (r : Int) := by omega
      clear hs hst hh hx
      go_wp2_with (go_at_call 28; refine (HS.out _).mono ?_; rintro e w3 ⟨rfl, hb3⟩)
      have HB3 := Lib.hid (hB.out.trans (hb3.mono hB.out.size))
      clear hb3 hB
      go_roundw
      case rel => exact ⟨k + 1, y, by omega, by go_num, rfl, by omega, HT, HB3⟩
      case measure => simp [intOf]; omega
    · obtain rfl : k = r := by omega
      have he := hh.out
      rw [Nat.sub_self] at he
      have HE := Lib.hid he
      clear he hh
      go_wp2_with fail
      go_ret2
      exact ⟨by rw [← HE.out]; rfl, hB.out⟩
end Go.Proofs.YtmkodendjlmijaaGreatDoor

/- The document's order of names (its chapter 1): it is the program's. -/
namespace Go.Proofs.YtmkodendjlmijaaGreatDoor
open Go.RowKit Go.BigFrame

theorem less_cmp : ∀ a b : List UInt8, Lib.compareBytes a b = if Op.bytesLess a b = true then -1 else if (a == b) = true then 0 else 1
  | [], [] => rfl
  | [], _ :: _ => rfl
  | _ :: _, [] => rfl
  | x :: a, y :: b => by
    have ih := less_cmp a b
    rw [Lib.compareBytes, Op.bytesLess]
    by_cases h1 : x < y
    · rw [if_pos h1, if_pos (by simp [h1])]
    · rw [if_neg h1]
      by_cases h2 : y < x
      · have hne : ¬ x = y := fun e => by subst e; exact h1 h2
        rw [if_pos h2, if_neg (by simp [h1, hne]), if_neg (by simp [hne])]
      · have he : x = y := UInt8.toNat_inj.1 (by rw [UInt8.lt_iff_toNat_lt] at h1 h2; omega)
        subst he
        rw [if_neg h2, ih]
        simp
theorem ref_bytes (a b : ByteArray) (w : World) : Calls Tryz.prog 57 #[.string a, .string b] w fun e w' => e = .returned (.int .i64 (Lib.compareBytes a.data.toList b.data.toList)) ∧ w = w' := by
  have hc := less_cmp a.toList b.toList
  rw [← ByteArray.toList_eq, ← ByteArray.toList_eq]
  generalize Lib.compareBytes a.toList b.toList = c at *
  cases h1 : Op.bytesLess a.toList b.toList with
  | true =>
    rw [h1] at hc
    have HC := Lib.hid hc
    clear hc
    go_enter Tryz.func57, Tryz.ntmps57
    go_wp2_with fail
    go_ret
    exact ⟨by rw [HC.out]; rfl, rfl⟩
  | false =>
    cases h2 : (a.toList == b.toList) with
    | true =>
      rw [h1, h2] at hc
      have HC := Lib.hid hc
      clear hc
      go_enter Tryz.func57, Tryz.ntmps57
      go_wp2_with fail
      go_ret
      exact ⟨by rw [HC.out]; rfl, rfl⟩
    | false =>
      rw [h1, h2] at hc
      have HC := Lib.hid hc
      clear hc
      go_enter Tryz.func57, Tryz.ntmps57
      go_wp2_with fail
      go_ret
      exact ⟨by rw [HC.out]; rfl, rfl⟩
set_option maxRecDepth 100000 in
theorem ref_cmp_wrong (a b : ByteArray) (w : World) (h : ¬ (nameRight a = true ∧ nameRight b = true)) : Calls Tryz.prog 30 #[.string a, .string b] w (CmpP a b w) := by
  have h1 := fun w => ref_lower a w
  have h2 := fun w => ref_lower b w
  have h3 : ∀ w, Calls Tryz.prog 51 #[.string (nameLower a)] w fun e w' => Below w.heap.size w w' ∧ ∃ v, e = .returned (.tuple #[v, .bool (nameRight a)]) ∧ True := fun w => (ref_labels (nameLower a) w).mono fun e w' hh => by obtain ⟨x, v, y, _⟩ := hh; exact ⟨x, v, by rw [y, right_lower], trivial⟩
  have h4 : ∀ w, Calls Tryz.prog 51 #[.string (nameLower b)] w fun e w' => Below w.heap.size w w' ∧ ∃ v, e = .returned (.tuple #[v, .bool (nameRight b)]) ∧ True := fun w => (ref_labels (nameLower b) w).mono fun e w' hh => by obtain ⟨x, v, y, _⟩ := hh; exact ⟨x, v, by rw [y, right_lower], trivial⟩
  have hr : nameCmp a b = (if nameRight a = false then (if nameRight b = false then Lib.compareBytes a.data.toList b.data.toList else -1) else if nameRight b = false then 1 else cmpL (backLabels a) (backLabels b)) := rfl
  have HE := Lib.hid hr
  clear hr
  generalize nameLower a = x at *
  generalize nameLower b = y at *
  generalize nameRight a = p at *
  generalize nameRight b = q at *
  have hby := fun w => ref_bytes a b w
  have HBY := Lib.hid hby
  clear hby
  cases p with
  | false =>
    cases q with
    | false =>
      have H1 := Lib.hid h1; have H2 := Lib.hid h2; have H3 := Lib.hid h3; have H4 := Lib.hid h4
      have bl := Below.refl w.heap.size w
      clear h1 h2 h3 h4
      go_enter Tryz.func30, Tryz.ntmps30
      go_wp2_with (go_at_call 29; refine (Hid.out (p := _) ?_))
      refine Lib.hid ?_
      refine (H1.out _).mono ?_
      rintro e w1 ⟨rfl, hb⟩
      replace bl := bl.trans (hb.mono bl.size)
      clear hb
      simp only []
      go_wp2_with (go_at_call 51; refine (Hid.out (p := _) ?_))
      refine Lib.hid ?_
      refine (H3.out _).mono ?_
      rintro e w2 ⟨hb, v, rfl, ho⟩
      replace bl := bl.trans (hb.mono bl.size)
      clear hb
      simp only []
      go_wp2_with (go_at_call 29; refine (Hid.out (p := _) ?_))
      refine Lib.hid ?_
      refine (H2.out _).mono ?_
      rintro e w3 ⟨rfl, hb⟩
      have hb3 := hb
      replace bl := bl.trans (hb.mono bl.size)
      clear hb
      simp only []
      go_wp2_with (go_at_call 51; refine (Hid.out (p := _) ?_))
      refine Lib.hid ?_
      refine (H4.out _).mono ?_
      rintro e w4 ⟨hb, u, rfl, hu⟩
      have hb4 := hb
      replace bl := bl.trans (hb.mono bl.size)
      clear hb
      simp only []
      go_wp2_with (go_at_call 57; refine (HBY.out _).mono ?_; rintro e w5 ⟨rfl, rfl⟩)
      go_ret
      exact ⟨by rw [HE.out]; rfl, bl⟩
    | true =>
      have H1 := Lib.hid h1; have H2 := Lib.hid h2; have H3 := Lib.hid h3; have H4 := Lib.hid h4
      have bl := Below.refl w.heap.size w
      clear h1 h2 h3 h4
      go_enter Tryz.func30, Tryz.ntmps30
      go_wp2_with (go_at_call 29; refine (Hid.out (p := _) ?_))
      refine Lib.hid ?_
      refine (H1.out _).mono ?_
      rintro e w1 ⟨rfl, hb⟩
      replace bl := bl.trans (hb.mono bl.size)
      clear hb
      simp only []
      go_wp2_with (go_at_call 51; refine (Hid.out (p := _) ?_))
      refine Lib.hid ?_
      refine (H3.out _).mono ?_
      rintro e w2 ⟨hb, v, rfl, ho⟩
      replace bl := bl.trans (hb.mono bl.size)
      clear hb
      simp only []
      go_wp2_with (go_at_call 29; refine (Hid.out (p := _) ?_))
      refine Lib.hid ?_
      refine (H2.out _).mono ?_
      rintro e w3 ⟨rfl, hb⟩
      have hb3 := hb
      replace bl := bl.trans (hb.mono bl.size)
      clear hb
      simp only []
      go_wp2_with (go_at_call 51; refine (Hid.out (p := _) ?_))
      refine Lib.hid ?_
      refine (H4.out _).mono ?_
      rintro e w4 ⟨hb, u, rfl, hu⟩
      have hb4 := hb
      replace bl := bl.trans (hb.mono bl.size)
      clear hb
      simp only []
      go_wp2_with fail
      go_ret
      exact ⟨by rw [HE.out]; rfl, bl⟩
  | true =>
    cases q with
    | false =>
      have H1 := Lib.hid h1; have H2 := Lib.hid h2; have H3 := Lib.hid h3; have H4 := Lib.hid h4
      have bl := Below.refl w.heap.size w
      clear h1 h2 h3 h4
      go_enter Tryz.func30, Tryz.ntmps30
      go_wp2_with (go_at_call 29; refine (Hid.out (p := _) ?_))
      refine Lib.hid ?_
      refine (H1.out _).mono ?_
      rintro e w1 ⟨rfl, hb⟩
      replace bl := bl.trans (hb.mono bl.size)
      clear hb
      simp only []
      go_wp2_with (go_at_call 51; refine (Hid.out (p := _) ?_))
      refine Lib.hid ?_
      refine (H3.out _).mono ?_
      rintro e w2 ⟨hb, v, rfl, ho⟩
      replace bl := bl.trans (hb.mono bl.size)
      clear hb
      simp only []
      go_wp2_with (go_at_call 29; refine (Hid.out (p := _) ?_))
      refine Lib.hid ?_
      refine (H2.out _).mono ?_
      rintro e w3 ⟨rfl, hb⟩
      have hb3 := hb
      replace bl := bl.trans (hb.mono bl.size)
      clear hb
      simp only []
      go_wp2_with (go_at_call 51; refine (Hid.out (p := _) ?_))
      refine Lib.hid ?_
      refine (H4.out _).mono ?_
      rintro e w4 ⟨hb, u, rfl, hu⟩
      have hb4 := hb
      replace bl := bl.trans (hb.mono bl.size)
      clear hb
      simp only []
      go_wp2_with fail
      go_ret
      exact ⟨by rw [HE.out]; rfl, bl⟩
    | true => exact absurd ⟨rfl, rfl⟩ h

theorem cmpL_at {la lb : List ByteArray} {k : Nat} (hj : k < la.length) (hk : k < lb.length) :
    cmpL (la.take (la.length - k)).reverse (lb.take (lb.length - k)).reverse = if Lib.compareBytes (la[la.length - (k + 1)]'(by omega)).data.toList (lb[lb.length - (k + 1)]'(by omega)).data.toList ≠ 0 then Lib.compareBytes (la[la.length - (k + 1)]'(by omega)).data.toList (lb[lb.length - (k + 1)]'(by omega)).data.toList else cmpL (la.take (la.length - (k + 1))).reverse (lb.take (lb.length - (k + 1))).reverse := by
  have := cmpL_take (la := la) (lb := lb) (j := la.length - (k + 1)) (k := lb.length - (k + 1)) (by omega) (by omega)
  rw [show la.length - (k + 1) + 1 = la.length - k by omega, show lb.length - (k + 1) + 1 = lb.length - k by omega] at this
  exact this
set_option maxRecDepth 100000 in
set_option maxHeartbeats 1000000 in
theorem ref_cmp_right (a b : ByteArray) (w : World) (ha : nameRight a = true) (hb : nameRight b = true) : Calls Tryz.prog 30 #[.string a, .string b] w (CmpP a b w) := by
  have h1 := fun w => ref_lower a w
  have h2 := fun w => ref_lower b w
  have h3 : ∀ w, Calls Tryz.prog 51 #[.string (nameLower a)] w fun e w' => Below w.heap.size w w' ∧ ∃ v, e = .returned (.tuple #[v, .bool true]) ∧ OwnS w.heap.size v ((labels (nameLower a)).map (·.2)) w' := fun w => (ref_labels (nameLower a) w).mono fun e w' hh => by obtain ⟨x, v, y, z⟩ := hh; exact ⟨x, v, by rw [y, right_lower, ha], z (by rw [right_lower, ha])⟩
  have h4 : ∀ w, Calls Tryz.prog 51 #[.string (nameLower b)] w fun e w' => Below w.heap.size w w' ∧ ∃ v, e = .returned (.tuple #[v, .bool true]) ∧ OwnS w.heap.size v ((labels (nameLower b)).map (·.2)) w' := fun w => (ref_labels (nameLower b) w).mono fun e w' hh => by obtain ⟨x, v, y, z⟩ := hh; exact ⟨x, v, by rw [y, right_lower, hb], z (by rw [right_lower, hb])⟩
  have hla : ((labels (nameLower a)).map (·.2)).length ≤ 255 := by
    have e1 := labelsN_len (nameLower a)
    have e2 : nameRight (nameLower a) = true := by rw [right_lower, ha]
    simp only [nameRight, Bool.and_eq_true, decide_eq_true_eq] at e2
    rw [List.length_map]; omega
  have hlb : ((labels (nameLower b)).map (·.2)).length ≤ 255 := by
    have e1 := labelsN_len (nameLower b)
    have e2 : nameRight (nameLower b) = true := by rw [right_lower, hb]
    simp only [nameRight, Bool.and_eq_true, decide_eq_true_eq] at e2
    rw [List.length_map]; omega
  have hr : nameCmp a b = cmpL ((labels (nameLower a)).map (·.2)).reverse ((labels (nameLower b)).map (·.2)).reverse := by rw [nameCmp, ha, hb]; rfl
  have HE := Lib.hid hr
  clear hr
  generalize (labels (nameLower a)).map (·.2) = la at *
  generalize (labels (nameLower b)).map (·.2) = lb at *
  generalize nameLower a = x at *
  generalize nameLower b = y at *
  have HLA := Lib.hid hla; have HLB := Lib.hid hlb
  clear hla hlb ha hb
  have H1 := Lib.hid h1; have H2 := Lib.hid h2; have H3 := Lib.hid h3; have H4 := Lib.hid h4
  have bl := Below.refl w.heap.size w
  clear h1 h2 h3 h4
  go_enter Tryz.func30, Tryz.ntmps30
  go_wp2_with (go_at_call 29; refine (Hid.out (p := _) ?_))
  refine Lib.hid ?_
  refine (H1.out _).mono ?_
  rintro e w1 ⟨rfl, hb⟩
  replace bl := bl.trans (hb.mono bl.size)
  clear hb
  simp only []
  go_wp2_with (go_at_call 51; refine (Hid.out (p := _) ?_))
  refine Lib.hid ?_
  refine (H3.out _).mono ?_
  rintro e w2 ⟨hb, v, rfl, ho⟩
  replace bl := bl.trans (hb.mono bl.size)
  clear hb
  simp only []
  go_wp2_with (go_at_call 29; refine (Hid.out (p := _) ?_))
  refine Lib.hid ?_
  refine (H2.out _).mono ?_
  rintro e w3 ⟨rfl, hb⟩
  have hb3 := hb
  replace bl := bl.trans (hb.mono bl.size)
  clear hb
  simp only []
  go_wp2_with (go_at_call 51; refine (Hid.out (p := _) ?_))
  refine Lib.hid ?_
  refine (H4.out _).mono ?_
  rintro e w4 ⟨hb, u, rfl, hu⟩
  have hb4 := hb
  replace bl := bl.trans (hb.mono bl.size)
  clear hb
  simp only []
  have hs4 := ((OwnS.strs ho).below hb3).below hb4
  have hs6 := OwnS.strs hu
  have HB6 := Lib.hid bl
  obtain ⟨A, c1, rfl, hA⟩ := hs4
  obtain ⟨B, c2, rfl, hB⟩ := hs6
  have HA := Lib.hid hA; have HB := Lib.hid hB
  clear hb3 hb4 bl ho hu hA hB
  go_wp2_with fail
  go_loopw [9] (fun i wr => ∃ k : Nat, k ≤ la.length ∧ k ≤ lb.length ∧ i = .int .i64 ((k : Int) + 1) ∧ Hid (cmpL la.reverse lb.reverse = cmpL (la.take (la.length - k)).reverse (lb.take (lb.length - k)).reverse) ∧ Hid (Below w4.heap.size w4 wr)) (fun i _ => la.length + 1 - (intOf i).toNat)
  case atStart => exact ⟨0, Nat.zero_le _, Nat.zero_le _, rfl, Lib.hid (by rw [Nat.sub_zero, Nat.sub_zero, List.take_length, List.take_length]), Lib.hid (Below.refl _ _)⟩
  case round =>
    obtain ⟨k, hj, hk, rfl, HC, HW⟩ := hrel
    by_cases h0 : k = la.length ∨ k = lb.length
    · have hf := cmpL_end la lb (la.length - k) (lb.length - k) (by omega) (by omega) (by omega)
      have HF := Lib.hid (HC.out.trans hf)
      clear hf HC
      by_cases e1 : k = la.length
      · have q1 : decide ((k : Int) + 1 ≤ (la.length : Int)) = false := decide_eq_false (by omega)
        by_cases e2 : k = lb.length
        · have q2 : decide ((la.length : Int) < (lb.length : Int)) = false := decide_eq_false (by omega)
          have p2 : ¬ la.length < lb.length := by omega
          have p3 : ¬ lb.length < la.length := by omega
          have E := Lib.hid (And.intro e1 e2)
          clear h0 e1 e2 hj hk
          go_wp2_with fail
          go_ret
          exact ⟨ret_int (by rw [HE.out, HF.out]; have := E.out; omega), HB6.out.trans (HW.out.mono HB6.out.size)⟩
        · have p2 : la.length < lb.length := by omega
          have E := Lib.hid (show k = la.length ∧ k < lb.length by omega)
          clear h0 e1 e2 hj hk
          go_wp2_with fail
          go_ret
          exact ⟨ret_int (by rw [HE.out, HF.out]; have := E.out; omega), HB6.out.trans (HW.out.mono HB6.out.size)⟩
      · have q1 : decide ((k : Int) + 1 ≤ (la.length : Int)) = true := decide_eq_true (by omega)
        have q4 : decide ((k : Int) + 1 ≤ (lb.length : Int)) = false := decide_eq_false (by omega)
        have p2 : ¬ la.length < lb.length := by omega
        have p3 : lb.length < la.length := by omega
        have E := Lib.hid (show k = lb.length ∧ k < la.length by omega)
        clear h0 e1 hj hk
        go_wp2_with fail
        go_ret
        exact ⟨ret_int (by rw [HE.out, HF.out]; have := E.out; omega), HB6.out.trans (HW.out.mono HB6.out.size)⟩
    · obtain ⟨g, o, rfl, hg, hcg⟩ := HA.out (by omega)
      obtain ⟨g2, o2, rfl, hg2, hcg2⟩ := HB.out (by omega)
      obtain ⟨m, hm⟩ : ∃ m, la.length - (k + 1) = m := ⟨_, rfl⟩
      obtain ⟨n, hn⟩ : ∃ n, lb.length - (k + 1) = n := ⟨_, rfl⟩
      have hm' : m < la.length := by omega
      have hn' : n < lb.length := by omega
      have d1 := HW.out.cell (p := ⟨g, o + m, none⟩) hg
      rw [hcg m hm'] at d1
      have d2 := HW.out.cell (p := ⟨g2, o2 + n, none⟩) hg2
      rw [hcg2 n hn'] at d2
      have hst := cmpL_at (la := la) (lb := lb) (k := k) (by omega) (by omega)
      have hst2 : cmpL la.reverse lb.reverse = if Lib.compareBytes la[m].data.toList lb[n].data.toList ≠ 0 then Lib.compareBytes la[m].data.toList lb[n].data.toList else cmpL (la.take m).reverse (lb.take n).reverse := by
        subst hm hn
        exact HC.out.trans hst
      generalize la[m] = lx at *
      generalize lb[n] = ly at *
      have q1 : decide ((k : Int) + 1 ≤ (la.length : Int)) = true := decide_eq_true (by omega)
      have q2 : decide ((k : Int) + 1 ≤ (lb.length : Int)) = true := decide_eq_true (by omega)
      have r1 : IntKind.i64.wrap (m : Int) = (m : Int) := IntWalk.i64_in _ (by have := HLA.out; omega)
      have r2 : IntKind.i64.wrap (n : Int) = (n : Int) := IntWalk.i64_in _ (by have := HLB.out; omega)
      have r3 : (la.length : Int) - ((k : Int) + 1) = (m : Int) := by omega
      have r4 : (lb.length : Int) - ((k : Int) + 1) = (n : Int) := by omega
      have HST := Lib.hid hst2
      have HN := Lib.hid (show la.length - (k + 1) = m ∧ lb.length - (k + 1) = n ∧ k < la.length ∧ k < lb.length from ⟨hm, hn, by omega, by omega⟩)
      have hkb : (k : Int) ≤ 255 := by have := HLA.out; omega
      have q6 : (0 : Int) ≤ (m : Int) := by omega
      have q7 : (0 : Int) ≤ (n : Int) := by omega
      have q3 : (m : Int) < (la.length : Int) := by omega
      have q4 : (n : Int) < (lb.length : Int) := by omega
      clear hst hst2 HC hcg hcg2 h0 hm hn hm' hn' hj hk
      have hby := fun w => ref_bytes lx ly w
      generalize Lib.compareBytes lx.data.toList ly.data.toList = c at *
      have HBY := Lib.hid hby
      clear hby
      by_cases hc : c = 0
      · subst hc
        go_wp2_with fail
        go_quiet ((go_at_call 57; exact Calls.quiet_of_same ((HBY.out _).mono fun e w' h => ⟨h.1, h.2.symm⟩)))
        go_wp2_with fail
        go_roundw
        case rel =>
          refine ⟨k + 1, by have := HN.out; omega, by have := HN.out; omega, by go_num, Lib.hid ?_, Lib.hid ?_⟩
          · obtain ⟨e1, e2, _, _⟩ := HN.out
            rw [e1, e2]
            simpa using HST.out
          · exact ⟨HW.out.os, HW.out.tape, HW.out.output, HW.out.size, HW.out.block⟩
        case measure => have h1 := HN.out.2.2.1; have h2 := HLA.out; simp [intOf]; omega
      · have q5 : (c == 0) = false := beq_eq_false_iff_ne.2 hc
        have hst := HST.out
        rw [if_pos hc] at hst
        have HS2 := Lib.hid hst
        clear hst HST hc
        go_wp2_with fail
        go_quiet ((go_at_call 57; exact Calls.quiet_of_same ((HBY.out _).mono fun e w' h => ⟨h.1, h.2.symm⟩)))
        go_wp2_with fail
        go_ret
        exact ⟨ret_int (by rw [HE.out, HS2.out]), (fun e : Below w.heap.size w wr => ⟨e.os, e.tape, e.output, e.size, e.block⟩) (HB6.out.trans (HW.out.mono HB6.out.size))⟩
theorem ref_compare (a b : ByteArray) (w : World) : Calls Tryz.prog 30 #[.string a, .string b] w (CmpP a b w) := by
  by_cases h : nameRight a = true ∧ nameRight b = true
  · exact ref_cmp_right a b w h.1 h.2
  · exact ref_cmp_wrong a b w h
end Go.Proofs.YtmkodendjlmijaaGreatDoor

/- Whether a name is between two others, as the document's chapter 9 tells it: it is the program's. -/
namespace Go.Proofs.YtmkodendjlmijaaGreatDoor
open Go.RowKit

theorem btwB_ref (a n b : ByteArray) : btwB a n b = (if (nameRight a && nameRight n && nameRight b) = false then false else if nameCmp a b < 0 then decide (0 < nameCmp n a) && decide (nameCmp n b < 0) else decide (0 < nameCmp n a) || (decide (nameCmp n b < 0) && decide (nameCmp n a ≠ 0))) := by
  rw [btwB]
  by_cases h : (nameRight a && nameRight n && nameRight b) = false
  · rw [if_pos h, if_pos h]
  · rw [if_neg h, if_neg h]
    simp only [Bool.not_eq_false, Bool.and_eq_true] at h
    obtain ⟨⟨ha, hn⟩, hb⟩ := h
    have h1 := nameCmp_anti ha hn
    have h2 : (!nameEq a n) = decide (nameCmp n a ≠ 0) := by
      cases he : nameEq a n with
      | true => have := (nameCmp_eq ha hn).2 he; rw [decide_eq_false (by omega)]; rfl
      | false =>
        rw [decide_eq_true]; rfl
        intro h; have := (nameCmp_eq ha hn).1 (by omega); rw [he] at this; cases this
    have h3 : decide (nameCmp a n < 0) = decide (0 < nameCmp n a) := by
      rw [Bool.eq_iff_iff]; simp only [decide_eq_true_eq]; omega
    rw [h2, h3]
set_option maxRecDepth 100000 in
set_option maxHeartbeats 1000000 in
theorem ref_between (a n b : ByteArray) (w : World) : Calls Tryz.prog 10 #[.string a, .string n, .string b] w fun e w' => e = .returned (.bool (btwB a n b)) ∧ Below w.heap.size w w' := by
  have h1 := fun w => ref_right a w
  have h2 := fun w => ref_right n w
  have h3 := fun w => ref_right b w
  have h4 : ∀ w, Calls Tryz.prog 30 #[.string n, .string a] w fun e w' => e = .returned (.int .i64 (nameCmp n a)) ∧ Below w.heap.size w w' := fun w => ref_compare n a w
  have h5 : ∀ w, Calls Tryz.prog 30 #[.string n, .string b] w fun e w' => e = .returned (.int .i64 (nameCmp n b)) ∧ Below w.heap.size w w' := fun w => ref_compare n b w
  have h6 : ∀ w, Calls Tryz.prog 30 #[.string a, .string b] w fun e w' => e = .returned (.int .i64 (nameCmp a b)) ∧ Below w.heap.size w w' := fun w => ref_compare a b w
  have hr := btwB_ref a n b
  generalize nameRight a = p1 at *
  generalize nameRight n = p2 at *
  generalize nameRight b = p3 at *
  generalize nameCmp n a = c1 at *
  generalize nameCmp n b = c2 at *
  generalize nameCmp a b = c3 at *
  have H1 := Lib.hid h1; have H2 := Lib.hid h2; have H3 := Lib.hid h3; have H4 := Lib.hid h4; have H5 := Lib.hid h5; have H6 := Lib.hid h6; have HE := Lib.hid hr
  have bl := Below.refl w.heap.size w
  clear h1 h2 h3 h4 h5 h6 hr
  cases p1 with
  | false =>
    go_enter Tryz.func10, Tryz.ntmps10
    go_wp2_with (go_at_call 27; refine (Hid.out (p := _) ?_))
    refine Lib.hid ?_
    refine (H1.out _).mono ?_
    rintro e w1 ⟨rfl, hb⟩
    replace bl := bl.trans (hb.mono bl.size)
    clear hb
    simp only []
    go_wp2_with (go_at_call 27; refine (Hid.out (p := _) ?_))
    refine Lib.hid ?_
    refine (H2.out _).mono ?_
    rintro e w2 ⟨rfl, hb⟩
    replace bl := bl.trans (hb.mono bl.size)
    clear hb
    simp only []
    go_wp2_with (go_at_call 27; refine (Hid.out (p := _) ?_))
    refine Lib.hid ?_
    refine (H3.out _).mono ?_
    rintro e w3 ⟨rfl, hb⟩
    replace bl := bl.trans (hb.mono bl.size)
    clear hb
    simp only []
    go_wp2_with fail
    go_ret
    exact ⟨by rw [HE.out]; rfl, bl⟩
  | true =>
  cases p2 with
  | false =>
    go_enter Tryz.func10, Tryz.ntmps10
    go_wp2_with (go_at_call 27; refine (Hid.out (p := _) ?_))
    refine Lib.hid ?_
    refine (H1.out _).mono ?_
    rintro e w1 ⟨rfl, hb⟩
    replace bl := bl.trans (hb.mono bl.size)
    clear hb
    simp only []
    go_wp2_with (go_at_call 27; refine (Hid.out (p := _) ?_))
    refine Lib.hid ?_
    refine (H2.out _).mono ?_
    rintro e w2 ⟨rfl, hb⟩
    replace bl := bl.trans (hb.mono bl.size)
    clear hb
    simp only []
    go_wp2_with (go_at_call 27; refine (Hid.out (p := _) ?_))
    refine Lib.hid ?_
    refine (H3.out _).mono ?_
    rintro e w3 ⟨rfl, hb⟩
    replace bl := bl.trans (hb.mono bl.size)
    clear hb
    simp only []
    go_wp2_with fail
    go_ret
    exact ⟨by rw [HE.out]; rfl, bl⟩
  | true =>
  cases p3 with
  | false =>
    go_enter Tryz.func10, Tryz.ntmps10
    go_wp2_with (go_at_call 27; refine (Hid.out (p := _) ?_))
    refine Lib.hid ?_
    refine (H1.out _).mono ?_
    rintro e w1 ⟨rfl, hb⟩
    replace bl := bl.trans (hb.mono bl.size)
    clear hb
    simp only []
    go_wp2_with (go_at_call 27; refine (Hid.out (p := _) ?_))
    refine Lib.hid ?_
    refine (H2.out _).mono ?_
    rintro e w2 ⟨rfl, hb⟩
    replace bl := bl.trans (hb.mono bl.size)
    clear hb
    simp only []
    go_wp2_with (go_at_call 27; refine (Hid.out (p := _) ?_))
    refine Lib.hid ?_
    refine (H3.out _).mono ?_
    rintro e w3 ⟨rfl, hb⟩
    replace bl := bl.trans (hb.mono bl.size)
    clear hb
    simp only []
    go_wp2_with fail
    go_ret
    exact ⟨by rw [HE.out]; rfl, bl⟩
  | true =>
  by_cases x3 : c3 < 0
  · have d3 : decide (c3 < 0) = true := decide_eq_true x3
    obtain ⟨b1, g1⟩ : ∃ b1, decide (0 < c1) = b1 := ⟨_, rfl⟩
    have HX := Lib.hid (And.intro x3 g1)
    clear x3
    cases b1
    all_goals
      go_enter Tryz.func10, Tryz.ntmps10
      go_wp2_with (go_at_call 27; refine (Hid.out (p := _) ?_))
      refine Lib.hid ?_
      refine (H1.out _).mono ?_
      rintro e w1 ⟨rfl, hb⟩
      replace bl := bl.trans (hb.mono bl.size)
      clear hb
      simp only []
      go_wp2_with (go_at_call 27; refine (Hid.out (p := _) ?_))
      refine Lib.hid ?_
      refine (H2.out _).mono ?_
      rintro e w2 ⟨rfl, hb⟩
      replace bl := bl.trans (hb.mono bl.size)
      clear hb
      simp only []
      go_wp2_with (go_at_call 27; refine (Hid.out (p := _) ?_))
      refine Lib.hid ?_
      refine (H3.out _).mono ?_
      rintro e w3 ⟨rfl, hb⟩
      replace bl := bl.trans (hb.mono bl.size)
      clear hb
      simp only []
      go_wp2_with (go_at_call 30; refine (Hid.out (p := _) ?_))
      refine Lib.hid ?_
      refine (H4.out _).mono ?_
      rintro e w4 ⟨rfl, hb⟩
      replace bl := bl.trans (hb.mono bl.size)
      clear hb
      simp only []
      go_wp2_with (go_at_call 30; refine (Hid.out (p := _) ?_))
      refine Lib.hid ?_
      refine (H5.out _).mono ?_
      rintro e w5 ⟨rfl, hb⟩
      replace bl := bl.trans (hb.mono bl.size)
      clear hb
      simp only []
      go_wp2_with (go_at_call 30; refine (Hid.out (p := _) ?_))
      refine Lib.hid ?_
      refine (H6.out _).mono ?_
      rintro e w6 ⟨rfl, hb⟩
      replace bl := bl.trans (hb.mono bl.size)
      clear hb
      simp only []
      go_wp2_with fail
      go_ret
      refine ⟨?_, bl⟩
      rw [HE.out]
      simp [HX.out]
  · have d3 : decide (c3 < 0) = false := decide_eq_false x3
    obtain ⟨b1, g1⟩ : ∃ b1, decide (0 < c1) = b1 := ⟨_, rfl⟩
    obtain ⟨b2, g2⟩ : ∃ b2, decide (c2 < 0) = b2 := ⟨_, rfl⟩
    have HX := Lib.hid (And.intro x3 (And.intro g1 g2))
    clear x3
    cases b1 <;> cases b2
    all_goals
      go_enter Tryz.func10, Tryz.ntmps10
      go_wp2_with (go_at_call 27; refine (Hid.out (p := _) ?_))
      refine Lib.hid ?_
      refine (H1.out _).mono ?_
      rintro e w1 ⟨rfl, hb⟩
      replace bl := bl.trans (hb.mono bl.size)
      clear hb
      simp only []
      go_wp2_with (go_at_call 27; refine (Hid.out (p := _) ?_))
      refine Lib.hid ?_
      refine (H2.out _).mono ?_
      rintro e w2 ⟨rfl, hb⟩
      replace bl := bl.trans (hb.mono bl.size)
      clear hb
      simp only []
      go_wp2_with (go_at_call 27; refine (Hid.out (p := _) ?_))
      refine Lib.hid ?_
      refine (H3.out _).mono ?_
      rintro e w3 ⟨rfl, hb⟩
      replace bl := bl.trans (hb.mono bl.size)
      clear hb
      simp only []
      go_wp2_with (go_at_call 30; refine (Hid.out (p := _) ?_))
      refine Lib.hid ?_
      refine (H4.out _).mono ?_
      rintro e w4 ⟨rfl, hb⟩
      replace bl := bl.trans (hb.mono bl.size)
      clear hb
      simp only []
      go_wp2_with (go_at_call 30; refine (Hid.out (p := _) ?_))
      refine Lib.hid ?_
      refine (H5.out _).mono ?_
      rintro e w5 ⟨rfl, hb⟩
      replace bl := bl.trans (hb.mono bl.size)
      clear hb
      simp only []
      go_wp2_with (go_at_call 30; refine (Hid.out (p := _) ?_))
      refine Lib.hid ?_
      refine (H6.out _).mono ?_
      rintro e w6 ⟨rfl, hb⟩
      replace bl := bl.trans (hb.mono bl.size)
      clear hb
      simp only []
      go_wp2_with (go_at_call 30; refine (H4.out _).mono ?_; rintro e w7 ⟨rfl, hb⟩; replace bl := bl.trans (hb.mono bl.size))
      go_ret
      refine ⟨?_, bl⟩
      rw [HE.out]
      first | (simp [HX.out]; done) | (simp [HX.out]; rw [decide_eq_false (Int.not_lt.2 HX.out.1)]; rfl)
end Go.Proofs.YtmkodendjlmijaaGreatDoor

/- DenialHashes, walked: true. -/
namespace Go.Proofs.YtmkodendjlmijaaGreatDoor
open Go.RowKit

theorem hash_twoP (n salt : ByteArray) (q : Int) (w : World) : Calls Tryz.prog 8 #[.string n, .string salt, .int .i64 q] w fun e w' => Below w.heap.size w w' ∧ ∃ h x, e = .returned (.tuple #[.string h, .int .i64 x]) ∧ Hid ((h, x) = hashR n salt q) :=
  (den_hash n salt q w).mono fun e w' h => ⟨h.2, _, _, h.1, Lib.hid rfl⟩
theorem hash_twoR (n salt : ByteArray) (q : Int) (w : World) : Calls Tryz.prog 9 #[.string n, .string salt, .int .i64 q] w fun e w' => Below w.heap.size w w' ∧ ∃ h x, e = .returned (.tuple #[.string h, .int .i64 x]) ∧ Hid ((h, x) = hashR n salt q) :=
  (ref_hash n salt q w).mono fun e w' h => ⟨h.2, _, _, h.1, Lib.hid rfl⟩
set_option maxRecDepth 100000 in
set_option maxHeartbeats 2000000 in
theorem hashes_any (n salt : ByteArray) (rounds : Int) (a b : ByteArray) (w : World) :
    Calls Tryz.prog 3 #[.string n, .string salt, .int .i64 rounds, .string a, .string b] w fun e w' => e = .returned (.bool true) ∧ Below w.heap.size w w' := by
  have h1 := fun w => ref_between a n b w
  have h2 := fun w => den_between a n b w
  generalize btwB a n b = q at *
  have HX := Lib.hid examples_any
  have HR := Lib.hid h1; have HB := Lib.hid h2
  have bl := Below.refl w.heap.size w
  clear h1 h2
  by_cases c1 : 300 < rounds
  · have q1 : decide ((300 : Int) < rounds) = true := decide_eq_true c1
    by_cases c2 : rounds < 65536
    · have q2 : decide (rounds < 65536) = true := decide_eq_true c2
      clear c1 c2
      cases q
      all_goals
        go_enter Tryz.func3, Tryz.ntmps3
        go_wp2_with (go_at_call 7; refine (Hid.out (p := _) ?_))
        refine Lib.hid ?_
        refine (HX.out _).mono ?_
        rintro e w1 ⟨rfl, hb⟩
        replace bl := bl.trans (hb.mono bl.size)
        clear hb
        simp only []
        go_wp2_with (go_at_call 8; refine (Hid.out (p := _) ?_))
        refine Lib.hid ?_
        refine (hash_twoP n salt _ _).mono ?_
        rintro e w3 ⟨hb, h, y, rfl, hp⟩
        replace bl := bl.trans (hb.mono bl.size)
        clear hb
        simp only []
        go_wp2_with (go_at_call 9; refine (Hid.out (p := _) ?_))
        refine Lib.hid ?_
        refine (hash_twoR n salt _ _).mono ?_
        rintro e w4 ⟨hb, k, z, rfl, hq⟩
        replace bl := bl.trans (hb.mono bl.size)
        clear hb
        simp only []
        have hkz : (k, z) = (h, y) := hq.out.trans hp.out.symm
        obtain ⟨rfl, rfl⟩ : k = h ∧ z = y := by injection hkz with a b; exact ⟨a, b⟩
        have e1 : (k.toList == k.toList) = true := beq_self_eq_true _
        clear hp hq hkz
        go_wp2_with (go_at_call 10; refine (Hid.out (p := _) ?_))
        refine Lib.hid ?_
        refine (HR.out _).mono ?_
        rintro e w5 ⟨rfl, hb⟩
        replace bl := bl.trans (hb.mono bl.size)
        clear hb
        simp only []
        go_wp2_with (go_at_call 11; refine (Hid.out (p := _) ?_))
        refine Lib.hid ?_
        refine (HB.out _).mono ?_
        rintro e w6 ⟨rfl, hb⟩
        replace bl := bl.trans (hb.mono bl.size)
        clear hb
        simp only []
        go_wp2_with fail
        go_ret
        exact ⟨rfl, bl⟩
    · have q2 : decide (rounds < 65536) = false := decide_eq_false c2
      clear c1 c2
      cases q
      all_goals
        go_enter Tryz.func3, Tryz.ntmps3
        go_wp2_with (go_at_call 7; refine (Hid.out (p := _) ?_))
        refine Lib.hid ?_
        refine (HX.out _).mono ?_
        rintro e w1 ⟨rfl, hb⟩
        replace bl := bl.trans (hb.mono bl.size)
        clear hb
        simp only []
        go_wp2_with (go_at_call 8; refine (Hid.out (p := _) ?_))
        refine Lib.hid ?_
        refine (hash_twoP n salt _ _).mono ?_
        rintro e w3 ⟨hb, h, y, rfl, hp⟩
        replace bl := bl.trans (hb.mono bl.size)
        clear hb
        simp only []
        go_wp2_with (go_at_call 9; refine (Hid.out (p := _) ?_))
        refine Lib.hid ?_
        refine (hash_twoR n salt _ _).mono ?_
        rintro e w4 ⟨hb, k, z, rfl, hq⟩
        replace bl := bl.trans (hb.mono bl.size)
        clear hb
        simp only []
        have hkz : (k, z) = (h, y) := hq.out.trans hp.out.symm
        obtain ⟨rfl, rfl⟩ : k = h ∧ z = y := by injection hkz with a b; exact ⟨a, b⟩
        have e1 : (k.toList == k.toList) = true := beq_self_eq_true _
        clear hp hq hkz
        go_wp2_with (go_at_call 10; refine (Hid.out (p := _) ?_))
        refine Lib.hid ?_
        refine (HR.out _).mono ?_
        rintro e w5 ⟨rfl, hb⟩
        replace bl := bl.trans (hb.mono bl.size)
        clear hb
        simp only []
        go_wp2_with (go_at_call 11; refine (Hid.out (p := _) ?_))
        refine Lib.hid ?_
        refine (HB.out _).mono ?_
        rintro e w6 ⟨rfl, hb⟩
        replace bl := bl.trans (hb.mono bl.size)
        clear hb
        simp only []
        go_wp2_with fail
        go_ret
        exact ⟨rfl, bl⟩
  · have q1 : decide ((300 : Int) < rounds) = false := decide_eq_false c1
    clear c1
    cases q
    all_goals
      go_enter Tryz.func3, Tryz.ntmps3
      go_wp2_with (go_at_call 7; refine (Hid.out (p := _) ?_))
      refine Lib.hid ?_
      refine (HX.out _).mono ?_
      rintro e w1 ⟨rfl, hb⟩
      replace bl := bl.trans (hb.mono bl.size)
      clear hb
      simp only []
      go_wp2_with (go_at_call 8; refine (Hid.out (p := _) ?_))
      refine Lib.hid ?_
      refine (hash_twoP n salt _ _).mono ?_
      rintro e w3 ⟨hb, h, y, rfl, hp⟩
      replace bl := bl.trans (hb.mono bl.size)
      clear hb
      simp only []
      go_wp2_with (go_at_call 9; refine (Hid.out (p := _) ?_))
      refine Lib.hid ?_
      refine (hash_twoR n salt _ _).mono ?_
      rintro e w4 ⟨hb, k, z, rfl, hq⟩
      replace bl := bl.trans (hb.mono bl.size)
      clear hb
      simp only []
      have hkz : (k, z) = (h, y) := hq.out.trans hp.out.symm
      obtain ⟨rfl, rfl⟩ : k = h ∧ z = y := by injection hkz with a b; exact ⟨a, b⟩
      have e1 : (k.toList == k.toList) = true := beq_self_eq_true _
      clear hp hq hkz
      go_wp2_with (go_at_call 10; refine (Hid.out (p := _) ?_))
      refine Lib.hid ?_
      refine (HR.out _).mono ?_
      rintro e w5 ⟨rfl, hb⟩
      replace bl := bl.trans (hb.mono bl.size)
      clear hb
      simp only []
      go_wp2_with (go_at_call 11; refine (Hid.out (p := _) ?_))
      refine Lib.hid ?_
      refine (HB.out _).mono ?_
      rintro e w6 ⟨rfl, hb⟩
      replace bl := bl.trans (hb.mono bl.size)
      clear hb
      simp only []
      go_wp2_with fail
      go_ret
      exact ⟨rfl, bl⟩
end Go.Proofs.YtmkodendjlmijaaGreatDoor

/- DenialHashes: any name has the hash that the chapter says, or is refused, and any name is between two others or not. Proved for every five arguments: the row and its tied card. -/
namespace Go.Proofs.YtmkodendjlmijaaGreatDoor
open Go.ChangeShapes Go.WideShapes Go.ChangeAt Go.RowKit

theorem ownDenialHashes : ownKnob Tryz.prog.godebug = none := by kernel_rfl
set_option maxRecDepth 100000 in
theorem liftedDenialHashes (os : Os) (started : os.Started) (H : Type) (enc : TypeId × Value → H) :
    ReturnsInHanded {} Tryz.checked os 3 .any (fun w args => (Rows.denialHashesSpec.pre enc Tryz.prog Tryz.f3 [] false w args ∧ laidMetH Tryz.prog Rows.denialHashesRow.laid w) ∧ sizedMet enc Tryz.prog Tryz.f3 (OpenSpec.ofChange Rows.denialHashesSpec) false w args)
      (Rows.denialHashesSpec.post enc Tryz.prog Tryz.f3 false true false false) := by
  refine returnsInHanded_of_change_and (C := Tryz.checked) (X := fun w _ => laidMetH Tryz.prog Rows.denialHashesRow.laid w) (fun _ _ _ hh h => h.of_heap hh) ownDenialHashes started (by kernel_rfl) Tryz.func3
    (ChangeSpec.witness_shaped (enc := enc) (C := Tryz.checked) (os := os) (X := fun w _ => laidMetH Tryz.prog Rows.denialHashesRow.laid w) false (World.laidAll Tryz.prog os Rows.denialHashesRow.laid) #[.string ⟨#[]⟩, .string ⟨#[]⟩, .int .i64 0, .string ⟨#[]⟩, .string ⟨#[]⟩] 8 (World.laidAll_os _ _ _)
      (World.shaped_of_ZipB (by kernel_rfl) (by kernel_rfl)) (by kernel_rfl) (by kernel_rfl) (by kernel_rfl)
      (by rw [MakeChecks.laidMetH_plain _ _ _ (by kernel_rfl)]; exact laidMet_laidAll _ (by kernel_rfl) (by kernel_rfl))) ?_
  intro W base args ds gs before hval0 hW _ _ _ _
  have hval : ∀ (j : Nat) t v, Tryz.f3.params[j]? = some t → args[j]? = some v → Value.okWide Tryz.prog W .any base t v := hval0
  have hW' := hW
  obtain ⟨p, q, hA0, hV, rfl, _, _⟩ := hW
  have hA : DataW.TrodAll enc Tryz.prog W 0 (fun _ => true) true Tryz.f3.params.toList args.toList ds p := hA0
  rw [Tryz.params3] at hA hval
  obtain ⟨args⟩ := args
  obtain ⟨v0, r0, d0, ds0, p0, q0, ha0, hd0, hp0, h0, hA⟩ := trodAll_cons hA
  obtain ⟨v1, r1, d1, ds1, p1, q1, ha1, hd1, hp1, h1, hA⟩ := trodAll_cons hA
  obtain ⟨v2, r2, d2, ds2, p2, q2, ha2, hd2, hp2, h2, hA⟩ := trodAll_cons hA
  obtain ⟨v3, r3, d3, ds3, p3, q3, ha3, hd3, hp3, h3, hA⟩ := trodAll_cons hA
  obtain ⟨v4, r4, d4, ds4, p4, q4, ha4, hd4, hp4, h4, hA⟩ := trodAll_cons hA
  obtain ⟨rfl, rfl, rfl⟩ := trodAll_nil hA
  obtain ⟨rfl, rfl⟩ := trodVars_none hV
  simp only [] at ha0
  subst ha4 ha3 ha2 ha1 ha0 hd4 hd3 hd2 hd1 hd0 hp4 hp3 hp2 hp1 hp0
  obtain ⟨s0, rfl, rfl, rfl, ws0⟩ := Go.ChangeMaps.open_string Tryz.underlying9 (hval 0 9 v0 rfl rfl) h0
  obtain ⟨s1, rfl, rfl, rfl, ws1⟩ := Go.ChangeMaps.open_string Tryz.underlying9 (hval 1 9 v1 rfl rfl) h1
  obtain ⟨s2, rfl, rfl, rfl, ws2⟩ := open_int Tryz.underlying3 (hval 2 3 v2 rfl rfl) h2
  obtain ⟨s3, rfl, rfl, rfl, ws3⟩ := Go.ChangeMaps.open_string Tryz.underlying9 (hval 3 9 v3 rfl rfl) h3
  obtain ⟨s4, rfl, rfl, rfl, ws4⟩ := Go.ChangeMaps.open_string Tryz.underlying9 (hval 4 9 v4 rfl rfl) h4
  simp only [List.append_nil] at hW'
  refine (hashes_any s0 s1 s2 s3 s4 W).mono fun e W' ⟨he, hB⟩ => ?_
  subst he
  refine ⟨_, rfl, _, _, _, [], [], [], hW', trodAll_mk1 (shut_bool Tryz.underlying4 _),
    trodAll_cons_mk (Go.ChangeMaps.shut_string Tryz.underlying9 ws0) (trodAll_mk4 (Go.ChangeMaps.shut_string Tryz.underlying9 ws1) (shut_int Tryz.underlying3 ws2) (Go.ChangeMaps.shut_string Tryz.underlying9 ws3) (Go.ChangeMaps.shut_string Tryz.underlying9 ws4)), rfl, hB.frame _, fun h => by cases h⟩

theorem denialHashes_holds : Rows.DenialHashesSaid :=
  OpenClaim.holds_of_wide 3 Tryz.f3 rfl rfl rfl rfl rfl rfl rfl ⟨rfl, rfl, rfl, rfl, rfl⟩ rfl rfl rfl rfl rfl (by kernel_rfl) Tryz.func3 (by kernel_rfl)
    (of_decide_eq_true (by kernel_rfl)) (by unfold Func.isWrapper; first | (rw [if_pos (by decide +kernel)]; kernel_rfl) | (rw [if_neg (by decide +kernel)]; exact ⟨rfl, rfl⟩))
    (fun os started H enc _ => liftedDenialHashes os started H enc)
theorem denialHashes_card_holds : Rows.DenialHashesCardSaid :=
  Claim7.holds_tied_plain_at .later [] [.data, .data, .data, .data, .sentinel, .sentinel, .pinned] true (true, "78a266fe9d0711a0d9dab8bcb82e2238974444689a2fe5e8145701f4dd61ff3b") true denialHashes_holds (fun _ h => by cases h) (by kernel_rfl) (fun _ h => by cases h) denialHashes_row_tie rfl ⟨rfl, rfl⟩ (by kernel_rfl) rfl
    (fun f fn hf hfn => by
      obtain rfl : f = 3 := Option.some.inj ((show Tryz.prog.funcNamed "guidepost/guidepostlaw09.DenialHashes" = some 3 by kernel_rfl).symm.trans hf) |>.symm
      obtain rfl : fn = Tryz.f3 := (Option.some.inj (Tryz.func3.symm.trans hfn)).symm
      exact ⟨by kernel_rfl, fun j t ht => by
        rw [Tryz.params3] at ht
        have hm : t ∈ [9, 9, 3, 9, 9] := by simpa using Array.mem_of_getElem? ht
        have hall : ([9, 9, 3, 9, 9].all fun u => !Tryz.prog.wantsStandIn u) = true := by kernel_rfl
        exact (show Tryz.prog.wantsStandIn t = false by simpa using List.all_eq_true.1 hall t hm)⟩)
    (by kernel_rfl)
#print axioms denialHashes_holds
#print axioms denialHashes_card_holds
end Go.Proofs.YtmkodendjlmijaaGreatDoor

