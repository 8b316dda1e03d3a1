import Derived.Test.YtdflhnbpcnmpfaaGreatDoorSo2
import Derived.Test.YtdflhnbpcnmpfaaGreatDoorSo1
import Derived.Test.YtdflhnbpcnmpfaaGreatDoorSo4
import Derived.Test.YtdflhnbpcnmpfaaGreatDoorSo5
import Derived.Test.YtdflhnbpcnmpfaaGreatDoorSo8
import Derived.Test.YtdflhnbpcnmpfaaGreatDoorSo11
import Derived.Test.YtdflhnbpcnmpfaaGreatDoorSo12
import Derived.Test.YtdflhnbpcnmpfaaGreatDoorSo6
/- SHA-256: what one block does; digest.Sum256's closure, walked. -/
namespace Go.Proofs.YtdflhnbpcnmpfaaGreatDoor
open Go.RowKit

def g0 (x : W32) : W32 := (rotW x (rotS (-7)) ^^^ rotW x (rotS (-18))) ^^^ x >>> (3 : Nat)
def g1 (x : W32) : W32 := (rotW x (rotS (-17)) ^^^ rotW x (rotS (-19))) ^^^ x >>> (10 : Nat)
/-- What round i makes of the sixteen words. -/
def ring2 (r : List W32) (i : Nat) : List W32 :=
  if 16 ≤ i then r.set (i % 16) (r.getD (i % 16) 0 + ((g0 (r.getD ((i - 15) % 16) 0) + r.getD ((i - 7) % 16) 0) + g1 (r.getD ((i - 2) % 16) 0))) else r
def tOf (v4 v5 v6 v7 k w : W32) : W32 := (((v7 + mixW v4 6 11 25) + (v6 ^^^ (v4 &&& (v5 ^^^ v6)))) + k) + w
def uOf (v0 v1 v2 : W32) : W32 := mixW v0 2 13 22 + ((v0 &&& v1) ||| (v2 &&& (v0 ||| v1)))
def step2 (v : List W32) (k w : W32) : List W32 :=
  match v with
  | [v0, v1, v2, v3, v4, v5, v6, v7] => [tOf v4 v5 v6 v7 k w + uOf v0 v1 v2, v0, v1, v2, v3 + tOf v4 v5 v6 v7 k w, v4, v5, v6]
  | v => v
def run2 (h b : List W32) : Nat → List W32 × List W32
  | 0 => (h, b)
  | n + 1 => (step2 (run2 h b n).1 (K256.getD n 0) ((ring2 (run2 h b n).2 n).getD (n % 16) 0), ring2 (run2 h b n).2 n)
/-- What a block makes of eight words. -/
def comp2 (h b : List W32) : List W32 := List.zipWith (· + ·) h (run2 h b 64).1

theorem ring2_len (r : List W32) (i : Nat) : (ring2 r i).length = r.length := by unfold ring2; split <;> simp
theorem step2_len (v : List W32) (k w : W32) : (step2 v k w).length = v.length := by unfold step2; split <;> simp
theorem run2_len (h b : List W32) (n : Nat) : (run2 h b n).1.length = h.length ∧ (run2 h b n).2.length = b.length := by
  induction n with
  | zero => exact ⟨rfl, rfl⟩
  | succ n ih => exact ⟨(step2_len _ _ _).trans ih.1, (ring2_len _ _).trans ih.2⟩
theorem comp2_len (h b : List W32) : (comp2 h b).length = h.length := by simp [comp2, (run2_len h b 64).1]

theorem and15 (k : Nat) (h : k < 9223372036854775808) : bits .and .i64 (k : Int) 15 = ((k % 16 : Nat) : Int) := by
  have := i64_and_nat k 15 h (by omega)
  rw [show (15 : Nat) = 2 ^ 4 - 1 from rfl, Nat.and_two_pow_sub_one_eq_mod] at this
  exact this

theorem len8 (v : List W32) (h : v.length = 8) : ∃ v0 v1 v2 v3 v4 v5 v6 v7, v = [v0, v1, v2, v3, v4, v5, v6, v7] := by
  match v, h with
  | [v0, v1, v2, v3, v4, v5, v6, v7], _ => exact ⟨v0, v1, v2, v3, v4, v5, v6, v7, rfl⟩

/-- h with its first j words the sums. -/
def part2 (h v : List W32) (j : Nat) : List W32 := (List.zipWith (· + ·) h v).take j ++ h.drop j
theorem part2_len (h v : List W32) (j : Nat) (hj : j ≤ h.length) (e : h.length = v.length) : (part2 h v j).length = h.length := by simp [part2]; omega
theorem part2_get (h v : List W32) (j : Nat) (hj : j < h.length) (e : h.length = v.length) : (part2 h v j).getD j 0 = h.getD j 0 := by
  have e1 : ((List.zipWith (· + ·) h v).take j).length = j := by simp; omega
  rw [part2, List.getD_eq_getElem?_getD, List.getElem?_append_right (by omega), e1, Nat.sub_self]
  simp [List.getD]
theorem part2_step (h v : List W32) (j : Nat) (hj : j < h.length) (e : h.length = v.length) : part2 h v (j + 1) = (part2 h v j).set j (h.getD j 0 + v.getD j 0) := by
  have e1 : ((List.zipWith (· + ·) h v).take j).length = j := by simp; omega
  have hz : j < (List.zipWith (· + ·) h v).length := by simp; omega
  have hv : j < v.length := by omega
  rw [part2, part2, List.take_succ_eq_append_getElem hz, List.drop_eq_getElem_cons hj, List.set_append, if_neg (by omega), e1, Nat.sub_self, List.set_cons_zero, List.append_assoc]
  simp [List.getD, hj, hv]
theorem part2_all (h v : List W32) (e1 : h.length = 8) (e2 : v.length = 8) : part2 h v 8 = List.zipWith (· + ·) h v := by
  rw [part2, List.take_of_length_le (by simp; omega), List.drop_of_length_le (by omega), List.append_nil]

end Go.Proofs.YtdflhnbpcnmpfaaGreatDoor

/- SHA-1: what one block does; digest.Sum1's closure, walked. -/
namespace Go.Proofs.YtdflhnbpcnmpfaaGreatDoor
open Go.RowKit

def ring1 (r : List W32) (i : Nat) : List W32 :=
  if 16 ≤ i then r.set (i % 16) (rotW (((r.getD ((i - 3) % 16) 0 ^^^ r.getD ((i - 8) % 16) 0) ^^^ r.getD ((i - 14) % 16) 0) ^^^ r.getD (i % 16) 0) (rotS 1)) else r
def f1 (i : Nat) (b c d : W32) : W32 :=
  if i / 20 = 0 then (d ^^^ (b &&& (c ^^^ d))) + 1518500249#32
  else if i / 20 = 1 then ((b ^^^ c) ^^^ d) + 1859775393#32
  else if i / 20 = 2 then ((b &&& c) ||| (d &&& (b ||| c))) + 2400959708#32
  else ((b ^^^ c) ^^^ d) + 3395469782#32
theorem f1_a (k : Nat) (b c d : W32) (h : k < 20) : f1 k b c d = (d ^^^ (b &&& (c ^^^ d))) + 1518500249#32 := by unfold f1; rw [if_pos (show k / 20 = 0 by omega)]
theorem f1_b (k : Nat) (b c d : W32) (h : 20 ≤ k ∧ k < 40) : f1 k b c d = ((b ^^^ c) ^^^ d) + 1859775393#32 := by unfold f1; rw [if_neg (show ¬ k / 20 = 0 by omega), if_pos (show k / 20 = 1 by omega)]
theorem f1_c (k : Nat) (b c d : W32) (h : 40 ≤ k ∧ k < 60) : f1 k b c d = ((b &&& c) ||| (d &&& (b ||| c))) + 2400959708#32 := by unfold f1; rw [if_neg (show ¬ k / 20 = 0 by omega), if_neg (show ¬ k / 20 = 1 by omega), if_pos (show k / 20 = 2 by omega)]
theorem f1_d (k : Nat) (b c d : W32) (h : 60 ≤ k ∧ k < 80) : f1 k b c d = ((b ^^^ c) ^^^ d) + 3395469782#32 := by unfold f1; rw [if_neg (show ¬ k / 20 = 0 by omega), if_neg (show ¬ k / 20 = 1 by omega), if_neg (show ¬ k / 20 = 2 by omega)]
def t1 (v0 fv v4 w : W32) : W32 := ((rotW v0 (rotS 5) + fv) + v4) + w
def step1 (v : List W32) (i : Nat) (w : W32) : List W32 :=
  match v with
  | [v0, v1, v2, v3, v4] => [t1 v0 (f1 i v1 v2 v3) v4 w, v0, rotW v1 (rotS 30), v2, v3]
  | v => v
def run1 (h b : List W32) : Nat → List W32 × List W32
  | 0 => (h, b)
  | n + 1 => (step1 (run1 h b n).1 n ((ring1 (run1 h b n).2 n).getD (n % 16) 0), ring1 (run1 h b n).2 n)
def comp1 (h b : List W32) : List W32 := List.zipWith (· + ·) h (run1 h b 80).1

theorem ring1_len (r : List W32) (i : Nat) : (ring1 r i).length = r.length := by unfold ring1; split <;> simp
theorem step1_len (v : List W32) (i : Nat) (w : W32) : (step1 v i w).length = v.length := by unfold step1; split <;> simp
theorem run1_len (h b : List W32) (n : Nat) : (run1 h b n).1.length = h.length ∧ (run1 h b n).2.length = b.length := by
  induction n with
  | zero => exact ⟨rfl, rfl⟩
  | succ n ih => exact ⟨(step1_len _ _ _).trans ih.1, (ring1_len _ _).trans ih.2⟩
theorem comp1_len (h b : List W32) : (comp1 h b).length = h.length := by simp [comp1, (run1_len h b 80).1]
theorem len5 (v : List W32) (h : v.length = 5) : ∃ v0 v1 v2 v3 v4, v = [v0, v1, v2, v3, v4] := by
  match v, h with
  | [v0, v1, v2, v3, v4], _ => exact ⟨v0, v1, v2, v3, v4, rfl⟩
theorem part2_all1 (h v : List W32) (e1 : h.length = 5) (e2 : v.length = 5) : part2 h v 5 = List.zipWith (· + ·) h v := by
  rw [part2, List.take_of_length_le (by simp; omega), List.drop_of_length_le (by omega), List.append_nil]

structure St1 (w W : World) (r v : List W32) : Prop where
  ring : Blk W w.heap.size (encW r) 97
  five : Blk W (w.heap.size + 1) (encW v) 94
  below : Below w.heap.size w W
theorem St1.drewN {w W : World} {r v : List W32} (h : St1 w W r v) (n : Nat) : St1 w (W.drewN n) r v := ⟨h.ring, h.five, ⟨h.below.os, h.below.tape, h.below.output, h.below.size, h.below.block⟩⟩
theorem St1.rc {w W : World} {r v : List W32} (h : St1 w W r v) {j : Nat} {x : W32} (hj : j < r.length) (e : r.getD j 0 = x) : W.cell? ⟨w.heap.size, j, none⟩ = some (.int .u32 (wd x)) := by rw [h.ring.cell, encW_get _ _ hj, e]
theorem St1.vc {w W : World} {r v : List W32} (h : St1 w W r v) (j : Nat) {x : W32} (hj : j < v.length) (e : v.getD j 0 = x) : W.cell? ⟨w.heap.size + 1, j, none⟩ = some (.int .u32 (wd x)) := by rw [h.five.cell, encW_get _ _ hj, e]
theorem St1.put5 {w W : World} {r : List W32} {v0 v1 v2 v3 v4 : W32} (h : St1 w W r [v0, v1, v2, v3, v4]) (x0 x1 x2 x3 x4 : W32) :
    St1 w (((((W.setCell ⟨w.heap.size + 1, 0, none⟩ (.int .u32 (wd x0))).setCell ⟨w.heap.size + 1, 1, none⟩ (.int .u32 (wd x1))).setCell ⟨w.heap.size + 1, 2, none⟩ (.int .u32 (wd x2))).setCell ⟨w.heap.size + 1, 3, none⟩ (.int .u32 (wd x3))).setCell ⟨w.heap.size + 1, 4, none⟩ (.int .u32 (wd x4))) r [x0, x1, x2, x3, x4] := by
  refine ⟨?_, ?_, ?_⟩
  · iterate 5 refine Blk.other ?_ (by simp) _
    exact h.ring
  · have := ((((h.five.set 0 (.int .u32 (wd x0))).set 1 (.int .u32 (wd x1))).set 2 (.int .u32 (wd x2))).set 3 (.int .u32 (wd x3))).set 4 (.int .u32 (wd x4))
    simpa [encW, vw] using this
  · iterate 5 refine Below.setCell ?_ (by simp) _
    exact h.below



set_option maxRecDepth 100000 in
set_option maxHeartbeats 4000000 in
theorem sha1_block (hs bl : List W32) (hb : Nat) (ht : TypeId) (w : World) (h5 : hs.length = 5) (h16 : bl.length = 16) (hH : Blk w hb (encW hs) ht) :
    Calls Tryz.prog 55 #[.agg (encW bl), .pointer (some ⟨hb, 0, none⟩)] w fun e w' => e = .returned (.tuple #[]) ∧ Blk w' hb (encW (comp1 hs bl)) ht ∧ Only hb w w' := by
  go_enter Tryz.func55, Tryz.ntmps55
  apply wp_seq
  apply wp_region
  change wpList _ _ _ (_ :: []) _ _
  refine wpList_box rfl _ _ rfl (.agg (encW bl)) rfl ?_
  change Code.wp _ _ _ _ _
  apply wp_seq
  apply wp_region
  change wpList _ _ _ (_ :: _ :: _ :: []) _ _
  have hH1 : Blk (w.alloc (.cells (Value.agg (encW bl)).cells 97)) hb (encW hs) ht := hH.alloc _
  have hinf : (Tryz.prog.info? 94).map (·.size) = some (encW hs).size := by rw [encW_size, h5]; kernel_rfl
  have hs1 : (encW hs).all (·.oneCell') = true := by simp [encW, vw, Value.oneCell']
  refine wpList_load rfl _ _ rfl ⟨hb, 0, none⟩ (.agg (encW hs)) rfl (loadVar_blk hH1 Tryz.underlying94 rfl hinf) ?_
  refine wpList_alloc rfl _ rfl (.agg (encW (List.replicate 5 0))) (fun w => by kernel_rfl) ?_
  refine wpList_store_row rfl _ _ _ rfl (w.alloc (.cells (encW bl) 97)).heap.size (encW hs) (by simp [Act.put, Act.eval]) rfl 94 (encW (List.replicate 5 0)) (Blk.new (w.alloc (.cells (encW bl) 97)) (encW (List.replicate 5 0)) 94) hinf (by rw [encW_size, encW_size, h5]; rfl) hs1 ?_
  change Code.wp _ _ _ _ _
  change Code.wp _ _ _ _ (((w.alloc (.cells (encW bl) 97)).alloc (.cells (encW (List.replicate 5 0)) 94)).setRow (w.alloc (.cells (encW bl) 97)).heap.size (encW hs))
  rw [World.setRow_alloc_new]
  have hB : Below w.heap.size w ((w.alloc (.cells (encW bl) 97)).alloc (.cells (encW hs) 94)) := ((Below.refl _ w).alloc (Nat.le_refl _) _).alloc (by simp) _
  have hr0 : Blk ((w.alloc (.cells (encW bl) 97)).alloc (.cells (encW hs) 94)) w.heap.size (encW bl) 97 := (Blk.new w _ _).alloc _
  have hv0 : Blk ((w.alloc (.cells (encW bl) 97)).alloc (.cells (encW hs) 94)) (w.heap.size + 1) (encW hs) 94 := by
    have := Blk.new (w.alloc (.cells (encW bl) 97)) (encW hs) 94
    simpa using this
  generalize ((w.alloc (.cells (encW bl) 97)).alloc (.cells (encW hs) 94)) = W0 at hB hr0 hv0 ⊢
  have HB := Lib.hid hB; have HR := Lib.hid hr0; have HV := Lib.hid hv0; have HH := Lib.hid hH; have hsl := hH.lt
  have H5 := Lib.hid h5; have H16 := Lib.hid h16
  clear hB hr0 hv0 hH hH1 hinf hs1 h5 h16
  go_wp2
  go_loopw [12] (fun i wr => ∃ k : Nat, k ≤ 80 ∧ i = .int .i64 k ∧ Hid (St1 w wr (run1 hs bl k).2 (run1 hs bl k).1)) (fun i _ => 80 - (intOf i).toNat)
  case atStart => exact ⟨0, Nat.zero_le _, rfl, Lib.hid ⟨HR.out, HV.out, HB.out⟩⟩
  case round =>
    obtain ⟨k, hk, rfl, hS⟩ := hrel
    have hmix : Tryz.prog.follows .mixedOrders = true := by kernel_rfl
    by_cases hlt : k < 80
    · have hlr : (run1 hs bl k).2.length = 16 := (run1_len hs bl k).2.trans H16.out
      have hlv : (run1 hs bl k).1.length = 5 := (run1_len hs bl k).1.trans H5.out
      have HE : Hid (run1 hs bl (k + 1) = (step1 (run1 hs bl k).1 k ((ring1 (run1 hs bl k).2 k).getD (k % 16) 0), ring1 (run1 hs bl k).2 k)) := Lib.hid rfl
      generalize (run1 hs bl k).2 = r at hS hlr HE
      generalize (run1 hs bl k).1 = v at hS hlv HE
      have hxor := wd_xor
      have hadd := wd_add
      have hor := wd_or
      have hand := wd_and
      have l0 : ∀ x : W32, IntKind.u32.wrap (wd x + 1518500249) = wd (x + 1518500249#32) := fun x => wd_add x 1518500249#32
      have l1 : ∀ x : W32, IntKind.u32.wrap (wd x + 1859775393) = wd (x + 1859775393#32) := fun x => wd_add x 1859775393#32
      have l2 : ∀ x : W32, IntKind.u32.wrap (wd x + 2400959708) = wd (x + 2400959708#32) := fun x => wd_add x 2400959708#32
      have l3 : ∀ x : W32, IntKind.u32.wrap (wd x + 3395469782) = wd (x + 3395469782#32) := fun x => wd_add x 3395469782#32
      obtain ⟨j0, m0, hj0, e0⟩ : ∃ j : Nat, bits .and .i64 (k : Int) 15 = (j : Int) ∧ j < 16 ∧ j = k % 16 := ⟨k % 16, and15 _ (by omega), by omega, rfl⟩
      have E0 := Lib.hid e0
      clear e0
      have b0 : (j0 : Int) < 16 := by omega
      have hd1 : decide ((k : Int) < 80) = true := decide_eq_true (by omega)
      by_cases hk16 : 16 ≤ k
      · have hd : decide ((16 : Int) ≤ (k : Int)) = true := decide_eq_true (by omega)
        obtain ⟨j3, m3, hj3, e3⟩ : ∃ j : Nat, bits .and .i64 ((k : Int) - 3) 15 = (j : Int) ∧ j < 16 ∧ j = (k - 3) % 16 :=
          ⟨(k - 3) % 16, by rw [show (k : Int) - 3 = ((k - 3 : Nat) : Int) by omega, and15 _ (by omega)], by omega, rfl⟩
        obtain ⟨j8, m8, hj8, e8⟩ : ∃ j : Nat, bits .and .i64 ((k : Int) - 8) 15 = (j : Int) ∧ j < 16 ∧ j = (k - 8) % 16 :=
          ⟨(k - 8) % 16, by rw [show (k : Int) - 8 = ((k - 8 : Nat) : Int) by omega, and15 _ (by omega)], by omega, rfl⟩
        obtain ⟨j14, m14, hj14, e14⟩ : ∃ j : Nat, bits .and .i64 ((k : Int) - 14) 15 = (j : Int) ∧ j < 16 ∧ j = (k - 14) % 16 :=
          ⟨(k - 14) % 16, by rw [show (k : Int) - 14 = ((k - 14 : Nat) : Int) by omega, and15 _ (by omega)], by omega, rfl⟩
        obtain ⟨x3, X3⟩ : ∃ x, Hid (r.getD j3 0 = x) := ⟨_, Lib.hid rfl⟩
        obtain ⟨x8, X8⟩ : ∃ x, Hid (r.getD j8 0 = x) := ⟨_, Lib.hid rfl⟩
        obtain ⟨x14, X14⟩ : ∃ x, Hid (r.getD j14 0 = x) := ⟨_, Lib.hid rfl⟩
        obtain ⟨x0, X0⟩ : ∃ x, Hid (r.getD j0 0 = x) := ⟨_, Lib.hid rfl⟩
        have hring : ring1 r k = r.set j0 (rotW (((x3 ^^^ x8) ^^^ x14) ^^^ x0) (rotS 1)) := by
          rw [ring1, if_pos hk16, ← X3.out, ← X8.out, ← X14.out, ← X0.out, e3, e8, e14, E0.out]
        have HRing := Lib.hid hring
        clear e3 e8 e14 hring
        have b3 : (j3 : Int) < 16 := by omega
        have b8 : (j8 : Int) < 16 := by omega
        have b14 : (j14 : Int) < 16 := by omega
        have c3 := hS.out.rc (by omega) X3.out
        have c8 := hS.out.rc (by omega) X8.out
        have c14 := hS.out.rc (by omega) X14.out
        have c0 := hS.out.rc (by omega) X0.out
        have f0 := hS.out.ring.free j0
        go_wp2_with fail
        refine wp_draw 25 (C := fun w' => ∃ n, w' = wr.drewN n) hmix (by kernel_rfl) (by kernel_rfl) (by kernel_rfl) (by simp) ⟨1, rfl⟩ ?_
        simp only [List.take_succ_cons, List.take_zero, List.drop_succ_cons, List.drop_zero]
        repeat (go_big_quiet_step ((go_at_call 56; exact Calls.quiet_of_same ((rot_any _ _ _).mono fun e w' h => ⟨h.1, h.2.symm⟩))))
        refine wpQuiet_nil ?_
        intro _ hw'
        obtain ⟨nq, hw''⟩ := hw'
        subst hw''
        go_wp2_with fail
        have hS2 : St1 w ((wr.drewN nq).setCell ⟨w.heap.size, j0, none⟩ (.int .u32 (wd (rotW (((x3 ^^^ x8) ^^^ x14) ^^^ x0) (rotS 1))))) (ring1 r k) v := by
          rw [HRing.out]
          refine ⟨by rw [← encW_set]; exact Blk.set (w := wr.drewN nq) hS.out.ring _ _, Blk.other (w := wr.drewN nq) hS.out.five (by simp) _, Below.setCell (w := wr.drewN nq) (hS.out.drewN nq).below (by exact Nat.le_refl _) _⟩
        have hrl : (ring1 r k).length = 16 := (ring1_len r k).trans hlr
        generalize (wr.drewN nq).setCell _ _ = W2 at hS2 ⊢
        clear hS c3 c8 c14 c0 f0 HRing X3 X8 X14 X0 m3 m8 m14 b3 b8 b14 hj3 hj8 hj14 hd
        have HS := Lib.hid hS2
        clear hS2 hlr
        obtain ⟨v0, v1, v2, v3, v4, hv⟩ := len5 v hlv
        subst hv
        clear hlv
        obtain ⟨y, Y⟩ : ∃ y, Hid ((ring1 r k).getD j0 0 = y) := ⟨_, Lib.hid rfl⟩
        have HN : Hid (run1 hs bl (k + 1) = ([t1 v0 (f1 k v1 v2 v3) v4 y, v0, rotW v1 (rotS 30), v2, v3], (ring1 r k))) := Lib.hid (by rw [HE.out, ← Y.out, E0.out]; rfl)
        clear HE
        have a1 : W2.cell? ⟨w.heap.size + 1, 1, none⟩ = some (.int .u32 (wd v1)) := HS.out.vc 1 (by simp) rfl
        have a2 : W2.cell? ⟨w.heap.size + 1, 2, none⟩ = some (.int .u32 (wd v2)) := HS.out.vc 2 (by simp) rfl
        have a3 : W2.cell? ⟨w.heap.size + 1, 3, none⟩ = some (.int .u32 (wd v3)) := HS.out.vc 3 (by simp) rfl
        go_quiet (fail)
        clear a1 a2 a3
        generalize hW1 : W2.drewN nq = W3
        have HS3 : Hid (St1 w W3 (ring1 r k) [v0, v1, v2, v3, v4]) := Lib.hid (by rw [← hW1]; exact HS.out.drewN nq)
        clear hW1 HS
        rcases Nat.lt_or_ge k 20 with h20 | h20
        · have hq : (k : Int) / 20 = 0 := by omega
          have HF : Hid (f1 k v1 v2 v3 = (v3 ^^^ (v1 &&& (v2 ^^^ v3))) + 1518500249#32) := Lib.hid (f1_a k v1 v2 v3 (by omega))
          go_wp2_with fail
          have a0 : W3.cell? ⟨w.heap.size + 1, 0, none⟩ = some (.int .u32 (wd v0)) := HS3.out.vc 0 (by simp) rfl
          have a4 : W3.cell? ⟨w.heap.size + 1, 4, none⟩ = some (.int .u32 (wd v4)) := HS3.out.vc 4 (by simp) rfl
          have ay := HS3.out.rc (by omega) Y.out
          rw [← HF.out]
          generalize f1 k v1 v2 v3 = fv at HN ⊢
          clear HF hq
          go_quiet ((go_at_call 56; exact Calls.quiet_of_same ((rot_any _ _ _).mono fun e w' h => ⟨h.1, h.2.symm⟩)))
          clear a0 a4 ay
          generalize hW1 : W3.drewN nq = W4
          have HS4 : Hid (St1 w W4 (ring1 r k) [v0, v1, v2, v3, v4]) := Lib.hid (by rw [← hW1]; exact HS3.out.drewN nq)
          clear hW1 HS3
          have a0 : W4.cell? ⟨w.heap.size + 1, 0, none⟩ = some (.int .u32 (wd v0)) := HS4.out.vc 0 (by simp) rfl
          have a1 : W4.cell? ⟨w.heap.size + 1, 1, none⟩ = some (.int .u32 (wd v1)) := HS4.out.vc 1 (by simp) rfl
          have a2 : W4.cell? ⟨w.heap.size + 1, 2, none⟩ = some (.int .u32 (wd v2)) := HS4.out.vc 2 (by simp) rfl
          have a3 : W4.cell? ⟨w.heap.size + 1, 3, none⟩ = some (.int .u32 (wd v3)) := HS4.out.vc 3 (by simp) rfl
          have a4 : W4.cell? ⟨w.heap.size + 1, 4, none⟩ = some (.int .u32 (wd v4)) := HS4.out.vc 4 (by simp) rfl
          have fr := HS4.out.five.free
          go_wp2_with fail
          refine wp_draw 8 (C := fun w' => ∃ n, w' = W4.drewN n) hmix (by kernel_rfl) (by kernel_rfl) (by kernel_rfl) (by simp) ⟨1, rfl⟩ ?_
          simp only [List.take_succ_cons, List.take_zero, List.drop_succ_cons, List.drop_zero]
          repeat (go_big_quiet_step ((go_at_call 56; exact Calls.quiet_of_same ((rot_any _ _ _).mono fun e w' h => ⟨h.1, h.2.symm⟩))))
          refine wpQuiet_nil ?_
          intro _ hw'
          obtain ⟨nq, hw''⟩ := hw'
          subst hw''
          have HS5 := Lib.hid (HS4.out.drewN nq)
          go_wp2_with fail
          go_roundw
          case rel =>
            refine ⟨k + 1, by omega, by go_num, Lib.hid ?_⟩
            rw [HN.out]
            exact HS5.out.put5 _ _ _ _ _
          case measure => simp [intOf]; omega
        rcases Nat.lt_or_ge k 40 with h40 | h40
        · have hq : (k : Int) / 20 = 1 := by omega
          have HF : Hid (f1 k v1 v2 v3 = ((v1 ^^^ v2) ^^^ v3) + 1859775393#32) := Lib.hid (f1_b k v1 v2 v3 (by omega))
          go_wp2_with fail
          have a0 : W3.cell? ⟨w.heap.size + 1, 0, none⟩ = some (.int .u32 (wd v0)) := HS3.out.vc 0 (by simp) rfl
          have a4 : W3.cell? ⟨w.heap.size + 1, 4, none⟩ = some (.int .u32 (wd v4)) := HS3.out.vc 4 (by simp) rfl
          have ay := HS3.out.rc (by omega) Y.out
          rw [← HF.out]
          generalize f1 k v1 v2 v3 = fv at HN ⊢
          clear HF hq
          go_quiet ((go_at_call 56; exact Calls.quiet_of_same ((rot_any _ _ _).mono fun e w' h => ⟨h.1, h.2.symm⟩)))
          clear a0 a4 ay
          generalize hW1 : W3.drewN nq = W4
          have HS4 : Hid (St1 w W4 (ring1 r k) [v0, v1, v2, v3, v4]) := Lib.hid (by rw [← hW1]; exact HS3.out.drewN nq)
          clear hW1 HS3
          have a0 : W4.cell? ⟨w.heap.size + 1, 0, none⟩ = some (.int .u32 (wd v0)) := HS4.out.vc 0 (by simp) rfl
          have a1 : W4.cell? ⟨w.heap.size + 1, 1, none⟩ = some (.int .u32 (wd v1)) := HS4.out.vc 1 (by simp) rfl
          have a2 : W4.cell? ⟨w.heap.size + 1, 2, none⟩ = some (.int .u32 (wd v2)) := HS4.out.vc 2 (by simp) rfl
          have a3 : W4.cell? ⟨w.heap.size + 1, 3, none⟩ = some (.int .u32 (wd v3)) := HS4.out.vc 3 (by simp) rfl
          have a4 : W4.cell? ⟨w.heap.size + 1, 4, none⟩ = some (.int .u32 (wd v4)) := HS4.out.vc 4 (by simp) rfl
          have fr := HS4.out.five.free
          go_wp2_with fail
          refine wp_draw 8 (C := fun w' => ∃ n, w' = W4.drewN n) hmix (by kernel_rfl) (by kernel_rfl) (by kernel_rfl) (by simp) ⟨1, rfl⟩ ?_
          simp only [List.take_succ_cons, List.take_zero, List.drop_succ_cons, List.drop_zero]
          repeat (go_big_quiet_step ((go_at_call 56; exact Calls.quiet_of_same ((rot_any _ _ _).mono fun e w' h => ⟨h.1, h.2.symm⟩))))
          refine wpQuiet_nil ?_
          intro _ hw'
          obtain ⟨nq, hw''⟩ := hw'
          subst hw''
          have HS5 := Lib.hid (HS4.out.drewN nq)
          go_wp2_with fail
          go_roundw
          case rel =>
            refine ⟨k + 1, by omega, by go_num, Lib.hid ?_⟩
            rw [HN.out]
            exact HS5.out.put5 _ _ _ _ _
          case measure => simp [intOf]; omega
        rcases Nat.lt_or_ge k 60 with h60 | h60
        · have hq : (k : Int) / 20 = 2 := by omega
          have HF : Hid (f1 k v1 v2 v3 = ((v1 &&& v2) ||| (v3 &&& (v1 ||| v2))) + 2400959708#32) := Lib.hid (f1_c k v1 v2 v3 (by omega))
          go_wp2_with fail
          have a0 : W3.cell? ⟨w.heap.size + 1, 0, none⟩ = some (.int .u32 (wd v0)) := HS3.out.vc 0 (by simp) rfl
          have a4 : W3.cell? ⟨w.heap.size + 1, 4, none⟩ = some (.int .u32 (wd v4)) := HS3.out.vc 4 (by simp) rfl
          have ay := HS3.out.rc (by omega) Y.out
          rw [← HF.out]
          generalize f1 k v1 v2 v3 = fv at HN ⊢
          clear HF hq
          go_quiet ((go_at_call 56; exact Calls.quiet_of_same ((rot_any _ _ _).mono fun e w' h => ⟨h.1, h.2.symm⟩)))
          clear a0 a4 ay
          generalize hW1 : W3.drewN nq = W4
          have HS4 : Hid (St1 w W4 (ring1 r k) [v0, v1, v2, v3, v4]) := Lib.hid (by rw [← hW1]; exact HS3.out.drewN nq)
          clear hW1 HS3
          have a0 : W4.cell? ⟨w.heap.size + 1, 0, none⟩ = some (.int .u32 (wd v0)) := HS4.out.vc 0 (by simp) rfl
          have a1 : W4.cell? ⟨w.heap.size + 1, 1, none⟩ = some (.int .u32 (wd v1)) := HS4.out.vc 1 (by simp) rfl
          have a2 : W4.cell? ⟨w.heap.size + 1, 2, none⟩ = some (.int .u32 (wd v2)) := HS4.out.vc 2 (by simp) rfl
          have a3 : W4.cell? ⟨w.heap.size + 1, 3, none⟩ = some (.int .u32 (wd v3)) := HS4.out.vc 3 (by simp) rfl
          have a4 : W4.cell? ⟨w.heap.size + 1, 4, none⟩ = some (.int .u32 (wd v4)) := HS4.out.vc 4 (by simp) rfl
          have fr := HS4.out.five.free
          go_wp2_with fail
          refine wp_draw 8 (C := fun w' => ∃ n, w' = W4.drewN n) hmix (by kernel_rfl) (by kernel_rfl) (by kernel_rfl) (by simp) ⟨1, rfl⟩ ?_
          simp only [List.take_succ_cons, List.take_zero, List.drop_succ_cons, List.drop_zero]
          repeat (go_big_quiet_step ((go_at_call 56; exact Calls.quiet_of_same ((rot_any _ _ _).mono fun e w' h => ⟨h.1, h.2.symm⟩))))
          refine wpQuiet_nil ?_
          intro _ hw'
          obtain ⟨nq, hw''⟩ := hw'
          subst hw''
          have HS5 := Lib.hid (HS4.out.drewN nq)
          go_wp2_with fail
          go_roundw
          case rel =>
            refine ⟨k + 1, by omega, by go_num, Lib.hid ?_⟩
            rw [HN.out]
            exact HS5.out.put5 _ _ _ _ _
          case measure => simp [intOf]; omega
        · have hq : (k : Int) / 20 = 3 := by omega
          have HF : Hid (f1 k v1 v2 v3 = ((v1 ^^^ v2) ^^^ v3) + 3395469782#32) := Lib.hid (f1_d k v1 v2 v3 (by omega))
          go_wp2_with fail
          have a0 : W3.cell? ⟨w.heap.size + 1, 0, none⟩ = some (.int .u32 (wd v0)) := HS3.out.vc 0 (by simp) rfl
          have a4 : W3.cell? ⟨w.heap.size + 1, 4, none⟩ = some (.int .u32 (wd v4)) := HS3.out.vc 4 (by simp) rfl
          have ay := HS3.out.rc (by omega) Y.out
          rw [← HF.out]
          generalize f1 k v1 v2 v3 = fv at HN ⊢
          clear HF hq
          go_quiet ((go_at_call 56; exact Calls.quiet_of_same ((rot_any _ _ _).mono fun e w' h => ⟨h.1, h.2.symm⟩)))
          clear a0 a4 ay
          generalize hW1 : W3.drewN nq = W4
          have HS4 : Hid (St1 w W4 (ring1 r k) [v0, v1, v2, v3, v4]) := Lib.hid (by rw [← hW1]; exact HS3.out.drewN nq)
          clear hW1 HS3
          have a0 : W4.cell? ⟨w.heap.size + 1, 0, none⟩ = some (.int .u32 (wd v0)) := HS4.out.vc 0 (by simp) rfl
          have a1 : W4.cell? ⟨w.heap.size + 1, 1, none⟩ = some (.int .u32 (wd v1)) := HS4.out.vc 1 (by simp) rfl
          have a2 : W4.cell? ⟨w.heap.size + 1, 2, none⟩ = some (.int .u32 (wd v2)) := HS4.out.vc 2 (by simp) rfl
          have a3 : W4.cell? ⟨w.heap.size + 1, 3, none⟩ = some (.int .u32 (wd v3)) := HS4.out.vc 3 (by simp) rfl
          have a4 : W4.cell? ⟨w.heap.size + 1, 4, none⟩ = some (.int .u32 (wd v4)) := HS4.out.vc 4 (by simp) rfl
          have fr := HS4.out.five.free
          go_wp2_with fail
          refine wp_draw 8 (C := fun w' => ∃ n, w' = W4.drewN n) hmix (by kernel_rfl) (by kernel_rfl) (by kernel_rfl) (by simp) ⟨1, rfl⟩ ?_
          simp only [List.take_succ_cons, List.take_zero, List.drop_succ_cons, List.drop_zero]
          repeat (go_big_quiet_step ((go_at_call 56; exact Calls.quiet_of_same ((rot_any _ _ _).mono fun e w' h => ⟨h.1, h.2.symm⟩))))
          refine wpQuiet_nil ?_
          intro _ hw'
          obtain ⟨nq, hw''⟩ := hw'
          subst hw''
          have HS5 := Lib.hid (HS4.out.drewN nq)
          go_wp2_with fail
          go_roundw
          case rel =>
            refine ⟨k + 1, by omega, by go_num, Lib.hid ?_⟩
            rw [HN.out]
            exact HS5.out.put5 _ _ _ _ _
          case measure => simp [intOf]; omega
      · have hd : decide ((16 : Int) ≤ (k : Int)) = false := decide_eq_false (by omega)
        have hrl : r.length = 16 := hlr
        have hring : ring1 r k = r := by rw [ring1, if_neg hk16]
        rw [hring] at HE
        clear hring
        have HS := hS
        clear hS hlr
        go_wp2_with fail
        obtain ⟨v0, v1, v2, v3, v4, hv⟩ := len5 v hlv
        subst hv
        clear hlv
        obtain ⟨y, Y⟩ : ∃ y, Hid (r.getD j0 0 = y) := ⟨_, Lib.hid rfl⟩
        have HN : Hid (run1 hs bl (k + 1) = ([t1 v0 (f1 k v1 v2 v3) v4 y, v0, rotW v1 (rotS 30), v2, v3], r)) := Lib.hid (by rw [HE.out, ← Y.out, E0.out]; rfl)
        clear HE
        have a1 : wr.cell? ⟨w.heap.size + 1, 1, none⟩ = some (.int .u32 (wd v1)) := HS.out.vc 1 (by simp) rfl
        have a2 : wr.cell? ⟨w.heap.size + 1, 2, none⟩ = some (.int .u32 (wd v2)) := HS.out.vc 2 (by simp) rfl
        have a3 : wr.cell? ⟨w.heap.size + 1, 3, none⟩ = some (.int .u32 (wd v3)) := HS.out.vc 3 (by simp) rfl
        go_quiet (fail)
        clear a1 a2 a3
        generalize hW1 : wr.drewN nq = W3
        have HS3 : Hid (St1 w W3 r [v0, v1, v2, v3, v4]) := Lib.hid (by rw [← hW1]; exact HS.out.drewN nq)
        clear hW1 HS
        have hq : (k : Int) / 20 = 0 := by omega
        have HF : Hid (f1 k v1 v2 v3 = (v3 ^^^ (v1 &&& (v2 ^^^ v3))) + 1518500249#32) := Lib.hid (f1_a k v1 v2 v3 (by omega))
        go_wp2_with fail
        have a0 : W3.cell? ⟨w.heap.size + 1, 0, none⟩ = some (.int .u32 (wd v0)) := HS3.out.vc 0 (by simp) rfl
        have a4 : W3.cell? ⟨w.heap.size + 1, 4, none⟩ = some (.int .u32 (wd v4)) := HS3.out.vc 4 (by simp) rfl
        have ay := HS3.out.rc (by omega) Y.out
        rw [← HF.out]
        generalize f1 k v1 v2 v3 = fv at HN ⊢
        clear HF hq
        go_quiet ((go_at_call 56; exact Calls.quiet_of_same ((rot_any _ _ _).mono fun e w' h => ⟨h.1, h.2.symm⟩)))
        clear a0 a4 ay
        generalize hW1 : W3.drewN nq = W4
        have HS4 : Hid (St1 w W4 r [v0, v1, v2, v3, v4]) := Lib.hid (by rw [← hW1]; exact HS3.out.drewN nq)
        clear hW1 HS3
        have a0 : W4.cell? ⟨w.heap.size + 1, 0, none⟩ = some (.int .u32 (wd v0)) := HS4.out.vc 0 (by simp) rfl
        have a1 : W4.cell? ⟨w.heap.size + 1, 1, none⟩ = some (.int .u32 (wd v1)) := HS4.out.vc 1 (by simp) rfl
        have a2 : W4.cell? ⟨w.heap.size + 1, 2, none⟩ = some (.int .u32 (wd v2)) := HS4.out.vc 2 (by simp) rfl
        have a3 : W4.cell? ⟨w.heap.size + 1, 3, none⟩ = some (.int .u32 (wd v3)) := HS4.out.vc 3 (by simp) rfl
        have a4 : W4.cell? ⟨w.heap.size + 1, 4, none⟩ = some (.int .u32 (wd v4)) := HS4.out.vc 4 (by simp) rfl
        have fr := HS4.out.five.free
        go_wp2_with fail
        refine wp_draw 8 (C := fun w' => ∃ n, w' = W4.drewN n) hmix (by kernel_rfl) (by kernel_rfl) (by kernel_rfl) (by simp) ⟨1, rfl⟩ ?_
        simp only [List.take_succ_cons, List.take_zero, List.drop_succ_cons, List.drop_zero]
        repeat (go_big_quiet_step ((go_at_call 56; exact Calls.quiet_of_same ((rot_any _ _ _).mono fun e w' h => ⟨h.1, h.2.symm⟩))))
        refine wpQuiet_nil ?_
        intro _ hw'
        obtain ⟨nq, hw''⟩ := hw'
        subst hw''
        have HS5 := Lib.hid (HS4.out.drewN nq)
        go_wp2_with fail
        go_roundw
        case rel =>
          refine ⟨k + 1, by omega, by go_num, Lib.hid ?_⟩
          rw [HN.out]
          exact HS5.out.put5 _ _ _ _ _
        case measure => simp [intOf]; omega
    · obtain rfl : k = 80 := by omega
      have hlv : (run1 hs bl 80).1.length = 5 := (run1_len hs bl 80).1.trans H5.out
      have HC : Hid (comp1 hs bl = part2 hs (run1 hs bl 80).1 5) := Lib.hid (part2_all1 hs _ H5.out hlv).symm
      generalize (run1 hs bl 80).1 = v at hS hlv HC
      have hW : Only hb w wr := Only.of_below hS.out.below
      have hH1 : Blk wr hb (encW hs) ht := HH.out.below hS.out.below hsl
      have hv1 := hS.out.five
      have HW := Lib.hid hW; have HH1 := Lib.hid hH1; have HV1 := Lib.hid hv1
      have H5' := H5.out
      clear hW hH1 hv1 hS HH H16 HV HR HB
      go_wp2_with fail
      go_loopw [115] (fun i ws => ∃ j : Nat, j ≤ 5 ∧ i = .int .i64 j ∧ Hid (Blk ws hb (encW (part2 hs v j)) ht) ∧ Hid (Blk ws (w.heap.size + 1) (encW v) 94) ∧ Hid (Only hb w ws)) (fun i _ => 5 - (intOf i).toNat)
      case atStart => exact ⟨0, Nat.zero_le _, rfl, HH1, HV1, HW⟩
      case round =>
        obtain ⟨j, hj, rfl, hP, hV, hO⟩ := hrel
        by_cases hlt : j < 5
        · have hd1 : decide ((j : Int) < 5) = true := decide_eq_true (by omega)
          have hj8 : (j : Int) < 5 := by omega
          have cp : wr.cell? ⟨hb, j, none⟩ = some (.int .u32 (wd (hs.getD j 0))) := by rw [hP.out.cell, encW_get _ _ (by rw [part2_len _ _ _ (by omega) (by omega)]; omega), part2_get _ _ _ (by omega) (by omega)]
          have cv : wr.cell? ⟨w.heap.size + 1, j, none⟩ = some (.int .u32 (wd (v.getD j 0))) := by rw [hV.out.cell, encW_get _ _ (by omega)]
          have HX : Hid (part2 hs v (j + 1) = (part2 hs v j).set j (hs.getD j 0 + v.getD j 0)) := Lib.hid (part2_step hs v j (by omega) (by omega))
          have fp := hP.out.free j
          generalize hs.getD j 0 = x at cp HX
          generalize v.getD j 0 = y at cv HX
          have hadd := wd_add
          go_wp2_with fail
          refine wp_draw 7 (C := fun w' => ∃ n, w' = wr.drewN n) hmix (by kernel_rfl) (by kernel_rfl) (by kernel_rfl) (by simp) ⟨1, rfl⟩ ?_
          simp only [List.take_succ_cons, List.take_zero, List.drop_succ_cons, List.drop_zero]
          repeat (go_big_quiet_step (fail))
          refine wpQuiet_nil ?_
          intro _ hw'
          obtain ⟨nq, hw''⟩ := hw'
          subst hw''
          go_wp2_with fail
          go_roundw
          case rel =>
            refine ⟨j + 1, by omega, by go_num, Lib.hid ?_, Lib.hid (Blk.other (w := wr.drewN nq) hV.out (by simp; omega) _), Lib.hid (Only.trans (show Only hb w (wr.drewN nq) from ⟨hO.out.os, hO.out.tape, hO.out.output, hO.out.size, hO.out.block⟩) (Only.setCell ⟨hb, j, none⟩ rfl _))⟩
            rw [HX.out, ← encW_set]
            exact Blk.set (w := wr.drewN nq) hP.out _ _
          case measure => simp [intOf]; omega
        · obtain rfl : j = 5 := by omega
          go_wp2_with fail
          go_end0
          exact ⟨rfl, by rw [HC.out]; exact hP.out, hO.out⟩
end Go.Proofs.YtdflhnbpcnmpfaaGreatDoor

/- digest.Sum256, walked: the digest of a text's bytes. -/
namespace Go.Proofs.YtdflhnbpcnmpfaaGreatDoor
open Go.RowKit

def H256 : List W32 := [0x6a09e667, 0xbb67ae85, 0x3c6ef372, 0xa54ff53a, 0x510e527f, 0x9b05688c, 0x1f83d9ab, 0x5be0cd19]
theorem H256_enc : (#[.int .u32 1779033703, .int .u32 3144134277, .int .u32 1013904242, .int .u32 2773480762, .int .u32 1359893119, .int .u32 2600822924, .int .u32 528734635, .int .u32 1541459225] : Array Value) = encW H256 := rfl
def sha2 (l : List UInt8) : List W32 := foldB comp2 ((padL l).length / 64) H256 (padL l)
def sum256 (l : List UInt8) : List UInt8 := tellW (sha2 l)
theorem foldB_len (f : List W32 → List W32 → List W32) (h : ∀ a b, (f a b).length = a.length) (n : Nat) (st : List W32) (l : List UInt8) : (foldB f n st l).length = st.length := by
  induction n generalizing st l with
  | zero => rfl
  | succ n ih => rw [foldB_succ, ih, h]
theorem sha2_len (l : List UInt8) : (sha2 l).length = 8 := foldB_len _ comp2_len _ _ _
theorem sum256_len (l : List UInt8) : (sum256 l).length = 32 := by rw [sum256, tellW_len, sha2_len]

end Go.Proofs.YtdflhnbpcnmpfaaGreatDoor

/- digest.Sum1, walked. -/
namespace Go.Proofs.YtdflhnbpcnmpfaaGreatDoor
open Go.RowKit

def H160 : List W32 := [0x67452301, 0xefcdab89, 0x98badcfe, 0x10325476, 0xc3d2e1f0]
theorem H160_enc : (#[.int .u32 1732584193, .int .u32 4023233417, .int .u32 2562383102, .int .u32 271733878, .int .u32 3285377520] : Array Value) = encW H160 := rfl
def sha1 (l : List UInt8) : List W32 := foldB comp1 ((padL l).length / 64) H160 (padL l)
def sum160 (l : List UInt8) : List UInt8 := tellW (sha1 l)
theorem sha1_len (l : List UInt8) : (sha1 l).length = 5 := foldB_len _ comp1_len _ _ _
theorem sum160_len (l : List UInt8) : (sum160 l).length = 20 := by rw [sum160, tellW_len, sha1_len]

structure I1 (w : World) (hb : Nat) (st : List W32) (W : World) : Prop where
  len : st.length = 5
  h : Blk W hb (encW st) 94
  below : Below w.heap.size w W
theorem callFunc_sha1 (args : Array Value) (W : World) : (callFunc 55 args).run Tryz.prog W = .ok (.enter 55 args) W := by kernel_rfl

theorem blocks_sha1 (s : ByteArray) (w W : World) (hb : Nat) (hs : s.size ≤ 9223372036854775000) (h1 : w.heap.size ≤ hb) (h0 : I1 w hb H160 W) :
    Calls Tryz.prog 54 #[.string s, .func (.func 55) #[] #[.pointer (some ⟨hb, 0, none⟩)]] W fun e W' => e = .returned (.tuple #[]) ∧ I1 w hb (sha1 s.data.toList) W' := by
  refine blocks_any comp1 (I1 w hb) _ _ (hb + 1) s W H160 hs ?_ h0.h.lt callFunc_sha1 ?_ h0
  · intro st W W' h hb
    exact ⟨h.len, h.h.below hb (by omega), h.below.trans (hb.mono (by omega))⟩
  · intro st bl W h hl
    refine (sha1_block st bl hb _ W h.len hl h.h).mono ?_
    rintro e W' ⟨rfl, h3, h4⟩
    exact ⟨rfl, ⟨(comp1_len st bl).trans h.len, h3, h.below.trans (h4.belowOf h1 h.below.size)⟩, h3.lt⟩
theorem sum1_start (w : World) : I1 w w.heap.size H160 (w.alloc (.cells (encW H160) 94)) := ⟨rfl, Blk.new w _ _, (Below.refl w.heap.size w).alloc (Nat.le_refl _) _⟩
theorem sum1_tell {w w2 : World} {l : List UInt8} (h : I1 w w.heap.size (sha1 l) w2) :
    Calls Tryz.prog 57 #[.slice (some ⟨w.heap.size, 0, none⟩) 5 5] w2 fun e w3 => e = .returned (.string (bs (sum160 l))) ∧ Below w.heap.size w w3 := by
  have := tell_any (sha1 l) w.heap.size 5 _ w2 (by rw [sha1_len]; omega) h.h
  rw [sha1_len] at this
  exact this.mono fun e w3 k => ⟨k.1, h.below.trans (k.2.mono h.below.size)⟩

set_option maxRecDepth 100000 in
set_option maxHeartbeats 1000000 in
theorem sum160_any (s : ByteArray) (w : World) (hs : s.size ≤ 9223372036854775000) : Calls Tryz.prog 32 #[.string s] w fun e w' => e = .returned (.string (bs (sum160 s.data.toList))) ∧ Below w.heap.size w w' := by
  go_enter Tryz.func32, Tryz.ntmps32
  go_wp2_with (first
    | (go_at_call 54; rw [H160_enc]; refine (blocks_sha1 s w _ _ hs (Nat.le_refl _) (sum1_start w)).mono ?_; rintro e w2 ⟨rfl, hI⟩; replace hI := Lib.hid hI)
    | (go_at_call 57; refine (sum1_tell hI.out).mono ?_; rintro e w3 ⟨rfl, hB3⟩; replace hB3 := Lib.hid hB3))
  go_ret
  exact ⟨rfl, hB3.out⟩
end Go.Proofs.YtdflhnbpcnmpfaaGreatDoor

/- denial.Hash. -/
namespace Go.Proofs.YtdflhnbpcnmpfaaGreatDoor
open Go.RowKit

def sumB (h salt : ByteArray) : ByteArray := bs (sum160 (h ++ salt).data.toList)
def hashIt (salt : ByteArray) : Nat → ByteArray → ByteArray
  | 0, h => h
  | k + 1, h => hashIt salt k (sumB h salt)
theorem sumB_size (h salt : ByteArray) : (sumB h salt).size = 20 := (bs_size _).trans (sum160_len _)
theorem hashIt_size (salt : ByteArray) : ∀ (k : Nat) (h : ByteArray), h.size = 20 → (hashIt salt k h).size = 20
  | 0, _, e => e
  | k + 1, _, _ => hashIt_size salt k _ (sumB_size _ _)
/-- denial.Hash: the hash, and the error. -/
def hashR (n salt : ByteArray) (rounds : Int) : ByteArray × Int :=
  if nameRight n = false then (⟨#[]⟩, 2) else if rounds < 0 ∨ 65535 < rounds then (⟨#[]⟩, 1) else if 255 < salt.size then (⟨#[]⟩, 3) else (hashIt salt (rounds.toNat + 1) (nameLower n), 0)

set_option maxRecDepth 100000 in
theorem den_hash (n salt : ByteArray) (rounds : Int) (w : World) : Calls Tryz.prog 14 #[.string n, .string salt, .int .i64 rounds] w (PairP (hashR n salt rounds) w) := by
  have h1 := fun w => name_right n w
  cases hr : nameRight n with
  | false =>
    rw [show hashR n salt rounds = (⟨#[]⟩, 2) from if_pos hr]
    rw [hr] at h1
    have HR := Lib.hid h1
    clear h1 hr
    go_enter Tryz.func14, Tryz.ntmps14
    go_wp2_with (go_at_call 19; refine (HR.out _).mono ?_; rintro e w1 ⟨rfl, hb1⟩)
    go_ret2
    exact ⟨rfl, hb1⟩
  | true =>
  rw [hr] at h1
  have hn : ¬ nameRight n = false := by rw [hr]; simp
  have h2 := fun w => name_lower n w
  have hz : (nameLower n).size ≤ 255 := by
    have h := (right_size0 hr).2
    rw [nameLower, if_pos hr, size_lowS]; exact h
  have HR := Lib.hid h1
  clear h1 hr
  by_cases c1 : rounds < 0
  · rw [show hashR n salt rounds = (⟨#[]⟩, 1) by rw [hashR, if_neg hn, if_pos (.inl c1)]]
    have q1 : decide (rounds < 0) = true := decide_eq_true c1
    clear hn h2 hz c1
    go_enter Tryz.func14, Tryz.ntmps14
    go_wp2_with (go_at_call 19; refine (HR.out _).mono ?_; rintro e w1 ⟨rfl, hb1⟩)
    go_ret2
    exact ⟨rfl, hb1⟩
  have q1 : decide (rounds < 0) = false := decide_eq_false c1
  by_cases c2 : 65535 < rounds
  · rw [show hashR n salt rounds = (⟨#[]⟩, 1) by rw [hashR, if_neg hn, if_pos (.inr c2)]]
    have q2 : decide ((65535 : Int) < rounds) = true := decide_eq_true c2
    clear hn h2 hz c1 c2
    go_enter Tryz.func14, Tryz.ntmps14
    go_wp2_with (go_at_call 19; refine (HR.out _).mono ?_; rintro e w1 ⟨rfl, hb1⟩)
    go_ret2
    exact ⟨rfl, hb1⟩
  have q2 : decide ((65535 : Int) < rounds) = false := decide_eq_false c2
  by_cases c3 : 255 < salt.size
  · rw [show hashR n salt rounds = (⟨#[]⟩, 3) by rw [hashR, if_neg hn, if_neg (by omega), if_pos c3]]
    have q3 : decide ((255 : Int) < (salt.size : Int)) = true := decide_eq_true (by omega)
    clear hn h2 hz c1 c2 c3
    go_enter Tryz.func14, Tryz.ntmps14
    go_wp2_with (go_at_call 19; refine (HR.out _).mono ?_; rintro e w1 ⟨rfl, hb1⟩)
    go_ret2
    exact ⟨rfl, hb1⟩
  have q3 : decide ((255 : Int) < (salt.size : Int)) = false := decide_eq_false (by omega)
  rw [show hashR n salt rounds = (hashIt salt (rounds.toNat + 1) (nameLower n), 0) by rw [hashR, if_neg hn, if_neg (by omega), if_neg c3]]
  obtain ⟨r, rfl⟩ : ∃ r : Nat, rounds = (r : Int) := ⟨rounds.toNat, by omega⟩
  have hrd : (r : Int) ≤ 65535 := by omega
  have hss : salt.size ≤ 255 := by omega
  rw [Int.toNat_natCast]
  generalize nameLower n = low at *
  have HL := Lib.hid h2
  have HSS := Lib.hid hss
  clear hn h2 c1 c2 c3 hss
  go_enter Tryz.func14, Tryz.ntmps14
  go_wp2_with (first | (go_at_call 19; refine (HR.out _).mono ?_; rintro e w1 ⟨rfl, hb1⟩) | (go_at_call 20; refine (HL.out _).mono ?_; rintro e w2 ⟨rfl, hb2⟩))
  have HB := Lib.hid (hb1.trans (hb2.mono hb1.size))
  clear hb1 hb2 HR HL
  go_loopw [8, 28] (fun h i wr => ∃ (k : Nat) (x : ByteArray), k ≤ r + 1 ∧ i = .int .i64 k ∧ h = .string x ∧ x.size ≤ 255 ∧ Hid (hashIt salt (r + 1 - k) x = hashIt salt (r + 1) low) ∧ Hid (Below w.heap.size w wr)) (fun _ i _ => r + 1 - (intOf i).toNat)
  case atStart => exact ⟨0, low, by omega, rfl, rfl, hz, Lib.hid rfl, HB⟩
  case round =>
    obtain ⟨k, x, hk, rfl, rfl, hx, hh, hB⟩ := hrel
    by_cases hlt : k < r + 1
    · have hs := fun w => sum160_any (x ++ salt) w (by rw [ByteArray.size_append]; have := HSS.out; omega)
      have hst : hashIt salt (r + 1 - (k + 1)) (sumB x salt) = hashIt salt (r + 1) low := by
        rw [← hh.out, show r + 1 - k = (r + 1 - (k + 1)) + 1 by omega]; rfl
      have hss := sumB_size x salt
      rw [show bs (sum160 (x ++ salt).data.toList) = sumB x salt from rfl] at hs
      have n1 : ¬ 9223372036854775807 < x.size + salt.size := by have := HSS.out; omega
      generalize sumB x salt = y at *
      have HS := Lib.hid hs; have HT := Lib.hid hst
      have q4 : (k : Int) < (r : Int) + 1 := by omega
      clear hs hst hh hx
      go_wp2_with (go_at_call 32; refine (HS.out _).mono ?_; rintro e w3 ⟨rfl, hb3⟩)
      have HB3 := Lib.hid (hB.out.trans (hb3.mono hB.out.size))
      clear hb3 hB
      go_roundw
      case rel => exact ⟨k + 1, y, by omega, by go_num, rfl, by omega, HT, HB3⟩
      case measure => simp [intOf]; omega
    · obtain rfl : k = r + 1 := by omega
      have q4 : ¬ (((r + 1 : Nat) : Int) < (r : Int) + 1) := by omega
      have he := hh.out
      rw [Nat.sub_self] at he
      have HE := Lib.hid he
      clear he hh
      go_wp2_with fail
      go_ret2
      exact ⟨by rw [← HE.out]; rfl, hB.out⟩
end Go.Proofs.YtdflhnbpcnmpfaaGreatDoor

/- The chapter's examples (chapter 9): plain facts. -/
namespace Go.Proofs.YtdflhnbpcnmpfaaGreatDoor
open Go.RowKit

def exX : ByteArray := ⟨#[1, 120, 0]⟩
def exBX : ByteArray := ⟨#[1, 98, 1, 120, 0]⟩
def exAX : ByteArray := ⟨#[1, 97, 1, 120, 0]⟩
def exCBX : ByteArray := ⟨#[1, 99, 1, 98, 1, 120, 0]⟩
def exD1 : ByteArray := ⟨#[1, 98, 1, 120, 0, 0, 1, 34]⟩
def exD2 : ByteArray := ⟨#[1, 120, 0, 0, 1, 64]⟩
def exS : List SetD := [⟨exX, 47, 1, 0, [exD1], []⟩, ⟨exBX, 47, 1, 0, [exD2], []⟩]
def exP : List PrfD := [⟨exX, exBX, ⟨#[]⟩, [2, 6], false⟩, ⟨exBX, exX, ⟨#[]⟩, [1], false⟩]
theorem ex_t1 : takeR nsecT exD1 = some ⟨exBX, [2, 6]⟩ := by rfl
theorem ex_t2 : takeR nsecT exD2 = some ⟨exX, [1]⟩ := by rfl
theorem ex_r1 : readC exX ⟨exX, 47, 1, 0, [exD1], []⟩ = true := by decide +kernel
theorem ex_r2 : readC exX ⟨exBX, 47, 1, 0, [exD2], []⟩ = true := by decide +kernel
theorem ex_read : readN exS exX = exP := by
  rw [readN, exS, List.filter_cons, if_pos ex_r1, List.filter_cons, if_pos ex_r2]
  rfl
theorem ex_n1 : nameR exP exAX exX = 1 := by decide +kernel
theorem ex_n2 : nameR exP exBX exX = 0 := by decide +kernel
theorem ex_n3 : nameR exP exCBX exX = 1 := by decide +kernel
theorem ex_u : underB exBX exX = true := by decide +kernel
theorem ex_m1 : matchQ exBX ⟨exX, exBX, ⟨#[]⟩, [2, 6], false⟩ = false := by decide +kernel
theorem ex_m2 : matchQ exBX ⟨exBX, exX, ⟨#[]⟩, [1], false⟩ = true := by decide +kernel
theorem ex_m : exP.find? (matchQ exBX) = some ⟨exBX, exX, ⟨#[]⟩, [1], false⟩ := by simp [exP, List.find?, ex_m1, ex_m2]
theorem ex_l1 : worthI (PrfD.lacks ⟨exBX, exX, ⟨#[]⟩, [1], false⟩ 16) zPrf = 1 := by decide +kernel
theorem ex_l2 : worthI (PrfD.lacks ⟨exBX, exX, ⟨#[]⟩, [1], false⟩ 1) zPrf = 0 := by decide +kernel
theorem ex_w1 : underB exAX exX = true := by decide +kernel
theorem ex_w2 : nameEq exAX exX = false := by decide +kernel
theorem ex_w3 : underB exX exX = true := by decide +kernel
theorem ex_w4 : worthI ((exP.find? (wildQ exAX exX)).isSome) zPrf = 1 := by decide +kernel
end Go.Proofs.YtdflhnbpcnmpfaaGreatDoor

/- digest.Base32. -/
namespace Go.Proofs.YtdflhnbpcnmpfaaGreatDoor
open Go.RowKit

abbrev W64 := BitVec 64
def vd (x : W64) : Int := (x.toNat : Int)
def thirtyB : ByteArray := ⟨#[48, 49, 50, 51, 52, 53, 54, 55, 56, 57, 97, 98, 99, 100, 101, 102, 103, 104, 105, 106, 107, 108, 109, 110, 111, 112, 113, 114, 115, 116, 117, 118]⟩
def b32c (v : W64) (h : Nat) : UInt8 := byt thirtyB ((v >>> h) &&& 31#64).toNat
def b32in (v : W64) : Nat → List UInt8
  | h + 5 => b32c v h :: b32in v h
  | _ => []
structure B32 where
  v : W64
  h : Nat
  out : List UInt8
def b32step (x : B32) (b : UInt8) : B32 := ⟨(x.v <<< 8) ||| BitVec.ofNat 64 b.toNat, (x.h + 8) % 5, x.out ++ b32in ((x.v <<< 8) ||| BitVec.ofNat 64 b.toNat) (x.h + 8)⟩
def b32run (s : List UInt8) : B32 := s.foldl b32step ⟨0, 0, []⟩
def b32L (s : List UInt8) : List UInt8 := if 0 < (b32run s).h then (b32run s).out ++ [byt thirtyB (((b32run s).v <<< (5 - (b32run s).h)) &&& 31#64).toNat] else (b32run s).out
theorem vd_shl (x : W64) (n : Nat) : vd x * 2 ^ n % 18446744073709551616 = vd (x <<< n) := by
  have e2 : ((x.toNat : Int) * 2 ^ n) = ((x.toNat * 2 ^ n : Nat) : Int) := by push_cast; rfl
  simp only [vd, BitVec.toNat_shiftLeft, Nat.shiftLeft_eq]
  rw [e2, show (2 ^ 64 : Nat) = 18446744073709551616 from rfl]
  omega
theorem vd_shr (x : W64) (n : Nat) : vd x / 2 ^ n = vd (x >>> n) := by
  simp only [vd, BitVec.toNat_ushiftRight, Nat.shiftRight_eq_div_pow]
  push_cast; rfl
theorem ofInt_vd (x : W64) : BitVec.ofInt 64 (vd x) = x := by simp [vd]
theorem vd_byte (b : UInt8) : (b.toNat : Int) = vd (BitVec.ofNat 64 b.toNat) := by have := b.toNat_lt; simp only [vd, BitVec.toNat_ofNat]; omega
theorem vd_or (x y : W64) : bits .or .u64 (vd x) (vd y) = vd (x ||| y) := by
  show IntKind.u64.wrap ((BitVec.ofInt 64 (vd x) ||| BitVec.ofInt 64 (vd y)).toNat : Int) = _
  rw [ofInt_vd, ofInt_vd, IntKind.wrap_u64]; have := (x ||| y).isLt; simp only [vd]; omega
theorem vd_and31 (x : W64) : bits .and .u64 (vd x) 31 = (((x &&& 31#64).toNat : Nat) : Int) := by
  show IntKind.u64.wrap ((BitVec.ofInt 64 (vd x) &&& 31#64).toNat : Int) = _
  rw [ofInt_vd, IntKind.wrap_u64]; have := (x &&& 31#64).isLt; omega
theorem vd_wrap (x : W64) (n : Nat) : IntKind.u64.wrap (vd x * 2 ^ n) = vd (x <<< n) := by
  rw [← vd_shl, IntKind.wrap_u64]
theorem b32in_lt (v : W64) (h : Nat) (hh : h < 5) : b32in v h = [] := by
  match h, hh with
  | 0, _ => rfl
  | 1, _ => rfl
  | 2, _ => rfl
  | 3, _ => rfl
  | 4, _ => rfl
set_option maxRecDepth 100000 in
set_option maxHeartbeats 1000000 in
theorem base32_any (s : ByteArray) (w : World) (hs : s.size ≤ 1000000) : Calls Tryz.prog 16 #[.string s] w fun e w' => e = .returned (.string ⟨(b32L s.data.toList).toArray⟩) ∧ Below w.heap.size w w' := by
  have hcv := conv_string_bytes
  go_enter Tryz.func16, Tryz.ntmps16
  go_wp2_with fail
  have hcell := fun k (hk : k < s.size) => Lib.bytesWorld_cell w 5 s k hk
  have hbw := below_bytesWorld w 5 s
  have hsz := Lib.bytesWorld_size w 5 s
  generalize grownCap w s.size 0 5 = cap at *
  generalize Lib.bytesWorld w 5 s = WB at *
  have HCL := Lib.hid hcell; have HBW := Lib.hid hbw; have HSZ := Lib.hid hsz
  clear hcell hbw hsz hcv
  go_loopw [3, 4, 5, 11] (fun o h v i wr => ∃ (k : Nat) (x : B32), k ≤ s.size ∧ x.h ≤ 4 ∧ i = .int .i64 k ∧ h = .int .i64 (x.h : Int) ∧ v = .int .u64 (vd x.v) ∧ Hid (b32run (s.data.toList.take k) = x) ∧ Hid (OwnB WB.heap.size o x.out wr) ∧ Hid (x.out.length ≤ 2 * k) ∧ Hid (Below WB.heap.size WB wr)) (fun _ _ _ i _ => s.size - (intOf i).toNat)
  case atStart => exact ⟨0, ⟨0, 0, []⟩, Nat.zero_le _, by simp, rfl, rfl, rfl, Lib.hid rfl, Lib.hid (OwnB.nil _ _), Lib.hid (by simp), Lib.hid (Below.refl _ _)⟩
  case round =>
    obtain ⟨k, x, hk, hx4, rfl, rfl, rfl, hx, hO, hL, hB⟩ := hrel
    by_cases hlt : k < s.size
    · have hc : wr.cell? ⟨w.heap.size, k, none⟩ = some (.int .u8 ((byt s k).toNat : Int)) := by
        rw [hB.out.cell (p := ⟨w.heap.size, k, none⟩) (by have := HSZ.out; show w.heap.size < _; omega)]
        exact HCL.out k hlt
      have hnx : b32run (s.data.toList.take (k + 1)) = b32step x (byt s k) := by
        rw [List.take_succ_eq_append_getElem (by simpa using hlt), b32run, List.foldl_append]
        have e : s.data.toList[k]'(by simpa using hlt) = byt s k := by simp [byt, List.getD, List.getElem?_eq_getElem (show k < s.data.toList.length by simpa using hlt)]
        rw [e]
        show b32step (b32run _) _ = _
        rw [hx.out]
      generalize byt s k = b at *
      have hb := b.toNat_lt
      have r1 : IntKind.u64.wrap (vd x.v * 256) = vd (x.v <<< 8) := vd_wrap x.v 8
      have r2 : bits .or .u64 (vd (x.v <<< 8)) (b.toNat : Int) = vd ((x.v <<< 8) ||| BitVec.ofNat 64 b.toNat) := by rw [vd_byte, vd_or]
      obtain ⟨xv, xh, xo⟩ := x
      simp only at r1 r2 hx4 hL hO
      simp only [b32step] at hnx
      generalize (xv <<< 8) ||| BitVec.ofNat 64 b.toNat = V at *
      have HNX := Lib.hid hnx
      clear hnx hx
      go_wp2_with fail
      go_loopw [3, 4] (fun o h ws => ∃ (hh : Nat) (oo : List UInt8), hh ≤ 12 ∧ h = .int .i64 hh ∧ Hid (oo ++ b32in V hh = xo ++ b32in V (xh + 8)) ∧ Hid (hh % 5 = (xh + 8) % 5) ∧ Hid (OwnB WB.heap.size o oo ws) ∧ Hid (5 * oo.length + hh ≤ 5 * xo.length + xh + 8) ∧ Hid (Below WB.heap.size WB ws)) (fun _ h _ => (intOf h).toNat)
      case atStart => exact ⟨xh + 8, xo, by omega, by go_num, Lib.hid rfl, Lib.hid rfl, hO, Lib.hid (by omega), hB⟩
      case round =>
        obtain ⟨hh, oo, hh12, rfl, hE, hM, hO2, hL2, hB2⟩ := hrel
        by_cases h5 : 5 ≤ hh
        · obtain ⟨g, rfl⟩ : ∃ g, hh = g + 5 := ⟨hh - 5, by omega⟩
          have q1 : (5 : Int) ≤ ((g + 5 : Nat) : Int) := by omega
          have t0 : (((g + 5 : Nat) : Int) - 5) = (g : Int) := by omega
          have t1 : IntKind.i64.wrap (g : Int) = (g : Int) := IntWalk.i64_in _ (by omega)
          have t2 := vd_shr V g
          have hlt5 : ((V >>> g) &&& 31#64).toNat < 32 := by
            rw [BitVec.toNat_and, show (31#64).toNat = 2 ^ 5 - 1 from rfl, Nat.and_two_pow_sub_one_eq_mod]; omega
          have t3 := vd_and31 (V >>> g)
          have hin : b32in V (g + 5) = b32c V g :: b32in V g := rfl
          have hcc : b32c V g = byt thirtyB ((V >>> g) &&& 31#64).toNat := rfl
          generalize ((V >>> g) &&& 31#64).toNat = ix at *
          have HIN := Lib.hid hin; have HCC := Lib.hid hcc
          clear hin hcc
          have hcl : b32c V g = thirtyB[ix]'(by show ix < 32; omega) := HCC.out.trans (byt_get thirtyB ix (by show ix < 32; omega)).symm
          have HC2 := Lib.hid hcl
          clear hcl
          go_wp2_with (at_builtin; go_loud (refine ownB_append hO2.out hB2.out hB2.out.size [thirtyB[ix]'(by show ix < 32; omega)] (by have := hL2.out; have := hL.out; simp; omega) rfl _ _ rfl _ 1 1 rfl rfl rfl rfl ?_); intro v1 w5 a1 a2 a3)
          have A1 := Lib.hid a1; have A2 := Lib.hid a2
          clear a1 a2 a3
          go_wp2_with fail
          go_roundw
          case rel => exact ⟨g, oo ++ [thirtyB[ix]'(by show ix < 32; omega)], by omega, by go_num, Lib.hid (by rw [← hE.out, HIN.out, HC2.out]; simp), Lib.hid (by have := hM.out; omega), A1, Lib.hid (by have := hL2.out; simp; omega), A2⟩
          case measure => simp [intOf]; omega
        · have hz := b32in_lt V hh (by omega)
          have he := hE.out
          rw [hz, List.append_nil] at he
          have hm := hM.out
          have hfin : b32run (s.data.toList.take (k + 1)) = ⟨V, hh, oo⟩ := by rw [HNX.out, he, show hh = (xh + 8) % 5 by omega]
          have HF := Lib.hid hfin
          have q1 : ¬ ((5 : Int) ≤ (hh : Int)) := by omega
          have hl3 : Hid (oo.length ≤ 2 * (k + 1)) := Lib.hid (by have h1 := hL2.out; have h2 := hL.out; omega)
          have hh4 : hh ≤ 4 := by omega
          clear hz he hm hfin hE hM hL2
          go_wp2_with fail
          go_roundw
          case rel => exact ⟨k + 1, ⟨V, hh, oo⟩, by omega, hh4, by go_num, rfl, rfl, HF, hO2, hl3, hB2⟩
          case measure => simp [intOf]; omega
    · obtain rfl : k = s.size := by omega
      have hx1 := hx.out
      rw [List.take_of_length_le (by simp)] at hx1
      have hL32 : b32L s.data.toList = if 0 < x.h then x.out ++ [byt thirtyB ((x.v <<< (5 - x.h)) &&& 31#64).toNat] else x.out := by rw [b32L, hx1]
      obtain ⟨xv, xh, xo⟩ := x
      simp only at hL32 hx4 hL hO
      have HFB := Lib.hid (show Below w.heap.size w wr from HBW.out.trans (hB.out.mono HBW.out.size))
      clear hx hx1
      by_cases h0 : 0 < xh
      · rw [if_pos h0] at hL32
        obtain ⟨n, hn⟩ : ∃ n, 5 - xh = n := ⟨_, rfl⟩
        rw [hn] at hL32
        have q1 : (0 : Int) < (xh : Int) := by omega
        have t0 : (5 : Int) - (xh : Int) = (n : Int) := by omega
        have t1 : IntKind.i64.wrap (n : Int) = (n : Int) := IntWalk.i64_in _ (by omega)
        have t2 := vd_wrap xv n
        have t3 := vd_and31 (xv <<< n)
        have hlt5 : ((xv <<< n) &&& 31#64).toNat < 32 := by
          rw [BitVec.toNat_and, show (31#64).toNat = 2 ^ 5 - 1 from rfl, Nat.and_two_pow_sub_one_eq_mod]; omega
        generalize ((xv <<< n) &&& 31#64).toNat = ix at *
        have HL := Lib.hid (hL32.trans (by rw [show byt thirtyB ix = thirtyB[ix]'(by show ix < 32; omega) from (byt_get thirtyB ix (by show ix < 32; omega)).symm] : _ = xo ++ [thirtyB[ix]'(by show ix < 32; omega)]))
        clear hL32
        go_wp2_with (at_builtin; go_loud (refine ownB_append hO.out hB.out hB.out.size [thirtyB[ix]'(by show ix < 32; omega)] (by have := hL.out; simp; omega) rfl _ _ rfl _ 1 1 rfl rfl rfl rfl ?_); intro v1 w5 a1 a2 a3; have hst := OwnB.string a1)
        go_ret
        exact ⟨by rw [HL.out]; rfl, HBW.out.trans (a2.mono HBW.out.size)⟩
      · rw [if_neg h0] at hL32
        have q1 : ¬ ((0 : Int) < (xh : Int)) := by omega
        have HL := Lib.hid hL32
        have hst := OwnB.string hO.out
        clear hL32 h0
        go_wp2_with fail
        go_ret
        exact ⟨by rw [HL.out]; rfl, HFB.out⟩
end Go.Proofs.YtdflhnbpcnmpfaaGreatDoor

/- The chapter's example of a hash (chapter 9): a plain fact. -/
namespace Go.Proofs.YtdflhnbpcnmpfaaGreatDoor
open Go.RowKit

def exN : ByteArray := ⟨#[7, 101, 120, 97, 109, 112, 108, 101, 0]⟩
def exSalt : ByteArray := ⟨#[170, 187, 204, 221]⟩
def exB32 : List UInt8 := [48, 112, 57, 109, 104, 97, 118, 101, 113, 118, 109, 54, 116, 55, 118, 98, 108, 53, 108, 111, 112, 50, 117, 51, 116, 50, 114, 112, 51, 116, 111, 109]
set_option maxRecDepth 1000000 in
theorem ex_h1 : (sumB (nameLower exN) exSalt).size = 20 := sumB_size _ _
set_option maxRecDepth 1000000 in
theorem ex_hash : b32L (hashIt exSalt 13 (nameLower exN)).data.toList = exB32 := by decide +kernel
end Go.Proofs.YtdflhnbpcnmpfaaGreatDoor

/- guidepostlaw09.examples, walked: true. -/
namespace Go.Proofs.YtdflhnbpcnmpfaaGreatDoor
open Go.RowKit

theorem info_set : (Tryz.prog.info? 40).map (·.size) = some 6 := by kernel_rfl
set_option maxRecDepth 100000 in
theorem law_nsec (n a t : ByteArray) (w : World) (hz : a.size + t.size ≤ 1000000) : Calls Tryz.prog 13 #[.string n, .string a, .string t] w fun e w' => Below w.heap.size w w' ∧ ∃ g, g < w'.heap.size ∧ w'.cell? ⟨g, 0, none⟩ = some (.string (a ++ t)) ∧ e = .returned (.agg #[.string n, .int .i64 47, .int .i64 1, .int .i64 0, .slice (some ⟨g, 0, none⟩) 1 1, .slice none 0 0]) := by
  have n1 : ¬ 9223372036854775807 < a.size + t.size := by omega
  go_enter Tryz.func13, Tryz.ntmps13
  go_wp2_with fail
  have hk : Blk ((w.alloc (.cells #[.string n, .int .i64 47, .int .i64 1, .int .i64 0, .slice (some ⟨w.heap.size + 1, 0, none⟩) 1 1, .slice none 0 0] 40)).alloc (.cells #[.string (a ++ t)] 9)) (w.heap.size + 1) #[.string (a ++ t)] 9 := by
    have := Blk.new (w.alloc (.cells #[.string n, .int .i64 47, .int .i64 1, .int .i64 0, .slice (some ⟨w.heap.size + 1, 0, none⟩) 1 1, .slice none 0 0] 40)) #[.string (a ++ t)] 9
    simpa using this
  have hs := (Blk.new w #[.string n, .int .i64 47, .int .i64 1, .int .i64 0, .slice (some ⟨w.heap.size + 1, 0, none⟩) 1 1, .slice none 0 0] 40).alloc (.cells #[.string (a ++ t)] 9)
  refine bodyPost_ret (results1 rfl ⟨_, rfl, loadVar_blk hs Tryz.underlying40 rfl info_set⟩) rfl ⟨?_, w.heap.size + 1, hk.lt, hk.cell 0, rfl⟩
  exact ((Below.refl _ w).alloc (Nat.le_refl _) _).alloc (by simp) _
theorem kinds9 : ∀ s ∈ exS, s.kind = 47 := by
  intro s hs
  simp only [exS, List.mem_cons, List.not_mem_nil, or_false] at hs
  rcases hs with rfl | rfl <;> rfl
theorem exS_ne : readN exS exX ≠ [] := by rw [ex_read]; simp [exP]
def SetsP (i : Int) (w : World) (e : Ending) (w' : World) : Prop := e = .returned (.int .i64 i) ∧ Below w.heap.size w w'
theorem ex9_1 (v : Value) (w : World) (h : SetsAt v exS w) : Calls Tryz.prog 8 #[v, .string ⟨#[1, 97, 1, 120, 0]⟩, .string ⟨#[1, 120, 0]⟩] w (SetsP 1 w) := by
  have := den_name exS v exAX exX w h kinds9 exS_ne
  rw [ex_read, ex_n1] at this; exact this
theorem ex9_2 (v : Value) (w : World) (h : SetsAt v exS w) : Calls Tryz.prog 8 #[v, .string ⟨#[1, 98, 1, 120, 0]⟩, .string ⟨#[1, 120, 0]⟩] w (SetsP 0 w) := by
  have := den_name exS v exBX exX w h kinds9 exS_ne
  rw [ex_read, ex_n2] at this; exact this
theorem ex9_3 (v : Value) (w : World) (h : SetsAt v exS w) : Calls Tryz.prog 8 #[v, .string ⟨#[1, 99, 1, 98, 1, 120, 0]⟩, .string ⟨#[1, 120, 0]⟩] w (SetsP 1 w) := by
  have := den_name exS v exCBX exX w h kinds9 exS_ne
  rw [ex_read, ex_n3] at this; exact this
theorem ex9_4 (v : Value) (w : World) (h : SetsAt v exS w) : Calls Tryz.prog 10 #[v, .string ⟨#[1, 98, 1, 120, 0]⟩, .int .i64 16, .string ⟨#[1, 120, 0]⟩] w (SetsP 1 w) := by
  have := den_type exS v exBX exX 16 _ w h kinds9 exS_ne ex_u (by omega) (by omega) (by rw [ex_read]; exact ex_m)
  rw [ex_l1] at this; exact this
theorem ex9_5 (v : Value) (w : World) (h : SetsAt v exS w) : Calls Tryz.prog 10 #[v, .string ⟨#[1, 98, 1, 120, 0]⟩, .int .i64 1, .string ⟨#[1, 120, 0]⟩] w (SetsP 0 w) := by
  have := den_type exS v exBX exX 1 _ w h kinds9 exS_ne ex_u (by omega) (by omega) (by rw [ex_read]; exact ex_m)
  rw [ex_l2] at this; exact this
theorem ex9_6 (v : Value) (w : World) (h : SetsAt v exS w) : Calls Tryz.prog 15 #[v, .string ⟨#[1, 97, 1, 120, 0]⟩, .string ⟨#[1, 120, 0]⟩, .string ⟨#[1, 120, 0]⟩] w (SetsP 1 w) := by
  have := den_wildp exS v exAX exX exX w h kinds9 exS_ne ex_w1 ex_w2 ex_w3
  rw [ex_read, ex_w4] at this; exact this
theorem ex9_h (w : World) : ∃ h : ByteArray, h.size ≤ 1000000 ∧ b32L h.data.toList = exB32 ∧ Calls Tryz.prog 14 #[.string ⟨#[7, 101, 120, 97, 109, 112, 108, 101, 0]⟩, .string ⟨#[170, 187, 204, 221]⟩, .int .i64 12] w fun e w' => e = .returned (.tuple #[.string h, .int .i64 0]) ∧ Below w.heap.size w w' := by
  have hr : hashR exN exSalt 12 = (hashIt exSalt 13 (nameLower exN), 0) := by
    rw [hashR, if_neg (by rw [show nameRight exN = true by decide +kernel]; simp), if_neg (by omega), if_neg (by decide)]; rfl
  have := den_hash exN exSalt 12 w
  rw [hr] at this
  refine ⟨_, ?_, ex_hash, this⟩
  show (hashIt exSalt 12 (sumB (nameLower exN) exSalt)).size ≤ _
  rw [hashIt_size _ _ _ (sumB_size _ _)]; omega
theorem ex9_s (v1 v2 : Nat) (w : World) (h1 : v1 < w.heap.size) (h2 : v2 < w.heap.size) (c1 : w.cell? ⟨v1, 0, none⟩ = some (.string exD1)) (c2 : w.cell? ⟨v2, 0, none⟩ = some (.string exD2)) :
    SetsAt (.slice (some ⟨w.heap.size, 0, none⟩) 2 2) exS (w.alloc (.cells #[.string ⟨#[1, 120, 0]⟩, .int .i64 47, .int .i64 1, .int .i64 0, .slice (some ⟨v1, 0, none⟩) 1 1, .slice none 0 0, .string ⟨#[1, 98, 1, 120, 0]⟩, .int .i64 47, .int .i64 1, .int .i64 0, .slice (some ⟨v2, 0, none⟩) 1 1, .slice none 0 0] 40)) := by
  have hN := Blk.new w #[.string ⟨#[1, 120, 0]⟩, .int .i64 47, .int .i64 1, .int .i64 0, .slice (some ⟨v1, 0, none⟩) 1 1, .slice none 0 0, .string ⟨#[1, 98, 1, 120, 0]⟩, .int .i64 47, .int .i64 1, .int .i64 0, .slice (some ⟨v2, 0, none⟩) 1 1, .slice none 0 0] 40
  have hb := (Below.refl w.heap.size w).alloc (Nat.le_refl _) (.cells #[.string ⟨#[1, 120, 0]⟩, .int .i64 47, .int .i64 1, .int .i64 0, .slice (some ⟨v1, 0, none⟩) 1 1, .slice none 0 0, .string ⟨#[1, 98, 1, 120, 0]⟩, .int .i64 47, .int .i64 1, .int .i64 0, .slice (some ⟨v2, 0, none⟩) 1 1, .slice none 0 0] 40)
  have one : ∀ g d, g < w.heap.size → w.cell? ⟨g, 0, none⟩ = some (.string d) → StrsAt (.slice (some ⟨g, 0, none⟩) 1 1) [d] w := fun g d hg hc => ⟨some ⟨g, 0, none⟩, 1, rfl, fun _ => ⟨g, 0, rfl, hg, fun j hj => by
    have e : j = 0 := by simpa using hj
    subst e; exact hc⟩⟩
  have nil : ∀ W, StrsAt (.slice none 0 0) [] W := fun W => ⟨none, 0, rfl, fun h => absurd h (by simp)⟩
  refine ⟨_, _, rfl, by simp [exS], fun _ => ⟨w.heap.size, rfl, hN.lt, fun j hj => ?_⟩⟩
  have hj2 : j < 2 := hj
  rcases (show j = 0 ∨ j = 1 by omega) with rfl | rfl
  · refine ⟨.slice (some ⟨v1, 0, none⟩) 1 1, .slice none 0 0, fun i v hv => ?_, (one v1 _ h1 c1).below hb, nil _⟩
    rw [hN.cell]
    have hi : i < 6 := (List.getElem?_eq_some_iff.1 hv).1
    rcases (show i = 0 ∨ i = 1 ∨ i = 2 ∨ i = 3 ∨ i = 4 ∨ i = 5 by omega) with rfl | rfl | rfl | rfl | rfl | rfl <;> exact hv
  · refine ⟨.slice (some ⟨v2, 0, none⟩) 1 1, .slice none 0 0, fun i v hv => ?_, (one v2 _ h2 c2).below hb, nil _⟩
    rw [hN.cell]
    have hi : i < 6 := (List.getElem?_eq_some_iff.1 hv).1
    rcases (show i = 0 ∨ i = 1 ∨ i = 2 ∨ i = 3 ∨ i = 4 ∨ i = 5 by omega) with rfl | rfl | rfl | rfl | rfl | rfl <;> exact hv
set_option maxRecDepth 100000 in
set_option maxHeartbeats 2000000 in
theorem examples_any (w : World) : Calls Tryz.prog 4 #[] w fun e w' => e = .returned (.bool true) ∧ Below w.heap.size w w' := by
  have h1 := fun W => law_nsec ⟨#[1, 120, 0]⟩ ⟨#[1, 98, 1, 120, 0]⟩ ⟨#[0, 1, 34]⟩ W (by decide)
  have h2 := fun W => law_nsec ⟨#[1, 98, 1, 120, 0]⟩ ⟨#[1, 120, 0]⟩ ⟨#[0, 1, 64]⟩ W (by decide)
  have H1 := Lib.hid h1; have H2 := Lib.hid h2
  clear h1 h2
  have bl := Below.refl w.heap.size w
  go_enter Tryz.func4, Tryz.ntmps4
  go_wp2_with (go_at_call 13; refine (Hid.out (p := _) ?_))
  refine Lib.hid ?_
  refine (H1.out _).mono ?_
  rintro e w1 ⟨hb1, g1, hg1, hc1, rfl⟩
  simp only []
  go_wp2_with (go_at_call 13; refine (Hid.out (p := _) ?_))
  refine Lib.hid ?_
  refine (H2.out _).mono ?_
  rintro e w2 ⟨hb2, g2, hg2, hc2, rfl⟩
  simp only []
  replace bl := (bl.trans (hb1.mono bl.size))
  replace bl := (bl.trans (hb2.mono bl.size))
  have hS := ex9_s g1 g2 w2 (Nat.lt_of_lt_of_le hg1 hb2.size) hg2 ((hb2.cell (p := ⟨g1, 0, none⟩) hg1).trans hc1) hc2
  replace bl := bl.alloc bl.size (.cells #[.string ⟨#[1, 120, 0]⟩, .int .i64 47, .int .i64 1, .int .i64 0, .slice (some ⟨g1, 0, none⟩) 1 1, .slice none 0 0, .string ⟨#[1, 98, 1, 120, 0]⟩, .int .i64 47, .int .i64 1, .int .i64 0, .slice (some ⟨g2, 0, none⟩) 1 1, .slice none 0 0] 40)
  clear hb1 hb2 hc1 hc2 hg1 hg2 H1 H2
  obtain ⟨h, hz, h32, hh⟩ := ex9_h (w2.alloc (.cells #[.string ⟨#[1, 120, 0]⟩, .int .i64 47, .int .i64 1, .int .i64 0, .slice (some ⟨g1, 0, none⟩) 1 1, .slice none 0 0, .string ⟨#[1, 98, 1, 120, 0]⟩, .int .i64 47, .int .i64 1, .int .i64 0, .slice (some ⟨g2, 0, none⟩) 1 1, .slice none 0 0] 40))
  have HH := Lib.hid hh
  have h33 := fun W => base32_any h W hz
  rw [h32] at h33
  have HB := Lib.hid h33
  clear hh h32 hz h33
  go_wp2_with (go_at_call 14; refine (Hid.out (p := _) ?_))
  refine Lib.hid ?_
  refine (HH.out).mono ?_
  clear HH
  rintro e w3 ⟨rfl, hb⟩
  replace bl := bl.trans (hb.mono bl.size)
  replace hS := hS.below hb
  clear hb
  have HS := Lib.hid hS
  simp only []
  go_wp2_with (go_at_call 8; refine (Hid.out (p := _) ?_))
  refine Lib.hid ?_
  refine (ex9_1 _ _ HS.out).mono ?_
  rintro e w4 ⟨rfl, hb⟩
  replace bl := bl.trans (hb.mono bl.size)
  replace hS := hS.below hb
  clear hb
  have HS := Lib.hid hS
  simp only []
  go_wp2_with (go_at_call 8; refine (Hid.out (p := _) ?_))
  refine Lib.hid ?_
  refine (ex9_2 _ _ HS.out).mono ?_
  rintro e w5 ⟨rfl, hb⟩
  replace bl := bl.trans (hb.mono bl.size)
  replace hS := hS.below hb
  clear hb
  have HS := Lib.hid hS
  simp only []
  go_wp2_with (go_at_call 8; refine (Hid.out (p := _) ?_))
  refine Lib.hid ?_
  refine (ex9_3 _ _ HS.out).mono ?_
  rintro e w6 ⟨rfl, hb⟩
  replace bl := bl.trans (hb.mono bl.size)
  replace hS := hS.below hb
  clear hb
  have HS := Lib.hid hS
  simp only []
  go_wp2_with (go_at_call 10; refine (Hid.out (p := _) ?_))
  refine Lib.hid ?_
  refine (ex9_4 _ _ HS.out).mono ?_
  rintro e w7 ⟨rfl, hb⟩
  replace bl := bl.trans (hb.mono bl.size)
  replace hS := hS.below hb
  clear hb
  have HS := Lib.hid hS
  simp only []
  go_wp2_with (go_at_call 10; refine (Hid.out (p := _) ?_))
  refine Lib.hid ?_
  refine (ex9_5 _ _ HS.out).mono ?_
  rintro e w8 ⟨rfl, hb⟩
  replace bl := bl.trans (hb.mono bl.size)
  replace hS := hS.below hb
  clear hb
  have HS := Lib.hid hS
  simp only []
  go_wp2_with (go_at_call 15; refine (Hid.out (p := _) ?_))
  refine Lib.hid ?_
  refine (ex9_6 _ _ HS.out).mono ?_
  rintro e w9 ⟨rfl, hb⟩
  replace bl := bl.trans (hb.mono bl.size)
  replace hS := hS.below hb
  clear hb
  have HS := Lib.hid hS
  simp only []
  go_wp2_with (go_at_call 16; refine (Hid.out (p := _) ?_))
  refine Lib.hid ?_
  refine (HB.out _).mono ?_
  rintro e w10 ⟨rfl, hb⟩
  replace bl := bl.trans (hb.mono bl.size)
  replace hS := hS.below hb
  clear hb
  have HS := Lib.hid hS
  simp only []
  go_wp2_with fail
  go_ret
  exact ⟨rfl, bl⟩
end Go.Proofs.YtdflhnbpcnmpfaaGreatDoor

