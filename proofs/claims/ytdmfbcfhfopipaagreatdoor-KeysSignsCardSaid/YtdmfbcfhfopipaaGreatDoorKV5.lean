import Derived.Test.YtdmfbcfhfopipaaGreatDoorKV1
import Derived.Test.YtdmfbcfhfopipaaGreatDoorKV2
import Derived.Test.YtdmfbcfhfopipaaGreatDoorKV3
import Derived.Test.YtdmfbcfhfopipaaGreatDoorKV4
/- SHA-256: what one block does; digest.Sum256's closure, walked. -/
namespace Go.Proofs.YtdmfbcfhfopipaaGreatDoor
open Go.RowKit

def g0 (x : W32) : W32 := (rotW x (rotS (-7)) ^^^ rotW x (rotS (-18))) ^^^ x >>> (3 : Nat)
def g1 (x : W32) : W32 := (rotW x (rotS (-17)) ^^^ rotW x (rotS (-19))) ^^^ x >>> (10 : Nat)
/-- What round i makes of the sixteen words. -/
def ring2 (r : List W32) (i : Nat) : List W32 :=
  if 16 ≤ i then r.set (i % 16) (r.getD (i % 16) 0 + ((g0 (r.getD ((i - 15) % 16) 0) + r.getD ((i - 7) % 16) 0) + g1 (r.getD ((i - 2) % 16) 0))) else r
def tOf (v4 v5 v6 v7 k w : W32) : W32 := (((v7 + mixW v4 6 11 25) + (v6 ^^^ (v4 &&& (v5 ^^^ v6)))) + k) + w
def uOf (v0 v1 v2 : W32) : W32 := mixW v0 2 13 22 + ((v0 &&& v1) ||| (v2 &&& (v0 ||| v1)))
def step2 (v : List W32) (k w : W32) : List W32 :=
  match v with
  | [v0, v1, v2, v3, v4, v5, v6, v7] => [tOf v4 v5 v6 v7 k w + uOf v0 v1 v2, v0, v1, v2, v3 + tOf v4 v5 v6 v7 k w, v4, v5, v6]
  | v => v
def run2 (h b : List W32) : Nat → List W32 × List W32
  | 0 => (h, b)
  | n + 1 => (step2 (run2 h b n).1 (K256.getD n 0) ((ring2 (run2 h b n).2 n).getD (n % 16) 0), ring2 (run2 h b n).2 n)
/-- What a block makes of eight words. -/
def comp2 (h b : List W32) : List W32 := List.zipWith (· + ·) h (run2 h b 64).1

theorem ring2_len (r : List W32) (i : Nat) : (ring2 r i).length = r.length := by unfold ring2; split <;> simp
theorem step2_len (v : List W32) (k w : W32) : (step2 v k w).length = v.length := by unfold step2; split <;> simp
theorem run2_len (h b : List W32) (n : Nat) : (run2 h b n).1.length = h.length ∧ (run2 h b n).2.length = b.length := by
  induction n with
  | zero => exact ⟨rfl, rfl⟩
  | succ n ih => exact ⟨(step2_len _ _ _).trans ih.1, (ring2_len _ _).trans ih.2⟩
theorem comp2_len (h b : List W32) : (comp2 h b).length = h.length := by simp [comp2, (run2_len h b 64).1]

theorem and15 (k : Nat) (h : k < 9223372036854775808) : bits .and .i64 (k : Int) 15 = ((k % 16 : Nat) : Int) := by
  have := i64_and_nat k 15 h (by omega)
  rw [show (15 : Nat) = 2 ^ 4 - 1 from rfl, Nat.and_two_pow_sub_one_eq_mod] at this
  exact this

theorem len8 (v : List W32) (h : v.length = 8) : ∃ v0 v1 v2 v3 v4 v5 v6 v7, v = [v0, v1, v2, v3, v4, v5, v6, v7] := by
  match v, h with
  | [v0, v1, v2, v3, v4, v5, v6, v7], _ => exact ⟨v0, v1, v2, v3, v4, v5, v6, v7, rfl⟩

/-- The world in the midst of a block: its words, its eight, the rounds' words. -/
structure St2 (w W : World) (r v : List W32) (kb : Nat) (kt : TypeId) : Prop where
  ring : Blk W w.heap.size (encW r) 129
  eight : Blk W (w.heap.size + 1) (encW v) 124
  below : Below w.heap.size w W
  key : Blk w kb (encW K256) kt
theorem St2.drewN {w W : World} {r v : List W32} {kb : Nat} {kt : TypeId} (h : St2 w W r v kb kt) (n : Nat) : St2 w (W.drewN n) r v kb kt := ⟨h.ring, h.eight, ⟨h.below.os, h.below.tape, h.below.output, h.below.size, h.below.block⟩, h.key⟩
theorem St2.rc {w W : World} {r v : List W32} {kb : Nat} {kt : TypeId} (h : St2 w W r v kb kt) {j : Nat} {x : W32} (hj : j < r.length) (e : r.getD j 0 = x) : W.cell? ⟨w.heap.size, j, none⟩ = some (.int .u32 (wd x)) := by rw [h.ring.cell, encW_get _ _ hj, e]
theorem St2.vc {w W : World} {r v : List W32} {kb : Nat} {kt : TypeId} (h : St2 w W r v kb kt) (j : Nat) {x : W32} (hj : j < v.length) (e : v.getD j 0 = x) : W.cell? ⟨w.heap.size + 1, j, none⟩ = some (.int .u32 (wd x)) := by rw [h.eight.cell, encW_get _ _ hj, e]
theorem St2.kc {w W : World} {r v : List W32} {kb : Nat} {kt : TypeId} (h : St2 w W r v kb kt) {j : Nat} {x : W32} (hj : j < 64) (e : K256.getD j 0 = x) : W.cell? ⟨kb, j, none⟩ = some (.int .u32 (wd x)) := by rw [(h.key.below h.below h.key.lt).cell, encW_get _ _ hj, e]

theorem St2.put8 {w W : World} {r : List W32} {v0 v1 v2 v3 v4 v5 v6 v7 : W32} {kb : Nat} {kt : TypeId} (h : St2 w W r [v0, v1, v2, v3, v4, v5, v6, v7] kb kt) (x0 x1 x2 x3 x4 x5 x6 x7 : W32) :
    St2 w ((((((((W.setCell ⟨w.heap.size + 1, 0, none⟩ (.int .u32 (wd x0))).setCell ⟨w.heap.size + 1, 1, none⟩ (.int .u32 (wd x1))).setCell ⟨w.heap.size + 1, 2, none⟩ (.int .u32 (wd x2))).setCell ⟨w.heap.size + 1, 3, none⟩ (.int .u32 (wd x3))).setCell ⟨w.heap.size + 1, 4, none⟩ (.int .u32 (wd x4))).setCell ⟨w.heap.size + 1, 5, none⟩ (.int .u32 (wd x5))).setCell ⟨w.heap.size + 1, 6, none⟩ (.int .u32 (wd x6))).setCell ⟨w.heap.size + 1, 7, none⟩ (.int .u32 (wd x7))) r [x0, x1, x2, x3, x4, x5, x6, x7] kb kt := by
  refine ⟨?_, ?_, ?_, h.key⟩
  · iterate 8 refine Blk.other ?_ (by simp) _
    exact h.ring
  · have := (((((((h.eight.set 0 (.int .u32 (wd x0))).set 1 (.int .u32 (wd x1))).set 2 (.int .u32 (wd x2))).set 3 (.int .u32 (wd x3))).set 4 (.int .u32 (wd x4))).set 5 (.int .u32 (wd x5))).set 6 (.int .u32 (wd x6))).set 7 (.int .u32 (wd x7))
    simpa [encW, vw] using this
  · iterate 8 refine Below.setCell ?_ (by simp) _
    exact h.below

/-- h with its first j words the sums. -/
def part2 (h v : List W32) (j : Nat) : List W32 := (List.zipWith (· + ·) h v).take j ++ h.drop j
theorem part2_len (h v : List W32) (j : Nat) (hj : j ≤ h.length) (e : h.length = v.length) : (part2 h v j).length = h.length := by simp [part2]; omega
theorem part2_get (h v : List W32) (j : Nat) (hj : j < h.length) (e : h.length = v.length) : (part2 h v j).getD j 0 = h.getD j 0 := by
  have e1 : ((List.zipWith (· + ·) h v).take j).length = j := by simp; omega
  rw [part2, List.getD_eq_getElem?_getD, List.getElem?_append_right (by omega), e1, Nat.sub_self]
  simp [List.getD]
theorem part2_step (h v : List W32) (j : Nat) (hj : j < h.length) (e : h.length = v.length) : part2 h v (j + 1) = (part2 h v j).set j (h.getD j 0 + v.getD j 0) := by
  have e1 : ((List.zipWith (· + ·) h v).take j).length = j := by simp; omega
  have hz : j < (List.zipWith (· + ·) h v).length := by simp; omega
  have hv : j < v.length := by omega
  rw [part2, part2, List.take_succ_eq_append_getElem hz, List.drop_eq_getElem_cons hj, List.set_append, if_neg (by omega), e1, Nat.sub_self, List.set_cons_zero, List.append_assoc]
  simp [List.getD, hj, hv]
theorem part2_all (h v : List W32) (e1 : h.length = 8) (e2 : v.length = 8) : part2 h v 8 = List.zipWith (· + ·) h v := by
  rw [part2, List.take_of_length_le (by simp; omega), List.drop_of_length_le (by omega), List.append_nil]

set_option maxRecDepth 100000 in
set_option maxHeartbeats 2000000 in
theorem sha2_block (hs bl : List W32) (hb kb : Nat) (ht kt : TypeId) (w : World) (h8 : hs.length = 8) (h16 : bl.length = 16) (hH : Blk w hb (encW hs) ht) (hK : Blk w kb (encW K256) kt) (_hne : hb ≠ kb) :
    Calls Tryz.prog 82 #[.agg (encW bl), .pointer (some ⟨hb, 0, none⟩), .pointer (some ⟨kb, 0, none⟩)] w fun e w' => e = .returned (.tuple #[]) ∧ Blk w' hb (encW (comp2 hs bl)) ht ∧ Only hb w w' := by
  have hld := loadVar_blk (P := Tryz.prog) (ty := 124) hH Tryz.underlying124 rfl (by rw [encW_size, h8]; kernel_rfl)
  go_enter Tryz.func82, Tryz.ntmps82
  apply wp_seq
  apply wp_region
  change wpList _ _ _ (_ :: []) _ _
  refine wpList_box rfl _ _ rfl (.agg (encW bl)) rfl ?_
  change Code.wp _ _ _ _ _
  apply wp_seq
  apply wp_region
  change wpList _ _ _ (_ :: _ :: _ :: []) _ _
  have hH1 : Blk (w.alloc (.cells (Value.agg (encW bl)).cells 129)) hb (encW hs) ht := hH.alloc _
  have hinf : (Tryz.prog.info? 124).map (·.size) = some (encW hs).size := by rw [encW_size, h8]; kernel_rfl
  have hs1 : (encW hs).all (·.oneCell') = true := by simp [encW, vw, Value.oneCell']
  refine wpList_load rfl _ _ rfl ⟨hb, 0, none⟩ (.agg (encW hs)) rfl (loadVar_blk hH1 Tryz.underlying124 rfl hinf) ?_
  refine wpList_alloc rfl _ rfl (.agg (encW (List.replicate 8 0))) (fun w => by kernel_rfl) ?_
  refine wpList_store_row rfl _ _ _ rfl (w.alloc (.cells (encW bl) 129)).heap.size (encW hs) (by simp [Act.put, Act.eval]) rfl 124 (encW (List.replicate 8 0)) (Blk.new (w.alloc (.cells (encW bl) 129)) (encW (List.replicate 8 0)) 124) hinf (by rw [encW_size, encW_size, h8]; rfl) hs1 ?_
  change Code.wp _ _ _ _ _
  change Code.wp _ _ _ _ (((w.alloc (.cells (encW bl) 129)).alloc (.cells (encW (List.replicate 8 0)) 124)).setRow (w.alloc (.cells (encW bl) 129)).heap.size (encW hs))
  rw [World.setRow_alloc_new]
  have hB : Below w.heap.size w ((w.alloc (.cells (encW bl) 129)).alloc (.cells (encW hs) 124)) := ((Below.refl _ w).alloc (Nat.le_refl _) _).alloc (by simp) _
  have hr0 : Blk ((w.alloc (.cells (encW bl) 129)).alloc (.cells (encW hs) 124)) w.heap.size (encW bl) 129 := (Blk.new w _ _).alloc _
  have hv0 : Blk ((w.alloc (.cells (encW bl) 129)).alloc (.cells (encW hs) 124)) (w.heap.size + 1) (encW hs) 124 := by
    have := Blk.new (w.alloc (.cells (encW bl) 129)) (encW hs) 124
    simpa using this
  generalize ((w.alloc (.cells (encW bl) 129)).alloc (.cells (encW hs) 124)) = W0 at hB hr0 hv0 ⊢
  have HB := Lib.hid hB; have HR := Lib.hid hr0; have HV := Lib.hid hv0; have HH := Lib.hid hH; have HK := Lib.hid hK; have hsl := hH.lt; have hskl := hK.lt
  have H8 := Lib.hid h8; have H16 := Lib.hid h16
  clear hB hr0 hv0 hH hK hld hH1 hinf hs1 h8 h16
  go_wp2
  go_loopw [16] (fun i wr => ∃ k : Nat, k ≤ 64 ∧ i = .int .i64 k ∧ Hid (St2 w wr (run2 hs bl k).2 (run2 hs bl k).1 kb kt)) (fun i _ => 64 - (intOf i).toNat)
  case atStart => exact ⟨0, Nat.zero_le _, rfl, Lib.hid ⟨HR.out, HV.out, HB.out, HK.out⟩⟩
  case round =>
    obtain ⟨k, hk, rfl, hS⟩ := hrel
    have hmix : Tryz.prog.follows .mixedOrders = true := by kernel_rfl
    by_cases hlt : k < 64
    · have hlr : (run2 hs bl k).2.length = 16 := (run2_len hs bl k).2.trans H16.out
      have hlv : (run2 hs bl k).1.length = 8 := (run2_len hs bl k).1.trans H8.out
      have HE : Hid (run2 hs bl (k + 1) = (step2 (run2 hs bl k).1 (K256.getD k 0) ((ring2 (run2 hs bl k).2 k).getD (k % 16) 0), ring2 (run2 hs bl k).2 k)) := Lib.hid rfl
      generalize (run2 hs bl k).2 = r at hS hlr HE
      generalize (run2 hs bl k).1 = v at hS hlv HE
      have hxor := wd_xor
      have hadd := wd_add
      have hor := wd_or
      have hand := wd_and
      obtain ⟨j0, m0, hj0, e0⟩ : ∃ j : Nat, bits .and .i64 (k : Int) 15 = (j : Int) ∧ j < 16 ∧ j = k % 16 := ⟨k % 16, and15 _ (by omega), by omega, rfl⟩
      have E0 := Lib.hid e0
      clear e0
      have b0 : (j0 : Int) < 16 := by omega
      have hd1 : decide ((k : Int) < 64) = true := decide_eq_true (by omega)
      by_cases hk16 : 16 ≤ k
      · have hd : decide ((16 : Int) ≤ (k : Int)) = true := decide_eq_true (by omega)
        obtain ⟨j15, m15, hj15, e15⟩ : ∃ j : Nat, bits .and .i64 ((k : Int) - 15) 15 = (j : Int) ∧ j < 16 ∧ j = (k - 15) % 16 :=
          ⟨(k - 15) % 16, by rw [show (k : Int) - 15 = ((k - 15 : Nat) : Int) by omega, and15 _ (by omega)], by omega, rfl⟩
        obtain ⟨j2, m2, hj2, e2⟩ : ∃ j : Nat, bits .and .i64 ((k : Int) - 2) 15 = (j : Int) ∧ j < 16 ∧ j = (k - 2) % 16 :=
          ⟨(k - 2) % 16, by rw [show (k : Int) - 2 = ((k - 2 : Nat) : Int) by omega, and15 _ (by omega)], by omega, rfl⟩
        obtain ⟨j7, m7, hj7, e7⟩ : ∃ j : Nat, bits .and .i64 ((k : Int) - 7) 15 = (j : Int) ∧ j < 16 ∧ j = (k - 7) % 16 :=
          ⟨(k - 7) % 16, by rw [show (k : Int) - 7 = ((k - 7 : Nat) : Int) by omega, and15 _ (by omega)], by omega, rfl⟩
        obtain ⟨x15, X15⟩ : ∃ x, Hid (r.getD j15 0 = x) := ⟨_, Lib.hid rfl⟩
        obtain ⟨x2, X2⟩ : ∃ x, Hid (r.getD j2 0 = x) := ⟨_, Lib.hid rfl⟩
        obtain ⟨x7, X7⟩ : ∃ x, Hid (r.getD j7 0 = x) := ⟨_, Lib.hid rfl⟩
        obtain ⟨x0, X0⟩ : ∃ x, Hid (r.getD j0 0 = x) := ⟨_, Lib.hid rfl⟩
        have hring : ring2 r k = r.set j0 (x0 + ((g0 x15 + x7) + g1 x2)) := by
          rw [ring2, if_pos hk16, ← X15.out, ← X2.out, ← X7.out, ← X0.out, e15, e2, e7, E0.out]
        have HRing := Lib.hid hring
        clear e15 e2 e7 hring
        have b15 : (j15 : Int) < 16 := by omega
        have b2 : (j2 : Int) < 16 := by omega
        have b7 : (j7 : Int) < 16 := by omega
        have c15 := hS.out.rc (by omega) X15.out
        have c2 := hS.out.rc (by omega) X2.out
        have s3 : wd x15 / (8 : Int) = wd (x15 >>> (3 : Nat)) := wd_shr x15 3
        have s10 : wd x2 / (1024 : Int) = wd (x2 >>> (10 : Nat)) := wd_shr x2 10
        go_wp2_with fail
        go_quiet (fail)
        generalize hW1 : wr.drewN nq = W1
        have hS1 : Hid (St2 w W1 r v kb kt) := Lib.hid (by rw [← hW1]; exact hS.out.drewN nq)
        have c7 := hS1.out.rc (by omega) X7.out
        have c0 := hS1.out.rc (by omega) X0.out
        have f0 := hS1.out.ring.free j0
        clear hW1 c15 c2 hS
        go_wp2_with (go_at_call 83; refine (rot_any _ _ _).mono ?_; rintro e w' ⟨rfl, rfl⟩)
        refine wp_draw 14 (C := fun w' => ∃ n, w' = W1.drewN n) hmix (by kernel_rfl) (by kernel_rfl) (by kernel_rfl) (by simp) ⟨1, rfl⟩ ?_
        simp only [List.take_succ_cons, List.take_zero, List.drop_succ_cons, List.drop_zero]
        repeat (go_big_quiet_step (fail))
        refine wpQuiet_nil ?_
        intro _ hw'
        obtain ⟨nq, hw''⟩ := hw'
        subst hw''
        go_wp2_with fail
        have hS2 : St2 w ((W1.drewN nq).setCell ⟨w.heap.size, j0, none⟩ (.int .u32 (wd (x0 + ((g0 x15 + x7) + g1 x2))))) (ring2 r k) v kb kt := by
          rw [HRing.out]
          refine ⟨by rw [← encW_set]; exact Blk.set (w := W1.drewN nq) hS1.out.ring _ _, Blk.other (w := W1.drewN nq) hS1.out.eight (by simp) _, Below.setCell (w := W1.drewN nq) (hS1.out.drewN nq).below (by exact Nat.le_refl _) _, hS1.out.key⟩
        have hrl : (ring2 r k).length = 16 := (ring2_len r k).trans hlr
        change St2 w ((W1.drewN nq).setCell ⟨w.heap.size, j0, none⟩ (.int .u32 (wd (x0 + ((((rotW x15 (rotS (-7)) ^^^ rotW x15 (rotS (-18))) ^^^ x15 >>> (3 : Nat)) + x7) + ((rotW x2 (rotS (-17)) ^^^ rotW x2 (rotS (-19))) ^^^ x2 >>> (10 : Nat))))))) (ring2 r k) v kb kt at hS2
        generalize (W1.drewN nq).setCell _ _ = W2 at hS2 ⊢
        clear hS1 c7 c0 f0 s3 s10 HRing X15 X2 X7 X0 m15 m2 m7 b15 b2 b7 hj15 hj2 hj7 hd
        have HS := Lib.hid hS2
        clear hS2 hlr
        obtain ⟨v0, v1, v2, v3, v4, v5, v6, v7, hv⟩ := len8 v hlv
        subst hv
        clear hlv
        obtain ⟨y, Y⟩ : ∃ y, Hid ((ring2 r k).getD j0 0 = y) := ⟨_, Lib.hid rfl⟩
        obtain ⟨kk, KK⟩ : ∃ y, Hid (K256.getD k 0 = y) := ⟨_, Lib.hid rfl⟩
        have HN : Hid (run2 hs bl (k + 1) = ([tOf v4 v5 v6 v7 kk y + uOf v0 v1 v2, v0, v1, v2, v3 + tOf v4 v5 v6 v7 kk y, v4, v5, v6], (ring2 r k))) := Lib.hid (by rw [HE.out, ← Y.out, ← KK.out, E0.out]; rfl)
        clear HE
        have a0 : W2.cell? ⟨w.heap.size + 1, 0, none⟩ = some (.int .u32 (wd v0)) := HS.out.vc 0 (by simp) rfl
        have a4 : W2.cell? ⟨w.heap.size + 1, 4, none⟩ = some (.int .u32 (wd v4)) := HS.out.vc 4 (by simp) rfl
        go_quiet (fail)
        generalize hW3 : W2.drewN nq = W3
        have HS3 : Hid (St2 w W3 (ring2 r k) [v0, v1, v2, v3, v4, v5, v6, v7] kb kt) := Lib.hid (by rw [← hW3]; exact HS.out.drewN nq)
        clear hW3 HS a0 a4
        have a5 : W3.cell? ⟨w.heap.size + 1, 5, none⟩ = some (.int .u32 (wd v5)) := HS3.out.vc 5 (by simp) rfl
        have a6 : W3.cell? ⟨w.heap.size + 1, 6, none⟩ = some (.int .u32 (wd v6)) := HS3.out.vc 6 (by simp) rfl
        have a7 : W3.cell? ⟨w.heap.size + 1, 7, none⟩ = some (.int .u32 (wd v7)) := HS3.out.vc 7 (by simp) rfl
        have ak := HS3.out.kc hlt KK.out
        have ay := HS3.out.rc (by omega) Y.out
        have hk64 : (k : Int) < 64 := by omega
        go_wp2_with fail
        go_quiet ((go_at_call 84; exact Calls.quiet_of_same ((mix_any _ _ _ _ _ (by omega) (by omega) (by omega)).mono fun e w' h => ⟨h.1, h.2.symm⟩)))
        generalize hW4 : W3.drewN nq = W4
        have HS4 : Hid (St2 w W4 (ring2 r k) [v0, v1, v2, v3, v4, v5, v6, v7] kb kt) := Lib.hid (by rw [← hW4]; exact HS3.out.drewN nq)
        clear hW4 HS3 a5 a6 a7 ak ay hk64
        have a1 : W4.cell? ⟨w.heap.size + 1, 1, none⟩ = some (.int .u32 (wd v1)) := HS4.out.vc 1 (by simp) rfl
        have a2 : W4.cell? ⟨w.heap.size + 1, 2, none⟩ = some (.int .u32 (wd v2)) := HS4.out.vc 2 (by simp) rfl
        go_wp2_with fail
        go_quiet ((go_at_call 84; exact Calls.quiet_of_same ((mix_any _ _ _ _ _ (by omega) (by omega) (by omega)).mono fun e w' h => ⟨h.1, h.2.symm⟩)))
        generalize hW5 : W4.drewN nq = W5
        have HS5 : Hid (St2 w W5 (ring2 r k) [v0, v1, v2, v3, v4, v5, v6, v7] kb kt) := Lib.hid (by rw [← hW5]; exact HS4.out.drewN nq)
        clear hW5 HS4 a1 a2
        have a0 : W5.cell? ⟨w.heap.size + 1, 0, none⟩ = some (.int .u32 (wd v0)) := HS5.out.vc 0 (by simp) rfl
        have a1 : W5.cell? ⟨w.heap.size + 1, 1, none⟩ = some (.int .u32 (wd v1)) := HS5.out.vc 1 (by simp) rfl
        have a2 : W5.cell? ⟨w.heap.size + 1, 2, none⟩ = some (.int .u32 (wd v2)) := HS5.out.vc 2 (by simp) rfl
        have a3 : W5.cell? ⟨w.heap.size + 1, 3, none⟩ = some (.int .u32 (wd v3)) := HS5.out.vc 3 (by simp) rfl
        have a4 : W5.cell? ⟨w.heap.size + 1, 4, none⟩ = some (.int .u32 (wd v4)) := HS5.out.vc 4 (by simp) rfl
        have a5 : W5.cell? ⟨w.heap.size + 1, 5, none⟩ = some (.int .u32 (wd v5)) := HS5.out.vc 5 (by simp) rfl
        have a6 : W5.cell? ⟨w.heap.size + 1, 6, none⟩ = some (.int .u32 (wd v6)) := HS5.out.vc 6 (by simp) rfl
        have a7 : W5.cell? ⟨w.heap.size + 1, 7, none⟩ = some (.int .u32 (wd v7)) := HS5.out.vc 7 (by simp) rfl
        have fr := HS5.out.eight.free
        go_wp2_with fail
        go_roundw
        case rel =>
          refine ⟨k + 1, by omega, by go_num, Lib.hid ?_⟩
          rw [HN.out]
          exact HS5.out.put8 _ _ _ _ _ _ _ _
        case measure => simp [intOf]; omega
      · have hd : decide ((16 : Int) ≤ (k : Int)) = false := decide_eq_false (by omega)
        have hrl : r.length = 16 := hlr
        have hring : ring2 r k = r := by rw [ring2, if_neg hk16]
        rw [hring] at HE
        clear hring
        have HS := hS
        clear hS hlr
        go_wp2_with fail
        obtain ⟨v0, v1, v2, v3, v4, v5, v6, v7, hv⟩ := len8 v hlv
        subst hv
        clear hlv
        obtain ⟨y, Y⟩ : ∃ y, Hid (r.getD j0 0 = y) := ⟨_, Lib.hid rfl⟩
        obtain ⟨kk, KK⟩ : ∃ y, Hid (K256.getD k 0 = y) := ⟨_, Lib.hid rfl⟩
        have HN : Hid (run2 hs bl (k + 1) = ([tOf v4 v5 v6 v7 kk y + uOf v0 v1 v2, v0, v1, v2, v3 + tOf v4 v5 v6 v7 kk y, v4, v5, v6], r)) := Lib.hid (by rw [HE.out, ← Y.out, ← KK.out, E0.out]; rfl)
        clear HE
        have a0 : wr.cell? ⟨w.heap.size + 1, 0, none⟩ = some (.int .u32 (wd v0)) := HS.out.vc 0 (by simp) rfl
        have a4 : wr.cell? ⟨w.heap.size + 1, 4, none⟩ = some (.int .u32 (wd v4)) := HS.out.vc 4 (by simp) rfl
        go_quiet (fail)
        generalize hW3 : wr.drewN nq = W3
        have HS3 : Hid (St2 w W3 r [v0, v1, v2, v3, v4, v5, v6, v7] kb kt) := Lib.hid (by rw [← hW3]; exact HS.out.drewN nq)
        clear hW3 HS a0 a4
        have a5 : W3.cell? ⟨w.heap.size + 1, 5, none⟩ = some (.int .u32 (wd v5)) := HS3.out.vc 5 (by simp) rfl
        have a6 : W3.cell? ⟨w.heap.size + 1, 6, none⟩ = some (.int .u32 (wd v6)) := HS3.out.vc 6 (by simp) rfl
        have a7 : W3.cell? ⟨w.heap.size + 1, 7, none⟩ = some (.int .u32 (wd v7)) := HS3.out.vc 7 (by simp) rfl
        have ak := HS3.out.kc hlt KK.out
        have ay := HS3.out.rc (by omega) Y.out
        have hk64 : (k : Int) < 64 := by omega
        go_wp2_with fail
        go_quiet ((go_at_call 84; exact Calls.quiet_of_same ((mix_any _ _ _ _ _ (by omega) (by omega) (by omega)).mono fun e w' h => ⟨h.1, h.2.symm⟩)))
        generalize hW4 : W3.drewN nq = W4
        have HS4 : Hid (St2 w W4 r [v0, v1, v2, v3, v4, v5, v6, v7] kb kt) := Lib.hid (by rw [← hW4]; exact HS3.out.drewN nq)
        clear hW4 HS3 a5 a6 a7 ak ay hk64
        have a1 : W4.cell? ⟨w.heap.size + 1, 1, none⟩ = some (.int .u32 (wd v1)) := HS4.out.vc 1 (by simp) rfl
        have a2 : W4.cell? ⟨w.heap.size + 1, 2, none⟩ = some (.int .u32 (wd v2)) := HS4.out.vc 2 (by simp) rfl
        go_wp2_with fail
        go_quiet ((go_at_call 84; exact Calls.quiet_of_same ((mix_any _ _ _ _ _ (by omega) (by omega) (by omega)).mono fun e w' h => ⟨h.1, h.2.symm⟩)))
        generalize hW5 : W4.drewN nq = W5
        have HS5 : Hid (St2 w W5 r [v0, v1, v2, v3, v4, v5, v6, v7] kb kt) := Lib.hid (by rw [← hW5]; exact HS4.out.drewN nq)
        clear hW5 HS4 a1 a2
        have a0 : W5.cell? ⟨w.heap.size + 1, 0, none⟩ = some (.int .u32 (wd v0)) := HS5.out.vc 0 (by simp) rfl
        have a1 : W5.cell? ⟨w.heap.size + 1, 1, none⟩ = some (.int .u32 (wd v1)) := HS5.out.vc 1 (by simp) rfl
        have a2 : W5.cell? ⟨w.heap.size + 1, 2, none⟩ = some (.int .u32 (wd v2)) := HS5.out.vc 2 (by simp) rfl
        have a3 : W5.cell? ⟨w.heap.size + 1, 3, none⟩ = some (.int .u32 (wd v3)) := HS5.out.vc 3 (by simp) rfl
        have a4 : W5.cell? ⟨w.heap.size + 1, 4, none⟩ = some (.int .u32 (wd v4)) := HS5.out.vc 4 (by simp) rfl
        have a5 : W5.cell? ⟨w.heap.size + 1, 5, none⟩ = some (.int .u32 (wd v5)) := HS5.out.vc 5 (by simp) rfl
        have a6 : W5.cell? ⟨w.heap.size + 1, 6, none⟩ = some (.int .u32 (wd v6)) := HS5.out.vc 6 (by simp) rfl
        have a7 : W5.cell? ⟨w.heap.size + 1, 7, none⟩ = some (.int .u32 (wd v7)) := HS5.out.vc 7 (by simp) rfl
        have fr := HS5.out.eight.free
        go_wp2_with fail
        go_roundw
        case rel =>
          refine ⟨k + 1, by omega, by go_num, Lib.hid ?_⟩
          rw [HN.out]
          exact HS5.out.put8 _ _ _ _ _ _ _ _
        case measure => simp [intOf]; omega
    · obtain rfl : k = 64 := by omega
      have hlv : (run2 hs bl 64).1.length = 8 := (run2_len hs bl 64).1.trans H8.out
      have HC : Hid (comp2 hs bl = part2 hs (run2 hs bl 64).1 8) := Lib.hid (part2_all hs _ H8.out hlv).symm
      generalize (run2 hs bl 64).1 = v at hS hlv HC
      have hW : Only hb w wr := Only.of_below hS.out.below
      have hH1 : Blk wr hb (encW hs) ht := HH.out.below hS.out.below hsl
      have hv1 := hS.out.eight
      have HW := Lib.hid hW; have HH1 := Lib.hid hH1; have HV1 := Lib.hid hv1
      have H8' := H8.out
      clear hW hH1 hv1 hS HH HK H16 HV HR HB
      go_wp2_with fail
      go_loopw [125] (fun i ws => ∃ j : Nat, j ≤ 8 ∧ i = .int .i64 j ∧ Hid (Blk ws hb (encW (part2 hs v j)) ht) ∧ Hid (Blk ws (w.heap.size + 1) (encW v) 124) ∧ Hid (Only hb w ws)) (fun i _ => 8 - (intOf i).toNat)
      case atStart => exact ⟨0, Nat.zero_le _, rfl, HH1, HV1, HW⟩
      case round =>
        obtain ⟨j, hj, rfl, hP, hV, hO⟩ := hrel
        by_cases hlt : j < 8
        · have hd1 : decide ((j : Int) < 8) = true := decide_eq_true (by omega)
          have hj8 : (j : Int) < 8 := by omega
          have cp : wr.cell? ⟨hb, j, none⟩ = some (.int .u32 (wd (hs.getD j 0))) := by rw [hP.out.cell, encW_get _ _ (by rw [part2_len _ _ _ (by omega) (by omega)]; omega), part2_get _ _ _ (by omega) (by omega)]
          have cv : wr.cell? ⟨w.heap.size + 1, j, none⟩ = some (.int .u32 (wd (v.getD j 0))) := by rw [hV.out.cell, encW_get _ _ (by omega)]
          have HX : Hid (part2 hs v (j + 1) = (part2 hs v j).set j (hs.getD j 0 + v.getD j 0)) := Lib.hid (part2_step hs v j (by omega) (by omega))
          have fp := hP.out.free j
          generalize hs.getD j 0 = x at cp HX
          generalize v.getD j 0 = y at cv HX
          have hadd := wd_add
          go_wp2_with fail
          refine wp_draw 7 (C := fun w' => ∃ n, w' = wr.drewN n) hmix (by kernel_rfl) (by kernel_rfl) (by kernel_rfl) (by simp) ⟨1, rfl⟩ ?_
          simp only [List.take_succ_cons, List.take_zero, List.drop_succ_cons, List.drop_zero]
          repeat (go_big_quiet_step (fail))
          refine wpQuiet_nil ?_
          intro _ hw'
          obtain ⟨nq, hw''⟩ := hw'
          subst hw''
          go_wp2_with fail
          go_roundw
          case rel =>
            refine ⟨j + 1, by omega, by go_num, Lib.hid ?_, Lib.hid (Blk.other (w := wr.drewN nq) hV.out (by simp; omega) _), Lib.hid (Only.trans (show Only hb w (wr.drewN nq) from ⟨hO.out.os, hO.out.tape, hO.out.output, hO.out.size, hO.out.block⟩) (Only.setCell ⟨hb, j, none⟩ rfl _))⟩
            rw [HX.out, ← encW_set]
            exact Blk.set (w := wr.drewN nq) hP.out _ _
          case measure => simp [intOf]; omega
        · obtain rfl : j = 8 := by omega
          go_wp2_with fail
          go_end0
          exact ⟨rfl, by rw [HC.out]; exact hP.out, hO.out⟩
end Go.Proofs.YtdmfbcfhfopipaaGreatDoor

/- digest.Sum256, walked: the digest of a text's bytes. -/
namespace Go.Proofs.YtdmfbcfhfopipaaGreatDoor
open Go.RowKit

def H256 : List W32 := [0x6a09e667, 0xbb67ae85, 0x3c6ef372, 0xa54ff53a, 0x510e527f, 0x9b05688c, 0x1f83d9ab, 0x5be0cd19]
theorem H256_enc : (#[.int .u32 1779033703, .int .u32 3144134277, .int .u32 1013904242, .int .u32 2773480762, .int .u32 1359893119, .int .u32 2600822924, .int .u32 528734635, .int .u32 1541459225] : Array Value) = encW H256 := rfl
def sha2 (l : List UInt8) : List W32 := foldB comp2 ((padL l).length / 64) H256 (padL l)
def sum256 (l : List UInt8) : List UInt8 := tellW (sha2 l)
theorem foldB_len (f : List W32 → List W32 → List W32) (h : ∀ a b, (f a b).length = a.length) (n : Nat) (st : List W32) (l : List UInt8) : (foldB f n st l).length = st.length := by
  induction n generalizing st l with
  | zero => rfl
  | succ n ih => rw [foldB_succ, ih, h]
theorem sha2_len (l : List UInt8) : (sha2 l).length = 8 := foldB_len _ comp2_len _ _ _
theorem sum256_len (l : List UInt8) : (sum256 l).length = 32 := by rw [sum256, tellW_len, sha2_len]

structure I2 (w : World) (hb kb : Nat) (st : List W32) (W : World) : Prop where
  len : st.length = 8
  h : Blk W hb (encW st) 124
  k : Blk W kb (encW K256) 125
  below : Below w.heap.size w W

theorem callFunc_sha2 (args : Array Value) (W : World) : (callFunc 82 args).run Tryz.prog W = .ok (.enter 82 args) W := by kernel_rfl

theorem blocks_sha2 (s : ByteArray) (w W : World) (hb kb : Nat) (hs : s.size ≤ 9223372036854775000) (h1 : w.heap.size ≤ hb) (h2 : hb < kb) (h0 : I2 w hb kb H256 W) :
    Calls Tryz.prog 81 #[.string s, .func (.func 82) #[] #[.pointer (some ⟨hb, 0, none⟩), .pointer (some ⟨kb, 0, none⟩)]] W fun e W' => e = .returned (.tuple #[]) ∧ I2 w hb kb (sha2 s.data.toList) W' := by
  refine blocks_any comp2 (I2 w hb kb) _ _ (kb + 1) s W H256 hs ?_ h0.k.lt callFunc_sha2 ?_ h0
  · intro st W W' h hb
    exact ⟨h.len, h.h.below hb (by omega), h.k.below hb (by omega), h.below.trans (hb.mono (by omega))⟩
  · intro st bl W h hl
    refine (sha2_block st bl hb kb _ _ W h.len hl h.h h.k (by omega)).mono ?_
    rintro e W' ⟨rfl, h3, h4⟩
    have hk' := h.k.only h4 (by omega)
    exact ⟨rfl, ⟨(comp2_len st bl).trans h.len, h3, hk', h.below.trans (h4.belowOf h1 h.below.size)⟩, hk'.lt⟩

theorem sum2_lt {w w1 : World} {o : Obj} (h : Below (w.alloc o).heap.size (w.alloc o) w1) : w.heap.size < w1.heap.size := by have := h.size; simp at this; omega
theorem sum2_start {w w1 : World} (h : Below (w.alloc (.cells (encW H256) 124)).heap.size (w.alloc (.cells (encW H256) 124)) w1) : I2 w w.heap.size w1.heap.size H256 (w1.alloc (.cells (encW K256) 125)) := by
  have hl := sum2_lt h
  refine ⟨rfl, ((Blk.new w _ _).below h (by simp)).alloc _, Blk.new w1 _ _, ?_⟩
  exact (((Below.refl w.heap.size w).alloc (Nat.le_refl _) _).trans (h.mono (by simp))).alloc (by omega) _
theorem sum2_tell {w w2 : World} {kb : Nat} {l : List UInt8} (h : I2 w w.heap.size kb (sha2 l) w2) :
    Calls Tryz.prog 85 #[.slice (some ⟨w.heap.size, 0, none⟩) 8 8] w2 fun e w3 => e = .returned (.string (bs (sum256 l))) ∧ Below w.heap.size w w3 := by
  have := tell_any (sha2 l) w.heap.size 8 _ w2 (by rw [sha2_len]; omega) h.h
  rw [sha2_len] at this
  exact this.mono fun e w3 k => ⟨k.1, h.below.trans (k.2.mono h.below.size)⟩

set_option maxRecDepth 100000 in
set_option maxHeartbeats 1000000 in
theorem sum256_any (s : ByteArray) (w : World) (hs : s.size ≤ 9223372036854775000) : Calls Tryz.prog 48 #[.string s] w fun e w' => e = .returned (.string (bs (sum256 s.data.toList))) ∧ Below w.heap.size w w' := by
  go_enter Tryz.func48, Tryz.ntmps48
  go_wp2_with (first
    | (go_at_call 80; rw [H256_enc]; refine (keys_any _).mono ?_; rintro e w1 ⟨rfl, hB1⟩; replace hB1 := Lib.hid hB1)
    | (refine wpList_alloc rfl 125 rfl (.agg (encW (List.replicate 64 0))) (fun w => by kernel_rfl) ?_)
    | (refine wpList_store_row rfl 125 _ _ rfl w1.heap.size (encW K256) rfl rfl 125 (encW (List.replicate 64 0)) (Blk.new w1 _ _) info_K256 rfl K256_ones ?_; rw [show (w1.alloc (.cells (Value.agg (encW (List.replicate 64 0))).cells 125)).setRow w1.heap.size (encW K256) = w1.alloc (.cells (encW K256) 125) from World.setRow_alloc_new _ _ _ _])
    | (go_at_call 81; refine (blocks_sha2 s w _ _ _ hs (Nat.le_refl _) (sum2_lt hB1.out) (sum2_start hB1.out)).mono ?_; rintro e w2 ⟨rfl, hI⟩; replace hI := Lib.hid hI)
    | (go_at_call 85; refine (sum2_tell hI.out).mono ?_; rintro e w3 ⟨rfl, hB3⟩; replace hB3 := Lib.hid hB3))
  go_ret
  exact ⟨rfl, hB3.out⟩
end Go.Proofs.YtdmfbcfhfopipaaGreatDoor

/- (number.Nat).Wide, where the bytes are enough. -/
namespace Go.Proofs.YtdmfbcfhfopipaaGreatDoor
open Go.RowKit

theorem WideAt.more {l : List W32} {m k : Nat} {t : ByteArray} (h : WideAt l m k t) (h4 : 4 * l.length ≤ k) : ∀ n, k + n ≤ m → WideAt l m (k + n) t := by
  intro n
  induction n with
  | zero => intro _; exact h
  | succ n ih =>
    intro hn
    refine (ih (by omega)).skip (by omega) ?_
    rw [wideB, if_neg (by omega)]
theorem WideAt.end_ {l : List W32} {m : Nat} {t : ByteArray} (h : WideAt l m (min (4 * l.length) m) t) : t = wideS l m := by
  by_cases hc : 4 * l.length ≤ m
  · have h2 := h.more (by omega) (m - min (4 * l.length) m) (by omega)
    rw [show min (4 * l.length) m + (m - min (4 * l.length) m) = m by omega] at h2
    exact h2.all
  · rw [show min (4 * l.length) m = m by omega] at h
    exact h.all

set_option maxRecDepth 100000 in
set_option maxHeartbeats 400000 in
theorem nat_wide (v : Value) (l : List W32) (m : Nat) (w : World) (lo : Nat) (hv : NatV lo w v l) (hl : l.length ≤ 100000) (hm : m ≤ 1000000) (hfit : (bitsL l + 7) / 8 ≤ (m : Int)) :
    Calls Tryz.prog 28 #[v, .int .i64 m] w fun e w' => e = .returned (.tuple #[.string (wideS l m), .int .i64 0]) ∧ Below w.heap.size w w' := by
  have hbits := fun W (hb : Below w.heap.size w W) => nat_bits v l W lo (hv.below hb) (by omega)
  obtain ⟨A, c, rfl, hlc, hcm, hd⟩ := hv
  obtain ⟨B, hB, hBl⟩ := bitsL_nat l
  rw [hB] at hfit hbits
  obtain ⟨q, hq, hqm⟩ : ∃ q : Nat, ((B : Int) + 7) / 8 = (q : Int) ∧ q ≤ m := ⟨(B + 7) / 8, by omega, by omega⟩
  have hBb : (B : Int) ≤ 3200000 := by omega
  have hqi : ¬ ((m : Int) < (q : Int)) := by omega
  have hmk := fun w => run_make_row' 41 5 (.int .u8 0) 1 Tryz.underlying41 info_u8b rfl .i64 .i64 m (by omega) (by omega) w
  simp only [← zeroS_enc] at hmk
  have HBI := Lib.hid hbits; have HD := Lib.hid hd
  clear hbits hd hB hBl hfit hqm
  have hb0 : Below w.heap.size w (w.alloc (.cells #[.slice A l.length c] 45)) := (Below.refl _ w).alloc (Nat.le_refl _) _
  have hx0 : Blk (w.alloc (.cells #[.slice A l.length c] 45)) w.heap.size #[.slice A l.length c] 45 := Blk.new w _ _
  have c0 : (w.alloc (.cells #[.slice A l.length c] 45)).cell? ⟨w.heap.size, 0, none⟩ = some (.slice A l.length c) := hx0.cell 0
  have HB0 := Lib.hid hb0; have HX0 := Lib.hid hx0
  clear hb0 hx0
  go_enter Tryz.func28, Tryz.ntmps28
  go_wp2_with (go_at_call 40; refine (Hid.out (p := _) ?_))
  refine Lib.hid ?_
  clear c0
  refine (HBI.out _ HB0.out).mono ?_
  rintro e w1 ⟨rfl, hb⟩
  have hb1 := HB0.out.trans (hb.mono HB0.out.size)
  have hx1 := HX0.out.below hb HX0.out.lt
  have c1 : w1.cell? ⟨w.heap.size, 0, none⟩ = some (.slice A l.length c) := hx1.cell 0
  have hx2 := hx1.alloc (.cells (encS (zeroS m)) 5)
  have c2 : (w1.alloc (.cells (encS (zeroS m)) 5)).cell? ⟨w.heap.size, 0, none⟩ = some (.slice A l.length c) := hx2.cell 0
  have HB1 := Lib.hid hb1; have HX1 := Lib.hid hx1
  clear hb hb1 hx1 HB0 HX0 hx2
  simp only []
  repeat (first | (fail) | go_values | go_skip | go_guarded | go_step | go_upon | go_back)
  obtain ⟨g, hg⟩ : ∃ g, g = w1.heap.size := ⟨_, rfl⟩
  have hb2 : Blk (w1.alloc (.cells (encS (zeroS m)) 5)) g (encS (zeroS m)) 5 := by rw [hg]; exact Blk.new w1 _ _
  have hB2 := HB1.out.alloc HB1.out.size (.cells (encS (zeroS m)) 5)
  have hgl : w.heap.size ≤ g := by have := HB1.out.size; omega
  rw [show (⟨w1.heap.size, 0, none⟩ : Addr) = ⟨g, 0, none⟩ by rw [hg]]
  clear c2
  generalize w1.alloc (.cells (encS (zeroS m)) 5) = W2 at hb2 hB2 ⊢
  have H0 := Lib.hid (And.intro hb2 hB2)
  clear hb2 hB2 hmk hg c1 HB1 HX1
  go_loopw [27] (fun i wr => ∃ (n : Nat) (t : ByteArray), n ≤ l.length ∧ i = .int .i64 n ∧ Hid (WideAt l m (min (4 * n) m) t) ∧ Hid (Blk wr g (encS t) 5 ∧ Below w.heap.size w wr)) (fun i _ => l.length - (intOf i).toNat)
  case atStart => exact ⟨0, zeroS m, Nat.zero_le _, rfl, Lib.hid (by simpa using WideAt.start l m), H0⟩
  case round =>
    obtain ⟨n, t, hn, rfl, hW, hS⟩ := hrel
    by_cases hlt : n < l.length
    · obtain ⟨b, rfl, _, hbl, hcell⟩ : ∃ b, A = some ⟨b, 0, none⟩ ∧ lo ≤ b ∧ b < w.heap.size ∧ ∀ i, i < l.length → w.cell? ⟨b, i, none⟩ = some (.int .u32 (wd (l.getD i 0))) := by
        rcases HD.out with h | h
        · subst h; simp at hlt
        · exact h
      have hcb : wr.cell? ⟨b, n, none⟩ = some (.int .u32 (wd (l.getD n 0))) := by rw [hS.out.2.cell (p := ⟨b, n, none⟩) hbl]; exact hcell n hlt
      have hni : (n : Int) < (l.length : Int) := by omega
      generalize hx : l.getD n 0 = x at hcb
      have HX := Lib.hid hx
      clear hx hcell
      repeat (first | (fail) | go_values | go_skip | go_guarded | go_step | go_upon | go_back)
      clear hcb
      go_loopw [10] (fun i wr => ∃ (j : Nat) (t : ByteArray), 4 * n ≤ j ∧ j ≤ 4 * n + 4 ∧ i = .int .i64 j ∧ Hid (WideAt l m (min j m) t) ∧ Hid (Blk wr g (encS t) 5 ∧ Below w.heap.size w wr)) (fun i _ => 4 * n + 4 - (intOf i).toNat)
      case atStart => exact ⟨4 * n, t, by omega, by omega, by first | rfl | (congr 1), hW, hS⟩
      case round =>
        obtain ⟨j, t, hj1, hj2, rfl, hW, hS⟩ := hrel
        by_cases hin : j < 4 * n + 4 ∧ j < m
        · have t1 : (j : Int) < 4 * (n : Int) + 4 := by omega
          have t2 : (j : Int) < (m : Int) := by omega
          obtain ⟨sh, qs, es⟩ : ∃ sh : Nat, 8 * ((j : Int) % 4) = (sh : Int) ∧ sh = 8 * (j % 4) := ⟨8 * (j % 4), by omega, rfl⟩
          have hs32 : min sh 32 = sh := by omega
          obtain ⟨jj, qj, ej⟩ : ∃ jj : Nat, (m : Int) - 1 - (j : Int) = (jj : Int) ∧ jj = m - 1 - j := ⟨m - 1 - j, by omega, rfl⟩
          have hjm : (jj : Int) < (m : Int) := by omega
          have hwb : wideB l j = by8 (x >>> sh) := by rw [wideB, show j / 4 = n by omega, if_pos hlt, HX.out, es]
          have hW1 := hW.out
          rw [show min j m = j by omega] at hW1
          have hput := hW1.put hin.2
          rw [hwb, ← ej, show j + 1 = min (j + 1) m by omega] at hput
          have hshr := wd_shr x sh
          have hby := by8_int (x >>> sh)
          generalize by8 (x >>> sh) = y at hput hby
          have hcj : wr.cell? ⟨g, jj, none⟩ = some (.int .u8 ((byt t jj).toNat : Int)) := by rw [hS.out.1.cell jj, encS_get t jj (by rw [hW1.1]; omega)]
          have hfj := hS.out.1.free jj
          have HP := Lib.hid hput
          have hnx : Hid (Blk (wr.setCell ⟨g, jj, none⟩ (.int .u8 (y.toNat : Int))) g (encS (bset t jj y)) 5 ∧ Below w.heap.size w (wr.setCell ⟨g, jj, none⟩ (.int .u8 (y.toNat : Int)))) :=
            Lib.hid ⟨by rw [encS_bset]; exact hS.out.1.set jj _, hS.out.2.setCell (p := ⟨g, jj, none⟩) hgl _⟩
          clear hwb hput hW hS es ej hW1
          repeat (first | (fail) | go_values | go_skip | go_guarded | go_step | go_upon | go_back)
          go_roundw
          case rel => exact ⟨j + 1, _, by omega, by omega, by go_num, HP, hnx⟩
          case measure => simp [intOf]; omega
        · have hmin : min j m = min (4 * (n + 1)) m := by omega
          rw [hmin] at hW
          clear hmin
          by_cases h4 : j < 4 * n + 4
          · have t1 : (j : Int) < 4 * (n : Int) + 4 := by omega
            have t2 : ¬ ((j : Int) < (m : Int)) := by omega
            clear hin
            repeat (first | (fail) | go_values | go_skip | go_guarded | go_step | go_upon | go_back)
            go_roundw
            case rel => exact ⟨n + 1, t, by omega, by go_num, hW, hS⟩
            case measure => simp [intOf]; omega
          · have t1 : ¬ ((j : Int) < 4 * (n : Int) + 4) := by omega
            clear hin
            repeat (first | (fail) | go_values | go_skip | go_guarded | go_step | go_upon | go_back)
            go_roundw
            case rel => exact ⟨n + 1, t, by omega, by go_num, hW, hS⟩
            case measure => simp [intOf]; omega
    · obtain rfl : n = l.length := by omega
      have ht := hW.out.end_
      subst ht
      have hcs := conv_bytes_string wr g m m (wideS l m) hS.out.1 (wideS_size l m).symm
      clear hW
      repeat (first | (fail) | go_values | go_skip | go_guarded | go_step | go_upon | go_back)
      go_ret2
      exact ⟨rfl, hS.out.2⟩
end Go.Proofs.YtdmfbcfhfopipaaGreatDoor

/- What a signature's check tells. -/
namespace Go.Proofs.YtdmfbcfhfopipaaGreatDoor
open Go.RowKit

/-- A key's exponent and modulus. -/
def rsaNum (p : List UInt8) : Nat × Nat := match rsaOf p with | none => (0, 0) | some (x, y) => (be x, be y)
theorem rsaE_nd (p : List UInt8) : rsaE p = nd (rsaNum p).1 := by
  unfold rsaE rsaNum
  cases rsaOf p with
  | none => exact nd_zero.symm
  | some q => exact num_be _
theorem rsaN_nd (p : List UInt8) : rsaN p = nd (rsaNum p).2 := by
  unfold rsaN rsaNum
  cases rsaOf p with
  | none => exact nd_zero.symm
  | some q => exact num_be _
theorem be_len (l : List UInt8) (h : l.length ≤ 256) : (nd (be l)).length ≤ 64 := by
  refine nd_len_le _ _ (Nat.lt_of_lt_of_le (be_lt l) ?_)
  rw [show (4294967296 : Nat) = 256 ^ 4 by rfl, ← Nat.pow_mul]
  exact Nat.pow_le_pow_right (by omega) (by omega)
/-- How many bytes a modulus has. -/
def vMany (p : List UInt8) : Nat := ((bitsL (nd (rsaNum p).2) + 7) / 8).toNat
theorem rsa_good {p : List UInt8} (h : rsaGood p = true) : (rsaNum p).2 ≠ 0 ∧ (nd (rsaNum p).1).length ≤ 64 ∧ (nd (rsaNum p).2).length ≤ 64 ∧ ∃ b : Nat, bitsL (nd (rsaNum p).2) = (b : Int) ∧ 496 ≤ b ∧ b ≤ 2048 ∧ vMany p = (b + 7) / 8 := by
  have hn := rsaN_nd p
  have he := rsaE_nd p
  unfold vMany
  unfold rsaGood at h
  cases hl : rsaOf p with
  | none => rw [hl] at h; cases h
  | some q =>
    obtain ⟨x, y⟩ := q
    obtain ⟨sz, r, _, hk, rfl, rfl⟩ := rsa_parts hl
    simp only [rsaOk, Bool.and_eq_true, decide_eq_true_eq] at hk
    have h1 : (rsaNum p) = (be (r.take sz), be (r.drop sz)) := by unfold rsaNum; rw [hl]
    rw [h1]
    simp only []
    have hb := hk.2
    rw [num_be] at hb
    obtain ⟨b, hb1, _, hb2⟩ := bits_len (be (r.drop sz))
    have l1 := be_len (r.take sz) (by rw [List.length_take]; omega)
    have l2 := be_len (r.drop sz) (by rw [List.length_drop]; omega)
    rw [hb1] at hb
    refine ⟨fun h0 => ?_, l1, l2, b, hb1, by omega, by omega, by rw [hb1]; omega⟩
    rw [h0, nd_zero] at hb1
    simp [bitsL] at hb1
    omega
def sigTail (text : List UInt8) : List UInt8 := [0, 48, 49, 48, 13, 6, 9, 96, 134, 72, 1, 101, 3, 4, 2, 1, 5, 0, 4, 32] ++ sum256 text
/-- What a right signature's power is. -/
def blockL (text : List UInt8) (many : Nat) : List UInt8 := [0, 1] ++ List.replicate (many - 54) 255 ++ sigTail text
/-- Is a signature right? -/
def verifyB (p text sign : List UInt8) : Bool :=
  rsaGood p && decide (sign.length = vMany p) && decide (be sign < (rsaNum p).2) && decide (wideL (be sign ^ (rsaNum p).1 % (rsaNum p).2) (vMany p) = blockL text (vMany p))
theorem ver_bad {p text sign : List UInt8} (h : rsaGood p = false) : verifyB p text sign = false := by unfold verifyB; rw [h]; rfl
theorem ver_len {p text sign : List UInt8} (h : sign.length ≠ vMany p) : verifyB p text sign = false := by unfold verifyB; rw [decide_eq_false h]; simp
theorem ver_big {p text sign : List UInt8} (h : ¬ be sign < (rsaNum p).2) : verifyB p text sign = false := by unfold verifyB; rw [decide_eq_false h]; simp
theorem ver_end {p text sign : List UInt8} (h : rsaGood p = true) (h1 : sign.length = vMany p) (h2 : be sign < (rsaNum p).2) : verifyB p text sign = decide (wideL (be sign ^ (rsaNum p).1 % (rsaNum p).2) (vMany p) = blockL text (vMany p)) := by
  unfold verifyB; rw [h, decide_eq_true h1, decide_eq_true h2]; simp
end Go.Proofs.YtdmfbcfhfopipaaGreatDoor

/- The document's own words of a digest (its chapter 4): left, right, word, rounds, tell. -/
namespace Go.Proofs.YtdmfbcfhfopipaaGreatDoor
open Go.RowKit

/-- The turn of a word to the right. -/
def rorW (x : W32) (n : Nat) : W32 := (x >>> n) ||| (x <<< (32 - n))
theorem ref_left (x : W32) (n : Nat) (h : n < 32) (w : World) : Calls Tryz.prog 67 #[.int .u32 (wd x), .int .i64 n] w fun e w' => e = .returned (.int .u32 (wd (rotW x n))) ∧ ∃ m, w' = w.drewN m := by
  have q1 := wd_shl x n
  have q2 := wd_shr x (32 - n)
  have q3 : IntKind.i64.wrap (32 - (n : Int)) = ((32 - n : Nat) : Int) := by rw [IntWalk.i64_in _ (by omega)]; omega
  have q5 : (32 : Int) - (n : Int) = ((32 - n : Nat) : Int) := by omega
  have q4 : bits .or .u32 (wd (x <<< n)) (wd (x >>> (32 - n))) = wd (rotW x n) := wd_or _ _
  generalize hq : rotW x n = r at q4 ⊢
  have q1' := Lib.hid hq; clear hq
  have m1 : min n 32 = n := by omega
  have m2 : min (32 - n) 32 = 32 - n := by omega
  have hn : (0 : Int) ≤ (n : Int) := by omega
  go_enter Tryz.func67, Tryz.ntmps67
  go_wp2_with fail
  go_quiet (fail)
  go_wp2_with fail
  go_ret
  exact ⟨rfl, nq, rfl⟩
theorem ref_ror (x : W32) (n : Nat) (h : n < 32) (w : World) : Calls Tryz.prog 71 #[.int .u32 (wd x), .int .i64 n] w fun e w' => e = .returned (.int .u32 (wd (rorW x n))) ∧ ∃ m, w' = w.drewN m := by
  have q1 := wd_shl x (32 - n)
  have q2 := wd_shr x n
  have q3 : IntKind.i64.wrap (32 - (n : Int)) = ((32 - n : Nat) : Int) := by rw [IntWalk.i64_in _ (by omega)]; omega
  have q5 : (32 : Int) - (n : Int) = ((32 - n : Nat) : Int) := by omega
  have q4 : bits .or .u32 (wd (x >>> n)) (wd (x <<< (32 - n))) = wd (rorW x n) := wd_or _ _
  generalize hq : rorW x n = r at q4 ⊢
  have q1' := Lib.hid hq; clear hq
  have m1 : min n 32 = n := by omega
  have m2 : min (32 - n) 32 = 32 - n := by omega
  have hn : (0 : Int) ≤ (n : Int) := by omega
  go_enter Tryz.func71, Tryz.ntmps71
  go_wp2_with fail
  go_quiet (fail)
  go_wp2_with fail
  go_ret
  exact ⟨rfl, nq, rfl⟩

theorem word4_nat (a b c d : UInt8) : (word4 a b c d).toNat = a.toNat * 16777216 + b.toNat * 65536 + c.toNat * 256 + d.toNat := by
  have ha := a.toNat_lt; have hb := b.toNat_lt; have hc := c.toNat_lt; have hd := d.toNat_lt
  have e1 : ∀ (x : Nat) (k : Nat), x < 256 → k ≤ 24 → (BitVec.ofNat 32 x <<< k).toNat = x <<< k := by
    intro x k hx hk
    rw [BitVec.toNat_shiftLeft, BitVec.toNat_ofNat, Nat.mod_eq_of_lt (a := x) (by omega), Nat.mod_eq_of_lt]
    rw [Nat.shiftLeft_eq]
    have : 2 ^ k ≤ 2 ^ 24 := Nat.pow_le_pow_right (by omega) hk
    have : x * 2 ^ k ≤ 255 * 2 ^ 24 := Nat.mul_le_mul (by omega) this
    omega
  rw [word4, BitVec.toNat_or, BitVec.toNat_or, BitVec.toNat_or, e1 _ _ ha (by omega), e1 _ _ hb (by omega), e1 _ _ hc (by omega), BitVec.toNat_ofNat, Nat.mod_eq_of_lt (a := d.toNat) (by omega)]
  have s1 : a.toNat <<< 24 ||| b.toNat <<< 16 = (a.toNat * 256 + b.toNat) <<< 16 := by
    rw [← Nat.shiftLeft_add_eq_or_of_lt (i := 24) (by rw [Nat.shiftLeft_eq]; omega)]
    rw [Nat.shiftLeft_eq, Nat.shiftLeft_eq, Nat.shiftLeft_eq]; omega
  have s2 : (a.toNat * 256 + b.toNat) <<< 16 ||| c.toNat <<< 8 = ((a.toNat * 256 + b.toNat) * 256 + c.toNat) <<< 8 := by
    rw [← Nat.shiftLeft_add_eq_or_of_lt (i := 16) (by rw [Nat.shiftLeft_eq]; omega)]
    rw [Nat.shiftLeft_eq, Nat.shiftLeft_eq, Nat.shiftLeft_eq]; omega
  rw [s1, s2, ← Nat.shiftLeft_add_eq_or_of_lt (i := 8) (by omega), Nat.shiftLeft_eq]; omega
set_option maxRecDepth 100000 in
theorem ref_word_at (s : ByteArray) (p p1 p2 p3 : Nat) (i1 : (p : Int) + 1 = (p1 : Int)) (i2 : (p : Int) + 2 = (p2 : Int)) (i3 : (p : Int) + 3 = (p3 : Int)) (l0 : p < s.size) (l1 : p1 < s.size) (l2 : p2 < s.size) (l3 : p3 < s.size) (hs : s.size ≤ 9223372036854775000)
    (x0 x1 x2 x3 : UInt8) (hx0 : s[p] = x0) (hx1 : s[p1] = x1) (hx2 : s[p2] = x2) (hx3 : s[p3] = x3) (w : World) :
    Calls Tryz.prog 66 #[.string s, .int .i64 p] w fun e w' => e = .returned (.int .u32 (wd (word4 x0 x1 x2 x3))) ∧ ∃ m, w' = w.drewN m := by
  have b0 := x0.toNat_lt; have b1 := x1.toNat_lt; have b2 := x2.toNat_lt; have b3 := x3.toNat_lt
  have hw : wd (word4 x0 x1 x2 x3) = (x0.toNat : Int) * 16777216 + (x1.toNat : Int) * 65536 + (x2.toNat : Int) * 256 + (x3.toNat : Int) := by
    rw [wd, word4_nat]; omega
  generalize wd (word4 x0 x1 x2 x3) = r at hw ⊢
  have HW := Lib.hid hw
  clear hw
  go_enter Tryz.func66, Tryz.ntmps66
  go_wp2_with fail
  go_quiet (fail)
  go_wp2_with fail
  go_ret
  refine ⟨ret_int ?_, nq, rfl⟩
  rw [HW.out]
theorem getD_get (s : ByteArray) (k : Nat) (h : k < s.size) : s.data.toList.getD k 0 = s[k] := by
  simp [List.getD, List.getElem?_eq_getElem (show k < s.data.toList.length by simpa using h)]; rfl
theorem ref_word (s : ByteArray) (p : Nat) (h : p + 3 < s.size) (hs : s.size ≤ 9223372036854775000) (w : World) :
    Calls Tryz.prog 66 #[.string s, .int .i64 p] w fun e w' => e = .returned (.int .u32 (wd (word4 (s.data.toList.getD p 0) (s.data.toList.getD (p + 1) 0) (s.data.toList.getD (p + 2) 0) (s.data.toList.getD (p + 3) 0)))) ∧ ∃ m, w' = w.drewN m :=
  ref_word_at s p (p + 1) (p + 2) (p + 3) (by omega) (by omega) (by omega) (by omega) (by omega) (by omega) h hs _ _ _ _ (getD_get s _ _).symm (getD_get s _ _).symm (getD_get s _ _).symm (getD_get s _ _).symm w

/-- The words of the rounds, in a row of the call's own. -/
theorem ref_rounds (w : World) : Calls Tryz.prog 70 #[] w fun e w' => e = .returned (.slice (some ⟨w.heap.size, 0, none⟩) 64 64) ∧ w' = w.alloc (.cells (encW K256) 64) := by
  rw [K256_enc]
  go_enter Tryz.func70, Tryz.ntmps70
  go_wp2_with fail
  go_ret
  exact ⟨rfl, rfl⟩
end Go.Proofs.YtdmfbcfhfopipaaGreatDoor

/- SHA-1: what one block does; digest.Sum1's closure, walked. -/
namespace Go.Proofs.YtdmfbcfhfopipaaGreatDoor
open Go.RowKit

def ring1 (r : List W32) (i : Nat) : List W32 :=
  if 16 ≤ i then r.set (i % 16) (rotW (((r.getD ((i - 3) % 16) 0 ^^^ r.getD ((i - 8) % 16) 0) ^^^ r.getD ((i - 14) % 16) 0) ^^^ r.getD (i % 16) 0) (rotS 1)) else r
def f1 (i : Nat) (b c d : W32) : W32 :=
  if i / 20 = 0 then (d ^^^ (b &&& (c ^^^ d))) + 1518500249#32
  else if i / 20 = 1 then ((b ^^^ c) ^^^ d) + 1859775393#32
  else if i / 20 = 2 then ((b &&& c) ||| (d &&& (b ||| c))) + 2400959708#32
  else ((b ^^^ c) ^^^ d) + 3395469782#32
theorem f1_a (k : Nat) (b c d : W32) (h : k < 20) : f1 k b c d = (d ^^^ (b &&& (c ^^^ d))) + 1518500249#32 := by unfold f1; rw [if_pos (show k / 20 = 0 by omega)]
theorem f1_b (k : Nat) (b c d : W32) (h : 20 ≤ k ∧ k < 40) : f1 k b c d = ((b ^^^ c) ^^^ d) + 1859775393#32 := by unfold f1; rw [if_neg (show ¬ k / 20 = 0 by omega), if_pos (show k / 20 = 1 by omega)]
theorem f1_c (k : Nat) (b c d : W32) (h : 40 ≤ k ∧ k < 60) : f1 k b c d = ((b &&& c) ||| (d &&& (b ||| c))) + 2400959708#32 := by unfold f1; rw [if_neg (show ¬ k / 20 = 0 by omega), if_neg (show ¬ k / 20 = 1 by omega), if_pos (show k / 20 = 2 by omega)]
theorem f1_d (k : Nat) (b c d : W32) (h : 60 ≤ k ∧ k < 80) : f1 k b c d = ((b ^^^ c) ^^^ d) + 3395469782#32 := by unfold f1; rw [if_neg (show ¬ k / 20 = 0 by omega), if_neg (show ¬ k / 20 = 1 by omega), if_neg (show ¬ k / 20 = 2 by omega)]
def t1 (v0 fv v4 w : W32) : W32 := ((rotW v0 (rotS 5) + fv) + v4) + w
def step1 (v : List W32) (i : Nat) (w : W32) : List W32 :=
  match v with
  | [v0, v1, v2, v3, v4] => [t1 v0 (f1 i v1 v2 v3) v4 w, v0, rotW v1 (rotS 30), v2, v3]
  | v => v
def run1 (h b : List W32) : Nat → List W32 × List W32
  | 0 => (h, b)
  | n + 1 => (step1 (run1 h b n).1 n ((ring1 (run1 h b n).2 n).getD (n % 16) 0), ring1 (run1 h b n).2 n)
def comp1 (h b : List W32) : List W32 := List.zipWith (· + ·) h (run1 h b 80).1

theorem ring1_len (r : List W32) (i : Nat) : (ring1 r i).length = r.length := by unfold ring1; split <;> simp
theorem step1_len (v : List W32) (i : Nat) (w : W32) : (step1 v i w).length = v.length := by unfold step1; split <;> simp
theorem run1_len (h b : List W32) (n : Nat) : (run1 h b n).1.length = h.length ∧ (run1 h b n).2.length = b.length := by
  induction n with
  | zero => exact ⟨rfl, rfl⟩
  | succ n ih => exact ⟨(step1_len _ _ _).trans ih.1, (ring1_len _ _).trans ih.2⟩
theorem comp1_len (h b : List W32) : (comp1 h b).length = h.length := by simp [comp1, (run1_len h b 80).1]
theorem len5 (v : List W32) (h : v.length = 5) : ∃ v0 v1 v2 v3 v4, v = [v0, v1, v2, v3, v4] := by
  match v, h with
  | [v0, v1, v2, v3, v4], _ => exact ⟨v0, v1, v2, v3, v4, rfl⟩
theorem part2_all1 (h v : List W32) (e1 : h.length = 5) (e2 : v.length = 5) : part2 h v 5 = List.zipWith (· + ·) h v := by
  rw [part2, List.take_of_length_le (by simp; omega), List.drop_of_length_le (by omega), List.append_nil]

structure St1 (w W : World) (r v : List W32) : Prop where
  ring : Blk W w.heap.size (encW r) 129
  five : Blk W (w.heap.size + 1) (encW v) 189
  below : Below w.heap.size w W
theorem St1.drewN {w W : World} {r v : List W32} (h : St1 w W r v) (n : Nat) : St1 w (W.drewN n) r v := ⟨h.ring, h.five, ⟨h.below.os, h.below.tape, h.below.output, h.below.size, h.below.block⟩⟩
theorem St1.rc {w W : World} {r v : List W32} (h : St1 w W r v) {j : Nat} {x : W32} (hj : j < r.length) (e : r.getD j 0 = x) : W.cell? ⟨w.heap.size, j, none⟩ = some (.int .u32 (wd x)) := by rw [h.ring.cell, encW_get _ _ hj, e]
theorem St1.vc {w W : World} {r v : List W32} (h : St1 w W r v) (j : Nat) {x : W32} (hj : j < v.length) (e : v.getD j 0 = x) : W.cell? ⟨w.heap.size + 1, j, none⟩ = some (.int .u32 (wd x)) := by rw [h.five.cell, encW_get _ _ hj, e]
theorem St1.put5 {w W : World} {r : List W32} {v0 v1 v2 v3 v4 : W32} (h : St1 w W r [v0, v1, v2, v3, v4]) (x0 x1 x2 x3 x4 : W32) :
    St1 w (((((W.setCell ⟨w.heap.size + 1, 0, none⟩ (.int .u32 (wd x0))).setCell ⟨w.heap.size + 1, 1, none⟩ (.int .u32 (wd x1))).setCell ⟨w.heap.size + 1, 2, none⟩ (.int .u32 (wd x2))).setCell ⟨w.heap.size + 1, 3, none⟩ (.int .u32 (wd x3))).setCell ⟨w.heap.size + 1, 4, none⟩ (.int .u32 (wd x4))) r [x0, x1, x2, x3, x4] := by
  refine ⟨?_, ?_, ?_⟩
  · iterate 5 refine Blk.other ?_ (by simp) _
    exact h.ring
  · have := ((((h.five.set 0 (.int .u32 (wd x0))).set 1 (.int .u32 (wd x1))).set 2 (.int .u32 (wd x2))).set 3 (.int .u32 (wd x3))).set 4 (.int .u32 (wd x4))
    simpa [encW, vw] using this
  · iterate 5 refine Below.setCell ?_ (by simp) _
    exact h.below



set_option maxRecDepth 100000 in
set_option maxHeartbeats 4000000 in
theorem sha1_block (hs bl : List W32) (hb : Nat) (ht : TypeId) (w : World) (h5 : hs.length = 5) (h16 : bl.length = 16) (hH : Blk w hb (encW hs) ht) :
    Calls Tryz.prog 151 #[.agg (encW bl), .pointer (some ⟨hb, 0, none⟩)] w fun e w' => e = .returned (.tuple #[]) ∧ Blk w' hb (encW (comp1 hs bl)) ht ∧ Only hb w w' := by
  go_enter Tryz.func151, Tryz.ntmps151
  apply wp_seq
  apply wp_region
  change wpList _ _ _ (_ :: []) _ _
  refine wpList_box rfl _ _ rfl (.agg (encW bl)) rfl ?_
  change Code.wp _ _ _ _ _
  apply wp_seq
  apply wp_region
  change wpList _ _ _ (_ :: _ :: _ :: []) _ _
  have hH1 : Blk (w.alloc (.cells (Value.agg (encW bl)).cells 129)) hb (encW hs) ht := hH.alloc _
  have hinf : (Tryz.prog.info? 189).map (·.size) = some (encW hs).size := by rw [encW_size, h5]; kernel_rfl
  have hs1 : (encW hs).all (·.oneCell') = true := by simp [encW, vw, Value.oneCell']
  refine wpList_load rfl _ _ rfl ⟨hb, 0, none⟩ (.agg (encW hs)) rfl (loadVar_blk hH1 Tryz.underlying189 rfl hinf) ?_
  refine wpList_alloc rfl _ rfl (.agg (encW (List.replicate 5 0))) (fun w => by kernel_rfl) ?_
  refine wpList_store_row rfl _ _ _ rfl (w.alloc (.cells (encW bl) 129)).heap.size (encW hs) (by simp [Act.put, Act.eval]) rfl 189 (encW (List.replicate 5 0)) (Blk.new (w.alloc (.cells (encW bl) 129)) (encW (List.replicate 5 0)) 189) hinf (by rw [encW_size, encW_size, h5]; rfl) hs1 ?_
  change Code.wp _ _ _ _ _
  change Code.wp _ _ _ _ (((w.alloc (.cells (encW bl) 129)).alloc (.cells (encW (List.replicate 5 0)) 189)).setRow (w.alloc (.cells (encW bl) 129)).heap.size (encW hs))
  rw [World.setRow_alloc_new]
  have hB : Below w.heap.size w ((w.alloc (.cells (encW bl) 129)).alloc (.cells (encW hs) 189)) := ((Below.refl _ w).alloc (Nat.le_refl _) _).alloc (by simp) _
  have hr0 : Blk ((w.alloc (.cells (encW bl) 129)).alloc (.cells (encW hs) 189)) w.heap.size (encW bl) 129 := (Blk.new w _ _).alloc _
  have hv0 : Blk ((w.alloc (.cells (encW bl) 129)).alloc (.cells (encW hs) 189)) (w.heap.size + 1) (encW hs) 189 := by
    have := Blk.new (w.alloc (.cells (encW bl) 129)) (encW hs) 189
    simpa using this
  generalize ((w.alloc (.cells (encW bl) 129)).alloc (.cells (encW hs) 189)) = W0 at hB hr0 hv0 ⊢
  have HB := Lib.hid hB; have HR := Lib.hid hr0; have HV := Lib.hid hv0; have HH := Lib.hid hH; have hsl := hH.lt
  have H5 := Lib.hid h5; have H16 := Lib.hid h16
  clear hB hr0 hv0 hH hH1 hinf hs1 h5 h16
  go_wp2
  go_loopw [12] (fun i wr => ∃ k : Nat, k ≤ 80 ∧ i = .int .i64 k ∧ Hid (St1 w wr (run1 hs bl k).2 (run1 hs bl k).1)) (fun i _ => 80 - (intOf i).toNat)
  case atStart => exact ⟨0, Nat.zero_le _, rfl, Lib.hid ⟨HR.out, HV.out, HB.out⟩⟩
  case round =>
    obtain ⟨k, hk, rfl, hS⟩ := hrel
    have hmix : Tryz.prog.follows .mixedOrders = true := by kernel_rfl
    by_cases hlt : k < 80
    · have hlr : (run1 hs bl k).2.length = 16 := (run1_len hs bl k).2.trans H16.out
      have hlv : (run1 hs bl k).1.length = 5 := (run1_len hs bl k).1.trans H5.out
      have HE : Hid (run1 hs bl (k + 1) = (step1 (run1 hs bl k).1 k ((ring1 (run1 hs bl k).2 k).getD (k % 16) 0), ring1 (run1 hs bl k).2 k)) := Lib.hid rfl
      generalize (run1 hs bl k).2 = r at hS hlr HE
      generalize (run1 hs bl k).1 = v at hS hlv HE
      have hxor := wd_xor
      have hadd := wd_add
      have hor := wd_or
      have hand := wd_and
      have l0 : ∀ x : W32, IntKind.u32.wrap (wd x + 1518500249) = wd (x + 1518500249#32) := fun x => wd_add x 1518500249#32
      have l1 : ∀ x : W32, IntKind.u32.wrap (wd x + 1859775393) = wd (x + 1859775393#32) := fun x => wd_add x 1859775393#32
      have l2 : ∀ x : W32, IntKind.u32.wrap (wd x + 2400959708) = wd (x + 2400959708#32) := fun x => wd_add x 2400959708#32
      have l3 : ∀ x : W32, IntKind.u32.wrap (wd x + 3395469782) = wd (x + 3395469782#32) := fun x => wd_add x 3395469782#32
      obtain ⟨j0, m0, hj0, e0⟩ : ∃ j : Nat, bits .and .i64 (k : Int) 15 = (j : Int) ∧ j < 16 ∧ j = k % 16 := ⟨k % 16, and15 _ (by omega), by omega, rfl⟩
      have E0 := Lib.hid e0
      clear e0
      have b0 : (j0 : Int) < 16 := by omega
      have hd1 : decide ((k : Int) < 80) = true := decide_eq_true (by omega)
      by_cases hk16 : 16 ≤ k
      · have hd : decide ((16 : Int) ≤ (k : Int)) = true := decide_eq_true (by omega)
        obtain ⟨j3, m3, hj3, e3⟩ : ∃ j : Nat, bits .and .i64 ((k : Int) - 3) 15 = (j : Int) ∧ j < 16 ∧ j = (k - 3) % 16 :=
          ⟨(k - 3) % 16, by rw [show (k : Int) - 3 = ((k - 3 : Nat) : Int) by omega, and15 _ (by omega)], by omega, rfl⟩
        obtain ⟨j8, m8, hj8, e8⟩ : ∃ j : Nat, bits .and .i64 ((k : Int) - 8) 15 = (j : Int) ∧ j < 16 ∧ j = (k - 8) % 16 :=
          ⟨(k - 8) % 16, by rw [show (k : Int) - 8 = ((k - 8 : Nat) : Int) by omega, and15 _ (by omega)], by omega, rfl⟩
        obtain ⟨j14, m14, hj14, e14⟩ : ∃ j : Nat, bits .and .i64 ((k : Int) - 14) 15 = (j : Int) ∧ j < 16 ∧ j = (k - 14) % 16 :=
          ⟨(k - 14) % 16, by rw [show (k : Int) - 14 = ((k - 14 : Nat) : Int) by omega, and15 _ (by omega)], by omega, rfl⟩
        obtain ⟨x3, X3⟩ : ∃ x, Hid (r.getD j3 0 = x) := ⟨_, Lib.hid rfl⟩
        obtain ⟨x8, X8⟩ : ∃ x, Hid (r.getD j8 0 = x) := ⟨_, Lib.hid rfl⟩
        obtain ⟨x14, X14⟩ : ∃ x, Hid (r.getD j14 0 = x) := ⟨_, Lib.hid rfl⟩
        obtain ⟨x0, X0⟩ : ∃ x, Hid (r.getD j0 0 = x) := ⟨_, Lib.hid rfl⟩
        have hring : ring1 r k = r.set j0 (rotW (((x3 ^^^ x8) ^^^ x14) ^^^ x0) (rotS 1)) := by
          rw [ring1, if_pos hk16, ← X3.out, ← X8.out, ← X14.out, ← X0.out, e3, e8, e14, E0.out]
        have HRing := Lib.hid hring
        clear e3 e8 e14 hring
        have b3 : (j3 : Int) < 16 := by omega
        have b8 : (j8 : Int) < 16 := by omega
        have b14 : (j14 : Int) < 16 := by omega
        have c3 := hS.out.rc (by omega) X3.out
        have c8 := hS.out.rc (by omega) X8.out
        have c14 := hS.out.rc (by omega) X14.out
        have c0 := hS.out.rc (by omega) X0.out
        have f0 := hS.out.ring.free j0
        go_wp2_with fail
        refine wp_draw 25 (C := fun w' => ∃ n, w' = wr.drewN n) hmix (by kernel_rfl) (by kernel_rfl) (by kernel_rfl) (by simp) ⟨1, rfl⟩ ?_
        simp only [List.take_succ_cons, List.take_zero, List.drop_succ_cons, List.drop_zero]
        repeat (go_big_quiet_step ((go_at_call 83; exact Calls.quiet_of_same ((rot_any _ _ _).mono fun e w' h => ⟨h.1, h.2.symm⟩))))
        refine wpQuiet_nil ?_
        intro _ hw'
        obtain ⟨nq, hw''⟩ := hw'
        subst hw''
        go_wp2_with fail
        have hS2 : St1 w ((wr.drewN nq).setCell ⟨w.heap.size, j0, none⟩ (.int .u32 (wd (rotW (((x3 ^^^ x8) ^^^ x14) ^^^ x0) (rotS 1))))) (ring1 r k) v := by
          rw [HRing.out]
          refine ⟨by rw [← encW_set]; exact Blk.set (w := wr.drewN nq) hS.out.ring _ _, Blk.other (w := wr.drewN nq) hS.out.five (by simp) _, Below.setCell (w := wr.drewN nq) (hS.out.drewN nq).below (by exact Nat.le_refl _) _⟩
        have hrl : (ring1 r k).length = 16 := (ring1_len r k).trans hlr
        generalize (wr.drewN nq).setCell _ _ = W2 at hS2 ⊢
        clear hS c3 c8 c14 c0 f0 HRing X3 X8 X14 X0 m3 m8 m14 b3 b8 b14 hj3 hj8 hj14 hd
        have HS := Lib.hid hS2
        clear hS2 hlr
        obtain ⟨v0, v1, v2, v3, v4, hv⟩ := len5 v hlv
        subst hv
        clear hlv
        obtain ⟨y, Y⟩ : ∃ y, Hid ((ring1 r k).getD j0 0 = y) := ⟨_, Lib.hid rfl⟩
        have HN : Hid (run1 hs bl (k + 1) = ([t1 v0 (f1 k v1 v2 v3) v4 y, v0, rotW v1 (rotS 30), v2, v3], (ring1 r k))) := Lib.hid (by rw [HE.out, ← Y.out, E0.out]; rfl)
        clear HE
        have a1 : W2.cell? ⟨w.heap.size + 1, 1, none⟩ = some (.int .u32 (wd v1)) := HS.out.vc 1 (by simp) rfl
        have a2 : W2.cell? ⟨w.heap.size + 1, 2, none⟩ = some (.int .u32 (wd v2)) := HS.out.vc 2 (by simp) rfl
        have a3 : W2.cell? ⟨w.heap.size + 1, 3, none⟩ = some (.int .u32 (wd v3)) := HS.out.vc 3 (by simp) rfl
        go_quiet (fail)
        clear a1 a2 a3
        generalize hW1 : W2.drewN nq = W3
        have HS3 : Hid (St1 w W3 (ring1 r k) [v0, v1, v2, v3, v4]) := Lib.hid (by rw [← hW1]; exact HS.out.drewN nq)
        clear hW1 HS
        rcases Nat.lt_or_ge k 20 with h20 | h20
        · have hq : (k : Int) / 20 = 0 := by omega
          have HF : Hid (f1 k v1 v2 v3 = (v3 ^^^ (v1 &&& (v2 ^^^ v3))) + 1518500249#32) := Lib.hid (f1_a k v1 v2 v3 (by omega))
          go_wp2_with fail
          have a0 : W3.cell? ⟨w.heap.size + 1, 0, none⟩ = some (.int .u32 (wd v0)) := HS3.out.vc 0 (by simp) rfl
          have a4 : W3.cell? ⟨w.heap.size + 1, 4, none⟩ = some (.int .u32 (wd v4)) := HS3.out.vc 4 (by simp) rfl
          have ay := HS3.out.rc (by omega) Y.out
          rw [← HF.out]
          generalize f1 k v1 v2 v3 = fv at HN ⊢
          clear HF hq
          go_quiet ((go_at_call 83; exact Calls.quiet_of_same ((rot_any _ _ _).mono fun e w' h => ⟨h.1, h.2.symm⟩)))
          clear a0 a4 ay
          generalize hW1 : W3.drewN nq = W4
          have HS4 : Hid (St1 w W4 (ring1 r k) [v0, v1, v2, v3, v4]) := Lib.hid (by rw [← hW1]; exact HS3.out.drewN nq)
          clear hW1 HS3
          have a0 : W4.cell? ⟨w.heap.size + 1, 0, none⟩ = some (.int .u32 (wd v0)) := HS4.out.vc 0 (by simp) rfl
          have a1 : W4.cell? ⟨w.heap.size + 1, 1, none⟩ = some (.int .u32 (wd v1)) := HS4.out.vc 1 (by simp) rfl
          have a2 : W4.cell? ⟨w.heap.size + 1, 2, none⟩ = some (.int .u32 (wd v2)) := HS4.out.vc 2 (by simp) rfl
          have a3 : W4.cell? ⟨w.heap.size + 1, 3, none⟩ = some (.int .u32 (wd v3)) := HS4.out.vc 3 (by simp) rfl
          have a4 : W4.cell? ⟨w.heap.size + 1, 4, none⟩ = some (.int .u32 (wd v4)) := HS4.out.vc 4 (by simp) rfl
          have fr := HS4.out.five.free
          go_wp2_with fail
          refine wp_draw 8 (C := fun w' => ∃ n, w' = W4.drewN n) hmix (by kernel_rfl) (by kernel_rfl) (by kernel_rfl) (by simp) ⟨1, rfl⟩ ?_
          simp only [List.take_succ_cons, List.take_zero, List.drop_succ_cons, List.drop_zero]
          repeat (go_big_quiet_step ((go_at_call 83; exact Calls.quiet_of_same ((rot_any _ _ _).mono fun e w' h => ⟨h.1, h.2.symm⟩))))
          refine wpQuiet_nil ?_
          intro _ hw'
          obtain ⟨nq, hw''⟩ := hw'
          subst hw''
          have HS5 := Lib.hid (HS4.out.drewN nq)
          go_wp2_with fail
          go_roundw
          case rel =>
            refine ⟨k + 1, by omega, by go_num, Lib.hid ?_⟩
            rw [HN.out]
            exact HS5.out.put5 _ _ _ _ _
          case measure => simp [intOf]; omega
        rcases Nat.lt_or_ge k 40 with h40 | h40
        · have hq : (k : Int) / 20 = 1 := by omega
          have HF : Hid (f1 k v1 v2 v3 = ((v1 ^^^ v2) ^^^ v3) + 1859775393#32) := Lib.hid (f1_b k v1 v2 v3 (by omega))
          go_wp2_with fail
          have a0 : W3.cell? ⟨w.heap.size + 1, 0, none⟩ = some (.int .u32 (wd v0)) := HS3.out.vc 0 (by simp) rfl
          have a4 : W3.cell? ⟨w.heap.size + 1, 4, none⟩ = some (.int .u32 (wd v4)) := HS3.out.vc 4 (by simp) rfl
          have ay := HS3.out.rc (by omega) Y.out
          rw [← HF.out]
          generalize f1 k v1 v2 v3 = fv at HN ⊢
          clear HF hq
          go_quiet ((go_at_call 83; exact Calls.quiet_of_same ((rot_any _ _ _).mono fun e w' h => ⟨h.1, h.2.symm⟩)))
          clear a0 a4 ay
          generalize hW1 : W3.drewN nq = W4
          have HS4 : Hid (St1 w W4 (ring1 r k) [v0, v1, v2, v3, v4]) := Lib.hid (by rw [← hW1]; exact HS3.out.drewN nq)
          clear hW1 HS3
          have a0 : W4.cell? ⟨w.heap.size + 1, 0, none⟩ = some (.int .u32 (wd v0)) := HS4.out.vc 0 (by simp) rfl
          have a1 : W4.cell? ⟨w.heap.size + 1, 1, none⟩ = some (.int .u32 (wd v1)) := HS4.out.vc 1 (by simp) rfl
          have a2 : W4.cell? ⟨w.heap.size + 1, 2, none⟩ = some (.int .u32 (wd v2)) := HS4.out.vc 2 (by simp) rfl
          have a3 : W4.cell? ⟨w.heap.size + 1, 3, none⟩ = some (.int .u32 (wd v3)) := HS4.out.vc 3 (by simp) rfl
          have a4 : W4.cell? ⟨w.heap.size + 1, 4, none⟩ = some (.int .u32 (wd v4)) := HS4.out.vc 4 (by simp) rfl
          have fr := HS4.out.five.free
          go_wp2_with fail
          refine wp_draw 8 (C := fun w' => ∃ n, w' = W4.drewN n) hmix (by kernel_rfl) (by kernel_rfl) (by kernel_rfl) (by simp) ⟨1, rfl⟩ ?_
          simp only [List.take_succ_cons, List.take_zero, List.drop_succ_cons, List.drop_zero]
          repeat (go_big_quiet_step ((go_at_call 83; exact Calls.quiet_of_same ((rot_any _ _ _).mono fun e w' h => ⟨h.1, h.2.symm⟩))))
          refine wpQuiet_nil ?_
          intro _ hw'
          obtain ⟨nq, hw''⟩ := hw'
          subst hw''
          have HS5 := Lib.hid (HS4.out.drewN nq)
          go_wp2_with fail
          go_roundw
          case rel =>
            refine ⟨k + 1, by omega, by go_num, Lib.hid ?_⟩
            rw [HN.out]
            exact HS5.out.put5 _ _ _ _ _
          case measure => simp [intOf]; omega
        rcases Nat.lt_or_ge k 60 with h60 | h60
        · have hq : (k : Int) / 20 = 2 := by omega
          have HF : Hid (f1 k v1 v2 v3 = ((v1 &&& v2) ||| (v3 &&& (v1 ||| v2))) + 2400959708#32) := Lib.hid (f1_c k v1 v2 v3 (by omega))
          go_wp2_with fail
          have a0 : W3.cell? ⟨w.heap.size + 1, 0, none⟩ = some (.int .u32 (wd v0)) := HS3.out.vc 0 (by simp) rfl
          have a4 : W3.cell? ⟨w.heap.size + 1, 4, none⟩ = some (.int .u32 (wd v4)) := HS3.out.vc 4 (by simp) rfl
          have ay := HS3.out.rc (by omega) Y.out
          rw [← HF.out]
          generalize f1 k v1 v2 v3 = fv at HN ⊢
          clear HF hq
          go_quiet ((go_at_call 83; exact Calls.quiet_of_same ((rot_any _ _ _).mono fun e w' h => ⟨h.1, h.2.symm⟩)))
          clear a0 a4 ay
          generalize hW1 : W3.drewN nq = W4
          have HS4 : Hid (St1 w W4 (ring1 r k) [v0, v1, v2, v3, v4]) := Lib.hid (by rw [← hW1]; exact HS3.out.drewN nq)
          clear hW1 HS3
          have a0 : W4.cell? ⟨w.heap.size + 1, 0, none⟩ = some (.int .u32 (wd v0)) := HS4.out.vc 0 (by simp) rfl
          have a1 : W4.cell? ⟨w.heap.size + 1, 1, none⟩ = some (.int .u32 (wd v1)) := HS4.out.vc 1 (by simp) rfl
          have a2 : W4.cell? ⟨w.heap.size + 1, 2, none⟩ = some (.int .u32 (wd v2)) := HS4.out.vc 2 (by simp) rfl
          have a3 : W4.cell? ⟨w.heap.size + 1, 3, none⟩ = some (.int .u32 (wd v3)) := HS4.out.vc 3 (by simp) rfl
          have a4 : W4.cell? ⟨w.heap.size + 1, 4, none⟩ = some (.int .u32 (wd v4)) := HS4.out.vc 4 (by simp) rfl
          have fr := HS4.out.five.free
          go_wp2_with fail
          refine wp_draw 8 (C := fun w' => ∃ n, w' = W4.drewN n) hmix (by kernel_rfl) (by kernel_rfl) (by kernel_rfl) (by simp) ⟨1, rfl⟩ ?_
          simp only [List.take_succ_cons, List.take_zero, List.drop_succ_cons, List.drop_zero]
          repeat (go_big_quiet_step ((go_at_call 83; exact Calls.quiet_of_same ((rot_any _ _ _).mono fun e w' h => ⟨h.1, h.2.symm⟩))))
          refine wpQuiet_nil ?_
          intro _ hw'
          obtain ⟨nq, hw''⟩ := hw'
          subst hw''
          have HS5 := Lib.hid (HS4.out.drewN nq)
          go_wp2_with fail
          go_roundw
          case rel =>
            refine ⟨k + 1, by omega, by go_num, Lib.hid ?_⟩
            rw [HN.out]
            exact HS5.out.put5 _ _ _ _ _
          case measure => simp [intOf]; omega
        · have hq : (k : Int) / 20 = 3 := by omega
          have HF : Hid (f1 k v1 v2 v3 = ((v1 ^^^ v2) ^^^ v3) + 3395469782#32) := Lib.hid (f1_d k v1 v2 v3 (by omega))
          go_wp2_with fail
          have a0 : W3.cell? ⟨w.heap.size + 1, 0, none⟩ = some (.int .u32 (wd v0)) := HS3.out.vc 0 (by simp) rfl
          have a4 : W3.cell? ⟨w.heap.size + 1, 4, none⟩ = some (.int .u32 (wd v4)) := HS3.out.vc 4 (by simp) rfl
          have ay := HS3.out.rc (by omega) Y.out
          rw [← HF.out]
          generalize f1 k v1 v2 v3 = fv at HN ⊢
          clear HF hq
          go_quiet ((go_at_call 83; exact Calls.quiet_of_same ((rot_any _ _ _).mono fun e w' h => ⟨h.1, h.2.symm⟩)))
          clear a0 a4 ay
          generalize hW1 : W3.drewN nq = W4
          have HS4 : Hid (St1 w W4 (ring1 r k) [v0, v1, v2, v3, v4]) := Lib.hid (by rw [← hW1]; exact HS3.out.drewN nq)
          clear hW1 HS3
          have a0 : W4.cell? ⟨w.heap.size + 1, 0, none⟩ = some (.int .u32 (wd v0)) := HS4.out.vc 0 (by simp) rfl
          have a1 : W4.cell? ⟨w.heap.size + 1, 1, none⟩ = some (.int .u32 (wd v1)) := HS4.out.vc 1 (by simp) rfl
          have a2 : W4.cell? ⟨w.heap.size + 1, 2, none⟩ = some (.int .u32 (wd v2)) := HS4.out.vc 2 (by simp) rfl
          have a3 : W4.cell? ⟨w.heap.size + 1, 3, none⟩ = some (.int .u32 (wd v3)) := HS4.out.vc 3 (by simp) rfl
          have a4 : W4.cell? ⟨w.heap.size + 1, 4, none⟩ = some (.int .u32 (wd v4)) := HS4.out.vc 4 (by simp) rfl
          have fr := HS4.out.five.free
          go_wp2_with fail
          refine wp_draw 8 (C := fun w' => ∃ n, w' = W4.drewN n) hmix (by kernel_rfl) (by kernel_rfl) (by kernel_rfl) (by simp) ⟨1, rfl⟩ ?_
          simp only [List.take_succ_cons, List.take_zero, List.drop_succ_cons, List.drop_zero]
          repeat (go_big_quiet_step ((go_at_call 83; exact Calls.quiet_of_same ((rot_any _ _ _).mono fun e w' h => ⟨h.1, h.2.symm⟩))))
          refine wpQuiet_nil ?_
          intro _ hw'
          obtain ⟨nq, hw''⟩ := hw'
          subst hw''
          have HS5 := Lib.hid (HS4.out.drewN nq)
          go_wp2_with fail
          go_roundw
          case rel =>
            refine ⟨k + 1, by omega, by go_num, Lib.hid ?_⟩
            rw [HN.out]
            exact HS5.out.put5 _ _ _ _ _
          case measure => simp [intOf]; omega
      · have hd : decide ((16 : Int) ≤ (k : Int)) = false := decide_eq_false (by omega)
        have hrl : r.length = 16 := hlr
        have hring : ring1 r k = r := by rw [ring1, if_neg hk16]
        rw [hring] at HE
        clear hring
        have HS := hS
        clear hS hlr
        go_wp2_with fail
        obtain ⟨v0, v1, v2, v3, v4, hv⟩ := len5 v hlv
        subst hv
        clear hlv
        obtain ⟨y, Y⟩ : ∃ y, Hid (r.getD j0 0 = y) := ⟨_, Lib.hid rfl⟩
        have HN : Hid (run1 hs bl (k + 1) = ([t1 v0 (f1 k v1 v2 v3) v4 y, v0, rotW v1 (rotS 30), v2, v3], r)) := Lib.hid (by rw [HE.out, ← Y.out, E0.out]; rfl)
        clear HE
        have a1 : wr.cell? ⟨w.heap.size + 1, 1, none⟩ = some (.int .u32 (wd v1)) := HS.out.vc 1 (by simp) rfl
        have a2 : wr.cell? ⟨w.heap.size + 1, 2, none⟩ = some (.int .u32 (wd v2)) := HS.out.vc 2 (by simp) rfl
        have a3 : wr.cell? ⟨w.heap.size + 1, 3, none⟩ = some (.int .u32 (wd v3)) := HS.out.vc 3 (by simp) rfl
        go_quiet (fail)
        clear a1 a2 a3
        generalize hW1 : wr.drewN nq = W3
        have HS3 : Hid (St1 w W3 r [v0, v1, v2, v3, v4]) := Lib.hid (by rw [← hW1]; exact HS.out.drewN nq)
        clear hW1 HS
        have hq : (k : Int) / 20 = 0 := by omega
        have HF : Hid (f1 k v1 v2 v3 = (v3 ^^^ (v1 &&& (v2 ^^^ v3))) + 1518500249#32) := Lib.hid (f1_a k v1 v2 v3 (by omega))
        go_wp2_with fail
        have a0 : W3.cell? ⟨w.heap.size + 1, 0, none⟩ = some (.int .u32 (wd v0)) := HS3.out.vc 0 (by simp) rfl
        have a4 : W3.cell? ⟨w.heap.size + 1, 4, none⟩ = some (.int .u32 (wd v4)) := HS3.out.vc 4 (by simp) rfl
        have ay := HS3.out.rc (by omega) Y.out
        rw [← HF.out]
        generalize f1 k v1 v2 v3 = fv at HN ⊢
        clear HF hq
        go_quiet ((go_at_call 83; exact Calls.quiet_of_same ((rot_any _ _ _).mono fun e w' h => ⟨h.1, h.2.symm⟩)))
        clear a0 a4 ay
        generalize hW1 : W3.drewN nq = W4
        have HS4 : Hid (St1 w W4 r [v0, v1, v2, v3, v4]) := Lib.hid (by rw [← hW1]; exact HS3.out.drewN nq)
        clear hW1 HS3
        have a0 : W4.cell? ⟨w.heap.size + 1, 0, none⟩ = some (.int .u32 (wd v0)) := HS4.out.vc 0 (by simp) rfl
        have a1 : W4.cell? ⟨w.heap.size + 1, 1, none⟩ = some (.int .u32 (wd v1)) := HS4.out.vc 1 (by simp) rfl
        have a2 : W4.cell? ⟨w.heap.size + 1, 2, none⟩ = some (.int .u32 (wd v2)) := HS4.out.vc 2 (by simp) rfl
        have a3 : W4.cell? ⟨w.heap.size + 1, 3, none⟩ = some (.int .u32 (wd v3)) := HS4.out.vc 3 (by simp) rfl
        have a4 : W4.cell? ⟨w.heap.size + 1, 4, none⟩ = some (.int .u32 (wd v4)) := HS4.out.vc 4 (by simp) rfl
        have fr := HS4.out.five.free
        go_wp2_with fail
        refine wp_draw 8 (C := fun w' => ∃ n, w' = W4.drewN n) hmix (by kernel_rfl) (by kernel_rfl) (by kernel_rfl) (by simp) ⟨1, rfl⟩ ?_
        simp only [List.take_succ_cons, List.take_zero, List.drop_succ_cons, List.drop_zero]
        repeat (go_big_quiet_step ((go_at_call 83; exact Calls.quiet_of_same ((rot_any _ _ _).mono fun e w' h => ⟨h.1, h.2.symm⟩))))
        refine wpQuiet_nil ?_
        intro _ hw'
        obtain ⟨nq, hw''⟩ := hw'
        subst hw''
        have HS5 := Lib.hid (HS4.out.drewN nq)
        go_wp2_with fail
        go_roundw
        case rel =>
          refine ⟨k + 1, by omega, by go_num, Lib.hid ?_⟩
          rw [HN.out]
          exact HS5.out.put5 _ _ _ _ _
        case measure => simp [intOf]; omega
    · obtain rfl : k = 80 := by omega
      have hlv : (run1 hs bl 80).1.length = 5 := (run1_len hs bl 80).1.trans H5.out
      have HC : Hid (comp1 hs bl = part2 hs (run1 hs bl 80).1 5) := Lib.hid (part2_all1 hs _ H5.out hlv).symm
      generalize (run1 hs bl 80).1 = v at hS hlv HC
      have hW : Only hb w wr := Only.of_below hS.out.below
      have hH1 : Blk wr hb (encW hs) ht := HH.out.below hS.out.below hsl
      have hv1 := hS.out.five
      have HW := Lib.hid hW; have HH1 := Lib.hid hH1; have HV1 := Lib.hid hv1
      have H5' := H5.out
      clear hW hH1 hv1 hS HH H16 HV HR HB
      go_wp2_with fail
      go_loopw [115] (fun i ws => ∃ j : Nat, j ≤ 5 ∧ i = .int .i64 j ∧ Hid (Blk ws hb (encW (part2 hs v j)) ht) ∧ Hid (Blk ws (w.heap.size + 1) (encW v) 189) ∧ Hid (Only hb w ws)) (fun i _ => 5 - (intOf i).toNat)
      case atStart => exact ⟨0, Nat.zero_le _, rfl, HH1, HV1, HW⟩
      case round =>
        obtain ⟨j, hj, rfl, hP, hV, hO⟩ := hrel
        by_cases hlt : j < 5
        · have hd1 : decide ((j : Int) < 5) = true := decide_eq_true (by omega)
          have hj8 : (j : Int) < 5 := by omega
          have cp : wr.cell? ⟨hb, j, none⟩ = some (.int .u32 (wd (hs.getD j 0))) := by rw [hP.out.cell, encW_get _ _ (by rw [part2_len _ _ _ (by omega) (by omega)]; omega), part2_get _ _ _ (by omega) (by omega)]
          have cv : wr.cell? ⟨w.heap.size + 1, j, none⟩ = some (.int .u32 (wd (v.getD j 0))) := by rw [hV.out.cell, encW_get _ _ (by omega)]
          have HX : Hid (part2 hs v (j + 1) = (part2 hs v j).set j (hs.getD j 0 + v.getD j 0)) := Lib.hid (part2_step hs v j (by omega) (by omega))
          have fp := hP.out.free j
          generalize hs.getD j 0 = x at cp HX
          generalize v.getD j 0 = y at cv HX
          have hadd := wd_add
          go_wp2_with fail
          refine wp_draw 7 (C := fun w' => ∃ n, w' = wr.drewN n) hmix (by kernel_rfl) (by kernel_rfl) (by kernel_rfl) (by simp) ⟨1, rfl⟩ ?_
          simp only [List.take_succ_cons, List.take_zero, List.drop_succ_cons, List.drop_zero]
          repeat (go_big_quiet_step (fail))
          refine wpQuiet_nil ?_
          intro _ hw'
          obtain ⟨nq, hw''⟩ := hw'
          subst hw''
          go_wp2_with fail
          go_roundw
          case rel =>
            refine ⟨j + 1, by omega, by go_num, Lib.hid ?_, Lib.hid (Blk.other (w := wr.drewN nq) hV.out (by simp; omega) _), Lib.hid (Only.trans (show Only hb w (wr.drewN nq) from ⟨hO.out.os, hO.out.tape, hO.out.output, hO.out.size, hO.out.block⟩) (Only.setCell ⟨hb, j, none⟩ rfl _))⟩
            rw [HX.out, ← encW_set]
            exact Blk.set (w := wr.drewN nq) hP.out _ _
          case measure => simp [intOf]; omega
        · obtain rfl : j = 5 := by omega
          go_wp2_with fail
          go_end0
          exact ⟨rfl, by rw [HC.out]; exact hP.out, hO.out⟩
end Go.Proofs.YtdmfbcfhfopipaaGreatDoor

/- digest.Sum1, walked. -/
namespace Go.Proofs.YtdmfbcfhfopipaaGreatDoor
open Go.RowKit

def H160 : List W32 := [0x67452301, 0xefcdab89, 0x98badcfe, 0x10325476, 0xc3d2e1f0]
theorem H160_enc : (#[.int .u32 1732584193, .int .u32 4023233417, .int .u32 2562383102, .int .u32 271733878, .int .u32 3285377520] : Array Value) = encW H160 := rfl
def sha1 (l : List UInt8) : List W32 := foldB comp1 ((padL l).length / 64) H160 (padL l)
def sum160 (l : List UInt8) : List UInt8 := tellW (sha1 l)
theorem sha1_len (l : List UInt8) : (sha1 l).length = 5 := foldB_len _ comp1_len _ _ _
theorem sum160_len (l : List UInt8) : (sum160 l).length = 20 := by rw [sum160, tellW_len, sha1_len]

structure I1 (w : World) (hb : Nat) (st : List W32) (W : World) : Prop where
  len : st.length = 5
  h : Blk W hb (encW st) 189
  below : Below w.heap.size w W
theorem callFunc_sha1 (args : Array Value) (W : World) : (callFunc 151 args).run Tryz.prog W = .ok (.enter 151 args) W := by kernel_rfl

theorem blocks_sha1 (s : ByteArray) (w W : World) (hb : Nat) (hs : s.size ≤ 9223372036854775000) (h1 : w.heap.size ≤ hb) (h0 : I1 w hb H160 W) :
    Calls Tryz.prog 81 #[.string s, .func (.func 151) #[] #[.pointer (some ⟨hb, 0, none⟩)]] W fun e W' => e = .returned (.tuple #[]) ∧ I1 w hb (sha1 s.data.toList) W' := by
  refine blocks_any comp1 (I1 w hb) _ _ (hb + 1) s W H160 hs ?_ h0.h.lt callFunc_sha1 ?_ h0
  · intro st W W' h hb
    exact ⟨h.len, h.h.below hb (by omega), h.below.trans (hb.mono (by omega))⟩
  · intro st bl W h hl
    refine (sha1_block st bl hb _ W h.len hl h.h).mono ?_
    rintro e W' ⟨rfl, h3, h4⟩
    exact ⟨rfl, ⟨(comp1_len st bl).trans h.len, h3, h.below.trans (h4.belowOf h1 h.below.size)⟩, h3.lt⟩
theorem sum1_start (w : World) : I1 w w.heap.size H160 (w.alloc (.cells (encW H160) 189)) := ⟨rfl, Blk.new w _ _, (Below.refl w.heap.size w).alloc (Nat.le_refl _) _⟩
theorem sum1_tell {w w2 : World} {l : List UInt8} (h : I1 w w.heap.size (sha1 l) w2) :
    Calls Tryz.prog 85 #[.slice (some ⟨w.heap.size, 0, none⟩) 5 5] w2 fun e w3 => e = .returned (.string (bs (sum160 l))) ∧ Below w.heap.size w w3 := by
  have := tell_any (sha1 l) w.heap.size 5 _ w2 (by rw [sha1_len]; omega) h.h
  rw [sha1_len] at this
  exact this.mono fun e w3 k => ⟨k.1, h.below.trans (k.2.mono h.below.size)⟩

set_option maxRecDepth 100000 in
set_option maxHeartbeats 1000000 in
theorem sum160_any (s : ByteArray) (w : World) (hs : s.size ≤ 9223372036854775000) : Calls Tryz.prog 61 #[.string s] w fun e w' => e = .returned (.string (bs (sum160 s.data.toList))) ∧ Below w.heap.size w w' := by
  go_enter Tryz.func61, Tryz.ntmps61
  go_wp2_with (first
    | (go_at_call 81; rw [H160_enc]; refine (blocks_sha1 s w _ _ hs (Nat.le_refl _) (sum1_start w)).mono ?_; rintro e w2 ⟨rfl, hI⟩; replace hI := Lib.hid hI)
    | (go_at_call 85; refine (sum1_tell hI.out).mono ?_; rintro e w3 ⟨rfl, hB3⟩; replace hB3 := Lib.hid hB3))
  go_ret
  exact ⟨rfl, hB3.out⟩
end Go.Proofs.YtdmfbcfhfopipaaGreatDoor

/- The digests' schedules: a row of all words (the document's) and a ring of sixteen (the program's) give the same. -/
namespace Go.Proofs.YtdmfbcfhfopipaaGreatDoor
open Go.RowKit

theorem ror_rot (x : W32) (n : Nat) (h0 : 0 < n) (h : n < 32) : rorW x n = rotW x (32 - n) := by
  rw [rorW, rotW, BitVec.or_comm, show 32 - (32 - n) = n by omega]
theorem ch_eq (a b c : W32) : (a &&& b) ^^^ ((a ^^^ 4294967295#32) &&& c) = c ^^^ (a &&& (b ^^^ c)) := by
  apply BitVec.eq_of_getLsbD_eq
  intro i hi
  have h1 : (4294967295#32).getLsbD i = true := by
    rw [show (4294967295#32) = BitVec.allOnes 32 from rfl, BitVec.getLsbD_allOnes]
    exact decide_eq_true hi
  simp only [BitVec.getLsbD_xor, BitVec.getLsbD_and, h1]
  cases a.getLsbD i <;> cases b.getLsbD i <;> cases c.getLsbD i <;> rfl
theorem ch1_eq (b c d : W32) : (b &&& c) ||| ((b ^^^ 4294967295#32) &&& d) = d ^^^ (b &&& (c ^^^ d)) := by
  apply BitVec.eq_of_getLsbD_eq
  intro i hi
  have h1 : (4294967295#32).getLsbD i = true := by
    rw [show (4294967295#32) = BitVec.allOnes 32 from rfl, BitVec.getLsbD_allOnes]
    exact decide_eq_true hi
  simp only [BitVec.getLsbD_xor, BitVec.getLsbD_and, BitVec.getLsbD_or, h1]
  cases b.getLsbD i <;> cases c.getLsbD i <;> cases d.getLsbD i <;> rfl
theorem maj_eq (a b c : W32) : ((a &&& b) ^^^ (a &&& c)) ^^^ (b &&& c) = (a &&& b) ||| (c &&& (a ||| b)) := by
  apply BitVec.eq_of_getLsbD_eq
  intro i _
  simp only [BitVec.getLsbD_xor, BitVec.getLsbD_and, BitVec.getLsbD_or]
  cases a.getLsbD i <;> cases b.getLsbD i <;> cases c.getLsbD i <;> rfl
theorem maj1_eq (b c d : W32) : ((b &&& c) ||| (b &&& d)) ||| (c &&& d) = (b &&& c) ||| (d &&& (b ||| c)) := by
  apply BitVec.eq_of_getLsbD_eq
  intro i _
  simp only [BitVec.getLsbD_and, BitVec.getLsbD_or]
  cases b.getLsbD i <;> cases c.getLsbD i <;> cases d.getLsbD i <;> rfl
def r0 (x : W32) : W32 := (rorW x 7 ^^^ rorW x 18) ^^^ x >>> (3 : Nat)
def r1 (x : W32) : W32 := (rorW x 17 ^^^ rorW x 19) ^^^ x >>> (10 : Nat)
theorem r0_eq (x : W32) : r0 x = g0 x := by
  rw [r0, g0, ror_rot x 7 (by omega) (by omega), ror_rot x 18 (by omega) (by omega)]; rfl
theorem r1_eq (x : W32) : r1 x = g1 x := by
  rw [r1, g1, ror_rot x 17 (by omega) (by omega), ror_rot x 19 (by omega) (by omega)]; rfl
def ror3 (x : W32) (a b c : Nat) : W32 := (rorW x a ^^^ rorW x b) ^^^ rorW x c
theorem ror3_6 (x : W32) : ror3 x 6 11 25 = mixW x 6 11 25 := by
  rw [ror3, mixW, ror_rot x 6 (by omega) (by omega), ror_rot x 11 (by omega) (by omega), ror_rot x 25 (by omega) (by omega)]; rfl
theorem ror3_2 (x : W32) : ror3 x 2 13 22 = mixW x 2 13 22 := by
  rw [ror3, mixW, ror_rot x 2 (by omega) (by omega), ror_rot x 13 (by omega) (by omega), ror_rot x 22 (by omega) (by omega)]; rfl

/-- A row of words, each made of those ahead of it. -/
def schedW (b : List W32) (f : List W32 → Nat → W32) : Nat → List W32
  | 0 => []
  | i + 1 => schedW b f i ++ [if i < 16 then b.getD i 0 else f (schedW b f i) i]
theorem schedW_len (b : List W32) (f : List W32 → Nat → W32) (i : Nat) : (schedW b f i).length = i := by
  induction i with
  | zero => rfl
  | succ i ih => simp [schedW, ih]
def atW (b : List W32) (f : List W32 → Nat → W32) (k : Nat) : W32 := if k < 16 then b.getD k 0 else f (schedW b f k) k
theorem schedW_get (b : List W32) (f : List W32 → Nat → W32) (i k : Nat) (h : k < i) : (schedW b f i).getD k 0 = atW b f k := by
  induction i with
  | zero => omega
  | succ i ih =>
    rw [schedW]
    by_cases e : k = i
    · subst e
      rw [List.getD_eq_getElem?_getD, List.getElem?_append_right (by rw [schedW_len]; omega), schedW_len, Nat.sub_self]
      rfl
    · rw [List.getD_eq_getElem?_getD, List.getElem?_append_left (by rw [schedW_len]; omega), ← List.getD_eq_getElem?_getD]
      exact ih (by omega)
def f2 (l : List W32) (i : Nat) : W32 := ((l.getD (i - 16) 0 + r0 (l.getD (i - 15) 0)) + l.getD (i - 7) 0) + r1 (l.getD (i - 2) 0)
def f160 (l : List W32) (i : Nat) : W32 := rotW (((l.getD (i - 3) 0 ^^^ l.getD (i - 8) 0) ^^^ l.getD (i - 14) 0) ^^^ l.getD (i - 16) 0) 1

theorem getD_set_same {l : List W32} {p : Nat} (x : W32) (h : p < l.length) : (l.set p x).getD p 0 = x := by simp [List.getD, h]
theorem getD_set_far {l : List W32} {p q : Nat} (x : W32) (h : p ≠ q) : (l.set p x).getD q 0 = l.getD q 0 := by simp [List.getD, List.getElem?_set_ne h]
/-- A ring that keeps the last sixteen. -/
theorem ring_at (b : List W32) (_h16 : b.length = 16) (f : List W32 → Nat → W32) (R : Nat → List W32) (ring : List W32 → Nat → List W32) (h0 : R 0 = b) (hs : ∀ n, R (n + 1) = ring (R n) n) (hlen : ∀ n, (R n).length = 16)
    (hlow : ∀ r n, n < 16 → ring r n = r)
    (hring : ∀ r n, 16 ≤ n → r.length = 16 → (∀ k, k < n → n ≤ k + 16 → r.getD (k % 16) 0 = atW b f k) → ring r n = r.set (n % 16) (f (schedW b f n) n)) :
    ∀ n k, (k < 16 ∨ k < n) → n ≤ k + 16 → (R n).getD (k % 16) 0 = atW b f k := by
  intro n
  induction n with
  | zero =>
    intro k hk _
    have hk' : k < 16 := by omega
    rw [h0, Nat.mod_eq_of_lt hk', atW, if_pos hk']
  | succ n ih =>
    intro k hk hnk
    rw [hs]
    by_cases hn : n < 16
    · rw [hlow _ _ hn]
      exact ih k (by omega) (by omega)
    · rw [hring _ _ (by omega) (hlen n) (fun j h1 h2 => ih j (.inr h1) h2)]
      by_cases e : k = n
      · subst e
        rw [getD_set_same _ (by rw [hlen]; omega), atW, if_neg hn]
      · rw [getD_set_far _ (by omega)]
        exact ih k (.inr (by omega)) (by omega)

theorem run2_word (h b : List W32) (h16 : b.length = 16) (n : Nat) : (run2 h b (n + 1)).1 = step2 (run2 h b n).1 (K256.getD n 0) (atW b f2 n) := by
  have key := ring_at b h16 f2 (fun n => (run2 h b n).2) ring2 rfl (fun n => rfl) (fun n => (run2_len h b n).2.trans h16) (fun r n hn => by rw [ring2, if_neg (by omega)])
    (fun r n hn hr hk => by
      rw [ring2, if_pos hn]
      congr 1
      rw [f2, schedW_get _ _ _ _ (by omega), schedW_get _ _ _ _ (by omega), schedW_get _ _ _ _ (by omega), schedW_get _ _ _ _ (by omega), r0_eq, r1_eq,
        ← hk (n - 16) (by omega) (by omega), ← hk (n - 15) (by omega) (by omega), ← hk (n - 7) (by omega) (by omega), ← hk (n - 2) (by omega) (by omega), show (n - 16) % 16 = n % 16 by omega]
      rw [BitVec.add_assoc, BitVec.add_assoc, BitVec.add_assoc])
  have := key (n + 1) n (.inr (by omega)) (by omega)
  show step2 (run2 h b n).1 (K256.getD n 0) ((run2 h b (n + 1)).2.getD (n % 16) 0) = _
  rw [this]
theorem run1_word (h b : List W32) (h16 : b.length = 16) (n : Nat) : (run1 h b (n + 1)).1 = step1 (run1 h b n).1 n (atW b f160 n) := by
  have key := ring_at b h16 f160 (fun n => (run1 h b n).2) ring1 rfl (fun n => rfl) (fun n => (run1_len h b n).2.trans h16) (fun r n hn => by rw [ring1, if_neg (by omega)])
    (fun r n hn hr hk => by
      rw [ring1, if_pos hn]
      congr 1
      rw [f160, schedW_get _ _ _ _ (by omega), schedW_get _ _ _ _ (by omega), schedW_get _ _ _ _ (by omega), schedW_get _ _ _ _ (by omega),
        ← hk (n - 16) (by omega) (by omega), ← hk (n - 14) (by omega) (by omega), ← hk (n - 8) (by omega) (by omega), ← hk (n - 3) (by omega) (by omega), show (n - 16) % 16 = n % 16 by omega]
      rfl)
  have := key (n + 1) n (.inr (by omega)) (by omega)
  show step1 (run1 h b n).1 n ((run1 h b (n + 1)).2.getD (n % 16) 0) = _
  rw [this]
theorem step2_ref (v0 v1 v2 v3 v4 v5 v6 v7 k w : W32) : step2 [v0, v1, v2, v3, v4, v5, v6, v7] k w =
    [((((v7 + ror3 v4 6 11 25) + ((v4 &&& v5) ^^^ ((v4 ^^^ 4294967295#32) &&& v6))) + k) + w) + (ror3 v0 2 13 22 + (((v0 &&& v1) ^^^ (v0 &&& v2)) ^^^ (v1 &&& v2))), v0, v1, v2,
      v3 + ((((v7 + ror3 v4 6 11 25) + ((v4 &&& v5) ^^^ ((v4 ^^^ 4294967295#32) &&& v6))) + k) + w), v4, v5, v6] := by
  rw [ror3_6, ror3_2, ch_eq, maj_eq]; rfl
end Go.Proofs.YtdmfbcfhfopipaaGreatDoor

