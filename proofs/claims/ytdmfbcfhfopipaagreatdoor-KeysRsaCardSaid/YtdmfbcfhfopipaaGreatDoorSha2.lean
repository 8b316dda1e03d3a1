/- SHA-256: what one block does; digest.Sum256's closure, walked. -/
import Derived.Test.YtdmfbcfhfopipaaGreatDoorTell
import Derived.Test.YtdmfbcfhfopipaaGreatDoorLaws
import Derived.Test.YtdmfbcfhfopipaaGreatDoorDraw
namespace Go.Proofs.YtdmfbcfhfopipaaGreatDoor
open Go.RowKit

def g0 (x : W32) : W32 := (rotW x (rotS (-7)) ^^^ rotW x (rotS (-18))) ^^^ x >>> (3 : Nat)
def g1 (x : W32) : W32 := (rotW x (rotS (-17)) ^^^ rotW x (rotS (-19))) ^^^ x >>> (10 : Nat)
/-- What round i makes of the sixteen words. -/
def ring2 (r : List W32) (i : Nat) : List W32 :=
  if 16 ≤ i then r.set (i % 16) (r.getD (i % 16) 0 + ((g0 (r.getD ((i - 15) % 16) 0) + r.getD ((i - 7) % 16) 0) + g1 (r.getD ((i - 2) % 16) 0))) else r
def tOf (v4 v5 v6 v7 k w : W32) : W32 := (((v7 + mixW v4 6 11 25) + (v6 ^^^ (v4 &&& (v5 ^^^ v6)))) + k) + w
def uOf (v0 v1 v2 : W32) : W32 := mixW v0 2 13 22 + ((v0 &&& v1) ||| (v2 &&& (v0 ||| v1)))
def step2 (v : List W32) (k w : W32) : List W32 :=
  match v with
  | [v0, v1, v2, v3, v4, v5, v6, v7] => [tOf v4 v5 v6 v7 k w + uOf v0 v1 v2, v0, v1, v2, v3 + tOf v4 v5 v6 v7 k w, v4, v5, v6]
  | v => v
def run2 (h b : List W32) : Nat → List W32 × List W32
  | 0 => (h, b)
  | n + 1 => (step2 (run2 h b n).1 (K256.getD n 0) ((ring2 (run2 h b n).2 n).getD (n % 16) 0), ring2 (run2 h b n).2 n)
/-- What a block makes of eight words. -/
def comp2 (h b : List W32) : List W32 := List.zipWith (· + ·) h (run2 h b 64).1

theorem ring2_len (r : List W32) (i : Nat) : (ring2 r i).length = r.length := by unfold ring2; split <;> simp
theorem step2_len (v : List W32) (k w : W32) : (step2 v k w).length = v.length := by unfold step2; split <;> simp
theorem run2_len (h b : List W32) (n : Nat) : (run2 h b n).1.length = h.length ∧ (run2 h b n).2.length = b.length := by
  induction n with
  | zero => exact ⟨rfl, rfl⟩
  | succ n ih => exact ⟨(step2_len _ _ _).trans ih.1, (ring2_len _ _).trans ih.2⟩
theorem comp2_len (h b : List W32) : (comp2 h b).length = h.length := by simp [comp2, (run2_len h b 64).1]

theorem and15 (k : Nat) (h : k < 9223372036854775808) : bits .and .i64 (k : Int) 15 = ((k % 16 : Nat) : Int) := by
  have := i64_and_nat k 15 h (by omega)
  rw [show (15 : Nat) = 2 ^ 4 - 1 from rfl, Nat.and_two_pow_sub_one_eq_mod] at this
  exact this

theorem len8 (v : List W32) (h : v.length = 8) : ∃ v0 v1 v2 v3 v4 v5 v6 v7, v = [v0, v1, v2, v3, v4, v5, v6, v7] := by
  match v, h with
  | [v0, v1, v2, v3, v4, v5, v6, v7], _ => exact ⟨v0, v1, v2, v3, v4, v5, v6, v7, rfl⟩

/-- The world in the midst of a block: its words, its eight, the rounds' words. -/
structure St2 (w W : World) (r v : List W32) (kb : Nat) (kt : TypeId) : Prop where
  ring : Blk W w.heap.size (encW r) 129
  eight : Blk W (w.heap.size + 1) (encW v) 124
  below : Below w.heap.size w W
  key : Blk w kb (encW K256) kt
theorem St2.drewN {w W : World} {r v : List W32} {kb : Nat} {kt : TypeId} (h : St2 w W r v kb kt) (n : Nat) : St2 w (W.drewN n) r v kb kt := ⟨h.ring, h.eight, ⟨h.below.os, h.below.tape, h.below.output, h.below.size, h.below.block⟩, h.key⟩
theorem St2.rc {w W : World} {r v : List W32} {kb : Nat} {kt : TypeId} (h : St2 w W r v kb kt) {j : Nat} {x : W32} (hj : j < r.length) (e : r.getD j 0 = x) : W.cell? ⟨w.heap.size, j, none⟩ = some (.int .u32 (wd x)) := by rw [h.ring.cell, encW_get _ _ hj, e]
theorem St2.vc {w W : World} {r v : List W32} {kb : Nat} {kt : TypeId} (h : St2 w W r v kb kt) (j : Nat) {x : W32} (hj : j < v.length) (e : v.getD j 0 = x) : W.cell? ⟨w.heap.size + 1, j, none⟩ = some (.int .u32 (wd x)) := by rw [h.eight.cell, encW_get _ _ hj, e]
theorem St2.kc {w W : World} {r v : List W32} {kb : Nat} {kt : TypeId} (h : St2 w W r v kb kt) {j : Nat} {x : W32} (hj : j < 64) (e : K256.getD j 0 = x) : W.cell? ⟨kb, j, none⟩ = some (.int .u32 (wd x)) := by rw [(h.key.below h.below h.key.lt).cell, encW_get _ _ hj, e]

theorem St2.put8 {w W : World} {r : List W32} {v0 v1 v2 v3 v4 v5 v6 v7 : W32} {kb : Nat} {kt : TypeId} (h : St2 w W r [v0, v1, v2, v3, v4, v5, v6, v7] kb kt) (x0 x1 x2 x3 x4 x5 x6 x7 : W32) :
    St2 w ((((((((W.setCell ⟨w.heap.size + 1, 0, none⟩ (.int .u32 (wd x0))).setCell ⟨w.heap.size + 1, 1, none⟩ (.int .u32 (wd x1))).setCell ⟨w.heap.size + 1, 2, none⟩ (.int .u32 (wd x2))).setCell ⟨w.heap.size + 1, 3, none⟩ (.int .u32 (wd x3))).setCell ⟨w.heap.size + 1, 4, none⟩ (.int .u32 (wd x4))).setCell ⟨w.heap.size + 1, 5, none⟩ (.int .u32 (wd x5))).setCell ⟨w.heap.size + 1, 6, none⟩ (.int .u32 (wd x6))).setCell ⟨w.heap.size + 1, 7, none⟩ (.int .u32 (wd x7))) r [x0, x1, x2, x3, x4, x5, x6, x7] kb kt := by
  refine ⟨?_, ?_, ?_, h.key⟩
  · iterate 8 refine Blk.other ?_ (by simp) _
    exact h.ring
  · have := (((((((h.eight.set 0 (.int .u32 (wd x0))).set 1 (.int .u32 (wd x1))).set 2 (.int .u32 (wd x2))).set 3 (.int .u32 (wd x3))).set 4 (.int .u32 (wd x4))).set 5 (.int .u32 (wd x5))).set 6 (.int .u32 (wd x6))).set 7 (.int .u32 (wd x7))
    simpa [encW, vw] using this
  · iterate 8 refine Below.setCell ?_ (by simp) _
    exact h.below

/-- h with its first j words the sums. -/
def part2 (h v : List W32) (j : Nat) : List W32 := (List.zipWith (· + ·) h v).take j ++ h.drop j
theorem part2_len (h v : List W32) (j : Nat) (hj : j ≤ h.length) (e : h.length = v.length) : (part2 h v j).length = h.length := by simp [part2]; omega
theorem part2_get (h v : List W32) (j : Nat) (hj : j < h.length) (e : h.length = v.length) : (part2 h v j).getD j 0 = h.getD j 0 := by
  have e1 : ((List.zipWith (· + ·) h v).take j).length = j := by simp; omega
  rw [part2, List.getD_eq_getElem?_getD, List.getElem?_append_right (by omega), e1, Nat.sub_self]
  simp [List.getD]
theorem part2_step (h v : List W32) (j : Nat) (hj : j < h.length) (e : h.length = v.length) : part2 h v (j + 1) = (part2 h v j).set j (h.getD j 0 + v.getD j 0) := by
  have e1 : ((List.zipWith (· + ·) h v).take j).length = j := by simp; omega
  have hz : j < (List.zipWith (· + ·) h v).length := by simp; omega
  have hv : j < v.length := by omega
  rw [part2, part2, List.take_succ_eq_append_getElem hz, List.drop_eq_getElem_cons hj, List.set_append, if_neg (by omega), e1, Nat.sub_self, List.set_cons_zero, List.append_assoc]
  simp [List.getD, hj, hv]
theorem part2_all (h v : List W32) (e1 : h.length = 8) (e2 : v.length = 8) : part2 h v 8 = List.zipWith (· + ·) h v := by
  rw [part2, List.take_of_length_le (by simp; omega), List.drop_of_length_le (by omega), List.append_nil]

set_option maxRecDepth 100000 in
set_option maxHeartbeats 2000000 in
theorem sha2_block (hs bl : List W32) (hb kb : Nat) (ht kt : TypeId) (w : World) (h8 : hs.length = 8) (h16 : bl.length = 16) (hH : Blk w hb (encW hs) ht) (hK : Blk w kb (encW K256) kt) (_hne : hb ≠ kb) :
    Calls Tryz.prog 82 #[.agg (encW bl), .pointer (some ⟨hb, 0, none⟩), .pointer (some ⟨kb, 0, none⟩)] w fun e w' => e = .returned (.tuple #[]) ∧ Blk w' hb (encW (comp2 hs bl)) ht ∧ Only hb w w' := by
  have hld := loadVar_blk (P := Tryz.prog) (ty := 124) hH Tryz.underlying124 rfl (by rw [encW_size, h8]; kernel_rfl)
  go_enter Tryz.func82, Tryz.ntmps82
  apply wp_seq
  apply wp_region
  change wpList _ _ _ (_ :: []) _ _
  refine wpList_box rfl _ _ rfl (.agg (encW bl)) rfl ?_
  change Code.wp _ _ _ _ _
  apply wp_seq
  apply wp_region
  change wpList _ _ _ (_ :: _ :: _ :: []) _ _
  have hH1 : Blk (w.alloc (.cells (Value.agg (encW bl)).cells 129)) hb (encW hs) ht := hH.alloc _
  have hinf : (Tryz.prog.info? 124).map (·.size) = some (encW hs).size := by rw [encW_size, h8]; kernel_rfl
  have hs1 : (encW hs).all (·.oneCell') = true := by simp [encW, vw, Value.oneCell']
  refine wpList_load rfl _ _ rfl ⟨hb, 0, none⟩ (.agg (encW hs)) rfl (loadVar_blk hH1 Tryz.underlying124 rfl hinf) ?_
  refine wpList_alloc rfl _ rfl (.agg (encW (List.replicate 8 0))) (fun w => by kernel_rfl) ?_
  refine wpList_store_row rfl _ _ _ rfl (w.alloc (.cells (encW bl) 129)).heap.size (encW hs) (by simp [Act.put, Act.eval]) rfl 124 (encW (List.replicate 8 0)) (Blk.new (w.alloc (.cells (encW bl) 129)) (encW (List.replicate 8 0)) 124) hinf (by rw [encW_size, encW_size, h8]; rfl) hs1 ?_
  change Code.wp _ _ _ _ _
  change Code.wp _ _ _ _ (((w.alloc (.cells (encW bl) 129)).alloc (.cells (encW (List.replicate 8 0)) 124)).setRow (w.alloc (.cells (encW bl) 129)).heap.size (encW hs))
  rw [World.setRow_alloc_new]
  have hB : Below w.heap.size w ((w.alloc (.cells (encW bl) 129)).alloc (.cells (encW hs) 124)) := ((Below.refl _ w).alloc (Nat.le_refl _) _).alloc (by simp) _
  have hr0 : Blk ((w.alloc (.cells (encW bl) 129)).alloc (.cells (encW hs) 124)) w.heap.size (encW bl) 129 := (Blk.new w _ _).alloc _
  have hv0 : Blk ((w.alloc (.cells (encW bl) 129)).alloc (.cells (encW hs) 124)) (w.heap.size + 1) (encW hs) 124 := by
    have := Blk.new (w.alloc (.cells (encW bl) 129)) (encW hs) 124
    simpa using this
  generalize ((w.alloc (.cells (encW bl) 129)).alloc (.cells (encW hs) 124)) = W0 at hB hr0 hv0 ⊢
  have HB := Lib.hid hB; have HR := Lib.hid hr0; have HV := Lib.hid hv0; have HH := Lib.hid hH; have HK := Lib.hid hK; have hsl := hH.lt; have hskl := hK.lt
  have H8 := Lib.hid h8; have H16 := Lib.hid h16
  clear hB hr0 hv0 hH hK hld hH1 hinf hs1 h8 h16
  go_wp2
  go_loopw [16] (fun i wr => ∃ k : Nat, k ≤ 64 ∧ i = .int .i64 k ∧ Hid (St2 w wr (run2 hs bl k).2 (run2 hs bl k).1 kb kt)) (fun i _ => 64 - (intOf i).toNat)
  case atStart => exact ⟨0, Nat.zero_le _, rfl, Lib.hid ⟨HR.out, HV.out, HB.out, HK.out⟩⟩
  case round =>
    obtain ⟨k, hk, rfl, hS⟩ := hrel
    have hmix : Tryz.prog.follows .mixedOrders = true := by kernel_rfl
    by_cases hlt : k < 64
    · have hlr : (run2 hs bl k).2.length = 16 := (run2_len hs bl k).2.trans H16.out
      have hlv : (run2 hs bl k).1.length = 8 := (run2_len hs bl k).1.trans H8.out
      have HE : Hid (run2 hs bl (k + 1) = (step2 (run2 hs bl k).1 (K256.getD k 0) ((ring2 (run2 hs bl k).2 k).getD (k % 16) 0), ring2 (run2 hs bl k).2 k)) := Lib.hid rfl
      generalize (run2 hs bl k).2 = r at hS hlr HE
      generalize (run2 hs bl k).1 = v at hS hlv HE
      have hxor := wd_xor
      have hadd := wd_add
      have hor := wd_or
      have hand := wd_and
      obtain ⟨j0, m0, hj0, e0⟩ : ∃ j : Nat, bits .and .i64 (k : Int) 15 = (j : Int) ∧ j < 16 ∧ j = k % 16 := ⟨k % 16, and15 _ (by omega), by omega, rfl⟩
      have E0 := Lib.hid e0
      clear e0
      have b0 : (j0 : Int) < 16 := by omega
      have hd1 : decide ((k : Int) < 64) = true := decide_eq_true (by omega)
      by_cases hk16 : 16 ≤ k
      · have hd : decide ((16 : Int) ≤ (k : Int)) = true := decide_eq_true (by omega)
        obtain ⟨j15, m15, hj15, e15⟩ : ∃ j : Nat, bits .and .i64 ((k : Int) - 15) 15 = (j : Int) ∧ j < 16 ∧ j = (k - 15) % 16 :=
          ⟨(k - 15) % 16, by rw [show (k : Int) - 15 = ((k - 15 : Nat) : Int) by omega, and15 _ (by omega)], by omega, rfl⟩
        obtain ⟨j2, m2, hj2, e2⟩ : ∃ j : Nat, bits .and .i64 ((k : Int) - 2) 15 = (j : Int) ∧ j < 16 ∧ j = (k - 2) % 16 :=
          ⟨(k - 2) % 16, by rw [show (k : Int) - 2 = ((k - 2 : Nat) : Int) by omega, and15 _ (by omega)], by omega, rfl⟩
        obtain ⟨j7, m7, hj7, e7⟩ : ∃ j : Nat, bits .and .i64 ((k : Int) - 7) 15 = (j : Int) ∧ j < 16 ∧ j = (k - 7) % 16 :=
          ⟨(k - 7) % 16, by rw [show (k : Int) - 7 = ((k - 7 : Nat) : Int) by omega, and15 _ (by omega)], by omega, rfl⟩
        obtain ⟨x15, X15⟩ : ∃ x, Hid (r.getD j15 0 = x) := ⟨_, Lib.hid rfl⟩
        obtain ⟨x2, X2⟩ : ∃ x, Hid (r.getD j2 0 = x) := ⟨_, Lib.hid rfl⟩
        obtain ⟨x7, X7⟩ : ∃ x, Hid (r.getD j7 0 = x) := ⟨_, Lib.hid rfl⟩
        obtain ⟨x0, X0⟩ : ∃ x, Hid (r.getD j0 0 = x) := ⟨_, Lib.hid rfl⟩
        have hring : ring2 r k = r.set j0 (x0 + ((g0 x15 + x7) + g1 x2)) := by
          rw [ring2, if_pos hk16, ← X15.out, ← X2.out, ← X7.out, ← X0.out, e15, e2, e7, E0.out]
        have HRing := Lib.hid hring
        clear e15 e2 e7 hring
        have b15 : (j15 : Int) < 16 := by omega
        have b2 : (j2 : Int) < 16 := by omega
        have b7 : (j7 : Int) < 16 := by omega
        have c15 := hS.out.rc (by omega) X15.out
        have c2 := hS.out.rc (by omega) X2.out
        have s3 : wd x15 / (8 : Int) = wd (x15 >>> (3 : Nat)) := wd_shr x15 3
        have s10 : wd x2 / (1024 : Int) = wd (x2 >>> (10 : Nat)) := wd_shr x2 10
        go_wp2_with fail
        go_quiet (fail)
        generalize hW1 : wr.drewN nq = W1
        have hS1 : Hid (St2 w W1 r v kb kt) := Lib.hid (by rw [← hW1]; exact hS.out.drewN nq)
        have c7 := hS1.out.rc (by omega) X7.out
        have c0 := hS1.out.rc (by omega) X0.out
        have f0 := hS1.out.ring.free j0
        clear hW1 c15 c2 hS
        go_wp2_with (go_at_call 83; refine (rot_any _ _ _).mono ?_; rintro e w' ⟨rfl, rfl⟩)
        refine wp_draw 14 (C := fun w' => ∃ n, w' = W1.drewN n) hmix (by kernel_rfl) (by kernel_rfl) (by kernel_rfl) (by simp) ⟨1, rfl⟩ ?_
        simp only [List.take_succ_cons, List.take_zero, List.drop_succ_cons, List.drop_zero]
        repeat (go_big_quiet_step (fail))
        refine wpQuiet_nil ?_
        intro _ hw'
        obtain ⟨nq, hw''⟩ := hw'
        subst hw''
        go_wp2_with fail
        have hS2 : St2 w ((W1.drewN nq).setCell ⟨w.heap.size, j0, none⟩ (.int .u32 (wd (x0 + ((g0 x15 + x7) + g1 x2))))) (ring2 r k) v kb kt := by
          rw [HRing.out]
          refine ⟨by rw [← encW_set]; exact Blk.set (w := W1.drewN nq) hS1.out.ring _ _, Blk.other (w := W1.drewN nq) hS1.out.eight (by simp) _, Below.setCell (w := W1.drewN nq) (hS1.out.drewN nq).below (by exact Nat.le_refl _) _, hS1.out.key⟩
        have hrl : (ring2 r k).length = 16 := (ring2_len r k).trans hlr
        change St2 w ((W1.drewN nq).setCell ⟨w.heap.size, j0, none⟩ (.int .u32 (wd (x0 + ((((rotW x15 (rotS (-7)) ^^^ rotW x15 (rotS (-18))) ^^^ x15 >>> (3 : Nat)) + x7) + ((rotW x2 (rotS (-17)) ^^^ rotW x2 (rotS (-19))) ^^^ x2 >>> (10 : Nat))))))) (ring2 r k) v kb kt at hS2
        generalize (W1.drewN nq).setCell _ _ = W2 at hS2 ⊢
        clear hS1 c7 c0 f0 s3 s10 HRing X15 X2 X7 X0 m15 m2 m7 b15 b2 b7 hj15 hj2 hj7 hd
        have HS := Lib.hid hS2
        clear hS2 hlr
        obtain ⟨v0, v1, v2, v3, v4, v5, v6, v7, hv⟩ := len8 v hlv
        subst hv
        clear hlv
        obtain ⟨y, Y⟩ : ∃ y, Hid ((ring2 r k).getD j0 0 = y) := ⟨_, Lib.hid rfl⟩
        obtain ⟨kk, KK⟩ : ∃ y, Hid (K256.getD k 0 = y) := ⟨_, Lib.hid rfl⟩
        have HN : Hid (run2 hs bl (k + 1) = ([tOf v4 v5 v6 v7 kk y + uOf v0 v1 v2, v0, v1, v2, v3 + tOf v4 v5 v6 v7 kk y, v4, v5, v6], (ring2 r k))) := Lib.hid (by rw [HE.out, ← Y.out, ← KK.out, E0.out]; rfl)
        clear HE
        have a0 : W2.cell? ⟨w.heap.size + 1, 0, none⟩ = some (.int .u32 (wd v0)) := HS.out.vc 0 (by simp) rfl
        have a4 : W2.cell? ⟨w.heap.size + 1, 4, none⟩ = some (.int .u32 (wd v4)) := HS.out.vc 4 (by simp) rfl
        go_quiet (fail)
        generalize hW3 : W2.drewN nq = W3
        have HS3 : Hid (St2 w W3 (ring2 r k) [v0, v1, v2, v3, v4, v5, v6, v7] kb kt) := Lib.hid (by rw [← hW3]; exact HS.out.drewN nq)
        clear hW3 HS a0 a4
        have a5 : W3.cell? ⟨w.heap.size + 1, 5, none⟩ = some (.int .u32 (wd v5)) := HS3.out.vc 5 (by simp) rfl
        have a6 : W3.cell? ⟨w.heap.size + 1, 6, none⟩ = some (.int .u32 (wd v6)) := HS3.out.vc 6 (by simp) rfl
        have a7 : W3.cell? ⟨w.heap.size + 1, 7, none⟩ = some (.int .u32 (wd v7)) := HS3.out.vc 7 (by simp) rfl
        have ak := HS3.out.kc hlt KK.out
        have ay := HS3.out.rc (by omega) Y.out
        have hk64 : (k : Int) < 64 := by omega
        go_wp2_with fail
        go_quiet ((go_at_call 84; exact Calls.quiet_of_same ((mix_any _ _ _ _ _ (by omega) (by omega) (by omega)).mono fun e w' h => ⟨h.1, h.2.symm⟩)))
        generalize hW4 : W3.drewN nq = W4
        have HS4 : Hid (St2 w W4 (ring2 r k) [v0, v1, v2, v3, v4, v5, v6, v7] kb kt) := Lib.hid (by rw [← hW4]; exact HS3.out.drewN nq)
        clear hW4 HS3 a5 a6 a7 ak ay hk64
        have a1 : W4.cell? ⟨w.heap.size + 1, 1, none⟩ = some (.int .u32 (wd v1)) := HS4.out.vc 1 (by simp) rfl
        have a2 : W4.cell? ⟨w.heap.size + 1, 2, none⟩ = some (.int .u32 (wd v2)) := HS4.out.vc 2 (by simp) rfl
        go_wp2_with fail
        go_quiet ((go_at_call 84; exact Calls.quiet_of_same ((mix_any _ _ _ _ _ (by omega) (by omega) (by omega)).mono fun e w' h => ⟨h.1, h.2.symm⟩)))
        generalize hW5 : W4.drewN nq = W5
        have HS5 : Hid (St2 w W5 (ring2 r k) [v0, v1, v2, v3, v4, v5, v6, v7] kb kt) := Lib.hid (by rw [← hW5]; exact HS4.out.drewN nq)
        clear hW5 HS4 a1 a2
        have a0 : W5.cell? ⟨w.heap.size + 1, 0, none⟩ = some (.int .u32 (wd v0)) := HS5.out.vc 0 (by simp) rfl
        have a1 : W5.cell? ⟨w.heap.size + 1, 1, none⟩ = some (.int .u32 (wd v1)) := HS5.out.vc 1 (by simp) rfl
        have a2 : W5.cell? ⟨w.heap.size + 1, 2, none⟩ = some (.int .u32 (wd v2)) := HS5.out.vc 2 (by simp) rfl
        have a3 : W5.cell? ⟨w.heap.size + 1, 3, none⟩ = some (.int .u32 (wd v3)) := HS5.out.vc 3 (by simp) rfl
        have a4 : W5.cell? ⟨w.heap.size + 1, 4, none⟩ = some (.int .u32 (wd v4)) := HS5.out.vc 4 (by simp) rfl
        have a5 : W5.cell? ⟨w.heap.size + 1, 5, none⟩ = some (.int .u32 (wd v5)) := HS5.out.vc 5 (by simp) rfl
        have a6 : W5.cell? ⟨w.heap.size + 1, 6, none⟩ = some (.int .u32 (wd v6)) := HS5.out.vc 6 (by simp) rfl
        have a7 : W5.cell? ⟨w.heap.size + 1, 7, none⟩ = some (.int .u32 (wd v7)) := HS5.out.vc 7 (by simp) rfl
        have fr := HS5.out.eight.free
        go_wp2_with fail
        go_roundw
        case rel =>
          refine ⟨k + 1, by omega, by go_num, Lib.hid ?_⟩
          rw [HN.out]
          exact HS5.out.put8 _ _ _ _ _ _ _ _
        case measure => simp [intOf]; omega
      · have hd : decide ((16 : Int) ≤ (k : Int)) = false := decide_eq_false (by omega)
        have hrl : r.length = 16 := hlr
        have hring : ring2 r k = r := by rw [ring2, if_neg hk16]
        rw [hring] at HE
        clear hring
        have HS := hS
        clear hS hlr
        go_wp2_with fail
        obtain ⟨v0, v1, v2, v3, v4, v5, v6, v7, hv⟩ := len8 v hlv
        subst hv
        clear hlv
        obtain ⟨y, Y⟩ : ∃ y, Hid (r.getD j0 0 = y) := ⟨_, Lib.hid rfl⟩
        obtain ⟨kk, KK⟩ : ∃ y, Hid (K256.getD k 0 = y) := ⟨_, Lib.hid rfl⟩
        have HN : Hid (run2 hs bl (k + 1) = ([tOf v4 v5 v6 v7 kk y + uOf v0 v1 v2, v0, v1, v2, v3 + tOf v4 v5 v6 v7 kk y, v4, v5, v6], r)) := Lib.hid (by rw [HE.out, ← Y.out, ← KK.out, E0.out]; rfl)
        clear HE
        have a0 : wr.cell? ⟨w.heap.size + 1, 0, none⟩ = some (.int .u32 (wd v0)) := HS.out.vc 0 (by simp) rfl
        have a4 : wr.cell? ⟨w.heap.size + 1, 4, none⟩ = some (.int .u32 (wd v4)) := HS.out.vc 4 (by simp) rfl
        go_quiet (fail)
        generalize hW3 : wr.drewN nq = W3
        have HS3 : Hid (St2 w W3 r [v0, v1, v2, v3, v4, v5, v6, v7] kb kt) := Lib.hid (by rw [← hW3]; exact HS.out.drewN nq)
        clear hW3 HS a0 a4
        have a5 : W3.cell? ⟨w.heap.size + 1, 5, none⟩ = some (.int .u32 (wd v5)) := HS3.out.vc 5 (by simp) rfl
        have a6 : W3.cell? ⟨w.heap.size + 1, 6, none⟩ = some (.int .u32 (wd v6)) := HS3.out.vc 6 (by simp) rfl
        have a7 : W3.cell? ⟨w.heap.size + 1, 7, none⟩ = some (.int .u32 (wd v7)) := HS3.out.vc 7 (by simp) rfl
        have ak := HS3.out.kc hlt KK.out
        have ay := HS3.out.rc (by omega) Y.out
        have hk64 : (k : Int) < 64 := by omega
        go_wp2_with fail
        go_quiet ((go_at_call 84; exact Calls.quiet_of_same ((mix_any _ _ _ _ _ (by omega) (by omega) (by omega)).mono fun e w' h => ⟨h.1, h.2.symm⟩)))
        generalize hW4 : W3.drewN nq = W4
        have HS4 : Hid (St2 w W4 r [v0, v1, v2, v3, v4, v5, v6, v7] kb kt) := Lib.hid (by rw [← hW4]; exact HS3.out.drewN nq)
        clear hW4 HS3 a5 a6 a7 ak ay hk64
        have a1 : W4.cell? ⟨w.heap.size + 1, 1, none⟩ = some (.int .u32 (wd v1)) := HS4.out.vc 1 (by simp) rfl
        have a2 : W4.cell? ⟨w.heap.size + 1, 2, none⟩ = some (.int .u32 (wd v2)) := HS4.out.vc 2 (by simp) rfl
        go_wp2_with fail
        go_quiet ((go_at_call 84; exact Calls.quiet_of_same ((mix_any _ _ _ _ _ (by omega) (by omega) (by omega)).mono fun e w' h => ⟨h.1, h.2.symm⟩)))
        generalize hW5 : W4.drewN nq = W5
        have HS5 : Hid (St2 w W5 r [v0, v1, v2, v3, v4, v5, v6, v7] kb kt) := Lib.hid (by rw [← hW5]; exact HS4.out.drewN nq)
        clear hW5 HS4 a1 a2
        have a0 : W5.cell? ⟨w.heap.size + 1, 0, none⟩ = some (.int .u32 (wd v0)) := HS5.out.vc 0 (by simp) rfl
        have a1 : W5.cell? ⟨w.heap.size + 1, 1, none⟩ = some (.int .u32 (wd v1)) := HS5.out.vc 1 (by simp) rfl
        have a2 : W5.cell? ⟨w.heap.size + 1, 2, none⟩ = some (.int .u32 (wd v2)) := HS5.out.vc 2 (by simp) rfl
        have a3 : W5.cell? ⟨w.heap.size + 1, 3, none⟩ = some (.int .u32 (wd v3)) := HS5.out.vc 3 (by simp) rfl
        have a4 : W5.cell? ⟨w.heap.size + 1, 4, none⟩ = some (.int .u32 (wd v4)) := HS5.out.vc 4 (by simp) rfl
        have a5 : W5.cell? ⟨w.heap.size + 1, 5, none⟩ = some (.int .u32 (wd v5)) := HS5.out.vc 5 (by simp) rfl
        have a6 : W5.cell? ⟨w.heap.size + 1, 6, none⟩ = some (.int .u32 (wd v6)) := HS5.out.vc 6 (by simp) rfl
        have a7 : W5.cell? ⟨w.heap.size + 1, 7, none⟩ = some (.int .u32 (wd v7)) := HS5.out.vc 7 (by simp) rfl
        have fr := HS5.out.eight.free
        go_wp2_with fail
        go_roundw
        case rel =>
          refine ⟨k + 1, by omega, by go_num, Lib.hid ?_⟩
          rw [HN.out]
          exact HS5.out.put8 _ _ _ _ _ _ _ _
        case measure => simp [intOf]; omega
    · obtain rfl : k = 64 := by omega
      have hlv : (run2 hs bl 64).1.length = 8 := (run2_len hs bl 64).1.trans H8.out
      have HC : Hid (comp2 hs bl = part2 hs (run2 hs bl 64).1 8) := Lib.hid (part2_all hs _ H8.out hlv).symm
      generalize (run2 hs bl 64).1 = v at hS hlv HC
      have hW : Only hb w wr := Only.of_below hS.out.below
      have hH1 : Blk wr hb (encW hs) ht := HH.out.below hS.out.below hsl
      have hv1 := hS.out.eight
      have HW := Lib.hid hW; have HH1 := Lib.hid hH1; have HV1 := Lib.hid hv1
      have H8' := H8.out
      clear hW hH1 hv1 hS HH HK H16 HV HR HB
      go_wp2_with fail
      go_loopw [125] (fun i ws => ∃ j : Nat, j ≤ 8 ∧ i = .int .i64 j ∧ Hid (Blk ws hb (encW (part2 hs v j)) ht) ∧ Hid (Blk ws (w.heap.size + 1) (encW v) 124) ∧ Hid (Only hb w ws)) (fun i _ => 8 - (intOf i).toNat)
      case atStart => exact ⟨0, Nat.zero_le _, rfl, HH1, HV1, HW⟩
      case round =>
        obtain ⟨j, hj, rfl, hP, hV, hO⟩ := hrel
        by_cases hlt : j < 8
        · have hd1 : decide ((j : Int) < 8) = true := decide_eq_true (by omega)
          have hj8 : (j : Int) < 8 := by omega
          have cp : wr.cell? ⟨hb, j, none⟩ = some (.int .u32 (wd (hs.getD j 0))) := by rw [hP.out.cell, encW_get _ _ (by rw [part2_len _ _ _ (by omega) (by omega)]; omega), part2_get _ _ _ (by omega) (by omega)]
          have cv : wr.cell? ⟨w.heap.size + 1, j, none⟩ = some (.int .u32 (wd (v.getD j 0))) := by rw [hV.out.cell, encW_get _ _ (by omega)]
          have HX : Hid (part2 hs v (j + 1) = (part2 hs v j).set j (hs.getD j 0 + v.getD j 0)) := Lib.hid (part2_step hs v j (by omega) (by omega))
          have fp := hP.out.free j
          generalize hs.getD j 0 = x at cp HX
          generalize v.getD j 0 = y at cv HX
          have hadd := wd_add
          go_wp2_with fail
          refine wp_draw 7 (C := fun w' => ∃ n, w' = wr.drewN n) hmix (by kernel_rfl) (by kernel_rfl) (by kernel_rfl) (by simp) ⟨1, rfl⟩ ?_
          simp only [List.take_succ_cons, List.take_zero, List.drop_succ_cons, List.drop_zero]
          repeat (go_big_quiet_step (fail))
          refine wpQuiet_nil ?_
          intro _ hw'
          obtain ⟨nq, hw''⟩ := hw'
          subst hw''
          go_wp2_with fail
          go_roundw
          case rel =>
            refine ⟨j + 1, by omega, by go_num, Lib.hid ?_, Lib.hid (Blk.other (w := wr.drewN nq) hV.out (by simp; omega) _), Lib.hid (Only.trans (show Only hb w (wr.drewN nq) from ⟨hO.out.os, hO.out.tape, hO.out.output, hO.out.size, hO.out.block⟩) (Only.setCell ⟨hb, j, none⟩ rfl _))⟩
            rw [HX.out, ← encW_set]
            exact Blk.set (w := wr.drewN nq) hP.out _ _
          case measure => simp [intOf]; omega
        · obtain rfl : j = 8 := by omega
          go_wp2_with fail
          go_end0
          exact ⟨rfl, by rw [HC.out]; exact hP.out, hO.out⟩
end Go.Proofs.YtdmfbcfhfopipaaGreatDoor
