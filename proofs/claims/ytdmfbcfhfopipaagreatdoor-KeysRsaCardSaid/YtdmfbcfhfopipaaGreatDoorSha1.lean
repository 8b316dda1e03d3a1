/- SHA-1: what one block does; digest.Sum1's closure, walked. -/
import Derived.Test.YtdmfbcfhfopipaaGreatDoorSha2
namespace Go.Proofs.YtdmfbcfhfopipaaGreatDoor
open Go.RowKit

def ring1 (r : List W32) (i : Nat) : List W32 :=
  if 16 ≤ i then r.set (i % 16) (rotW (((r.getD ((i - 3) % 16) 0 ^^^ r.getD ((i - 8) % 16) 0) ^^^ r.getD ((i - 14) % 16) 0) ^^^ r.getD (i % 16) 0) (rotS 1)) else r
def f1 (i : Nat) (b c d : W32) : W32 :=
  if i / 20 = 0 then (d ^^^ (b &&& (c ^^^ d))) + 1518500249#32
  else if i / 20 = 1 then ((b ^^^ c) ^^^ d) + 1859775393#32
  else if i / 20 = 2 then ((b &&& c) ||| (d &&& (b ||| c))) + 2400959708#32
  else ((b ^^^ c) ^^^ d) + 3395469782#32
theorem f1_a (k : Nat) (b c d : W32) (h : k < 20) : f1 k b c d = (d ^^^ (b &&& (c ^^^ d))) + 1518500249#32 := by unfold f1; rw [if_pos (show k / 20 = 0 by omega)]
theorem f1_b (k : Nat) (b c d : W32) (h : 20 ≤ k ∧ k < 40) : f1 k b c d = ((b ^^^ c) ^^^ d) + 1859775393#32 := by unfold f1; rw [if_neg (show ¬ k / 20 = 0 by omega), if_pos (show k / 20 = 1 by omega)]
theorem f1_c (k : Nat) (b c d : W32) (h : 40 ≤ k ∧ k < 60) : f1 k b c d = ((b &&& c) ||| (d &&& (b ||| c))) + 2400959708#32 := by unfold f1; rw [if_neg (show ¬ k / 20 = 0 by omega), if_neg (show ¬ k / 20 = 1 by omega), if_pos (show k / 20 = 2 by omega)]
theorem f1_d (k : Nat) (b c d : W32) (h : 60 ≤ k ∧ k < 80) : f1 k b c d = ((b ^^^ c) ^^^ d) + 3395469782#32 := by unfold f1; rw [if_neg (show ¬ k / 20 = 0 by omega), if_neg (show ¬ k / 20 = 1 by omega), if_neg (show ¬ k / 20 = 2 by omega)]
def t1 (v0 fv v4 w : W32) : W32 := ((rotW v0 (rotS 5) + fv) + v4) + w
def step1 (v : List W32) (i : Nat) (w : W32) : List W32 :=
  match v with
  | [v0, v1, v2, v3, v4] => [t1 v0 (f1 i v1 v2 v3) v4 w, v0, rotW v1 (rotS 30), v2, v3]
  | v => v
def run1 (h b : List W32) : Nat → List W32 × List W32
  | 0 => (h, b)
  | n + 1 => (step1 (run1 h b n).1 n ((ring1 (run1 h b n).2 n).getD (n % 16) 0), ring1 (run1 h b n).2 n)
def comp1 (h b : List W32) : List W32 := List.zipWith (· + ·) h (run1 h b 80).1

theorem ring1_len (r : List W32) (i : Nat) : (ring1 r i).length = r.length := by unfold ring1; split <;> simp
theorem step1_len (v : List W32) (i : Nat) (w : W32) : (step1 v i w).length = v.length := by unfold step1; split <;> simp
theorem run1_len (h b : List W32) (n : Nat) : (run1 h b n).1.length = h.length ∧ (run1 h b n).2.length = b.length := by
  induction n with
  | zero => exact ⟨rfl, rfl⟩
  | succ n ih => exact ⟨(step1_len _ _ _).trans ih.1, (ring1_len _ _).trans ih.2⟩
theorem comp1_len (h b : List W32) : (comp1 h b).length = h.length := by simp [comp1, (run1_len h b 80).1]
theorem len5 (v : List W32) (h : v.length = 5) : ∃ v0 v1 v2 v3 v4, v = [v0, v1, v2, v3, v4] := by
  match v, h with
  | [v0, v1, v2, v3, v4], _ => exact ⟨v0, v1, v2, v3, v4, rfl⟩
theorem part2_all1 (h v : List W32) (e1 : h.length = 5) (e2 : v.length = 5) : part2 h v 5 = List.zipWith (· + ·) h v := by
  rw [part2, List.take_of_length_le (by simp; omega), List.drop_of_length_le (by omega), List.append_nil]

structure St1 (w W : World) (r v : List W32) : Prop where
  ring : Blk W w.heap.size (encW r) 129
  five : Blk W (w.heap.size + 1) (encW v) 189
  below : Below w.heap.size w W
theorem St1.drewN {w W : World} {r v : List W32} (h : St1 w W r v) (n : Nat) : St1 w (W.drewN n) r v := ⟨h.ring, h.five, ⟨h.below.os, h.below.tape, h.below.output, h.below.size, h.below.block⟩⟩
theorem St1.rc {w W : World} {r v : List W32} (h : St1 w W r v) {j : Nat} {x : W32} (hj : j < r.length) (e : r.getD j 0 = x) : W.cell? ⟨w.heap.size, j, none⟩ = some (.int .u32 (wd x)) := by rw [h.ring.cell, encW_get _ _ hj, e]
theorem St1.vc {w W : World} {r v : List W32} (h : St1 w W r v) (j : Nat) {x : W32} (hj : j < v.length) (e : v.getD j 0 = x) : W.cell? ⟨w.heap.size + 1, j, none⟩ = some (.int .u32 (wd x)) := by rw [h.five.cell, encW_get _ _ hj, e]
theorem St1.put5 {w W : World} {r : List W32} {v0 v1 v2 v3 v4 : W32} (h : St1 w W r [v0, v1, v2, v3, v4]) (x0 x1 x2 x3 x4 : W32) :
    St1 w (((((W.setCell ⟨w.heap.size + 1, 0, none⟩ (.int .u32 (wd x0))).setCell ⟨w.heap.size + 1, 1, none⟩ (.int .u32 (wd x1))).setCell ⟨w.heap.size + 1, 2, none⟩ (.int .u32 (wd x2))).setCell ⟨w.heap.size + 1, 3, none⟩ (.int .u32 (wd x3))).setCell ⟨w.heap.size + 1, 4, none⟩ (.int .u32 (wd x4))) r [x0, x1, x2, x3, x4] := by
  refine ⟨?_, ?_, ?_⟩
  · iterate 5 refine Blk.other ?_ (by simp) _
    exact h.ring
  · have := ((((h.five.set 0 (.int .u32 (wd x0))).set 1 (.int .u32 (wd x1))).set 2 (.int .u32 (wd x2))).set 3 (.int .u32 (wd x3))).set 4 (.int .u32 (wd x4))
    simpa [encW, vw] using this
  · iterate 5 refine Below.setCell ?_ (by simp) _
    exact h.below



set_option maxRecDepth 100000 in
set_option maxHeartbeats 4000000 in
theorem sha1_block (hs bl : List W32) (hb : Nat) (ht : TypeId) (w : World) (h5 : hs.length = 5) (h16 : bl.length = 16) (hH : Blk w hb (encW hs) ht) :
    Calls Tryz.prog 151 #[.agg (encW bl), .pointer (some ⟨hb, 0, none⟩)] w fun e w' => e = .returned (.tuple #[]) ∧ Blk w' hb (encW (comp1 hs bl)) ht ∧ Only hb w w' := by
  go_enter Tryz.func151, Tryz.ntmps151
  apply wp_seq
  apply wp_region
  change wpList _ _ _ (_ :: []) _ _
  refine wpList_box rfl _ _ rfl (.agg (encW bl)) rfl ?_
  change Code.wp _ _ _ _ _
  apply wp_seq
  apply wp_region
  change wpList _ _ _ (_ :: _ :: _ :: []) _ _
  have hH1 : Blk (w.alloc (.cells (Value.agg (encW bl)).cells 129)) hb (encW hs) ht := hH.alloc _
  have hinf : (Tryz.prog.info? 189).map (·.size) = some (encW hs).size := by rw [encW_size, h5]; kernel_rfl
  have hs1 : (encW hs).all (·.oneCell') = true := by simp [encW, vw, Value.oneCell']
  refine wpList_load rfl _ _ rfl ⟨hb, 0, none⟩ (.agg (encW hs)) rfl (loadVar_blk hH1 Tryz.underlying189 rfl hinf) ?_
  refine wpList_alloc rfl _ rfl (.agg (encW (List.replicate 5 0))) (fun w => by kernel_rfl) ?_
  refine wpList_store_row rfl _ _ _ rfl (w.alloc (.cells (encW bl) 129)).heap.size (encW hs) (by simp [Act.put, Act.eval]) rfl 189 (encW (List.replicate 5 0)) (Blk.new (w.alloc (.cells (encW bl) 129)) (encW (List.replicate 5 0)) 189) hinf (by rw [encW_size, encW_size, h5]; rfl) hs1 ?_
  change Code.wp _ _ _ _ _
  change Code.wp _ _ _ _ (((w.alloc (.cells (encW bl) 129)).alloc (.cells (encW (List.replicate 5 0)) 189)).setRow (w.alloc (.cells (encW bl) 129)).heap.size (encW hs))
  rw [World.setRow_alloc_new]
  have hB : Below w.heap.size w ((w.alloc (.cells (encW bl) 129)).alloc (.cells (encW hs) 189)) := ((Below.refl _ w).alloc (Nat.le_refl _) _).alloc (by simp) _
  have hr0 : Blk ((w.alloc (.cells (encW bl) 129)).alloc (.cells (encW hs) 189)) w.heap.size (encW bl) 129 := (Blk.new w _ _).alloc _
  have hv0 : Blk ((w.alloc (.cells (encW bl) 129)).alloc (.cells (encW hs) 189)) (w.heap.size + 1) (encW hs) 189 := by
    have := Blk.new (w.alloc (.cells (encW bl) 129)) (encW hs) 189
    simpa using this
  generalize ((w.alloc (.cells (encW bl) 129)).alloc (.cells (encW hs) 189)) = W0 at hB hr0 hv0 ⊢
  have HB := Lib.hid hB; have HR := Lib.hid hr0; have HV := Lib.hid hv0; have HH := Lib.hid hH; have hsl := hH.lt
  have H5 := Lib.hid h5; have H16 := Lib.hid h16
  clear hB hr0 hv0 hH hH1 hinf hs1 h5 h16
  go_wp2
  go_loopw [12] (fun i wr => ∃ k : Nat, k ≤ 80 ∧ i = .int .i64 k ∧ Hid (St1 w wr (run1 hs bl k).2 (run1 hs bl k).1)) (fun i _ => 80 - (intOf i).toNat)
  case atStart => exact ⟨0, Nat.zero_le _, rfl, Lib.hid ⟨HR.out, HV.out, HB.out⟩⟩
  case round =>
    obtain ⟨k, hk, rfl, hS⟩ := hrel
    have hmix : Tryz.prog.follows .mixedOrders = true := by kernel_rfl
    by_cases hlt : k < 80
    · have hlr : (run1 hs bl k).2.length = 16 := (run1_len hs bl k).2.trans H16.out
      have hlv : (run1 hs bl k).1.length = 5 := (run1_len hs bl k).1.trans H5.out
      have HE : Hid (run1 hs bl (k + 1) = (step1 (run1 hs bl k).1 k ((ring1 (run1 hs bl k).2 k).getD (k % 16) 0), ring1 (run1 hs bl k).2 k)) := Lib.hid rfl
      generalize (run1 hs bl k).2 = r at hS hlr HE
      generalize (run1 hs bl k).1 = v at hS hlv HE
      have hxor := wd_xor
      have hadd := wd_add
      have hor := wd_or
      have hand := wd_and
      have l0 : ∀ x : W32, IntKind.u32.wrap (wd x + 1518500249) = wd (x + 1518500249#32) := fun x => wd_add x 1518500249#32
      have l1 : ∀ x : W32, IntKind.u32.wrap (wd x + 1859775393) = wd (x + 1859775393#32) := fun x => wd_add x 1859775393#32
      have l2 : ∀ x : W32, IntKind.u32.wrap (wd x + 2400959708) = wd (x + 2400959708#32) := fun x => wd_add x 2400959708#32
      have l3 : ∀ x : W32, IntKind.u32.wrap (wd x + 3395469782) = wd (x + 3395469782#32) := fun x => wd_add x 3395469782#32
      obtain ⟨j0, m0, hj0, e0⟩ : ∃ j : Nat, bits .and .i64 (k : Int) 15 = (j : Int) ∧ j < 16 ∧ j = k % 16 := ⟨k % 16, and15 _ (by omega), by omega, rfl⟩
      have E0 := Lib.hid e0
      clear e0
      have b0 : (j0 : Int) < 16 := by omega
      have hd1 : decide ((k : Int) < 80) = true := decide_eq_true (by omega)
      by_cases hk16 : 16 ≤ k
      · have hd : decide ((16 : Int) ≤ (k : Int)) = true := decide_eq_true (by omega)
        obtain ⟨j3, m3, hj3, e3⟩ : ∃ j : Nat, bits .and .i64 ((k : Int) - 3) 15 = (j : Int) ∧ j < 16 ∧ j = (k - 3) % 16 :=
          ⟨(k - 3) % 16, by rw [show (k : Int) - 3 = ((k - 3 : Nat) : Int) by omega, and15 _ (by omega)], by omega, rfl⟩
        obtain ⟨j8, m8, hj8, e8⟩ : ∃ j : Nat, bits .and .i64 ((k : Int) - 8) 15 = (j : Int) ∧ j < 16 ∧ j = (k - 8) % 16 :=
          ⟨(k - 8) % 16, by rw [show (k : Int) - 8 = ((k - 8 : Nat) : Int) by omega, and15 _ (by omega)], by omega, rfl⟩
        obtain ⟨j14, m14, hj14, e14⟩ : ∃ j : Nat, bits .and .i64 ((k : Int) - 14) 15 = (j : Int) ∧ j < 16 ∧ j = (k - 14) % 16 :=
          ⟨(k - 14) % 16, by rw [show (k : Int) - 14 = ((k - 14 : Nat) : Int) by omega, and15 _ (by omega)], by omega, rfl⟩
        obtain ⟨x3, X3⟩ : ∃ x, Hid (r.getD j3 0 = x) := ⟨_, Lib.hid rfl⟩
        obtain ⟨x8, X8⟩ : ∃ x, Hid (r.getD j8 0 = x) := ⟨_, Lib.hid rfl⟩
        obtain ⟨x14, X14⟩ : ∃ x, Hid (r.getD j14 0 = x) := ⟨_, Lib.hid rfl⟩
        obtain ⟨x0, X0⟩ : ∃ x, Hid (r.getD j0 0 = x) := ⟨_, Lib.hid rfl⟩
        have hring : ring1 r k = r.set j0 (rotW (((x3 ^^^ x8) ^^^ x14) ^^^ x0) (rotS 1)) := by
          rw [ring1, if_pos hk16, ← X3.out, ← X8.out, ← X14.out, ← X0.out, e3, e8, e14, E0.out]
        have HRing := Lib.hid hring
        clear e3 e8 e14 hring
        have b3 : (j3 : Int) < 16 := by omega
        have b8 : (j8 : Int) < 16 := by omega
        have b14 : (j14 : Int) < 16 := by omega
        have c3 := hS.out.rc (by omega) X3.out
        have c8 := hS.out.rc (by omega) X8.out
        have c14 := hS.out.rc (by omega) X14.out
        have c0 := hS.out.rc (by omega) X0.out
        have f0 := hS.out.ring.free j0
        go_wp2_with fail
        refine wp_draw 25 (C := fun w' => ∃ n, w' = wr.drewN n) hmix (by kernel_rfl) (by kernel_rfl) (by kernel_rfl) (by simp) ⟨1, rfl⟩ ?_
        simp only [List.take_succ_cons, List.take_zero, List.drop_succ_cons, List.drop_zero]
        repeat (go_big_quiet_step ((go_at_call 83; exact Calls.quiet_of_same ((rot_any _ _ _).mono fun e w' h => ⟨h.1, h.2.symm⟩))))
        refine wpQuiet_nil ?_
        intro _ hw'
        obtain ⟨nq, hw''⟩ := hw'
        subst hw''
        go_wp2_with fail
        have hS2 : St1 w ((wr.drewN nq).setCell ⟨w.heap.size, j0, none⟩ (.int .u32 (wd (rotW (((x3 ^^^ x8) ^^^ x14) ^^^ x0) (rotS 1))))) (ring1 r k) v := by
          rw [HRing.out]
          refine ⟨by rw [← encW_set]; exact Blk.set (w := wr.drewN nq) hS.out.ring _ _, Blk.other (w := wr.drewN nq) hS.out.five (by simp) _, Below.setCell (w := wr.drewN nq) (hS.out.drewN nq).below (by exact Nat.le_refl _) _⟩
        have hrl : (ring1 r k).length = 16 := (ring1_len r k).trans hlr
        generalize (wr.drewN nq).setCell _ _ = W2 at hS2 ⊢
        clear hS c3 c8 c14 c0 f0 HRing X3 X8 X14 X0 m3 m8 m14 b3 b8 b14 hj3 hj8 hj14 hd
        have HS := Lib.hid hS2
        clear hS2 hlr
        obtain ⟨v0, v1, v2, v3, v4, hv⟩ := len5 v hlv
        subst hv
        clear hlv
        obtain ⟨y, Y⟩ : ∃ y, Hid ((ring1 r k).getD j0 0 = y) := ⟨_, Lib.hid rfl⟩
        have HN : Hid (run1 hs bl (k + 1) = ([t1 v0 (f1 k v1 v2 v3) v4 y, v0, rotW v1 (rotS 30), v2, v3], (ring1 r k))) := Lib.hid (by rw [HE.out, ← Y.out, E0.out]; rfl)
        clear HE
        have a1 : W2.cell? ⟨w.heap.size + 1, 1, none⟩ = some (.int .u32 (wd v1)) := HS.out.vc 1 (by simp) rfl
        have a2 : W2.cell? ⟨w.heap.size + 1, 2, none⟩ = some (.int .u32 (wd v2)) := HS.out.vc 2 (by simp) rfl
        have a3 : W2.cell? ⟨w.heap.size + 1, 3, none⟩ = some (.int .u32 (wd v3)) := HS.out.vc 3 (by simp) rfl
        go_quiet (fail)
        clear a1 a2 a3
        generalize hW1 : W2.drewN nq = W3
        have HS3 : Hid (St1 w W3 (ring1 r k) [v0, v1, v2, v3, v4]) := Lib.hid (by rw [← hW1]; exact HS.out.drewN nq)
        clear hW1 HS
        rcases Nat.lt_or_ge k 20 with h20 | h20
        · have hq : (k : Int) / 20 = 0 := by omega
          have HF : Hid (f1 k v1 v2 v3 = (v3 ^^^ (v1 &&& (v2 ^^^ v3))) + 1518500249#32) := Lib.hid (f1_a k v1 v2 v3 (by omega))
          go_wp2_with fail
          have a0 : W3.cell? ⟨w.heap.size + 1, 0, none⟩ = some (.int .u32 (wd v0)) := HS3.out.vc 0 (by simp) rfl
          have a4 : W3.cell? ⟨w.heap.size + 1, 4, none⟩ = some (.int .u32 (wd v4)) := HS3.out.vc 4 (by simp) rfl
          have ay := HS3.out.rc (by omega) Y.out
          rw [← HF.out]
          generalize f1 k v1 v2 v3 = fv at HN ⊢
          clear HF hq
          go_quiet ((go_at_call 83; exact Calls.quiet_of_same ((rot_any _ _ _).mono fun e w' h => ⟨h.1, h.2.symm⟩)))
          clear a0 a4 ay
          generalize hW1 : W3.drewN nq = W4
          have HS4 : Hid (St1 w W4 (ring1 r k) [v0, v1, v2, v3, v4]) := Lib.hid (by rw [← hW1]; exact HS3.out.drewN nq)
          clear hW1 HS3
          have a0 : W4.cell? ⟨w.heap.size + 1, 0, none⟩ = some (.int .u32 (wd v0)) := HS4.out.vc 0 (by simp) rfl
          have a1 : W4.cell? ⟨w.heap.size + 1, 1, none⟩ = some (.int .u32 (wd v1)) := HS4.out.vc 1 (by simp) rfl
          have a2 : W4.cell? ⟨w.heap.size + 1, 2, none⟩ = some (.int .u32 (wd v2)) := HS4.out.vc 2 (by simp) rfl
          have a3 : W4.cell? ⟨w.heap.size + 1, 3, none⟩ = some (.int .u32 (wd v3)) := HS4.out.vc 3 (by simp) rfl
          have a4 : W4.cell? ⟨w.heap.size + 1, 4, none⟩ = some (.int .u32 (wd v4)) := HS4.out.vc 4 (by simp) rfl
          have fr := HS4.out.five.free
          go_wp2_with fail
          refine wp_draw 8 (C := fun w' => ∃ n, w' = W4.drewN n) hmix (by kernel_rfl) (by kernel_rfl) (by kernel_rfl) (by simp) ⟨1, rfl⟩ ?_
          simp only [List.take_succ_cons, List.take_zero, List.drop_succ_cons, List.drop_zero]
          repeat (go_big_quiet_step ((go_at_call 83; exact Calls.quiet_of_same ((rot_any _ _ _).mono fun e w' h => ⟨h.1, h.2.symm⟩))))
          refine wpQuiet_nil ?_
          intro _ hw'
          obtain ⟨nq, hw''⟩ := hw'
          subst hw''
          have HS5 := Lib.hid (HS4.out.drewN nq)
          go_wp2_with fail
          go_roundw
          case rel =>
            refine ⟨k + 1, by omega, by go_num, Lib.hid ?_⟩
            rw [HN.out]
            exact HS5.out.put5 _ _ _ _ _
          case measure => simp [intOf]; omega
        rcases Nat.lt_or_ge k 40 with h40 | h40
        · have hq : (k : Int) / 20 = 1 := by omega
          have HF : Hid (f1 k v1 v2 v3 = ((v1 ^^^ v2) ^^^ v3) + 1859775393#32) := Lib.hid (f1_b k v1 v2 v3 (by omega))
          go_wp2_with fail
          have a0 : W3.cell? ⟨w.heap.size + 1, 0, none⟩ = some (.int .u32 (wd v0)) := HS3.out.vc 0 (by simp) rfl
          have a4 : W3.cell? ⟨w.heap.size + 1, 4, none⟩ = some (.int .u32 (wd v4)) := HS3.out.vc 4 (by simp) rfl
          have ay := HS3.out.rc (by omega) Y.out
          rw [← HF.out]
          generalize f1 k v1 v2 v3 = fv at HN ⊢
          clear HF hq
          go_quiet ((go_at_call 83; exact Calls.quiet_of_same ((rot_any _ _ _).mono fun e w' h => ⟨h.1, h.2.symm⟩)))
          clear a0 a4 ay
          generalize hW1 : W3.drewN nq = W4
          have HS4 : Hid (St1 w W4 (ring1 r k) [v0, v1, v2, v3, v4]) := Lib.hid (by rw [← hW1]; exact HS3.out.drewN nq)
          clear hW1 HS3
          have a0 : W4.cell? ⟨w.heap.size + 1, 0, none⟩ = some (.int .u32 (wd v0)) := HS4.out.vc 0 (by simp) rfl
          have a1 : W4.cell? ⟨w.heap.size + 1, 1, none⟩ = some (.int .u32 (wd v1)) := HS4.out.vc 1 (by simp) rfl
          have a2 : W4.cell? ⟨w.heap.size + 1, 2, none⟩ = some (.int .u32 (wd v2)) := HS4.out.vc 2 (by simp) rfl
          have a3 : W4.cell? ⟨w.heap.size + 1, 3, none⟩ = some (.int .u32 (wd v3)) := HS4.out.vc 3 (by simp) rfl
          have a4 : W4.cell? ⟨w.heap.size + 1, 4, none⟩ = some (.int .u32 (wd v4)) := HS4.out.vc 4 (by simp) rfl
          have fr := HS4.out.five.free
          go_wp2_with fail
          refine wp_draw 8 (C := fun w' => ∃ n, w' = W4.drewN n) hmix (by kernel_rfl) (by kernel_rfl) (by kernel_rfl) (by simp) ⟨1, rfl⟩ ?_
          simp only [List.take_succ_cons, List.take_zero, List.drop_succ_cons, List.drop_zero]
          repeat (go_big_quiet_step ((go_at_call 83; exact Calls.quiet_of_same ((rot_any _ _ _).mono fun e w' h => ⟨h.1, h.2.symm⟩))))
          refine wpQuiet_nil ?_
          intro _ hw'
          obtain ⟨nq, hw''⟩ := hw'
          subst hw''
          have HS5 := Lib.hid (HS4.out.drewN nq)
          go_wp2_with fail
          go_roundw
          case rel =>
            refine ⟨k + 1, by omega, by go_num, Lib.hid ?_⟩
            rw [HN.out]
            exact HS5.out.put5 _ _ _ _ _
          case measure => simp [intOf]; omega
        rcases Nat.lt_or_ge k 60 with h60 | h60
        · have hq : (k : Int) / 20 = 2 := by omega
          have HF : Hid (f1 k v1 v2 v3 = ((v1 &&& v2) ||| (v3 &&& (v1 ||| v2))) + 2400959708#32) := Lib.hid (f1_c k v1 v2 v3 (by omega))
          go_wp2_with fail
          have a0 : W3.cell? ⟨w.heap.size + 1, 0, none⟩ = some (.int .u32 (wd v0)) := HS3.out.vc 0 (by simp) rfl
          have a4 : W3.cell? ⟨w.heap.size + 1, 4, none⟩ = some (.int .u32 (wd v4)) := HS3.out.vc 4 (by simp) rfl
          have ay := HS3.out.rc (by omega) Y.out
          rw [← HF.out]
          generalize f1 k v1 v2 v3 = fv at HN ⊢
          clear HF hq
          go_quiet ((go_at_call 83; exact Calls.quiet_of_same ((rot_any _ _ _).mono fun e w' h => ⟨h.1, h.2.symm⟩)))
          clear a0 a4 ay
          generalize hW1 : W3.drewN nq = W4
          have HS4 : Hid (St1 w W4 (ring1 r k) [v0, v1, v2, v3, v4]) := Lib.hid (by rw [← hW1]; exact HS3.out.drewN nq)
          clear hW1 HS3
          have a0 : W4.cell? ⟨w.heap.size + 1, 0, none⟩ = some (.int .u32 (wd v0)) := HS4.out.vc 0 (by simp) rfl
          have a1 : W4.cell? ⟨w.heap.size + 1, 1, none⟩ = some (.int .u32 (wd v1)) := HS4.out.vc 1 (by simp) rfl
          have a2 : W4.cell? ⟨w.heap.size + 1, 2, none⟩ = some (.int .u32 (wd v2)) := HS4.out.vc 2 (by simp) rfl
          have a3 : W4.cell? ⟨w.heap.size + 1, 3, none⟩ = some (.int .u32 (wd v3)) := HS4.out.vc 3 (by simp) rfl
          have a4 : W4.cell? ⟨w.heap.size + 1, 4, none⟩ = some (.int .u32 (wd v4)) := HS4.out.vc 4 (by simp) rfl
          have fr := HS4.out.five.free
          go_wp2_with fail
          refine wp_draw 8 (C := fun w' => ∃ n, w' = W4.drewN n) hmix (by kernel_rfl) (by kernel_rfl) (by kernel_rfl) (by simp) ⟨1, rfl⟩ ?_
          simp only [List.take_succ_cons, List.take_zero, List.drop_succ_cons, List.drop_zero]
          repeat (go_big_quiet_step ((go_at_call 83; exact Calls.quiet_of_same ((rot_any _ _ _).mono fun e w' h => ⟨h.1, h.2.symm⟩))))
          refine wpQuiet_nil ?_
          intro _ hw'
          obtain ⟨nq, hw''⟩ := hw'
          subst hw''
          have HS5 := Lib.hid (HS4.out.drewN nq)
          go_wp2_with fail
          go_roundw
          case rel =>
            refine ⟨k + 1, by omega, by go_num, Lib.hid ?_⟩
            rw [HN.out]
            exact HS5.out.put5 _ _ _ _ _
          case measure => simp [intOf]; omega
        · have hq : (k : Int) / 20 = 3 := by omega
          have HF : Hid (f1 k v1 v2 v3 = ((v1 ^^^ v2) ^^^ v3) + 3395469782#32) := Lib.hid (f1_d k v1 v2 v3 (by omega))
          go_wp2_with fail
          have a0 : W3.cell? ⟨w.heap.size + 1, 0, none⟩ = some (.int .u32 (wd v0)) := HS3.out.vc 0 (by simp) rfl
          have a4 : W3.cell? ⟨w.heap.size + 1, 4, none⟩ = some (.int .u32 (wd v4)) := HS3.out.vc 4 (by simp) rfl
          have ay := HS3.out.rc (by omega) Y.out
          rw [← HF.out]
          generalize f1 k v1 v2 v3 = fv at HN ⊢
          clear HF hq
          go_quiet ((go_at_call 83; exact Calls.quiet_of_same ((rot_any _ _ _).mono fun e w' h => ⟨h.1, h.2.symm⟩)))
          clear a0 a4 ay
          generalize hW1 : W3.drewN nq = W4
          have HS4 : Hid (St1 w W4 (ring1 r k) [v0, v1, v2, v3, v4]) := Lib.hid (by rw [← hW1]; exact HS3.out.drewN nq)
          clear hW1 HS3
          have a0 : W4.cell? ⟨w.heap.size + 1, 0, none⟩ = some (.int .u32 (wd v0)) := HS4.out.vc 0 (by simp) rfl
          have a1 : W4.cell? ⟨w.heap.size + 1, 1, none⟩ = some (.int .u32 (wd v1)) := HS4.out.vc 1 (by simp) rfl
          have a2 : W4.cell? ⟨w.heap.size + 1, 2, none⟩ = some (.int .u32 (wd v2)) := HS4.out.vc 2 (by simp) rfl
          have a3 : W4.cell? ⟨w.heap.size + 1, 3, none⟩ = some (.int .u32 (wd v3)) := HS4.out.vc 3 (by simp) rfl
          have a4 : W4.cell? ⟨w.heap.size + 1, 4, none⟩ = some (.int .u32 (wd v4)) := HS4.out.vc 4 (by simp) rfl
          have fr := HS4.out.five.free
          go_wp2_with fail
          refine wp_draw 8 (C := fun w' => ∃ n, w' = W4.drewN n) hmix (by kernel_rfl) (by kernel_rfl) (by kernel_rfl) (by simp) ⟨1, rfl⟩ ?_
          simp only [List.take_succ_cons, List.take_zero, List.drop_succ_cons, List.drop_zero]
          repeat (go_big_quiet_step ((go_at_call 83; exact Calls.quiet_of_same ((rot_any _ _ _).mono fun e w' h => ⟨h.1, h.2.symm⟩))))
          refine wpQuiet_nil ?_
          intro _ hw'
          obtain ⟨nq, hw''⟩ := hw'
          subst hw''
          have HS5 := Lib.hid (HS4.out.drewN nq)
          go_wp2_with fail
          go_roundw
          case rel =>
            refine ⟨k + 1, by omega, by go_num, Lib.hid ?_⟩
            rw [HN.out]
            exact HS5.out.put5 _ _ _ _ _
          case measure => simp [intOf]; omega
      · have hd : decide ((16 : Int) ≤ (k : Int)) = false := decide_eq_false (by omega)
        have hrl : r.length = 16 := hlr
        have hring : ring1 r k = r := by rw [ring1, if_neg hk16]
        rw [hring] at HE
        clear hring
        have HS := hS
        clear hS hlr
        go_wp2_with fail
        obtain ⟨v0, v1, v2, v3, v4, hv⟩ := len5 v hlv
        subst hv
        clear hlv
        obtain ⟨y, Y⟩ : ∃ y, Hid (r.getD j0 0 = y) := ⟨_, Lib.hid rfl⟩
        have HN : Hid (run1 hs bl (k + 1) = ([t1 v0 (f1 k v1 v2 v3) v4 y, v0, rotW v1 (rotS 30), v2, v3], r)) := Lib.hid (by rw [HE.out, ← Y.out, E0.out]; rfl)
        clear HE
        have a1 : wr.cell? ⟨w.heap.size + 1, 1, none⟩ = some (.int .u32 (wd v1)) := HS.out.vc 1 (by simp) rfl
        have a2 : wr.cell? ⟨w.heap.size + 1, 2, none⟩ = some (.int .u32 (wd v2)) := HS.out.vc 2 (by simp) rfl
        have a3 : wr.cell? ⟨w.heap.size + 1, 3, none⟩ = some (.int .u32 (wd v3)) := HS.out.vc 3 (by simp) rfl
        go_quiet (fail)
        clear a1 a2 a3
        generalize hW1 : wr.drewN nq = W3
        have HS3 : Hid (St1 w W3 r [v0, v1, v2, v3, v4]) := Lib.hid (by rw [← hW1]; exact HS.out.drewN nq)
        clear hW1 HS
        have hq : (k : Int) / 20 = 0 := by omega
        have HF : Hid (f1 k v1 v2 v3 = (v3 ^^^ (v1 &&& (v2 ^^^ v3))) + 1518500249#32) := Lib.hid (f1_a k v1 v2 v3 (by omega))
        go_wp2_with fail
        have a0 : W3.cell? ⟨w.heap.size + 1, 0, none⟩ = some (.int .u32 (wd v0)) := HS3.out.vc 0 (by simp) rfl
        have a4 : W3.cell? ⟨w.heap.size + 1, 4, none⟩ = some (.int .u32 (wd v4)) := HS3.out.vc 4 (by simp) rfl
        have ay := HS3.out.rc (by omega) Y.out
        rw [← HF.out]
        generalize f1 k v1 v2 v3 = fv at HN ⊢
        clear HF hq
        go_quiet ((go_at_call 83; exact Calls.quiet_of_same ((rot_any _ _ _).mono fun e w' h => ⟨h.1, h.2.symm⟩)))
        clear a0 a4 ay
        generalize hW1 : W3.drewN nq = W4
        have HS4 : Hid (St1 w W4 r [v0, v1, v2, v3, v4]) := Lib.hid (by rw [← hW1]; exact HS3.out.drewN nq)
        clear hW1 HS3
        have a0 : W4.cell? ⟨w.heap.size + 1, 0, none⟩ = some (.int .u32 (wd v0)) := HS4.out.vc 0 (by simp) rfl
        have a1 : W4.cell? ⟨w.heap.size + 1, 1, none⟩ = some (.int .u32 (wd v1)) := HS4.out.vc 1 (by simp) rfl
        have a2 : W4.cell? ⟨w.heap.size + 1, 2, none⟩ = some (.int .u32 (wd v2)) := HS4.out.vc 2 (by simp) rfl
        have a3 : W4.cell? ⟨w.heap.size + 1, 3, none⟩ = some (.int .u32 (wd v3)) := HS4.out.vc 3 (by simp) rfl
        have a4 : W4.cell? ⟨w.heap.size + 1, 4, none⟩ = some (.int .u32 (wd v4)) := HS4.out.vc 4 (by simp) rfl
        have fr := HS4.out.five.free
        go_wp2_with fail
        refine wp_draw 8 (C := fun w' => ∃ n, w' = W4.drewN n) hmix (by kernel_rfl) (by kernel_rfl) (by kernel_rfl) (by simp) ⟨1, rfl⟩ ?_
        simp only [List.take_succ_cons, List.take_zero, List.drop_succ_cons, List.drop_zero]
        repeat (go_big_quiet_step ((go_at_call 83; exact Calls.quiet_of_same ((rot_any _ _ _).mono fun e w' h => ⟨h.1, h.2.symm⟩))))
        refine wpQuiet_nil ?_
        intro _ hw'
        obtain ⟨nq, hw''⟩ := hw'
        subst hw''
        have HS5 := Lib.hid (HS4.out.drewN nq)
        go_wp2_with fail
        go_roundw
        case rel =>
          refine ⟨k + 1, by omega, by go_num, Lib.hid ?_⟩
          rw [HN.out]
          exact HS5.out.put5 _ _ _ _ _
        case measure => simp [intOf]; omega
    · obtain rfl : k = 80 := by omega
      have hlv : (run1 hs bl 80).1.length = 5 := (run1_len hs bl 80).1.trans H5.out
      have HC : Hid (comp1 hs bl = part2 hs (run1 hs bl 80).1 5) := Lib.hid (part2_all1 hs _ H5.out hlv).symm
      generalize (run1 hs bl 80).1 = v at hS hlv HC
      have hW : Only hb w wr := Only.of_below hS.out.below
      have hH1 : Blk wr hb (encW hs) ht := HH.out.below hS.out.below hsl
      have hv1 := hS.out.five
      have HW := Lib.hid hW; have HH1 := Lib.hid hH1; have HV1 := Lib.hid hv1
      have H5' := H5.out
      clear hW hH1 hv1 hS HH H16 HV HR HB
      go_wp2_with fail
      go_loopw [115] (fun i ws => ∃ j : Nat, j ≤ 5 ∧ i = .int .i64 j ∧ Hid (Blk ws hb (encW (part2 hs v j)) ht) ∧ Hid (Blk ws (w.heap.size + 1) (encW v) 189) ∧ Hid (Only hb w ws)) (fun i _ => 5 - (intOf i).toNat)
      case atStart => exact ⟨0, Nat.zero_le _, rfl, HH1, HV1, HW⟩
      case round =>
        obtain ⟨j, hj, rfl, hP, hV, hO⟩ := hrel
        by_cases hlt : j < 5
        · have hd1 : decide ((j : Int) < 5) = true := decide_eq_true (by omega)
          have hj8 : (j : Int) < 5 := by omega
          have cp : wr.cell? ⟨hb, j, none⟩ = some (.int .u32 (wd (hs.getD j 0))) := by rw [hP.out.cell, encW_get _ _ (by rw [part2_len _ _ _ (by omega) (by omega)]; omega), part2_get _ _ _ (by omega) (by omega)]
          have cv : wr.cell? ⟨w.heap.size + 1, j, none⟩ = some (.int .u32 (wd (v.getD j 0))) := by rw [hV.out.cell, encW_get _ _ (by omega)]
          have HX : Hid (part2 hs v (j + 1) = (part2 hs v j).set j (hs.getD j 0 + v.getD j 0)) := Lib.hid (part2_step hs v j (by omega) (by omega))
          have fp := hP.out.free j
          generalize hs.getD j 0 = x at cp HX
          generalize v.getD j 0 = y at cv HX
          have hadd := wd_add
          go_wp2_with fail
          refine wp_draw 7 (C := fun w' => ∃ n, w' = wr.drewN n) hmix (by kernel_rfl) (by kernel_rfl) (by kernel_rfl) (by simp) ⟨1, rfl⟩ ?_
          simp only [List.take_succ_cons, List.take_zero, List.drop_succ_cons, List.drop_zero]
          repeat (go_big_quiet_step (fail))
          refine wpQuiet_nil ?_
          intro _ hw'
          obtain ⟨nq, hw''⟩ := hw'
          subst hw''
          go_wp2_with fail
          go_roundw
          case rel =>
            refine ⟨j + 1, by omega, by go_num, Lib.hid ?_, Lib.hid (Blk.other (w := wr.drewN nq) hV.out (by simp; omega) _), Lib.hid (Only.trans (show Only hb w (wr.drewN nq) from ⟨hO.out.os, hO.out.tape, hO.out.output, hO.out.size, hO.out.block⟩) (Only.setCell ⟨hb, j, none⟩ rfl _))⟩
            rw [HX.out, ← encW_set]
            exact Blk.set (w := wr.drewN nq) hP.out _ _
          case measure => simp [intOf]; omega
        · obtain rfl : j = 5 := by omega
          go_wp2_with fail
          go_end0
          exact ⟨rfl, by rw [HC.out]; exact hP.out, hO.out⟩
end Go.Proofs.YtdmfbcfhfopipaaGreatDoor
