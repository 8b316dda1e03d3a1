/- The document's own SHA-1 (its chapter 4): it is the program's. -/
import Derived.Test.YtdmfbcfhfopipaaGreatDoorRefSum2
namespace Go.Proofs.YtdmfbcfhfopipaaGreatDoor
open Go.RowKit

/-- The row of a digest, of five words. -/
structure R1 (w : World) (hb : Nat) (st : List W32) (W : World) : Prop where
  len : st.length = 5
  h : Blk W hb (encW st) 64
  below : Below w.heap.size w W
  hlo : w.heap.size ≤ hb
theorem R1.next {w W W' : World} {hb : Nat} {st : List W32} (h : R1 w hb st W) (hB : Below W.heap.size W W') : R1 w hb st W' :=
  ⟨h.len, h.h.below hB h.h.lt, h.below.trans (hB.mono h.below.size), h.hlo⟩
theorem R1.drewN {w W : World} {hb : Nat} {st : List W32} (h : R1 w hb st W) (n : Nat) : R1 w hb st (W.drewN n) := ⟨h.len, h.h, ⟨h.below.os, h.below.tape, h.below.output, h.below.size, h.below.block⟩, h.hlo⟩
theorem R1.set {w W : World} {hb : Nat} {st : List W32} (h : R1 w hb st W) (p : Addr) (v : Value) (h1 : hb ≠ p.block) (h3 : w.heap.size ≤ p.block) : R1 w hb st (W.setCell p v) :=
  ⟨h.len, h.h.other h1 v, h.below.setCell h3 v, h.hlo⟩
theorem sum_regroup (r f e k y : W32) : (((r + f) + e) + k) + y = ((r + (f + k)) + e) + y := by
  congr 1
  rw [BitVec.add_assoc (r + f) e k, BitVec.add_comm e k, ← BitVec.add_assoc (r + f) k e, BitVec.add_assoc r f k]
/-- What a round adds, and its constant. -/
def fOf (k : Nat) (b c d : W32) : W32 :=
  if k < 20 then (b &&& c) ||| ((b ^^^ 4294967295#32) &&& d) else if k < 40 then (b ^^^ c) ^^^ d else if k < 60 then ((b &&& c) ||| (b &&& d)) ||| (c &&& d) else (b ^^^ c) ^^^ d
def kOf (k : Nat) : W32 := if k < 20 then 1518500249#32 else if k < 40 then 1859775393#32 else if k < 60 then 2400959708#32 else 3395469782#32
theorem f1_ref (k : Nat) (b c d : W32) (h : k < 80) : f1 k b c d = fOf k b c d + kOf k := by
  unfold fOf kOf
  by_cases h1 : k < 20
  · rw [f1_a k b c d h1, if_pos h1, if_pos h1, ch1_eq]
  · rw [if_neg h1, if_neg h1]
    by_cases h2 : k < 40
    · rw [f1_b k b c d (by omega), if_pos h2, if_pos h2]
    · rw [if_neg h2, if_neg h2]
      by_cases h3 : k < 60
      · rw [f1_c k b c d (by omega), if_pos h3, if_pos h3, maj1_eq]
      · rw [f1_d k b c d (by omega), if_neg h3, if_neg h3]
theorem step1_ref (v0 v1 v2 v3 v4 y : W32) (k : Nat) (h : k < 80) : step1 [v0, v1, v2, v3, v4] k y = [(((rotW v0 5 + fOf k v1 v2 v3) + v4) + kOf k) + y, v0, rotW v1 30, v2, v3] := by
  rw [sum_regroup, ← f1_ref k v1 v2 v3 h]; rfl
theorem five_put (st : List W32) (v0 v1 v2 v3 v4 u0 u1 u2 u3 u4 : W32) (h : st = [u0, u1, u2, u3, u4]) (W : World) (hb : Nat) (hB : Blk W hb (encW st) 64) :
    Blk (((((W.setCell ⟨hb, 0, none⟩ (.int .u32 (wd (u0 + v0)))).setCell ⟨hb, 1, none⟩ (.int .u32 (wd (u1 + v1)))).setCell ⟨hb, 2, none⟩ (.int .u32 (wd (u2 + v2)))).setCell ⟨hb, 3, none⟩ (.int .u32 (wd (u3 + v3)))).setCell ⟨hb, 4, none⟩ (.int .u32 (wd (u4 + v4)))) hb (encW (List.zipWith (· + ·) st [v0, v1, v2, v3, v4])) 64 := by
  subst h
  have := ((((hB.set 0 (.int .u32 (wd (u0 + v0)))).set 1 (.int .u32 (wd (u1 + v1)))).set 2 (.int .u32 (wd (u2 + v2)))).set 3 (.int .u32 (wd (u3 + v3)))).set 4 (.int .u32 (wd (u4 + v4)))
  simpa [encW, vw] using this

set_option maxRecDepth 100000 in
set_option maxHeartbeats 2000000 in
theorem ref_sum160 (s : ByteArray) (hs : s.size ≤ 1000000) (w : World) : Calls Tryz.prog 35 #[.string s] w fun e w' => e = .returned (.string (bs (sum160 s.data.toList))) ∧ Below w.heap.size w w' := by
  have hpd := fun w => ref_padded s hs w
  have hP64 := padL_len s.data.toList
  have hPle : (padL s.data.toList).length ≤ 2000000 := by
    have : zerosOf s.size < 64 := Nat.mod_lt _ (by omega)
    have hl : s.data.toList.length = s.size := by simp
    simp [padL, padT, lenB]; omega
  have hfin : foldB comp1 ((padL s.data.toList).length / 64) H160 (padL s.data.toList) = sha1 s.data.toList := rfl
  have hsum : sum160 s.data.toList = tellW (sha1 s.data.toList) := rfl
  have hfl : (sha1 s.data.toList).length = 5 := foldB_len _ comp1_len _ _ _
  rw [hsum]
  clear hsum
  generalize sha1 s.data.toList = fin at hfin hfl ⊢
  generalize padL s.data.toList = P at hpd hP64 hPle hfin
  obtain ⟨N, hN⟩ : ∃ N, P.length = 64 * N := ⟨P.length / 64, by omega⟩
  rw [hN, Nat.mul_div_cancel_left _ (by omega)] at hfin
  have hSz : (bs P).size = 64 * N := by rw [bs_size, hN]
  have hSd : (bs P).data.toList = P := by simp [bs]
  generalize bs P = S at hpd hSz hSd
  have HSZ := Lib.hid hSz; have HPD := Lib.hid hpd; have HSD := Lib.hid hSd; have HPN := Lib.hid hN; have HFL := Lib.hid hfl
  have hSle : S.size ≤ 2000000 := by omega
  have hke := H160_enc
  have hmix : Tryz.prog.follows .mixedOrders = true := by kernel_rfl
  have hxor := wd_xor
  have hadd := wd_add
  have hand := wd_and
  have hor := wd_or
  clear hpd hP64 hPle hSd hN hfl hs hSz
  go_enter Tryz.func35, Tryz.ntmps35
  go_wp2_with (first
    | (go_at_call 65; refine (HPD.out _).mono ?_; rintro e w2 ⟨rfl, hB2⟩; replace hB2 := Lib.hid hB2))
  have hR0 : R1 w w.heap.size H160 w2 := by
    have b1 : Blk (w.alloc (.cells (encW H160) 64)) w.heap.size (encW H160) 64 := Blk.new w _ _
    have bl : Below w.heap.size w (w.alloc (.cells (encW H160) 64)) := (Below.refl _ w).alloc (Nat.le_refl _) _
    exact ⟨rfl, b1.below hB2.out b1.lt, bl.trans (hB2.out.mono bl.size), Nat.le_refl _⟩
  have HR := Lib.hid hR0
  clear hR0 hB2
  obtain ⟨hb, hbe⟩ : ∃ hb, hb = w.heap.size := ⟨_, rfl⟩
  rw [← hbe] at HR
  rw [show (⟨w.heap.size, 0, none⟩ : Addr) = ⟨hb, 0, none⟩ by rw [hbe]]
  clear hbe
  have hmk := make80
  go_loopw [5] (fun i wr => ∃ (n p : Nat) (st : List W32), n ≤ N ∧ i = .int .i64 (p : Int) ∧ Hid (p = 64 * n) ∧ Hid (foldB comp1 (N - n) st (P.drop p) = fin) ∧ Hid (R1 w hb st wr)) (fun i _ => S.size - (intOf i).toNat)
  case atStart => exact ⟨0, 0, H160, Nat.zero_le _, rfl, Lib.hid rfl, Lib.hid hfin, HR⟩
  case round =>
    obtain ⟨n, p, st, hn, rfl, hpn, hfo, hR⟩ := hrel
    by_cases hlt : n < N
    · have hpl : p + 64 ≤ S.size := by have := hpn.out; have := HSZ.out; omega
      have hps : (p : Int) < (S.size : Int) := by omega
      repeat (first | (fail) | go_values | go_skip | go_guarded | go_step | go_upon | go_back)
      have hb16 : (wordsN (P.drop p) 16).length = 16 := by simp [wordsN]
      have hwd := fun j hj W => block_word S P p HSD.out hpl hSle j hj W
      generalize hbl : wordsN (P.drop p) 16 = bl at hb16 hwd
      have HBL := Lib.hid hbl; have HWD := Lib.hid hwd; have H16 := Lib.hid hb16
      obtain ⟨wb, hwb⟩ : ∃ wb, wb = wr.heap.size := ⟨_, rfl⟩
      have hw0 : Blk (wr.alloc (.cells (encW (zer 80)) 64)) wb (encW (soFar bl f160 80 0)) 64 := by
        rw [hwb]; exact Blk.new wr (encW (zer 80)) 64
      have hR1 := hR.out.next ((Below.refl _ wr).alloc (Nat.le_refl _) (.cells (encW (zer 80)) 64))
      have hbw : hb ≠ wb := by have := hR.out.h.lt; omega
      have hlw : w.heap.size ≤ wb := by have := hR.out.below.size; omega
      rw [show (⟨wr.heap.size, 0, none⟩ : Addr) = ⟨wb, 0, none⟩ by rw [hwb]]
      generalize wr.alloc (.cells (encW (zer 80)) 64) = Wa at hw0 hR1 ⊢
      have HA0 := Lib.hid (And.intro hw0 hR1)
      clear hbl hwd hb16 hw0 hR1 hR hwb hmk
      go_loopw [7] (fun i wr => ∃ j : Nat, j ≤ 80 ∧ i = .int .i64 j ∧ Hid (Blk wr wb (encW (soFar bl f160 80 j)) 64 ∧ R1 w hb st wr)) (fun i _ => 80 - (intOf i).toNat)
      case atStart => exact ⟨0, Nat.zero_le _, rfl, HA0⟩
      case round =>
        obtain ⟨j, hj, rfl, hA⟩ := hrel
        by_cases hj80 : j < 80
        · by_cases hj16 : j < 16
          · have hd1 : decide ((j : Int) < 80) = true := decide_eq_true (by omega)
            have hd2 : decide ((j : Int) < 16) = true := decide_eq_true (by omega)
            have hix : (j : Int) < 80 := by omega
            have hjl : j < 80 := hj80
            have hp4 : (p : Int) + 4 * (j : Int) ≤ 2000000 := by omega
            have hcw := HWD.out j hj16
            have HC := Lib.hid hcw
            clear hcw
            have hnx := soFar_next bl f160 80 j hj80 (bl.getD j 0) (by rw [if_pos hj16])
            generalize bl.getD j 0 = x at HC hnx
            have HNX := Lib.hid hnx
            clear hnx
            repeat (first | (fail) | go_values | go_skip | go_guarded | go_step | go_upon | go_back)
            refine (HC.out _).mono ?_
            rintro e w3 ⟨rfl, m, rfl⟩
            simp only []
            have hA1 : Hid (Blk (wr.drewN m) wb (encW (soFar bl f160 80 j)) 64 ∧ R1 w hb st (wr.drewN m)) := Lib.hid ⟨hA.out.1, hA.out.2.drewN m⟩
            generalize wr.drewN m = W1 at hA1 ⊢
            have hc : W1.cell? ⟨wb, j, none⟩ = some (.int .u32 (wd ((soFar bl f160 80 j).getD j 0))) := by rw [hA1.out.1.cell, encW_get _ _ (by rw [soFar_len _ _ _ _ hj]; exact hj80)]
            have hf := hA1.out.1.free j
            clear HC hA
            repeat (first | (fail) | go_values | go_skip | go_guarded | go_step | go_upon | go_back)
            have hA2 : Hid (Blk (W1.setCell ⟨wb, j, none⟩ (.int .u32 (wd x))) wb (encW (soFar bl f160 80 (j + 1))) 64 ∧ R1 w hb st (W1.setCell ⟨wb, j, none⟩ (.int .u32 (wd x)))) :=
              Lib.hid ⟨by rw [HNX.out, ← encW_set]; exact hA1.out.1.set j _, hA1.out.2.set ⟨wb, j, none⟩ _ hbw hlw⟩
            clear hA1 hc hf
            repeat (first | (fail) | go_values | go_skip | go_guarded | go_step | go_upon | go_back)
            go_roundw
            case rel => exact ⟨j + 1, by omega, by go_num, hA2⟩
            case measure => simp [intOf]; omega
          · have hd1 : decide ((j : Int) < 80) = true := decide_eq_true (by omega)
            have hd2 : decide ((j : Int) < 16) = false := decide_eq_false (by omega)
            have hix : (j : Int) < 80 := by omega
            obtain ⟨k3, m3, e3⟩ : ∃ k : Nat, (j : Int) - 3 = (k : Int) ∧ k = j - 3 := ⟨j - 3, by omega, rfl⟩
            obtain ⟨k8, m8, e8⟩ : ∃ k : Nat, (j : Int) - 8 = (k : Int) ∧ k = j - 8 := ⟨j - 8, by omega, rfl⟩
            obtain ⟨k14, m14, e14⟩ : ∃ k : Nat, (j : Int) - 14 = (k : Int) ∧ k = j - 14 := ⟨j - 14, by omega, rfl⟩
            obtain ⟨k16, m16, e16⟩ : ∃ k : Nat, (j : Int) - 16 = (k : Int) ∧ k = j - 16 := ⟨j - 16, by omega, rfl⟩
            have b3 : (k3 : Int) < 80 := by omega
            have b8 : (k8 : Int) < 80 := by omega
            have b14 : (k14 : Int) < 80 := by omega
            have b16 : (k16 : Int) < 80 := by omega
            have hnx := soFar_next bl f160 80 j hj80 (rotW ((((schedW bl f160 j).getD k3 0 ^^^ (schedW bl f160 j).getD k8 0) ^^^ (schedW bl f160 j).getD k14 0) ^^^ (schedW bl f160 j).getD k16 0) 1) (by rw [if_neg hj16, f160, e3, e8, e14, e16])
            have rc := fun k (h : k < j) W (hA : Blk W wb (encW (soFar bl f160 80 j)) 64) => row_cell bl f160 80 j k hj h W wb hA
            obtain ⟨x3, X3⟩ : ∃ x, (schedW bl f160 j).getD k3 0 = x := ⟨_, rfl⟩
            obtain ⟨x8, X8⟩ : ∃ x, (schedW bl f160 j).getD k8 0 = x := ⟨_, rfl⟩
            obtain ⟨x14, X14⟩ : ∃ x, (schedW bl f160 j).getD k14 0 = x := ⟨_, rfl⟩
            obtain ⟨x16, X16⟩ : ∃ x, (schedW bl f160 j).getD k16 0 = x := ⟨_, rfl⟩
            have c3 := rc k3 (by omega) wr hA.out.1
            have c8 := rc k8 (by omega) wr hA.out.1
            have c14 := rc k14 (by omega) wr hA.out.1
            have c16 := rc k16 (by omega) wr hA.out.1
            rw [X3, X8, X14, X16] at hnx
            rw [X3] at c3
            rw [X8] at c8
            rw [X14] at c14
            rw [X16] at c16
            have HNX := Lib.hid hnx
            clear hnx rc X3 X8 X14 X16 e3 e8 e14 e16
            repeat (first | (fail) | go_values | go_skip | go_guarded | go_step | go_upon | go_back)
            refine wp_draw 26 (C := fun w' => ∃ n, w' = wr.drewN n) hmix (by kernel_rfl) (by kernel_rfl) (by kernel_rfl) (by simp) ⟨1, rfl⟩ ?_
            simp only [List.take_succ_cons, List.take_zero, List.drop_succ_cons, List.drop_zero]
            repeat (go_big_quiet_step ((go_at_call 67; exact Calls.quiet_of (ref_left_at _ _ (by omega) (by omega) _))))
            refine wpQuiet_nil ?_
            intro _ hw'
            obtain ⟨nq, hw''⟩ := hw'
            subst hw''
            have hA1 : Hid (Blk (wr.drewN nq) wb (encW (soFar bl f160 80 j)) 64 ∧ R1 w hb st (wr.drewN nq)) := Lib.hid ⟨hA.out.1, hA.out.2.drewN nq⟩
            generalize wr.drewN nq = W1 at hA1 ⊢
            have hc : W1.cell? ⟨wb, j, none⟩ = some (.int .u32 (wd ((soFar bl f160 80 j).getD j 0))) := by rw [hA1.out.1.cell, encW_get _ _ (by rw [soFar_len _ _ _ _ hj]; exact hj80)]
            have hf := hA1.out.1.free j
            clear hA c3 c8 c14 c16
            have hA3 : Hid (Blk (W1.setCell ⟨wb, j, none⟩ (.int .u32 (wd (rotW (((x3 ^^^ x8) ^^^ x14) ^^^ x16) 1)))) wb (encW (soFar bl f160 80 (j + 1))) 64 ∧ R1 w hb st (W1.setCell ⟨wb, j, none⟩ (.int .u32 (wd (rotW (((x3 ^^^ x8) ^^^ x14) ^^^ x16) 1))))) :=
              Lib.hid ⟨by rw [HNX.out, ← encW_set]; exact hA1.out.1.set j _, hA1.out.2.set ⟨wb, j, none⟩ _ hbw hlw⟩
            clear hA1
            go_wp2_with fail
            go_roundw
            case rel => exact ⟨j + 1, by omega, by go_num, hA3⟩
            case measure => simp [intOf]; omega
        · obtain rfl : j = 80 := by omega
          have hd1 : decide ((80 : Int) < 80) = false := rfl
          rw [soFar_all] at hA
          obtain ⟨u0, u1, u2, u3, u4, hst⟩ := len5 st hA.out.2.len
          have g0 : wr.cell? ⟨hb, 0, none⟩ = some (.int .u32 (wd u0)) := by rw [hA.out.2.h.cell, hst]; rfl
          have g1 : wr.cell? ⟨hb, 1, none⟩ = some (.int .u32 (wd u1)) := by rw [hA.out.2.h.cell, hst]; rfl
          have g2 : wr.cell? ⟨hb, 2, none⟩ = some (.int .u32 (wd u2)) := by rw [hA.out.2.h.cell, hst]; rfl
          have g3 : wr.cell? ⟨hb, 3, none⟩ = some (.int .u32 (wd u3)) := by rw [hA.out.2.h.cell, hst]; rfl
          have g4 : wr.cell? ⟨hb, 4, none⟩ = some (.int .u32 (wd u4)) := by rw [hA.out.2.h.cell, hst]; rfl
          have HST := Lib.hid hst
          clear hst
          repeat (first | (fail) | go_values | go_skip | go_guarded | go_step | go_upon | go_back)
          clear g0 g1 g2 g3 g4
          have hA0 : Hid (Blk wr wb (encW (schedW bl f160 80)) 64 ∧ R1 w hb st wr) := hA
          have hst0 : Hid ((run1 st bl 0).1 = [u0, u1, u2, u3, u4]) := HST
          clear hA
          go_loopw [8, 9, 10, 11, 12, 13] (fun a b c d e i wr => ∃ (k : Nat) (v0 v1 v2 v3 v4 : W32), k ≤ 80 ∧ i = .int .i64 k ∧ a = .int .u32 (wd v0) ∧ b = .int .u32 (wd v1) ∧ c = .int .u32 (wd v2) ∧ d = .int .u32 (wd v3) ∧ e = .int .u32 (wd v4) ∧ Hid ((run1 st bl k).1 = [v0, v1, v2, v3, v4]) ∧ Hid (Blk wr wb (encW (schedW bl f160 80)) 64 ∧ R1 w hb st wr)) (fun _ _ _ _ _ i _ => 80 - (intOf i).toNat)
          case atStart => exact ⟨0, u0, u1, u2, u3, u4, Nat.zero_le _, rfl, rfl, rfl, rfl, rfl, rfl, hst0, hA0⟩
          case round =>
            obtain ⟨k, v0, v1, v2, v3, v4, hk, rfl, rfl, rfl, rfl, rfl, rfl, hv, hA⟩ := hrel
            by_cases hk80 : k < 80
            · have hd2 : decide ((k : Int) < 80) = true := decide_eq_true (by omega)
              have hki : (k : Int) < 80 := by omega
              have hnx := run1_word st bl H16.out k
              rw [hv.out] at hnx
              obtain ⟨y, Y⟩ : ∃ y, atW bl f160 k = y := ⟨_, rfl⟩
              rw [Y, step1_ref v0 v1 v2 v3 v4 y k hk80] at hnx
              have ay : wr.cell? ⟨wb, k, none⟩ = some (.int .u32 (wd y)) := by rw [hA.out.1.cell, encW_get _ _ (by rw [schedW_len]; exact hk80), schedW_get _ _ _ _ hk80, Y]
              have hx4 : ∀ x : W32, bits .xor .u32 (wd x) 4294967295 = wd (x ^^^ 4294967295#32) := fun x => wd_xor x 4294967295#32
              have hk0 : ∀ x : W32, IntKind.u32.wrap (wd x + 1518500249) = wd (x + 1518500249#32) := fun x => wd_add x 1518500249#32
              have hk1 : ∀ x : W32, IntKind.u32.wrap (wd x + 1859775393) = wd (x + 1859775393#32) := fun x => wd_add x 1859775393#32
              have hk2 : ∀ x : W32, IntKind.u32.wrap (wd x + 2400959708) = wd (x + 2400959708#32) := fun x => wd_add x 2400959708#32
              have hk3 : ∀ x : W32, IntKind.u32.wrap (wd x + 3395469782) = wd (x + 3395469782#32) := fun x => wd_add x 3395469782#32
              clear Y hv
              by_cases h1 : k < 20
              · have hf : fOf k v1 v2 v3 = (v1 &&& v2) ||| ((v1 ^^^ 4294967295#32) &&& v3) := by unfold fOf; (repeat (first | rw [if_pos (by omega)] | rw [if_neg (by omega)]))
                have hc : kOf k = 1518500249#32 := by unfold kOf; (repeat (first | rw [if_pos (by omega)] | rw [if_neg (by omega)]))
                rw [hf, hc] at hnx
                have qa : decide ((k : Int) < 20) = true := by simp; omega
                have qb : decide ((k : Int) < 40) = true := by simp; omega
                have qc : decide ((k : Int) < 60) = true := by simp; omega
                have HN := Lib.hid hnx
                clear hnx hf hc
                repeat (first | (fail) | go_values | go_skip | go_guarded | go_step | go_upon | go_back)
                go_quiet ((go_at_call 67; exact Calls.quiet_of (ref_left_at _ _ (by omega) (by omega) _)))
                have hA1 : Hid (Blk (wr.drewN nq) wb (encW (schedW bl f160 80)) 64 ∧ R1 w hb st (wr.drewN nq)) := Lib.hid ⟨hA.out.1, hA.out.2.drewN nq⟩
                generalize wr.drewN nq = W1 at hA1 ⊢
                clear ay hA
                repeat (first | ((go_at_call 67; refine (Hid.out (p := _) ?_))) | go_values | go_skip | go_guarded | go_step | go_upon | go_back)
                refine Lib.hid ?_
                refine (ref_left_at _ _ (by omega) (by omega) _).mono ?_
                rintro e W2 ⟨rfl, m, rfl⟩
                simp only []
                have hA2 : Hid (Blk (W1.drewN m) wb (encW (schedW bl f160 80)) 64 ∧ R1 w hb st (W1.drewN m)) := Lib.hid ⟨hA1.out.1, hA1.out.2.drewN m⟩
                generalize W1.drewN m = W2 at hA2 ⊢
                clear hA1
                repeat (first | (fail) | go_values | go_skip | go_guarded | go_step | go_upon | go_back)
                go_roundw
                case rel => exact ⟨k + 1, _, _, _, _, _, by omega, by go_num, rfl, rfl, rfl, rfl, rfl, HN, hA2⟩
                case measure => simp [intOf]; omega
              · by_cases h2 : k < 40
                · have hf : fOf k v1 v2 v3 = (v1 ^^^ v2) ^^^ v3 := by unfold fOf; (repeat (first | rw [if_pos (by omega)] | rw [if_neg (by omega)]))
                  have hc : kOf k = 1859775393#32 := by unfold kOf; (repeat (first | rw [if_pos (by omega)] | rw [if_neg (by omega)]))
                  rw [hf, hc] at hnx
                  have qa : decide ((k : Int) < 20) = false := by simp; omega
                  have qb : decide ((k : Int) < 40) = true := by simp; omega
                  have qc : decide ((k : Int) < 60) = true := by simp; omega
                  have HN := Lib.hid hnx
                  clear hnx hf hc
                  repeat (first | (fail) | go_values | go_skip | go_guarded | go_step | go_upon | go_back)
                  go_quiet ((go_at_call 67; exact Calls.quiet_of (ref_left_at _ _ (by omega) (by omega) _)))
                  have hA1 : Hid (Blk (wr.drewN nq) wb (encW (schedW bl f160 80)) 64 ∧ R1 w hb st (wr.drewN nq)) := Lib.hid ⟨hA.out.1, hA.out.2.drewN nq⟩
                  generalize wr.drewN nq = W1 at hA1 ⊢
                  clear ay hA
                  repeat (first | ((go_at_call 67; refine (Hid.out (p := _) ?_))) | go_values | go_skip | go_guarded | go_step | go_upon | go_back)
                  refine Lib.hid ?_
                  refine (ref_left_at _ _ (by omega) (by omega) _).mono ?_
                  rintro e W2 ⟨rfl, m, rfl⟩
                  simp only []
                  have hA2 : Hid (Blk (W1.drewN m) wb (encW (schedW bl f160 80)) 64 ∧ R1 w hb st (W1.drewN m)) := Lib.hid ⟨hA1.out.1, hA1.out.2.drewN m⟩
                  generalize W1.drewN m = W2 at hA2 ⊢
                  clear hA1
                  repeat (first | (fail) | go_values | go_skip | go_guarded | go_step | go_upon | go_back)
                  go_roundw
                  case rel => exact ⟨k + 1, _, _, _, _, _, by omega, by go_num, rfl, rfl, rfl, rfl, rfl, HN, hA2⟩
                  case measure => simp [intOf]; omega
                · by_cases h3 : k < 60
                  · have hf : fOf k v1 v2 v3 = ((v1 &&& v2) ||| (v1 &&& v3)) ||| (v2 &&& v3) := by unfold fOf; (repeat (first | rw [if_pos (by omega)] | rw [if_neg (by omega)]))
                    have hc : kOf k = 2400959708#32 := by unfold kOf; (repeat (first | rw [if_pos (by omega)] | rw [if_neg (by omega)]))
                    rw [hf, hc] at hnx
                    have qa : decide ((k : Int) < 20) = false := by simp; omega
                    have qb : decide ((k : Int) < 40) = false := by simp; omega
                    have qc : decide ((k : Int) < 60) = true := by simp; omega
                    have HN := Lib.hid hnx
                    clear hnx hf hc
                    repeat (first | (fail) | go_values | go_skip | go_guarded | go_step | go_upon | go_back)
                    go_quiet ((go_at_call 67; exact Calls.quiet_of (ref_left_at _ _ (by omega) (by omega) _)))
                    have hA1 : Hid (Blk (wr.drewN nq) wb (encW (schedW bl f160 80)) 64 ∧ R1 w hb st (wr.drewN nq)) := Lib.hid ⟨hA.out.1, hA.out.2.drewN nq⟩
                    generalize wr.drewN nq = W1 at hA1 ⊢
                    clear ay hA
                    repeat (first | ((go_at_call 67; refine (Hid.out (p := _) ?_))) | go_values | go_skip | go_guarded | go_step | go_upon | go_back)
                    refine Lib.hid ?_
                    refine (ref_left_at _ _ (by omega) (by omega) _).mono ?_
                    rintro e W2 ⟨rfl, m, rfl⟩
                    simp only []
                    have hA2 : Hid (Blk (W1.drewN m) wb (encW (schedW bl f160 80)) 64 ∧ R1 w hb st (W1.drewN m)) := Lib.hid ⟨hA1.out.1, hA1.out.2.drewN m⟩
                    generalize W1.drewN m = W2 at hA2 ⊢
                    clear hA1
                    repeat (first | (fail) | go_values | go_skip | go_guarded | go_step | go_upon | go_back)
                    go_roundw
                    case rel => exact ⟨k + 1, _, _, _, _, _, by omega, by go_num, rfl, rfl, rfl, rfl, rfl, HN, hA2⟩
                    case measure => simp [intOf]; omega
                  · have hf : fOf k v1 v2 v3 = (v1 ^^^ v2) ^^^ v3 := by unfold fOf; (repeat (first | rw [if_pos (by omega)] | rw [if_neg (by omega)]))
                    have hc : kOf k = 3395469782#32 := by unfold kOf; (repeat (first | rw [if_pos (by omega)] | rw [if_neg (by omega)]))
                    rw [hf, hc] at hnx
                    have qa : decide ((k : Int) < 20) = false := by simp; omega
                    have qb : decide ((k : Int) < 40) = false := by simp; omega
                    have qc : decide ((k : Int) < 60) = false := by simp; omega
                    have HN := Lib.hid hnx
                    clear hnx hf hc
                    repeat (first | (fail) | go_values | go_skip | go_guarded | go_step | go_upon | go_back)
                    go_quiet ((go_at_call 67; exact Calls.quiet_of (ref_left_at _ _ (by omega) (by omega) _)))
                    have hA1 : Hid (Blk (wr.drewN nq) wb (encW (schedW bl f160 80)) 64 ∧ R1 w hb st (wr.drewN nq)) := Lib.hid ⟨hA.out.1, hA.out.2.drewN nq⟩
                    generalize wr.drewN nq = W1 at hA1 ⊢
                    clear ay hA
                    repeat (first | ((go_at_call 67; refine (Hid.out (p := _) ?_))) | go_values | go_skip | go_guarded | go_step | go_upon | go_back)
                    refine Lib.hid ?_
                    refine (ref_left_at _ _ (by omega) (by omega) _).mono ?_
                    rintro e W2 ⟨rfl, m, rfl⟩
                    simp only []
                    have hA2 : Hid (Blk (W1.drewN m) wb (encW (schedW bl f160 80)) 64 ∧ R1 w hb st (W1.drewN m)) := Lib.hid ⟨hA1.out.1, hA1.out.2.drewN m⟩
                    generalize W1.drewN m = W2 at hA2 ⊢
                    clear hA1
                    repeat (first | (fail) | go_values | go_skip | go_guarded | go_step | go_upon | go_back)
                    go_roundw
                    case rel => exact ⟨k + 1, _, _, _, _, _, by omega, by go_num, rfl, rfl, rfl, rfl, rfl, HN, hA2⟩
                    case measure => simp [intOf]; omega
            · obtain rfl : k = 80 := by omega
              have hd2 : decide ((80 : Int) < 80) = false := rfl
              obtain ⟨y0, y1, y2, y3, y4, hst⟩ := len5 st hA.out.2.len
              have g0 : wr.cell? ⟨hb, 0, none⟩ = some (.int .u32 (wd y0)) := by rw [hA.out.2.h.cell, hst]; rfl
              have g1 : wr.cell? ⟨hb, 1, none⟩ = some (.int .u32 (wd y1)) := by rw [hA.out.2.h.cell, hst]; rfl
              have g2 : wr.cell? ⟨hb, 2, none⟩ = some (.int .u32 (wd y2)) := by rw [hA.out.2.h.cell, hst]; rfl
              have g3 : wr.cell? ⟨hb, 3, none⟩ = some (.int .u32 (wd y3)) := by rw [hA.out.2.h.cell, hst]; rfl
              have g4 : wr.cell? ⟨hb, 4, none⟩ = some (.int .u32 (wd y4)) := by rw [hA.out.2.h.cell, hst]; rfl
              have fr := hA.out.2.h.free
              have hcp : comp1 st bl = List.zipWith (· + ·) st [v0, v1, v2, v3, v4] := by rw [← hv.out]; rfl
              have hnx : foldB comp1 (N - (n + 1)) (comp1 st bl) (P.drop (p + 64)) = fin := by
                have h := hfo.out
                rw [show N - n = (N - (n + 1)) + 1 by omega, foldB_succ, HBL.out, List.drop_drop] at h
                exact h
              have hpt := five_put st v0 v1 v2 v3 v4 y0 y1 y2 y3 y4 hst wr hb hA.out.2.h
              rw [← hcp] at hpt
              have hbl := (((((hA.out.2.below.setCell (p := ⟨hb, 0, none⟩) hA.out.2.hlo (.int .u32 (wd (y0 + v0)))).setCell (p := ⟨hb, 1, none⟩) hA.out.2.hlo (.int .u32 (wd (y1 + v1)))).setCell (p := ⟨hb, 2, none⟩) hA.out.2.hlo (.int .u32 (wd (y2 + v2)))).setCell (p := ⟨hb, 3, none⟩) hA.out.2.hlo (.int .u32 (wd (y3 + v3)))).setCell (p := ⟨hb, 4, none⟩) hA.out.2.hlo (.int .u32 (wd (y4 + v4))))
              have HRn : Hid (R1 w hb (comp1 st bl) (((((wr.setCell ⟨hb, 0, none⟩ (.int .u32 (wd (y0 + v0)))).setCell ⟨hb, 1, none⟩ (.int .u32 (wd (y1 + v1)))).setCell ⟨hb, 2, none⟩ (.int .u32 (wd (y2 + v2)))).setCell ⟨hb, 3, none⟩ (.int .u32 (wd (y3 + v3)))).setCell ⟨hb, 4, none⟩ (.int .u32 (wd (y4 + v4))))) :=
                Lib.hid ⟨by rw [comp1_len]; exact hA.out.2.len, hpt, hbl, hA.out.2.hlo⟩
              have hp64 : (p : Int) + 64 = ((p + 64 : Nat) : Int) := by push_cast; rfl
              have hp2 : p + 64 ≤ 2000000 := by omega
              have HP64 := Lib.hid hp64; have HNX := Lib.hid hnx
              clear hA hp64 hnx hcp hpt hbl hst hv
              repeat (first | (fail) | go_values | go_skip | go_guarded | go_step | go_upon | go_back)
              go_roundw
              case rel => exact ⟨n + 1, p + 64, comp1 st bl, by omega, by rw [← HP64.out], Lib.hid (by have := hpn.out; omega), HNX, HRn⟩
              case measure => simp [intOf]; omega
    · obtain rfl : n = N := by omega
      have hpS : ¬ ((p : Int) < (S.size : Int)) := by have := hpn.out; have := HSZ.out; omega
      have hst : st = fin := by
        have h := hfo.out
        rw [Nat.sub_self] at h
        exact h
      subst hst
      have htl := fun W h => ref_tell st hb 5 64 W (by rw [HFL.out]; omega) h
      rw [HFL.out] at htl
      have HTL := Lib.hid htl
      clear htl
      repeat (first | (fail) | go_values | go_skip | go_guarded | go_step | go_upon | go_back)
      refine (HTL.out _ hR.out.h).mono ?_
      rintro e w9 ⟨rfl, hB9⟩
      simp only []
      have HB9 := Lib.hid (hR.out.below.trans (hB9.mono hR.out.below.size))
      clear hB9
      go_wp2_with fail
      go_ret
      exact ⟨rfl, HB9.out⟩
end Go.Proofs.YtdmfbcfhfopipaaGreatDoor
