import Derived.Test.YtdmfbcfhfopipaaGreatDoorKV7
import Derived.Test.YtdmfbcfhfopipaaGreatDoorKV3
import Derived.Test.YtdmfbcfhfopipaaGreatDoorKV2
import Derived.Test.YtdmfbcfhfopipaaGreatDoorKV4
/- number.digit: one digit of a quotient. -/
namespace Go.Proofs.YtdmfbcfhfopipaaGreatDoor
open Go.RowKit

theorem take_set_last (l : List W32) (i x : Nat) (h : i < l.length) (hx : x < 4294967296) : va ((l.set i (BitVec.ofNat 32 x)).take (i + 1)) = va (l.take i) + 4294967296 ^ i * x := by
  rw [va_take _ _ (by rw [List.length_set]; exact h), set_getD _ _ _ _ h, if_pos rfl, BitVec.toNat_ofNat, Nat.mod_eq_of_lt (show x < 2 ^ 32 from hx), List.take_set_of_le (Nat.le_refl _)]
theorem only_drew {b : Nat} {w W : World} (h : Only b w W) (n : Nat) : Only b w (W.drewN n) := ⟨h.os, h.tape, h.output, h.size, h.block⟩
set_option maxRecDepth 100000 in
set_option maxHeartbeats 8000000 in
theorem nat_digit (P u S vl T : List W32) (n g gv cu cv : Nat) (w : World) (hu : u.length = n + 1) (hv : vl.length = n) (hn : 0 < n) (hnl : n ≤ 100000) (hpl : P.length ≤ 100000) (hv1 : 2147483648 ≤ (vl.getD (n - 1) 0).toNat) (hUV : va u < va vl * 4294967296)
    (hg : Blk w g (encW (P ++ u ++ S)) 64) (hgv : Blk w gv (encW (vl ++ T)) 64) (hne : gv ≠ g) :
    Calls Tryz.prog 221 #[.slice (some ⟨g, P.length, none⟩) (n + 1) cu, .slice (some ⟨gv, 0, none⟩) n cv] w fun e w' => Only g w w' ∧ ∃ (q : Nat) (u' : List W32), e = .returned (.int .u32 (q : Int)) ∧ q < 4294967296 ∧ Blk w' g (encW (P ++ u' ++ S)) 64 ∧ u'.length = n + 1 ∧ va u' = va u % va vl := by
  obtain ⟨v1, e1⟩ : ∃ v1, v1 = (vl.getD (n - 1) 0).toNat := ⟨_, rfl⟩
  obtain ⟨un, eun⟩ : ∃ x, x = (u.getD n 0).toNat := ⟨_, rfl⟩
  obtain ⟨un1, eun1⟩ : ∃ x, x = (u.getD (n - 1) 0).toNat := ⟨_, rfl⟩
  obtain ⟨top, e2⟩ : ∃ x, x = un * 4294967296 + un1 := ⟨_, rfl⟩
  obtain ⟨v2, e3⟩ : ∃ x, x = if 1 < n then (vl.getD (n - 2) 0).toNat else 0 := ⟨_, rfl⟩
  obtain ⟨u2, e4⟩ : ∃ x, x = if 1 < n then (u.getD (n - 2) 0).toNat else 0 := ⟨_, rfl⟩
  obtain ⟨f1, f2, f3, f4⟩ := guess_facts hu hv hn (by omega) hUV (top := top) e1 (by rw [← eun, ← eun1]; exact e2) e3 e4
  have hv1b : v1 < 4294967296 := by rw [e1]; exact toNat_lt32 _
  have hunb : un < 4294967296 := by rw [eun]; exact toNat_lt32 _
  have hun1b : un1 < 4294967296 := by rw [eun1]; exact toNat_lt32 _
  have hv2b : v2 < 4294967296 := by rw [e3]; split; exact toNat_lt32 _; omega
  have hu2b : u2 < 4294967296 := by rw [e4]; split; exact toNat_lt32 _; omega
  rw [← e1] at hv1
  obtain ⟨n1, hn1, hn1e⟩ : ∃ m : Nat, (n : Int) - 1 = (m : Int) ∧ m = n - 1 := ⟨_, by omega, rfl⟩
  have hni : (n : Int) ≤ 100000 := by omega
  have hn0 : (0 : Int) < (n : Int) := by omega
  have hn1l : (n1 : Int) < (n : Int) := by omega
  have hn1l2 : (n1 : Int) < (n : Int) + 1 := by omega
  have hnl2 : (n : Int) < (n : Int) + 1 := by omega
  have hor : bits .or .u64 ((un : Int) * 4294967296) (un1 : Int) = (top : Int) := by
    have := u64_join un un1 hunb hun1b
    rw [← e2] at this
    rw [← this, Int.natCast_mul]; rfl
  obtain ⟨q0, hq0, hq0e⟩ : ∃ m : Nat, (top : Int) / (v1 : Int) = (m : Int) ∧ m = top / v1 := ⟨_, by rw [Int.natCast_ediv], rfl⟩
  obtain ⟨r0, hr0, hr0e⟩ : ∃ m : Nat, (top : Int) % (v1 : Int) = (m : Int) ∧ m = top % v1 := ⟨_, by rw [Int.natCast_emod], rfl⟩
  have hq0b : q0 ≤ 8589934592 := Nat.le_of_not_lt fun hlt => by
    have h2 := Nat.mul_le_mul_right v1 (show 8589934593 ≤ q0 from hlt)
    have h3 := Nat.div_mul_le_self top v1
    rw [← hq0e] at h3
    omega
  have hr0b : r0 < v1 := by rw [hr0e]; exact Nat.mod_lt _ (by omega)
  have hqr0 : q0 * v1 + r0 = top := by rw [hq0e, hr0e, Nat.mul_comm]; exact Nat.div_add_mod _ _
  rw [← hq0e] at f2
  have hq0i : (q0 : Int) ≤ 8589934592 := by omega
  have hr0i : (r0 : Int) < 4294967296 := by omega
  have htopb : (top : Int) < 18446744073709551616 := by omega
  have hv1i : (2147483648 : Int) ≤ (v1 : Int) := by omega
  have hv1i2 : (v1 : Int) < 4294967296 := by omega
  have huni : (un : Int) < 4294967296 := by omega
  have hun1i : (un1 : Int) < 4294967296 := by omega
  have HS := Lib.hid (And.intro hg (And.intro hgv (Only.refl g w)))
  have HU := Lib.hid hu; have HVL := Lib.hid hv; have HNE := Lib.hid hne; have HN1 := Lib.hid hn1e; have HN := Lib.hid hn
  have F1 := Lib.hid f1; have F2 := Lib.hid (And.intro hqr0 f2); have F3 := Lib.hid f3; have F4 := Lib.hid f4
  have HV2 := Lib.hid e3; have HU2 := Lib.hid e4; have HUN := Lib.hid eun; have HQ0 := Lib.hid hq0b; have HR0 := Lib.hid hr0b; have HUV := Lib.hid hUV; have HPL := Lib.hid hpl
  have hpli : (P.length : Int) ≤ 100000 := by omega
  have c1 := mid_cell hg n (by omega)
  have c2 := mid_cell hg n1 (by omega)
  have c3 := head_cell hgv n1 (by omega)
  rw [← eun] at c1
  rw [hn1e, ← eun1, ← hn1e] at c2
  rw [hn1e, ← e1, ← hn1e] at c3
  have hcv : ∀ W, Blk W gv (encW (vl ++ T)) 64 → W.cell? ⟨gv, n1, none⟩ = some (.int .u32 (v1 : Int)) := fun W h => by
    have := head_cell h n1 (by omega)
    rwa [hn1e, ← e1, ← hn1e] at this
  have HCV := Lib.hid hcv
  clear hg hgv hu hv hne hn1e hn hcv f1 f2 f3 f4 hqr0 e1 e2 e3 e4 eun eun1 hq0e hr0e hq0b hr0b hUV hnl hv1 hunb hun1b hpl
  go_enter Tryz.func221, Tryz.ntmps221
  repeat (first | (fail) | go_values | go_skip | go_guarded | go_step | go_upon | go_back)
  go_quiet (fail)
  generalize hW : w.drewN nq = W1
  have HS1 : Hid (Blk W1 g (encW (P ++ u ++ S)) 64 ∧ Blk W1 gv (encW (vl ++ T)) 64 ∧ Only g w W1) := by
    rw [← hW]
    exact Lib.hid ⟨blk_drew HS.out.1 nq, blk_drew HS.out.2.1 nq, only_drew HS.out.2.2 nq⟩
  clear hW HS
  clear c1 c2 c3
  have c3 := HCV.out _ HS1.out.2.1
  repeat (first | (fail) | go_values | go_skip | go_guarded | go_step | go_upon | go_back)
  go_quiet (fail)
  generalize hW : W1.drewN nq = W2
  have HS : Hid (Blk W2 g (encW (P ++ u ++ S)) 64 ∧ Blk W2 gv (encW (vl ++ T)) 64 ∧ Only g w W2) := by
    rw [← hW]
    exact Lib.hid ⟨blk_drew HS1.out.1 nq, blk_drew HS1.out.2.1 nq, only_drew HS1.out.2.2 nq⟩
  clear hW HS1
  clear c3
  have c3 := HCV.out _ HS.out.2.1
  repeat (first | (fail) | go_values | go_skip | go_guarded | go_step | go_upon | go_back)
  go_loopw [7, 8] (fun a b wr => ∃ (q r : Nat), a = .int .u64 (q : Int) ∧ b = .int .u64 (r : Int) ∧ (q : Int) ≤ 8589934592 ∧ (r : Int) < 8589934592 ∧ Hid (q * v1 + r = top ∧ va u / va vl ≤ q) ∧ Hid (Blk wr g (encW (P ++ u ++ S)) 64 ∧ Blk wr gv (encW (vl ++ T)) 64 ∧ Only g w wr)) (fun a _ _ => (intOf a).toNat)
  case atStart => exact ⟨q0, r0, rfl, by rw [hr0], by have := HQ0.out; omega, by have := HR0.out; omega, F2, HS⟩
  case round =>
    clear c3 HS
    obtain ⟨q, r, rfl, rfl, hq, hr, hqr, HS⟩ := hrel
    by_cases hA : 4294967296 ≤ r
    · have hqB := guess_small q r hqr.out.1 F1.out hA
      have hend := F4.out q r hqr.out.1 hqB (.inl hA)
      obtain ⟨z, hz, hze⟩ : ∃ z : Nat, (r : Int) / 4294967296 = (z : Int) ∧ (z : Int) ≠ 0 := ⟨r / 4294967296, by omega, by omega⟩
      have hze2 : ((z : Int) == 0) = false := by rw [beq_eq_false_iff_ne]; exact hze
      have HEND := Lib.hid (And.intro hqB (And.intro hqr.out.2 hend))
      clear hqB hend hA hqr hze
      repeat (first | (fail) | go_values | go_skip | go_guarded | go_step | go_upon | go_back)
      go_quiet (fail)
      generalize hW : wr.drewN nq = W3
      have HS1 : Hid (Blk W3 g (encW (P ++ u ++ S)) 64 ∧ Blk W3 gv (encW (vl ++ T)) 64 ∧ Only g w W3) := by
        rw [← hW]
        exact Lib.hid ⟨blk_drew HS.out.1 nq, blk_drew HS.out.2.1 nq, only_drew HS.out.2.2 nq⟩
      clear hW HS
      repeat (first | (fail) | go_values | go_skip | go_guarded | go_step | go_upon | go_back)
      go_loopw [9, 10, 91] (fun b c z wr => ∃ (i e f : Nat) (u' : List W32), i ≤ n ∧ z = .int .i64 i ∧ b = .int .u64 (e : Int) ∧ c = .int .u64 (f : Int) ∧ (e : Int) ≤ 1 ∧ (f : Int) < 4294967296 ∧ Hid (u'.length = n + 1 ∧ (∀ k, i ≤ k → u'.getD k 0 = u.getD k 0) ∧ va (u'.take i) + q * va (vl.take i) = va (u.take i) + (f + e) * 4294967296 ^ i) ∧ Hid (Blk wr g (encW (P ++ u' ++ S)) 64 ∧ Blk wr gv (encW (vl ++ T)) 64 ∧ Only g w wr)) (fun _ _ z _ => n - (intOf z).toNat)
      case atStart => exact ⟨0, 0, 0, u, Nat.zero_le _, rfl, rfl, rfl, by omega, by omega, Lib.hid ⟨HU.out, fun _ _ => rfl, by simp [va]⟩, HS1⟩
      case round =>
        clear HS1
        obtain ⟨i, e, f, u', hi, rfl, rfl, rfl, he, hf, hI, HS⟩ := hrel
        by_cases hlt : i < n
        · have d1 := mid_cell HS.out.1 i (by rw [hI.out.1]; omega)
          have d2 := head_cell HS.out.2.1 i (by rw [HVL.out]; exact hlt)
          have fr := HS.out.1.free (P.length + i)
          have hui := toNat_lt32 (u.getD i 0)
          rw [hI.out.2.1 i (Nat.le_refl _)] at d1
          have hvi := toNat_lt32 (vl.getD i 0)
          have htu := va_take u i (by rw [HU.out]; omega)
          have htv := va_take vl i (by rw [HVL.out]; exact hlt)
          generalize (u.getD i 0).toNat = ui at d1 hui htu
          generalize (vl.getD i 0).toNat = vi at d2 hvi htv
          have hpm := mul_prod q vi HEND.out.1 hvi
          obtain ⟨m, hm, hme⟩ : ∃ m : Nat, (q : Int) * (vi : Int) = (m : Int) ∧ m = q * vi := ⟨q * vi, by rw [Int.natCast_mul], rfl⟩
          rw [← hme] at hpm
          obtain ⟨p, hp, hpe⟩ : ∃ p : Nat, (m : Int) + (f : Int) = (p : Int) ∧ p = m + f := ⟨m + f, by omega, rfl⟩
          obtain ⟨lo, hlo, hloe⟩ : ∃ x : Nat, bits .and .u64 (p : Int) 4294967295 = (x : Int) ∧ x = p % 4294967296 := ⟨_, u64_low p (by omega), rfl⟩
          obtain ⟨f', hf', hfe⟩ : ∃ x : Nat, (p : Int) / 4294967296 = (x : Int) ∧ x = p / 4294967296 := ⟨p / 4294967296, by omega, rfl⟩
          obtain ⟨x1, hx1, hx1e⟩ : ∃ x : Nat, ((ui : Int) - (lo : Int)) % 18446744073709551616 = (x : Int) ∧ x = (ui + 18446744073709551616 - lo) % 18446744073709551616 := ⟨(ui + 18446744073709551616 - lo) % 18446744073709551616, by omega, rfl⟩
          obtain ⟨s, hs, hse⟩ : ∃ x : Nat, ((x1 : Int) - (e : Int)) % 18446744073709551616 = (x : Int) ∧ x = (x1 + 18446744073709551616 - e) % 18446744073709551616 := ⟨(x1 + 18446744073709551616 - e) % 18446744073709551616, by omega, rfl⟩
          obtain ⟨w1, hw1, hw1e⟩ : ∃ x : Nat, (s : Int) % 4294967296 = (x : Int) ∧ x = s % 4294967296 := ⟨s % 4294967296, by omega, rfl⟩
          obtain ⟨e', he', hee⟩ : ∃ x : Nat, (s : Int) / 9223372036854775808 = (x : Int) ∧ x = s / 9223372036854775808 := ⟨s / 9223372036854775808, by omega, rfl⟩
          have hd : w1 + m + (f + e) = ui + (f' + e') * 4294967296 := by omega
          have hw1b : w1 < 4294967296 := by omega
          have he1 : (e' : Int) ≤ 1 := by omega
          have hf1 : (f' : Int) < 4294967296 := by omega
          have hpb : (p : Int) < 18446744073709551616 := by omega
          have hmb : (m : Int) < 18446744073709551616 := by omega
          have hlob : (lo : Int) < 4294967296 := by omega
          have huib : (ui : Int) < 4294967296 := by omega
          have hvib : (vi : Int) < 4294967296 := by omega
          have hqb : (q : Int) < 4294967296 := by have := HEND.out.1; omega
          rw [← IntKind.wrap_u64] at hx1 hs
          have hsb : (s : Int) < 18446744073709551616 := by omega
          have hxb : (x1 : Int) < 18446744073709551616 := by omega
          have hlaw := sub_step hI.out.2.2 ui w1 vi f' e' (by rw [← hme]; exact hd)
          have HI2 : Hid ((u'.set i (BitVec.ofNat 32 w1)).length = n + 1 ∧ (∀ k, i + 1 ≤ k → (u'.set i (BitVec.ofNat 32 w1)).getD k 0 = u.getD k 0) ∧ va ((u'.set i (BitVec.ofNat 32 w1)).take (i + 1)) + q * va (vl.take (i + 1)) = va (u.take (i + 1)) + (f' + e') * 4294967296 ^ (i + 1)) := by
            refine Lib.hid ⟨by rw [List.length_set]; exact hI.out.1, fun k hk => ?_, ?_⟩
            · rw [set_getD _ _ _ _ (by rw [hI.out.1]; omega), if_neg (by omega)]
              exact hI.out.2.1 k (by omega)
            · rw [take_set_last _ _ _ (by rw [hI.out.1]; omega) hw1b, htu, htv, Nat.pow_succ]
              exact hlaw
          have hst := mid_store HS.out.1 i (by rw [hI.out.1]; omega) w1 hw1b
          have hst2 := Blk.other HS.out.2.1 (p := ⟨g, P.length + i, none⟩) HNE.out (.int .u32 (w1 : Int))
          have HS2 := Lib.hid (And.intro hst (And.intro hst2 (HS.out.2.2.trans (Only.setCell ⟨g, P.length + i, none⟩ rfl (.int .u32 (w1 : Int))))))
          have hii : (i : Int) < (n : Int) := by omega
          have hii1 : (i : Int) < (n : Int) + 1 := by omega
          have HLT := Lib.hid hlt
          clear hst hst2 hlaw hd hee hw1e hse hx1e hfe hloe hpe hme hpm htu htv hui hvi hI hlt HS
          repeat (first | (fail) | go_values | go_skip | go_guarded | go_step | go_upon | go_back)
          go_roundw
          case rel => exact ⟨i + 1, e', f', _, HLT.out, by go_num, by go_num, by go_num, he1, hf1, HI2, HS2⟩
          case measure => have := HLT.out; simp [intOf]; omega
        · obtain rfl : n = i := by omega
          have d1 := mid_cell HS.out.1 n (by rw [hI.out.1]; omega)
          have fr := HS.out.1.free (P.length + n)
          rw [hI.out.2.1 n (Nat.le_refl _), ← HUN.out] at d1
          obtain ⟨x1, hx1, hx1e⟩ : ∃ x : Nat, ((un : Int) - (f : Int)) % 18446744073709551616 = (x : Int) ∧ x = (un + 18446744073709551616 - f) % 18446744073709551616 := ⟨(un + 18446744073709551616 - f) % 18446744073709551616, by omega, rfl⟩
          obtain ⟨s, hs, hse⟩ : ∃ x : Nat, ((x1 : Int) - (e : Int)) % 18446744073709551616 = (x : Int) ∧ x = (x1 + 18446744073709551616 - e) % 18446744073709551616 := ⟨(x1 + 18446744073709551616 - e) % 18446744073709551616, by omega, rfl⟩
          obtain ⟨w1, hw1, hw1e⟩ : ∃ x : Nat, (s : Int) % 4294967296 = (x : Int) ∧ x = s % 4294967296 := ⟨s % 4294967296, by omega, rfl⟩
          obtain ⟨e', he', hee⟩ : ∃ x : Nat, (s : Int) / 9223372036854775808 = (x : Int) ∧ x = s / 9223372036854775808 := ⟨s / 9223372036854775808, by omega, rfl⟩
          have hw1b : w1 < 4294967296 := by omega
          have hsb : (s : Int) < 18446744073709551616 := by omega
          have hxb : (x1 : Int) < 18446744073709551616 := by omega
          rw [← IntKind.wrap_u64] at hx1 hs
          have hst := mid_store HS.out.1 n (by rw [hI.out.1]; omega) w1 hw1b
          have hst2 := Blk.other HS.out.2.1 (p := ⟨g, P.length + n, none⟩) HNE.out (.int .u32 (w1 : Int))
          have HS2 := Lib.hid (And.intro hst (And.intro hst2 (HS.out.2.2.trans (Only.setCell ⟨g, P.length + n, none⟩ rfl (.int .u32 (w1 : Int))))))
          have hqb : (q : Int) < 4294967296 := by have := HEND.out.1; omega
          have hVp : 0 < va vl := by have := HUV.out; omega
          have hVlt : va vl < 4294967296 ^ n := by have := va_lt vl; rwa [HVL.out] at this
          have hA := hI.out.2.2
          rw [show vl.take n = vl from List.take_of_length_le (by rw [HVL.out]; exact Nat.le_refl _)] at hA
          have hUd := va_last u n HU.out
          rw [← HUN.out] at hUd
          have hlen1 : (u'.set n (BitVec.ofNat 32 w1)).length = n + 1 := by rw [List.length_set]; exact hI.out.1
          have hv1d : va (u'.set n (BitVec.ofNat 32 w1)) = va (u'.take n) + 4294967296 ^ n * w1 := by
            have := take_set_last u' n w1 (by rw [hI.out.1]; omega) hw1b
            rwa [← hlen1, List.take_length] at this
          have hAlt : va (u'.take n) < 4294967296 ^ n := va_take_lt u' n (by rw [hI.out.1]; omega)
          have htk1 : (u'.set n (BitVec.ofNat 32 w1)).take n = u'.take n := List.take_set_of_le (Nat.le_refl _)
          have hgd1 : (u'.set n (BitVec.ofNat 32 w1)).getD n 0 = BitVec.ofNat 32 w1 := by rw [set_getD _ _ _ _ (by rw [hI.out.1]; omega), if_pos rfl]
          generalize u'.set n (BitVec.ofNat 32 w1) = u1 at HS2 hlen1 hv1d htk1 hgd1
          have HL1 := Lib.hid hlen1
          by_cases hcb : f + e ≤ un
          · obtain rfl : e' = 0 := by omega
            have hgood := sub_good hA hUd hcb HEND.out.2.1 hVp
            rw [show un - (f + e) = w1 by omega, ← hv1d] at hgood
            have HG := Lib.hid hgood
            clear hgood hcb hst hst2 hA hUd hv1d hAlt hVp hVlt hee hw1e hse hx1e hI hlt HS hlen1 htk1 hgd1
            repeat (first | (fail) | go_values | go_skip | go_guarded | go_step | go_upon | go_back)
            go_ret
            exact ⟨HS2.out.2.2, q, u1, rfl, HEND.out.1, HS2.out.1, HL1.out, HG.out⟩
          · obtain ⟨k', rfl⟩ : ∃ k', q = k' + 1 := ⟨q - 1, by
              have : q ≠ 0 := fun h => by
                subst h
                rw [Nat.zero_mul] at hA
                have h1 := va_take_lt u n (by rw [HU.out]; omega)
                have h2 : 4294967296 ^ n ≤ (f + e) * 4294967296 ^ n := Nat.le_mul_of_pos_left _ (by omega)
                omega
              omega⟩
            obtain rfl : e' = 1 := by omega
            have hback := fun A2 c2 h1 h2 => sub_back hA hUd (by omega) HEND.out.2.1 HEND.out.2.2 (Nat.le_of_lt hVlt) (A2 := A2) (c2 := c2) h1 h2 hAlt hVp
            have hw1f : w1 = (un + 4294967296 - (f + e)) % 4294967296 := by omega
            rw [← hw1f, ← htk1] at hback
            have HBK := Lib.hid hback; have HGD := Lib.hid hgd1
            have hk1 : (k' : Int) + 1 - 1 = (k' : Int) := by omega
            have hk1b : (k' : Int) < 4294967296 := by omega
            have hk2b : (k' : Int) + 1 < 4294967296 := by omega
            have HW1 := Lib.hid hw1b
            clear hback hcb hst hst2 hA hUd hv1d hAlt hVp hVlt hee hw1e hse hx1e hI hlt HS hlen1 htk1 hgd1 hw1f
            repeat (first | (fail) | go_values | go_skip | go_guarded | go_step | go_upon | go_back)
            go_loopw [10, 143] (fun c z wr => ∃ (i e : Nat) (u' : List W32), i ≤ n ∧ z = .int .i64 i ∧ c = .int .u64 (e : Int) ∧ (e : Int) ≤ 1 ∧ Hid (u'.length = n + 1 ∧ (∀ k, i ≤ k → u'.getD k 0 = u1.getD k 0) ∧ va (u'.take i) + e * 4294967296 ^ i = va (u1.take i) + va (vl.take i)) ∧ Hid (Blk wr g (encW (P ++ u' ++ S)) 64 ∧ Blk wr gv (encW (vl ++ T)) 64 ∧ Only g w wr)) (fun _ z _ => n - (intOf z).toNat)
            case atStart => exact ⟨0, 0, u1, Nat.zero_le _, rfl, rfl, by omega, Lib.hid ⟨HL1.out, fun _ _ => rfl, by simp [va]⟩, HS2⟩
            case round =>
              clear HS2
              obtain ⟨i, e, u', hi, rfl, rfl, he, hI, HS⟩ := hrel
              by_cases hlt : i < n
              · have d1 := mid_cell HS.out.1 i (by rw [hI.out.1]; omega)
                have d2 := head_cell HS.out.2.1 i (by rw [HVL.out]; exact hlt)
                have hui := toNat_lt32 (u1.getD i 0)
                rw [hI.out.2.1 i (Nat.le_refl _)] at d1
                have hvi := toNat_lt32 (vl.getD i 0)
                have htu := va_take u1 i (by rw [HL1.out]; omega)
                have htv := va_take vl i (by rw [HVL.out]; exact hlt)
                generalize (u1.getD i 0).toNat = ui at d1 hui htu
                generalize (vl.getD i 0).toNat = vi at d2 hvi htv
                obtain ⟨p, hp, hpe⟩ : ∃ p : Nat, (ui : Int) + (vi : Int) + (e : Int) = (p : Int) ∧ p = ui + vi + e := ⟨ui + vi + e, by omega, rfl⟩
                obtain ⟨lo, hlo, hloe⟩ : ∃ x : Nat, (p : Int) % 4294967296 = (x : Int) ∧ x = p % 4294967296 := ⟨p % 4294967296, by omega, rfl⟩
                obtain ⟨e', he', hee⟩ : ∃ x : Nat, (p : Int) / 4294967296 = (x : Int) ∧ x = p / 4294967296 := ⟨p / 4294967296, by omega, rfl⟩
                have he1 : (e' : Int) ≤ 1 := by omega
                have hpb : (p : Int) < 18446744073709551616 := by omega
                have hlob : lo < 4294967296 := by omega
                have huib : (ui : Int) < 4294967296 := by omega
                have hvib : (vi : Int) < 4294967296 := by omega
                have hlaw := add_step hI.out.2.2 ui lo vi e' (by omega)
                have HI2 : Hid ((u'.set i (BitVec.ofNat 32 lo)).length = n + 1 ∧ (∀ k, i + 1 ≤ k → (u'.set i (BitVec.ofNat 32 lo)).getD k 0 = u1.getD k 0) ∧ va ((u'.set i (BitVec.ofNat 32 lo)).take (i + 1)) + e' * 4294967296 ^ (i + 1) = va (u1.take (i + 1)) + va (vl.take (i + 1))) := by
                  refine Lib.hid ⟨by rw [List.length_set]; exact hI.out.1, fun k hk => ?_, ?_⟩
                  · rw [set_getD _ _ _ _ (by rw [hI.out.1]; omega), if_neg (by omega)]
                    exact hI.out.2.1 k (by omega)
                  · rw [take_set_last _ _ _ (by rw [hI.out.1]; omega) hlob, htu, htv, Nat.pow_succ]
                    exact hlaw
                have hii : (i : Int) < (n : Int) := by omega
                have hii1 : (i : Int) < (n : Int) + 1 := by omega
                have HLT := Lib.hid hlt; have HLEN := Lib.hid hI.out.1; have HLO := Lib.hid hlob
                clear hlaw hpe hloe hee htu htv hui hvi hI hlt
                repeat (first | (fail) | go_values | go_skip | go_guarded | go_step | go_upon | go_back)
                go_quiet (fail)
                generalize hW : wr.drewN nq = W5
                have HS1 : Hid (Blk W5 g (encW (P ++ u' ++ S)) 64 ∧ Blk W5 gv (encW (vl ++ T)) 64 ∧ Only g w W5) := by
                  rw [← hW]
                  exact Lib.hid ⟨blk_drew HS.out.1 nq, blk_drew HS.out.2.1 nq, only_drew HS.out.2.2 nq⟩
                clear hW HS
                have d3 := mid_cell HS1.out.1 i (by rw [HLEN.out]; have := HLT.out; omega)
                have fr := HS1.out.1.free (P.length + i)
                have hst := mid_store HS1.out.1 i (by rw [HLEN.out]; have := HLT.out; omega) lo HLO.out
                have hst2 := Blk.other HS1.out.2.1 (p := ⟨g, P.length + i, none⟩) HNE.out (.int .u32 (lo : Int))
                have HS2 := Lib.hid (And.intro hst (And.intro hst2 (HS1.out.2.2.trans (Only.setCell ⟨g, P.length + i, none⟩ rfl (.int .u32 (lo : Int))))))
                clear hst hst2 HS1 d1 d2
                repeat (first | (fail) | go_values | go_skip | go_guarded | go_step | go_upon | go_back)
                go_roundw
                case rel => exact ⟨i + 1, e', _, HLT.out, by go_num, by go_num, he1, HI2, HS2⟩
                case measure => have := HLT.out; simp [intOf]; omega
              · obtain rfl : n = i := by omega
                have d1 := mid_cell HS.out.1 n (by rw [hI.out.1]; omega)
                have fr := HS.out.1.free (P.length + n)
                rw [hI.out.2.1 n (Nat.le_refl _), HGD.out, BitVec.toNat_ofNat, Nat.mod_eq_of_lt (show w1 < 2 ^ 32 from HW1.out)] at d1
                have hA2 := hI.out.2.2
                rw [show vl.take n = vl from List.take_of_length_le (by rw [HVL.out]; exact Nat.le_refl _)] at hA2
                have hbk := HBK.out _ _ hA2 (va_take_lt u' n (by rw [hI.out.1]; omega))
                obtain ⟨hsum, hres⟩ := hbk
                have hsi : (w1 : Int) + (e : Int) = 4294967296 := by omega
                have hst := mid_store HS.out.1 n (by rw [hI.out.1]; omega) 0 (by omega)
                have hst2 := Blk.other HS.out.2.1 (p := ⟨g, P.length + n, none⟩) HNE.out (.int .u32 ((0 : Nat) : Int))
                have HS2 := Lib.hid (And.intro hst (And.intro hst2 (HS.out.2.2.trans (Only.setCell ⟨g, P.length + n, none⟩ rfl (.int .u32 ((0 : Nat) : Int))))))
                have hlen2 : (u'.set n (BitVec.ofNat 32 0)).length = n + 1 := by rw [List.length_set]; exact hI.out.1
                have hfin : va (u'.set n (BitVec.ofNat 32 0)) = va u % va vl := by
                  have := take_set_last u' n 0 (by rw [hI.out.1]; omega) (by omega)
                  rw [← hlen2, List.take_length, Nat.mul_zero, Nat.add_zero, hres] at this
                  exact this
                have HF := Lib.hid (And.intro hlen2 hfin)
                have hw1i : (w1 : Int) < 4294967296 := by have := HW1.out; omega
                clear hsum hres hA2 hst hst2 hlen2 hfin hI hlt HS HBK
                repeat (first | (fail) | go_values | go_skip | go_guarded | go_step | go_upon | go_back)
                go_ret
                exact ⟨HS2.out.2.2, k', _, rfl, by omega, HS2.out.1, HF.out.1, HF.out.2⟩
    · have hrz : (r : Int) / 4294967296 = 0 := by omega
      by_cases hB : 4294967296 ≤ q
      · obtain ⟨z, hz, hze⟩ : ∃ z : Nat, (q : Int) / 4294967296 = (z : Int) ∧ (z : Int) ≠ 0 := ⟨q / 4294967296, by omega, by omega⟩
        have hze2 : ((z : Int) != 0) = true := by rw [bne_iff_ne]; exact hze
        have hze3 : ((z : Int) == 0) = false := by rw [beq_eq_false_iff_ne]; exact hze
        clear hze
        obtain ⟨hge, hq0⟩ := F3.out q r hqr.out.1 hqr.out.2 (.inl hB)
        obtain ⟨q1, hq1, hq1e⟩ : ∃ x : Nat, (q : Int) - 1 = (x : Int) ∧ q = x + 1 := ⟨q - 1, by omega, by omega⟩
        obtain ⟨r1, hr1, hr1e⟩ : ∃ x : Nat, (r : Int) + (v1 : Int) = (x : Int) ∧ x = r + v1 := ⟨r + v1, by omega, rfl⟩
        have hnew : q1 * v1 + r1 = top := by
          have h := hqr.out.1
          rw [hq1e, Nat.succ_mul] at h
          omega
        have HNEW := Lib.hid (And.intro hnew (show va u / va vl ≤ q1 by rw [show q1 = q - 1 by omega]; exact hge))
        have hq1b : (q1 : Int) ≤ 8589934592 := by omega
        have hr1b : (r1 : Int) < 8589934592 := by omega
        have hrb : (r : Int) < 4294967296 := by omega
        have HM := Lib.hid (show q1 < q by omega)
        clear hge hq0 hq1e hr1e hnew hqr
        repeat (first | (fail) | go_values | go_skip | go_guarded | go_step | go_upon | go_back)
        go_quiet (fail)
        generalize hW : wr.drewN nq = W3
        have HS1 : Hid (Blk W3 g (encW (P ++ u ++ S)) 64 ∧ Blk W3 gv (encW (vl ++ T)) 64 ∧ Only g w W3) := by
          rw [← hW]
          exact Lib.hid ⟨blk_drew HS.out.1 nq, blk_drew HS.out.2.1 nq, only_drew HS.out.2.2 nq⟩
        clear hW HS
        have c3 := HCV.out _ HS1.out.2.1
        repeat (first | (fail) | go_values | go_skip | go_guarded | go_step | go_upon | go_back)
        go_roundw
        case rel => exact ⟨q1, r1, by go_num, by go_num, hq1b, hr1b, HNEW, HS1⟩
        case measure => have := HM.out; simp [intOf]; omega
      · have hqz : (q : Int) / 4294967296 = 0 := by omega
        by_cases hn1' : 1 < n
        · have hone : (1 : Int) < (n : Int) := by omega
          obtain ⟨n2, hn2, hn2e⟩ : ∃ m : Nat, (n : Int) - 2 = (m : Int) ∧ m = n - 2 := ⟨_, by omega, rfl⟩
          have d4 := head_cell HS.out.2.1 n2 (by rw [HVL.out]; omega)
          have d5 := mid_cell HS.out.1 n2 (by rw [HU.out]; omega)
          have hv2 := HV2.out
          have hu2 := HU2.out
          rw [if_pos hn1'] at hv2 hu2
          rw [hn2e, ← hv2, ← hn2e] at d4
          rw [hn2e, ← hu2, ← hn2e] at d5
          have hv2i : (v2 : Int) < 4294967296 := by omega
          have hu2i : (u2 : Int) < 4294967296 := by omega
          have hn2l : (n2 : Int) < (n : Int) := by omega
          have hn2l2 : (n2 : Int) < (n : Int) + 1 := by omega
          have hpm := mul_prod q v2 (by omega) hv2b
          obtain ⟨m, hm, hme⟩ : ∃ m : Nat, (q : Int) * (v2 : Int) = (m : Int) ∧ m = q * v2 := ⟨q * v2, by rw [Int.natCast_mul], rfl⟩
          rw [← hme] at hpm
          obtain ⟨y, hy, hye⟩ : ∃ y : Nat, bits .or .u64 ((r : Int) * 4294967296) (u2 : Int) = (y : Int) ∧ y = r * 4294967296 + u2 := ⟨_, by rw [← u64_join r u2 (by omega) hu2b, Int.natCast_mul]; rfl, rfl⟩
          have hmb : (m : Int) < 18446744073709551616 := by omega
          have hrb : (r : Int) < 4294967296 := by omega
          have hqb : (q : Int) < 4294967296 := by omega
          by_cases hD : y < m
          · have hDi : (y : Int) < (m : Int) := by omega
            have hC : 4294967296 ≤ q ∨ r * 4294967296 + u2 < q * v2 := .inr (by omega)
            clear hye hme hpm hn2e hv2 hu2 hn1'
            obtain ⟨hge, hq0⟩ := F3.out q r hqr.out.1 hqr.out.2 hC
            obtain ⟨q1, hq1, hq1e⟩ : ∃ x : Nat, (q : Int) - 1 = (x : Int) ∧ q = x + 1 := ⟨q - 1, by omega, by omega⟩
            obtain ⟨r1, hr1, hr1e⟩ : ∃ x : Nat, (r : Int) + (v1 : Int) = (x : Int) ∧ x = r + v1 := ⟨r + v1, by omega, rfl⟩
            have hnew : q1 * v1 + r1 = top := by
              have h := hqr.out.1
              rw [hq1e, Nat.succ_mul] at h
              omega
            have HNEW := Lib.hid (And.intro hnew (show va u / va vl ≤ q1 by rw [show q1 = q - 1 by omega]; exact hge))
            have hq1b : (q1 : Int) ≤ 8589934592 := by omega
            have hr1b : (r1 : Int) < 8589934592 := by omega
            have hrb : (r : Int) < 4294967296 := by omega
            have HM := Lib.hid (show q1 < q by omega)
            clear hge hq0 hq1e hr1e hnew hqr
            repeat (first | (fail) | go_values | go_skip | go_guarded | go_step | go_upon | go_back)
            go_quiet (fail)
            generalize hW : wr.drewN nq = W3
            have HS1 : Hid (Blk W3 g (encW (P ++ u ++ S)) 64 ∧ Blk W3 gv (encW (vl ++ T)) 64 ∧ Only g w W3) := by
              rw [← hW]
              exact Lib.hid ⟨blk_drew HS.out.1 nq, blk_drew HS.out.2.1 nq, only_drew HS.out.2.2 nq⟩
            clear hW HS
            have c3 := HCV.out _ HS1.out.2.1
            repeat (first | (fail) | go_values | go_skip | go_guarded | go_step | go_upon | go_back)
            go_roundw
            case rel => exact ⟨q1, r1, by go_num, by go_num, hq1b, hr1b, HNEW, HS1⟩
            case measure => have := HM.out; simp [intOf]; omega
          · have hDi : ¬ ((y : Int) < (m : Int)) := by omega
            have hend := F4.out q r hqr.out.1 (by omega) (.inr (by omega))
            have HEND := Lib.hid (And.intro (show q < 4294967296 by omega) (And.intro hqr.out.2 hend))
            clear hye hme hpm hn2e hv2 hu2 hn1' hend hA hB hD hqr
            repeat (first | (fail) | go_values | go_skip | go_guarded | go_step | go_upon | go_back)
            go_quiet (fail)
            generalize hW : wr.drewN nq = W3
            have HS1 : Hid (Blk W3 g (encW (P ++ u ++ S)) 64 ∧ Blk W3 gv (encW (vl ++ T)) 64 ∧ Only g w W3) := by
              rw [← hW]
              exact Lib.hid ⟨blk_drew HS.out.1 nq, blk_drew HS.out.2.1 nq, only_drew HS.out.2.2 nq⟩
            clear hW HS
            repeat (first | (fail) | go_values | go_skip | go_guarded | go_step | go_upon | go_back)
            clear d4 d5
            go_loopw [9, 10, 91] (fun b c z wr => ∃ (i e f : Nat) (u' : List W32), i ≤ n ∧ z = .int .i64 i ∧ b = .int .u64 (e : Int) ∧ c = .int .u64 (f : Int) ∧ (e : Int) ≤ 1 ∧ (f : Int) < 4294967296 ∧ Hid (u'.length = n + 1 ∧ (∀ k, i ≤ k → u'.getD k 0 = u.getD k 0) ∧ va (u'.take i) + q * va (vl.take i) = va (u.take i) + (f + e) * 4294967296 ^ i) ∧ Hid (Blk wr g (encW (P ++ u' ++ S)) 64 ∧ Blk wr gv (encW (vl ++ T)) 64 ∧ Only g w wr)) (fun _ _ z _ => n - (intOf z).toNat)
            case atStart => exact ⟨0, 0, 0, u, Nat.zero_le _, rfl, rfl, rfl, by omega, by omega, Lib.hid ⟨HU.out, fun _ _ => rfl, by simp [va]⟩, HS1⟩
            case round =>
              clear HS1
              obtain ⟨i, e, f, u', hi, rfl, rfl, rfl, he, hf, hI, HS⟩ := hrel
              by_cases hlt : i < n
              · have d1 := mid_cell HS.out.1 i (by rw [hI.out.1]; omega)
                have d2 := head_cell HS.out.2.1 i (by rw [HVL.out]; exact hlt)
                have fr := HS.out.1.free (P.length + i)
                have hui := toNat_lt32 (u.getD i 0)
                rw [hI.out.2.1 i (Nat.le_refl _)] at d1
                have hvi := toNat_lt32 (vl.getD i 0)
                have htu := va_take u i (by rw [HU.out]; omega)
                have htv := va_take vl i (by rw [HVL.out]; exact hlt)
                generalize (u.getD i 0).toNat = ui at d1 hui htu
                generalize (vl.getD i 0).toNat = vi at d2 hvi htv
                have hpm := mul_prod q vi HEND.out.1 hvi
                obtain ⟨m, hm, hme⟩ : ∃ m : Nat, (q : Int) * (vi : Int) = (m : Int) ∧ m = q * vi := ⟨q * vi, by rw [Int.natCast_mul], rfl⟩
                rw [← hme] at hpm
                obtain ⟨p, hp, hpe⟩ : ∃ p : Nat, (m : Int) + (f : Int) = (p : Int) ∧ p = m + f := ⟨m + f, by omega, rfl⟩
                obtain ⟨lo, hlo, hloe⟩ : ∃ x : Nat, bits .and .u64 (p : Int) 4294967295 = (x : Int) ∧ x = p % 4294967296 := ⟨_, u64_low p (by omega), rfl⟩
                obtain ⟨f', hf', hfe⟩ : ∃ x : Nat, (p : Int) / 4294967296 = (x : Int) ∧ x = p / 4294967296 := ⟨p / 4294967296, by omega, rfl⟩
                obtain ⟨x1, hx1, hx1e⟩ : ∃ x : Nat, ((ui : Int) - (lo : Int)) % 18446744073709551616 = (x : Int) ∧ x = (ui + 18446744073709551616 - lo) % 18446744073709551616 := ⟨(ui + 18446744073709551616 - lo) % 18446744073709551616, by omega, rfl⟩
                obtain ⟨s, hs, hse⟩ : ∃ x : Nat, ((x1 : Int) - (e : Int)) % 18446744073709551616 = (x : Int) ∧ x = (x1 + 18446744073709551616 - e) % 18446744073709551616 := ⟨(x1 + 18446744073709551616 - e) % 18446744073709551616, by omega, rfl⟩
                obtain ⟨w1, hw1, hw1e⟩ : ∃ x : Nat, (s : Int) % 4294967296 = (x : Int) ∧ x = s % 4294967296 := ⟨s % 4294967296, by omega, rfl⟩
                obtain ⟨e', he', hee⟩ : ∃ x : Nat, (s : Int) / 9223372036854775808 = (x : Int) ∧ x = s / 9223372036854775808 := ⟨s / 9223372036854775808, by omega, rfl⟩
                have hd : w1 + m + (f + e) = ui + (f' + e') * 4294967296 := by omega
                have hw1b : w1 < 4294967296 := by omega
                have he1 : (e' : Int) ≤ 1 := by omega
                have hf1 : (f' : Int) < 4294967296 := by omega
                have hpb : (p : Int) < 18446744073709551616 := by omega
                have hmb : (m : Int) < 18446744073709551616 := by omega
                have hlob : (lo : Int) < 4294967296 := by omega
                have huib : (ui : Int) < 4294967296 := by omega
                have hvib : (vi : Int) < 4294967296 := by omega
                have hqb : (q : Int) < 4294967296 := by have := HEND.out.1; omega
                rw [← IntKind.wrap_u64] at hx1 hs
                have hsb : (s : Int) < 18446744073709551616 := by omega
                have hxb : (x1 : Int) < 18446744073709551616 := by omega
                have hlaw := sub_step hI.out.2.2 ui w1 vi f' e' (by rw [← hme]; exact hd)
                have HI2 : Hid ((u'.set i (BitVec.ofNat 32 w1)).length = n + 1 ∧ (∀ k, i + 1 ≤ k → (u'.set i (BitVec.ofNat 32 w1)).getD k 0 = u.getD k 0) ∧ va ((u'.set i (BitVec.ofNat 32 w1)).take (i + 1)) + q * va (vl.take (i + 1)) = va (u.take (i + 1)) + (f' + e') * 4294967296 ^ (i + 1)) := by
                  refine Lib.hid ⟨by rw [List.length_set]; exact hI.out.1, fun k hk => ?_, ?_⟩
                  · rw [set_getD _ _ _ _ (by rw [hI.out.1]; omega), if_neg (by omega)]
                    exact hI.out.2.1 k (by omega)
                  · rw [take_set_last _ _ _ (by rw [hI.out.1]; omega) hw1b, htu, htv, Nat.pow_succ]
                    exact hlaw
                have hst := mid_store HS.out.1 i (by rw [hI.out.1]; omega) w1 hw1b
                have hst2 := Blk.other HS.out.2.1 (p := ⟨g, P.length + i, none⟩) HNE.out (.int .u32 (w1 : Int))
                have HS2 := Lib.hid (And.intro hst (And.intro hst2 (HS.out.2.2.trans (Only.setCell ⟨g, P.length + i, none⟩ rfl (.int .u32 (w1 : Int))))))
                have hii : (i : Int) < (n : Int) := by omega
                have hii1 : (i : Int) < (n : Int) + 1 := by omega
                have HLT := Lib.hid hlt
                clear hst hst2 hlaw hd hee hw1e hse hx1e hfe hloe hpe hme hpm htu htv hui hvi hI hlt HS
                repeat (first | (fail) | go_values | go_skip | go_guarded | go_step | go_upon | go_back)
                go_roundw
                case rel => exact ⟨i + 1, e', f', _, HLT.out, by go_num, by go_num, by go_num, he1, hf1, HI2, HS2⟩
                case measure => have := HLT.out; simp [intOf]; omega
              · obtain rfl : n = i := by omega
                have d1 := mid_cell HS.out.1 n (by rw [hI.out.1]; omega)
                have fr := HS.out.1.free (P.length + n)
                rw [hI.out.2.1 n (Nat.le_refl _), ← HUN.out] at d1
                obtain ⟨x1, hx1, hx1e⟩ : ∃ x : Nat, ((un : Int) - (f : Int)) % 18446744073709551616 = (x : Int) ∧ x = (un + 18446744073709551616 - f) % 18446744073709551616 := ⟨(un + 18446744073709551616 - f) % 18446744073709551616, by omega, rfl⟩
                obtain ⟨s, hs, hse⟩ : ∃ x : Nat, ((x1 : Int) - (e : Int)) % 18446744073709551616 = (x : Int) ∧ x = (x1 + 18446744073709551616 - e) % 18446744073709551616 := ⟨(x1 + 18446744073709551616 - e) % 18446744073709551616, by omega, rfl⟩
                obtain ⟨w1, hw1, hw1e⟩ : ∃ x : Nat, (s : Int) % 4294967296 = (x : Int) ∧ x = s % 4294967296 := ⟨s % 4294967296, by omega, rfl⟩
                obtain ⟨e', he', hee⟩ : ∃ x : Nat, (s : Int) / 9223372036854775808 = (x : Int) ∧ x = s / 9223372036854775808 := ⟨s / 9223372036854775808, by omega, rfl⟩
                have hw1b : w1 < 4294967296 := by omega
                have hsb : (s : Int) < 18446744073709551616 := by omega
                have hxb : (x1 : Int) < 18446744073709551616 := by omega
                rw [← IntKind.wrap_u64] at hx1 hs
                have hst := mid_store HS.out.1 n (by rw [hI.out.1]; omega) w1 hw1b
                have hst2 := Blk.other HS.out.2.1 (p := ⟨g, P.length + n, none⟩) HNE.out (.int .u32 (w1 : Int))
                have HS2 := Lib.hid (And.intro hst (And.intro hst2 (HS.out.2.2.trans (Only.setCell ⟨g, P.length + n, none⟩ rfl (.int .u32 (w1 : Int))))))
                have hqb : (q : Int) < 4294967296 := by have := HEND.out.1; omega
                have hVp : 0 < va vl := by have := HUV.out; omega
                have hVlt : va vl < 4294967296 ^ n := by have := va_lt vl; rwa [HVL.out] at this
                have hA := hI.out.2.2
                rw [show vl.take n = vl from List.take_of_length_le (by rw [HVL.out]; exact Nat.le_refl _)] at hA
                have hUd := va_last u n HU.out
                rw [← HUN.out] at hUd
                have hlen1 : (u'.set n (BitVec.ofNat 32 w1)).length = n + 1 := by rw [List.length_set]; exact hI.out.1
                have hv1d : va (u'.set n (BitVec.ofNat 32 w1)) = va (u'.take n) + 4294967296 ^ n * w1 := by
                  have := take_set_last u' n w1 (by rw [hI.out.1]; omega) hw1b
                  rwa [← hlen1, List.take_length] at this
                have hAlt : va (u'.take n) < 4294967296 ^ n := va_take_lt u' n (by rw [hI.out.1]; omega)
                have htk1 : (u'.set n (BitVec.ofNat 32 w1)).take n = u'.take n := List.take_set_of_le (Nat.le_refl _)
                have hgd1 : (u'.set n (BitVec.ofNat 32 w1)).getD n 0 = BitVec.ofNat 32 w1 := by rw [set_getD _ _ _ _ (by rw [hI.out.1]; omega), if_pos rfl]
                generalize u'.set n (BitVec.ofNat 32 w1) = u1 at HS2 hlen1 hv1d htk1 hgd1
                have HL1 := Lib.hid hlen1
                by_cases hcb : f + e ≤ un
                · obtain rfl : e' = 0 := by omega
                  have hgood := sub_good hA hUd hcb HEND.out.2.1 hVp
                  rw [show un - (f + e) = w1 by omega, ← hv1d] at hgood
                  have HG := Lib.hid hgood
                  clear hgood hcb hst hst2 hA hUd hv1d hAlt hVp hVlt hee hw1e hse hx1e hI hlt HS hlen1 htk1 hgd1
                  repeat (first | (fail) | go_values | go_skip | go_guarded | go_step | go_upon | go_back)
                  go_ret
                  exact ⟨HS2.out.2.2, q, u1, rfl, HEND.out.1, HS2.out.1, HL1.out, HG.out⟩
                · obtain ⟨k', rfl⟩ : ∃ k', q = k' + 1 := ⟨q - 1, by
                    have : q ≠ 0 := fun h => by
                      subst h
                      rw [Nat.zero_mul] at hA
                      have h1 := va_take_lt u n (by rw [HU.out]; omega)
                      have h2 : 4294967296 ^ n ≤ (f + e) * 4294967296 ^ n := Nat.le_mul_of_pos_left _ (by omega)
                      omega
                    omega⟩
                  obtain rfl : e' = 1 := by omega
                  have hback := fun A2 c2 h1 h2 => sub_back hA hUd (by omega) HEND.out.2.1 HEND.out.2.2 (Nat.le_of_lt hVlt) (A2 := A2) (c2 := c2) h1 h2 hAlt hVp
                  have hw1f : w1 = (un + 4294967296 - (f + e)) % 4294967296 := by omega
                  rw [← hw1f, ← htk1] at hback
                  have HBK := Lib.hid hback; have HGD := Lib.hid hgd1
                  have hk1 : (k' : Int) + 1 - 1 = (k' : Int) := by omega
                  have hk1b : (k' : Int) < 4294967296 := by omega
                  have hk2b : (k' : Int) + 1 < 4294967296 := by omega
                  have HW1 := Lib.hid hw1b
                  clear hback hcb hst hst2 hA hUd hv1d hAlt hVp hVlt hee hw1e hse hx1e hI hlt HS hlen1 htk1 hgd1 hw1f
                  repeat (first | (fail) | go_values | go_skip | go_guarded | go_step | go_upon | go_back)
                  go_loopw [10, 143] (fun c z wr => ∃ (i e : Nat) (u' : List W32), i ≤ n ∧ z = .int .i64 i ∧ c = .int .u64 (e : Int) ∧ (e : Int) ≤ 1 ∧ Hid (u'.length = n + 1 ∧ (∀ k, i ≤ k → u'.getD k 0 = u1.getD k 0) ∧ va (u'.take i) + e * 4294967296 ^ i = va (u1.take i) + va (vl.take i)) ∧ Hid (Blk wr g (encW (P ++ u' ++ S)) 64 ∧ Blk wr gv (encW (vl ++ T)) 64 ∧ Only g w wr)) (fun _ z _ => n - (intOf z).toNat)
                  case atStart => exact ⟨0, 0, u1, Nat.zero_le _, rfl, rfl, by omega, Lib.hid ⟨HL1.out, fun _ _ => rfl, by simp [va]⟩, HS2⟩
                  case round =>
                    clear HS2
                    obtain ⟨i, e, u', hi, rfl, rfl, he, hI, HS⟩ := hrel
                    by_cases hlt : i < n
                    · have d1 := mid_cell HS.out.1 i (by rw [hI.out.1]; omega)
                      have d2 := head_cell HS.out.2.1 i (by rw [HVL.out]; exact hlt)
                      have hui := toNat_lt32 (u1.getD i 0)
                      rw [hI.out.2.1 i (Nat.le_refl _)] at d1
                      have hvi := toNat_lt32 (vl.getD i 0)
                      have htu := va_take u1 i (by rw [HL1.out]; omega)
                      have htv := va_take vl i (by rw [HVL.out]; exact hlt)
                      generalize (u1.getD i 0).toNat = ui at d1 hui htu
                      generalize (vl.getD i 0).toNat = vi at d2 hvi htv
                      obtain ⟨p, hp, hpe⟩ : ∃ p : Nat, (ui : Int) + (vi : Int) + (e : Int) = (p : Int) ∧ p = ui + vi + e := ⟨ui + vi + e, by omega, rfl⟩
                      obtain ⟨lo, hlo, hloe⟩ : ∃ x : Nat, (p : Int) % 4294967296 = (x : Int) ∧ x = p % 4294967296 := ⟨p % 4294967296, by omega, rfl⟩
                      obtain ⟨e', he', hee⟩ : ∃ x : Nat, (p : Int) / 4294967296 = (x : Int) ∧ x = p / 4294967296 := ⟨p / 4294967296, by omega, rfl⟩
                      have he1 : (e' : Int) ≤ 1 := by omega
                      have hpb : (p : Int) < 18446744073709551616 := by omega
                      have hlob : lo < 4294967296 := by omega
                      have huib : (ui : Int) < 4294967296 := by omega
                      have hvib : (vi : Int) < 4294967296 := by omega
                      have hlaw := add_step hI.out.2.2 ui lo vi e' (by omega)
                      have HI2 : Hid ((u'.set i (BitVec.ofNat 32 lo)).length = n + 1 ∧ (∀ k, i + 1 ≤ k → (u'.set i (BitVec.ofNat 32 lo)).getD k 0 = u1.getD k 0) ∧ va ((u'.set i (BitVec.ofNat 32 lo)).take (i + 1)) + e' * 4294967296 ^ (i + 1) = va (u1.take (i + 1)) + va (vl.take (i + 1))) := by
                        refine Lib.hid ⟨by rw [List.length_set]; exact hI.out.1, fun k hk => ?_, ?_⟩
                        · rw [set_getD _ _ _ _ (by rw [hI.out.1]; omega), if_neg (by omega)]
                          exact hI.out.2.1 k (by omega)
                        · rw [take_set_last _ _ _ (by rw [hI.out.1]; omega) hlob, htu, htv, Nat.pow_succ]
                          exact hlaw
                      have hii : (i : Int) < (n : Int) := by omega
                      have hii1 : (i : Int) < (n : Int) + 1 := by omega
                      have HLT := Lib.hid hlt; have HLEN := Lib.hid hI.out.1; have HLO := Lib.hid hlob
                      clear hlaw hpe hloe hee htu htv hui hvi hI hlt
                      repeat (first | (fail) | go_values | go_skip | go_guarded | go_step | go_upon | go_back)
                      go_quiet (fail)
                      generalize hW : wr.drewN nq = W5
                      have HS1 : Hid (Blk W5 g (encW (P ++ u' ++ S)) 64 ∧ Blk W5 gv (encW (vl ++ T)) 64 ∧ Only g w W5) := by
                        rw [← hW]
                        exact Lib.hid ⟨blk_drew HS.out.1 nq, blk_drew HS.out.2.1 nq, only_drew HS.out.2.2 nq⟩
                      clear hW HS
                      have d3 := mid_cell HS1.out.1 i (by rw [HLEN.out]; have := HLT.out; omega)
                      have fr := HS1.out.1.free (P.length + i)
                      have hst := mid_store HS1.out.1 i (by rw [HLEN.out]; have := HLT.out; omega) lo HLO.out
                      have hst2 := Blk.other HS1.out.2.1 (p := ⟨g, P.length + i, none⟩) HNE.out (.int .u32 (lo : Int))
                      have HS2 := Lib.hid (And.intro hst (And.intro hst2 (HS1.out.2.2.trans (Only.setCell ⟨g, P.length + i, none⟩ rfl (.int .u32 (lo : Int))))))
                      clear hst hst2 HS1 d1 d2
                      repeat (first | (fail) | go_values | go_skip | go_guarded | go_step | go_upon | go_back)
                      go_roundw
                      case rel => exact ⟨i + 1, e', _, HLT.out, by go_num, by go_num, he1, HI2, HS2⟩
                      case measure => have := HLT.out; simp [intOf]; omega
                    · obtain rfl : n = i := by omega
                      have d1 := mid_cell HS.out.1 n (by rw [hI.out.1]; omega)
                      have fr := HS.out.1.free (P.length + n)
                      rw [hI.out.2.1 n (Nat.le_refl _), HGD.out, BitVec.toNat_ofNat, Nat.mod_eq_of_lt (show w1 < 2 ^ 32 from HW1.out)] at d1
                      have hA2 := hI.out.2.2
                      rw [show vl.take n = vl from List.take_of_length_le (by rw [HVL.out]; exact Nat.le_refl _)] at hA2
                      have hbk := HBK.out _ _ hA2 (va_take_lt u' n (by rw [hI.out.1]; omega))
                      obtain ⟨hsum, hres⟩ := hbk
                      have hsi : (w1 : Int) + (e : Int) = 4294967296 := by omega
                      have hst := mid_store HS.out.1 n (by rw [hI.out.1]; omega) 0 (by omega)
                      have hst2 := Blk.other HS.out.2.1 (p := ⟨g, P.length + n, none⟩) HNE.out (.int .u32 ((0 : Nat) : Int))
                      have HS2 := Lib.hid (And.intro hst (And.intro hst2 (HS.out.2.2.trans (Only.setCell ⟨g, P.length + n, none⟩ rfl (.int .u32 ((0 : Nat) : Int))))))
                      have hlen2 : (u'.set n (BitVec.ofNat 32 0)).length = n + 1 := by rw [List.length_set]; exact hI.out.1
                      have hfin : va (u'.set n (BitVec.ofNat 32 0)) = va u % va vl := by
                        have := take_set_last u' n 0 (by rw [hI.out.1]; omega) (by omega)
                        rw [← hlen2, List.take_length, Nat.mul_zero, Nat.add_zero, hres] at this
                        exact this
                      have HF := Lib.hid (And.intro hlen2 hfin)
                      have hw1i : (w1 : Int) < 4294967296 := by have := HW1.out; omega
                      clear hsum hres hA2 hst hst2 hlen2 hfin hI hlt HS HBK
                      repeat (first | (fail) | go_values | go_skip | go_guarded | go_step | go_upon | go_back)
                      go_ret
                      exact ⟨HS2.out.2.2, k', _, rfl, by omega, HS2.out.1, HF.out.1, HF.out.2⟩
        · have hone : ¬ ((1 : Int) < (n : Int)) := by omega
          have hend := F4.out q r hqr.out.1 (by omega) (.inr (by have h := HV2.out; rw [if_neg hn1'] at h; rw [h, Nat.mul_zero]; exact Nat.zero_le _))
          have HEND := Lib.hid (And.intro (show q < 4294967296 by omega) (And.intro hqr.out.2 hend))
          clear hn1' hend hA hB hqr
          repeat (first | (fail) | go_values | go_skip | go_guarded | go_step | go_upon | go_back)
          go_quiet (fail)
          generalize hW : wr.drewN nq = W3
          have HS1 : Hid (Blk W3 g (encW (P ++ u ++ S)) 64 ∧ Blk W3 gv (encW (vl ++ T)) 64 ∧ Only g w W3) := by
            rw [← hW]
            exact Lib.hid ⟨blk_drew HS.out.1 nq, blk_drew HS.out.2.1 nq, only_drew HS.out.2.2 nq⟩
          clear hW HS
          repeat (first | (fail) | go_values | go_skip | go_guarded | go_step | go_upon | go_back)
          go_loopw [9, 10, 91] (fun b c z wr => ∃ (i e f : Nat) (u' : List W32), i ≤ n ∧ z = .int .i64 i ∧ b = .int .u64 (e : Int) ∧ c = .int .u64 (f : Int) ∧ (e : Int) ≤ 1 ∧ (f : Int) < 4294967296 ∧ Hid (u'.length = n + 1 ∧ (∀ k, i ≤ k → u'.getD k 0 = u.getD k 0) ∧ va (u'.take i) + q * va (vl.take i) = va (u.take i) + (f + e) * 4294967296 ^ i) ∧ Hid (Blk wr g (encW (P ++ u' ++ S)) 64 ∧ Blk wr gv (encW (vl ++ T)) 64 ∧ Only g w wr)) (fun _ _ z _ => n - (intOf z).toNat)
          case atStart => exact ⟨0, 0, 0, u, Nat.zero_le _, rfl, rfl, rfl, by omega, by omega, Lib.hid ⟨HU.out, fun _ _ => rfl, by simp [va]⟩, HS1⟩
          case round =>
            clear HS1
            obtain ⟨i, e, f, u', hi, rfl, rfl, rfl, he, hf, hI, HS⟩ := hrel
            by_cases hlt : i < n
            · have d1 := mid_cell HS.out.1 i (by rw [hI.out.1]; omega)
              have d2 := head_cell HS.out.2.1 i (by rw [HVL.out]; exact hlt)
              have fr := HS.out.1.free (P.length + i)
              have hui := toNat_lt32 (u.getD i 0)
              rw [hI.out.2.1 i (Nat.le_refl _)] at d1
              have hvi := toNat_lt32 (vl.getD i 0)
              have htu := va_take u i (by rw [HU.out]; omega)
              have htv := va_take vl i (by rw [HVL.out]; exact hlt)
              generalize (u.getD i 0).toNat = ui at d1 hui htu
              generalize (vl.getD i 0).toNat = vi at d2 hvi htv
              have hpm := mul_prod q vi HEND.out.1 hvi
              obtain ⟨m, hm, hme⟩ : ∃ m : Nat, (q : Int) * (vi : Int) = (m : Int) ∧ m = q * vi := ⟨q * vi, by rw [Int.natCast_mul], rfl⟩
              rw [← hme] at hpm
              obtain ⟨p, hp, hpe⟩ : ∃ p : Nat, (m : Int) + (f : Int) = (p : Int) ∧ p = m + f := ⟨m + f, by omega, rfl⟩
              obtain ⟨lo, hlo, hloe⟩ : ∃ x : Nat, bits .and .u64 (p : Int) 4294967295 = (x : Int) ∧ x = p % 4294967296 := ⟨_, u64_low p (by omega), rfl⟩
              obtain ⟨f', hf', hfe⟩ : ∃ x : Nat, (p : Int) / 4294967296 = (x : Int) ∧ x = p / 4294967296 := ⟨p / 4294967296, by omega, rfl⟩
              obtain ⟨x1, hx1, hx1e⟩ : ∃ x : Nat, ((ui : Int) - (lo : Int)) % 18446744073709551616 = (x : Int) ∧ x = (ui + 18446744073709551616 - lo) % 18446744073709551616 := ⟨(ui + 18446744073709551616 - lo) % 18446744073709551616, by omega, rfl⟩
              obtain ⟨s, hs, hse⟩ : ∃ x : Nat, ((x1 : Int) - (e : Int)) % 18446744073709551616 = (x : Int) ∧ x = (x1 + 18446744073709551616 - e) % 18446744073709551616 := ⟨(x1 + 18446744073709551616 - e) % 18446744073709551616, by omega, rfl⟩
              obtain ⟨w1, hw1, hw1e⟩ : ∃ x : Nat, (s : Int) % 4294967296 = (x : Int) ∧ x = s % 4294967296 := ⟨s % 4294967296, by omega, rfl⟩
              obtain ⟨e', he', hee⟩ : ∃ x : Nat, (s : Int) / 9223372036854775808 = (x : Int) ∧ x = s / 9223372036854775808 := ⟨s / 9223372036854775808, by omega, rfl⟩
              have hd : w1 + m + (f + e) = ui + (f' + e') * 4294967296 := by omega
              have hw1b : w1 < 4294967296 := by omega
              have he1 : (e' : Int) ≤ 1 := by omega
              have hf1 : (f' : Int) < 4294967296 := by omega
              have hpb : (p : Int) < 18446744073709551616 := by omega
              have hmb : (m : Int) < 18446744073709551616 := by omega
              have hlob : (lo : Int) < 4294967296 := by omega
              have huib : (ui : Int) < 4294967296 := by omega
              have hvib : (vi : Int) < 4294967296 := by omega
              have hqb : (q : Int) < 4294967296 := by have := HEND.out.1; omega
              rw [← IntKind.wrap_u64] at hx1 hs
              have hsb : (s : Int) < 18446744073709551616 := by omega
              have hxb : (x1 : Int) < 18446744073709551616 := by omega
              have hlaw := sub_step hI.out.2.2 ui w1 vi f' e' (by rw [← hme]; exact hd)
              have HI2 : Hid ((u'.set i (BitVec.ofNat 32 w1)).length = n + 1 ∧ (∀ k, i + 1 ≤ k → (u'.set i (BitVec.ofNat 32 w1)).getD k 0 = u.getD k 0) ∧ va ((u'.set i (BitVec.ofNat 32 w1)).take (i + 1)) + q * va (vl.take (i + 1)) = va (u.take (i + 1)) + (f' + e') * 4294967296 ^ (i + 1)) := by
                refine Lib.hid ⟨by rw [List.length_set]; exact hI.out.1, fun k hk => ?_, ?_⟩
                · rw [set_getD _ _ _ _ (by rw [hI.out.1]; omega), if_neg (by omega)]
                  exact hI.out.2.1 k (by omega)
                · rw [take_set_last _ _ _ (by rw [hI.out.1]; omega) hw1b, htu, htv, Nat.pow_succ]
                  exact hlaw
              have hst := mid_store HS.out.1 i (by rw [hI.out.1]; omega) w1 hw1b
              have hst2 := Blk.other HS.out.2.1 (p := ⟨g, P.length + i, none⟩) HNE.out (.int .u32 (w1 : Int))
              have HS2 := Lib.hid (And.intro hst (And.intro hst2 (HS.out.2.2.trans (Only.setCell ⟨g, P.length + i, none⟩ rfl (.int .u32 (w1 : Int))))))
              have hii : (i : Int) < (n : Int) := by omega
              have hii1 : (i : Int) < (n : Int) + 1 := by omega
              have HLT := Lib.hid hlt
              clear hst hst2 hlaw hd hee hw1e hse hx1e hfe hloe hpe hme hpm htu htv hui hvi hI hlt HS
              repeat (first | (fail) | go_values | go_skip | go_guarded | go_step | go_upon | go_back)
              go_roundw
              case rel => exact ⟨i + 1, e', f', _, HLT.out, by go_num, by go_num, by go_num, he1, hf1, HI2, HS2⟩
              case measure => have := HLT.out; simp [intOf]; omega
            · obtain rfl : n = i := by omega
              have d1 := mid_cell HS.out.1 n (by rw [hI.out.1]; omega)
              have fr := HS.out.1.free (P.length + n)
              rw [hI.out.2.1 n (Nat.le_refl _), ← HUN.out] at d1
              obtain ⟨x1, hx1, hx1e⟩ : ∃ x : Nat, ((un : Int) - (f : Int)) % 18446744073709551616 = (x : Int) ∧ x = (un + 18446744073709551616 - f) % 18446744073709551616 := ⟨(un + 18446744073709551616 - f) % 18446744073709551616, by omega, rfl⟩
              obtain ⟨s, hs, hse⟩ : ∃ x : Nat, ((x1 : Int) - (e : Int)) % 18446744073709551616 = (x : Int) ∧ x = (x1 + 18446744073709551616 - e) % 18446744073709551616 := ⟨(x1 + 18446744073709551616 - e) % 18446744073709551616, by omega, rfl⟩
              obtain ⟨w1, hw1, hw1e⟩ : ∃ x : Nat, (s : Int) % 4294967296 = (x : Int) ∧ x = s % 4294967296 := ⟨s % 4294967296, by omega, rfl⟩
              obtain ⟨e', he', hee⟩ : ∃ x : Nat, (s : Int) / 9223372036854775808 = (x : Int) ∧ x = s / 9223372036854775808 := ⟨s / 9223372036854775808, by omega, rfl⟩
              have hw1b : w1 < 4294967296 := by omega
              have hsb : (s : Int) < 18446744073709551616 := by omega
              have hxb : (x1 : Int) < 18446744073709551616 := by omega
              rw [← IntKind.wrap_u64] at hx1 hs
              have hst := mid_store HS.out.1 n (by rw [hI.out.1]; omega) w1 hw1b
              have hst2 := Blk.other HS.out.2.1 (p := ⟨g, P.length + n, none⟩) HNE.out (.int .u32 (w1 : Int))
              have HS2 := Lib.hid (And.intro hst (And.intro hst2 (HS.out.2.2.trans (Only.setCell ⟨g, P.length + n, none⟩ rfl (.int .u32 (w1 : Int))))))
              have hqb : (q : Int) < 4294967296 := by have := HEND.out.1; omega
              have hVp : 0 < va vl := by have := HUV.out; omega
              have hVlt : va vl < 4294967296 ^ n := by have := va_lt vl; rwa [HVL.out] at this
              have hA := hI.out.2.2
              rw [show vl.take n = vl from List.take_of_length_le (by rw [HVL.out]; exact Nat.le_refl _)] at hA
              have hUd := va_last u n HU.out
              rw [← HUN.out] at hUd
              have hlen1 : (u'.set n (BitVec.ofNat 32 w1)).length = n + 1 := by rw [List.length_set]; exact hI.out.1
              have hv1d : va (u'.set n (BitVec.ofNat 32 w1)) = va (u'.take n) + 4294967296 ^ n * w1 := by
                have := take_set_last u' n w1 (by rw [hI.out.1]; omega) hw1b
                rwa [← hlen1, List.take_length] at this
              have hAlt : va (u'.take n) < 4294967296 ^ n := va_take_lt u' n (by rw [hI.out.1]; omega)
              have htk1 : (u'.set n (BitVec.ofNat 32 w1)).take n = u'.take n := List.take_set_of_le (Nat.le_refl _)
              have hgd1 : (u'.set n (BitVec.ofNat 32 w1)).getD n 0 = BitVec.ofNat 32 w1 := by rw [set_getD _ _ _ _ (by rw [hI.out.1]; omega), if_pos rfl]
              generalize u'.set n (BitVec.ofNat 32 w1) = u1 at HS2 hlen1 hv1d htk1 hgd1
              have HL1 := Lib.hid hlen1
              by_cases hcb : f + e ≤ un
              · obtain rfl : e' = 0 := by omega
                have hgood := sub_good hA hUd hcb HEND.out.2.1 hVp
                rw [show un - (f + e) = w1 by omega, ← hv1d] at hgood
                have HG := Lib.hid hgood
                clear hgood hcb hst hst2 hA hUd hv1d hAlt hVp hVlt hee hw1e hse hx1e hI hlt HS hlen1 htk1 hgd1
                repeat (first | (fail) | go_values | go_skip | go_guarded | go_step | go_upon | go_back)
                go_ret
                exact ⟨HS2.out.2.2, q, u1, rfl, HEND.out.1, HS2.out.1, HL1.out, HG.out⟩
              · obtain ⟨k', rfl⟩ : ∃ k', q = k' + 1 := ⟨q - 1, by
                  have : q ≠ 0 := fun h => by
                    subst h
                    rw [Nat.zero_mul] at hA
                    have h1 := va_take_lt u n (by rw [HU.out]; omega)
                    have h2 : 4294967296 ^ n ≤ (f + e) * 4294967296 ^ n := Nat.le_mul_of_pos_left _ (by omega)
                    omega
                  omega⟩
                obtain rfl : e' = 1 := by omega
                have hback := fun A2 c2 h1 h2 => sub_back hA hUd (by omega) HEND.out.2.1 HEND.out.2.2 (Nat.le_of_lt hVlt) (A2 := A2) (c2 := c2) h1 h2 hAlt hVp
                have hw1f : w1 = (un + 4294967296 - (f + e)) % 4294967296 := by omega
                rw [← hw1f, ← htk1] at hback
                have HBK := Lib.hid hback; have HGD := Lib.hid hgd1
                have hk1 : (k' : Int) + 1 - 1 = (k' : Int) := by omega
                have hk1b : (k' : Int) < 4294967296 := by omega
                have hk2b : (k' : Int) + 1 < 4294967296 := by omega
                have HW1 := Lib.hid hw1b
                clear hback hcb hst hst2 hA hUd hv1d hAlt hVp hVlt hee hw1e hse hx1e hI hlt HS hlen1 htk1 hgd1 hw1f
                repeat (first | (fail) | go_values | go_skip | go_guarded | go_step | go_upon | go_back)
                go_loopw [10, 143] (fun c z wr => ∃ (i e : Nat) (u' : List W32), i ≤ n ∧ z = .int .i64 i ∧ c = .int .u64 (e : Int) ∧ (e : Int) ≤ 1 ∧ Hid (u'.length = n + 1 ∧ (∀ k, i ≤ k → u'.getD k 0 = u1.getD k 0) ∧ va (u'.take i) + e * 4294967296 ^ i = va (u1.take i) + va (vl.take i)) ∧ Hid (Blk wr g (encW (P ++ u' ++ S)) 64 ∧ Blk wr gv (encW (vl ++ T)) 64 ∧ Only g w wr)) (fun _ z _ => n - (intOf z).toNat)
                case atStart => exact ⟨0, 0, u1, Nat.zero_le _, rfl, rfl, by omega, Lib.hid ⟨HL1.out, fun _ _ => rfl, by simp [va]⟩, HS2⟩
                case round =>
                  clear HS2
                  obtain ⟨i, e, u', hi, rfl, rfl, he, hI, HS⟩ := hrel
                  by_cases hlt : i < n
                  · have d1 := mid_cell HS.out.1 i (by rw [hI.out.1]; omega)
                    have d2 := head_cell HS.out.2.1 i (by rw [HVL.out]; exact hlt)
                    have hui := toNat_lt32 (u1.getD i 0)
                    rw [hI.out.2.1 i (Nat.le_refl _)] at d1
                    have hvi := toNat_lt32 (vl.getD i 0)
                    have htu := va_take u1 i (by rw [HL1.out]; omega)
                    have htv := va_take vl i (by rw [HVL.out]; exact hlt)
                    generalize (u1.getD i 0).toNat = ui at d1 hui htu
                    generalize (vl.getD i 0).toNat = vi at d2 hvi htv
                    obtain ⟨p, hp, hpe⟩ : ∃ p : Nat, (ui : Int) + (vi : Int) + (e : Int) = (p : Int) ∧ p = ui + vi + e := ⟨ui + vi + e, by omega, rfl⟩
                    obtain ⟨lo, hlo, hloe⟩ : ∃ x : Nat, (p : Int) % 4294967296 = (x : Int) ∧ x = p % 4294967296 := ⟨p % 4294967296, by omega, rfl⟩
                    obtain ⟨e', he', hee⟩ : ∃ x : Nat, (p : Int) / 4294967296 = (x : Int) ∧ x = p / 4294967296 := ⟨p / 4294967296, by omega, rfl⟩
                    have he1 : (e' : Int) ≤ 1 := by omega
                    have hpb : (p : Int) < 18446744073709551616 := by omega
                    have hlob : lo < 4294967296 := by omega
                    have huib : (ui : Int) < 4294967296 := by omega
                    have hvib : (vi : Int) < 4294967296 := by omega
                    have hlaw := add_step hI.out.2.2 ui lo vi e' (by omega)
                    have HI2 : Hid ((u'.set i (BitVec.ofNat 32 lo)).length = n + 1 ∧ (∀ k, i + 1 ≤ k → (u'.set i (BitVec.ofNat 32 lo)).getD k 0 = u1.getD k 0) ∧ va ((u'.set i (BitVec.ofNat 32 lo)).take (i + 1)) + e' * 4294967296 ^ (i + 1) = va (u1.take (i + 1)) + va (vl.take (i + 1))) := by
                      refine Lib.hid ⟨by rw [List.length_set]; exact hI.out.1, fun k hk => ?_, ?_⟩
                      · rw [set_getD _ _ _ _ (by rw [hI.out.1]; omega), if_neg (by omega)]
                        exact hI.out.2.1 k (by omega)
                      · rw [take_set_last _ _ _ (by rw [hI.out.1]; omega) hlob, htu, htv, Nat.pow_succ]
                        exact hlaw
                    have hii : (i : Int) < (n : Int) := by omega
                    have hii1 : (i : Int) < (n : Int) + 1 := by omega
                    have HLT := Lib.hid hlt; have HLEN := Lib.hid hI.out.1; have HLO := Lib.hid hlob
                    clear hlaw hpe hloe hee htu htv hui hvi hI hlt
                    repeat (first | (fail) | go_values | go_skip | go_guarded | go_step | go_upon | go_back)
                    go_quiet (fail)
                    generalize hW : wr.drewN nq = W5
                    have HS1 : Hid (Blk W5 g (encW (P ++ u' ++ S)) 64 ∧ Blk W5 gv (encW (vl ++ T)) 64 ∧ Only g w W5) := by
                      rw [← hW]
                      exact Lib.hid ⟨blk_drew HS.out.1 nq, blk_drew HS.out.2.1 nq, only_drew HS.out.2.2 nq⟩
                    clear hW HS
                    have d3 := mid_cell HS1.out.1 i (by rw [HLEN.out]; have := HLT.out; omega)
                    have fr := HS1.out.1.free (P.length + i)
                    have hst := mid_store HS1.out.1 i (by rw [HLEN.out]; have := HLT.out; omega) lo HLO.out
                    have hst2 := Blk.other HS1.out.2.1 (p := ⟨g, P.length + i, none⟩) HNE.out (.int .u32 (lo : Int))
                    have HS2 := Lib.hid (And.intro hst (And.intro hst2 (HS1.out.2.2.trans (Only.setCell ⟨g, P.length + i, none⟩ rfl (.int .u32 (lo : Int))))))
                    clear hst hst2 HS1 d1 d2
                    repeat (first | (fail) | go_values | go_skip | go_guarded | go_step | go_upon | go_back)
                    go_roundw
                    case rel => exact ⟨i + 1, e', _, HLT.out, by go_num, by go_num, he1, HI2, HS2⟩
                    case measure => have := HLT.out; simp [intOf]; omega
                  · obtain rfl : n = i := by omega
                    have d1 := mid_cell HS.out.1 n (by rw [hI.out.1]; omega)
                    have fr := HS.out.1.free (P.length + n)
                    rw [hI.out.2.1 n (Nat.le_refl _), HGD.out, BitVec.toNat_ofNat, Nat.mod_eq_of_lt (show w1 < 2 ^ 32 from HW1.out)] at d1
                    have hA2 := hI.out.2.2
                    rw [show vl.take n = vl from List.take_of_length_le (by rw [HVL.out]; exact Nat.le_refl _)] at hA2
                    have hbk := HBK.out _ _ hA2 (va_take_lt u' n (by rw [hI.out.1]; omega))
                    obtain ⟨hsum, hres⟩ := hbk
                    have hsi : (w1 : Int) + (e : Int) = 4294967296 := by omega
                    have hst := mid_store HS.out.1 n (by rw [hI.out.1]; omega) 0 (by omega)
                    have hst2 := Blk.other HS.out.2.1 (p := ⟨g, P.length + n, none⟩) HNE.out (.int .u32 ((0 : Nat) : Int))
                    have HS2 := Lib.hid (And.intro hst (And.intro hst2 (HS.out.2.2.trans (Only.setCell ⟨g, P.length + n, none⟩ rfl (.int .u32 ((0 : Nat) : Int))))))
                    have hlen2 : (u'.set n (BitVec.ofNat 32 0)).length = n + 1 := by rw [List.length_set]; exact hI.out.1
                    have hfin : va (u'.set n (BitVec.ofNat 32 0)) = va u % va vl := by
                      have := take_set_last u' n 0 (by rw [hI.out.1]; omega) (by omega)
                      rw [← hlen2, List.take_length, Nat.mul_zero, Nat.add_zero, hres] at this
                      exact this
                    have HF := Lib.hid (And.intro hlen2 hfin)
                    have hw1i : (w1 : Int) < 4294967296 := by have := HW1.out; omega
                    clear hsum hres hA2 hst hst2 hlen2 hfin hI hlt HS HBK
                    repeat (first | (fail) | go_values | go_skip | go_guarded | go_step | go_upon | go_back)
                    go_ret
                    exact ⟨HS2.out.2.2, k', _, rfl, by omega, HS2.out.1, HF.out.1, HF.out.2⟩
end Go.Proofs.YtdmfbcfhfopipaaGreatDoor

/- (number.Nat).mul. -/
namespace Go.Proofs.YtdmfbcfhfopipaaGreatDoor
open Go.RowKit

set_option maxRecDepth 100000 in
set_option maxHeartbeats 2000000 in
theorem nat_mul (v u : Value) (a b : List W32) (w : World) (hl : a.length + b.length ≤ 100000) (lo lo' : Nat) (hv : NatV lo w v a) (hu : NatV lo' w u b) :
    Calls Tryz.prog 57 #[v, u] w fun e w' => Below w.heap.size w w' ∧ ∃ r, e = .returned r ∧ NatV w.heap.size w' r (nd (va a * va b)) := by
  obtain ⟨A, c, rfl, hc, hcm, hA⟩ := hv
  obtain ⟨B, d, rfl, hd, hdm, hB⟩ := hu
  obtain ⟨m, hm, hme⟩ : ∃ m : Nat, (a.length : Int) + (b.length : Int) = (m : Int) ∧ m = a.length + b.length := ⟨_, by push_cast; rfl, rfl⟩
  have hmk := fun W => run_make_row' 43 64 (.int .u32 0) 4 Tryz.underlying43 info_u32 rfl .i64 .i64 m (by omega) (by omega) W
  simp only [zer_enc] at hmk
  have HM := Lib.hid hme; have HL := Lib.hid hl
  have ha1 : (a.length : Int) ≤ 100000 := by omega
  have hb1 : (b.length : Int) ≤ 100000 := by omega
  obtain ⟨W3, hW3⟩ : ∃ W3, W3 = ((w.alloc (.cells #[.slice A a.length c] 45)).alloc (.cells #[.slice B b.length d] 45)).alloc (.cells #[.slice none 0 0] 45) := ⟨_, rfl⟩
  have x0 : Blk W3 w.heap.size #[.slice A a.length c] 45 := by rw [hW3]; exact ((Blk.new w _ _).alloc _).alloc _
  have x1 : Blk W3 (w.heap.size + 1) #[.slice B b.length d] 45 := by
    have := ((Blk.new (w.alloc (.cells #[.slice A a.length c] 45)) #[.slice B b.length d] 45)).alloc (.cells #[.slice none 0 0] 45)
    rw [hW3]; simpa using this
  have x2 : Blk W3 (w.heap.size + 2) #[.slice none 0 0] 45 := by
    have := Blk.new ((w.alloc (.cells #[.slice A a.length c] 45)).alloc (.cells #[.slice B b.length d] 45)) #[.slice none 0 0] 45
    rw [hW3]; simpa using this
  have hs3 : W3.heap.size = w.heap.size + 3 := by rw [hW3]; simp
  have hb3 : Below w.heap.size w W3 := by rw [hW3]; exact (((Below.refl _ w).alloc (Nat.le_refl _) _).alloc (by simp) _).alloc (by simp; omega) _
  have HA := Lib.hid (hA.below hb3); have HB := Lib.hid (hB.below hb3); have HB3 := Lib.hid hb3
  have HX := Lib.hid (And.intro x0 (And.intro x1 x2)); have HS3 := Lib.hid hs3; have HW3 := Lib.hid hW3
  have y0 : (((w.alloc (.cells #[.slice A a.length c] 45)).alloc (.cells #[.slice B b.length d] 45)).alloc (.cells #[.slice none 0 0] 45)).cell? ⟨w.heap.size, 0, none⟩ = some (.slice A a.length c) := by rw [← hW3]; exact x0.cell 0
  have y1 : (((w.alloc (.cells #[.slice A a.length c] 45)).alloc (.cells #[.slice B b.length d] 45)).alloc (.cells #[.slice none 0 0] 45)).cell? ⟨w.heap.size + 1, 0, none⟩ = some (.slice B b.length d) := by rw [← hW3]; exact x1.cell 0
  clear hA hB hme hl x0 x1 x2 hs3 hb3 hW3 hc hd hcm hdm
  go_enter Tryz.func57, Tryz.ntmps57
  repeat (first | (fail) | go_values | go_skip | go_guarded | go_step | go_upon | go_back)
  clear y0 y1
  rw [← HW3.out]
  obtain ⟨g, hg⟩ : ∃ g, g = w.heap.size + 1 + 1 + 1 := ⟨_, rfl⟩
  obtain ⟨p2, hp2⟩ : ∃ p, p = w.heap.size + 1 + 1 := ⟨_, rfl⟩
  obtain ⟨p1, hp1⟩ : ∃ p, p = w.heap.size + 1 := ⟨_, rfl⟩
  rw [← hg, ← hp2, ← hp1]
  have hb0 : Blk (W3.alloc (.cells (encW (List.replicate m 0)) 64)) g (encW (List.replicate m 0)) 64 := by rw [hg, show w.heap.size + 1 + 1 + 1 = W3.heap.size by rw [HS3.out]]; exact Blk.new W3 _ _
  have hB0 : Below g W3 (W3.alloc (.cells (encW (List.replicate m 0)) 64)) := (Below.refl _ W3).alloc (by rw [HS3.out]; omega) _
  generalize W3.alloc (.cells (encW (List.replicate m 0)) 64) = W4 at hb0 hB0 ⊢
  have H0 := Lib.hid (And.intro hb0 hB0)
  have HG := Lib.hid (show g = W3.heap.size by rw [HS3.out, hg])
  have x1 : W3.cell? ⟨p1, 0, none⟩ = some (.slice B b.length d) := by rw [hp1]; exact HX.out.2.1.cell 0
  have hp1g : p1 < W3.heap.size := by rw [HS3.out]; omega
  have hp2g : p2 < g := by omega
  have x2 : Blk W3 p2 #[.slice none 0 0] 45 := by rw [hp2]; exact HX.out.2.2
  have HP1 := Lib.hid hp1g; have HP2 := Lib.hid hp2g; have HX1 := Lib.hid x1; have HX2 := Lib.hid x2
  have HWP := Lib.hid (show w.heap.size ≤ p2 by omega)
  clear hb0 hB0 hmk hg hp1 hp2 HX hp1g hp2g x1 x2 HW3 HS3
  have HCL : ∀ (wr : World) (b : Nat) (i : Nat), Below g W3 wr → b < W3.heap.size → wr.cell? ⟨b, i, none⟩ = W3.cell? ⟨b, i, none⟩ := fun _ _ _ h hb => (show Below W3.heap.size W3 _ by rw [← HG.out]; exact h).cell (p := ⟨_, _, none⟩) hb
  have HCL := Lib.hid HCL
  go_loopw [23] (fun z wr => ∃ (i : Nat) (O : List W32), i ≤ a.length ∧ z = .int .i64 i ∧ Hid (O.length = m ∧ va O = va (a.take i) * va b) ∧ Hid (Blk wr g (encW O) 64 ∧ Below g W3 wr)) (fun z _ => a.length - (intOf z).toNat)
  case atStart => exact ⟨0, List.replicate m 0, Nat.zero_le _, rfl, Lib.hid ⟨by simp, by rw [va_zero]; simp [va]⟩, H0⟩
  case round =>
    obtain ⟨i, O, hi, rfl, hO, hS⟩ := hrel
    by_cases hlt : i < a.length
    · obtain ⟨b1, rfl, _, hb1l, hc1⟩ := HA.out.cells (by omega)
      have q1 : wr.cell? ⟨b1, i, none⟩ = some (.int .u32 ((a.getD i 0).toNat : Int)) := by rw [HCL.out _ _ _ hS.out.2 hb1l]; exact hc1 i hlt
      have q0 : wr.cell? ⟨p1, 0, none⟩ = some (.slice B b.length d) := by rw [HCL.out _ _ _ hS.out.2 HP1.out]; exact HX1.out
      have hx := toNat_lt32 (a.getD i 0)
      have htk := va_take a i hlt
      generalize (a.getD i 0).toNat = x at q1 hx htk
      have hii : (i : Int) < (a.length : Int) := by omega
      have hz0 : O.getD (i + b.length) 0 = 0 := by
        refine dig_past O _ ?_
        rw [hO.out.2, Nat.pow_add]
        have h1 := va_lt (a.take i)
        rw [List.length_take, Nat.min_eq_left (by omega)] at h1
        exact Nat.mul_lt_mul_of_lt_of_lt h1 (va_lt b)
      have HZ := Lib.hid hz0; have HTK := Lib.hid htk; have HLT := Lib.hid hlt
      have hxi : (x : Int) < 4294967296 := by omega
      clear hz0 htk hc1 hlt
      repeat (first | (fail) | go_values | go_skip | go_guarded | go_step | go_upon | go_back)
      clear q0 q1
      go_loopw [8, 31] (fun cy z wr => ∃ (k e : Nat) (P : List W32), k ≤ b.length ∧ z = .int .i64 k ∧ cy = .int .u64 (e : Int) ∧ (e : Int) < 4294967296 ∧ Hid (P.length = m ∧ P.getD (i + b.length) 0 = 0 ∧ va P + e * 4294967296 ^ (i + k) = va O + x * va (b.take k) * 4294967296 ^ i) ∧ Hid (Blk wr g (encW P) 64 ∧ Below g W3 wr)) (fun _ z _ => b.length - (intOf z).toNat)
      case atStart => exact ⟨0, 0, O, Nat.zero_le _, rfl, rfl, by omega, Lib.hid ⟨hO.out.1, HZ.out, by simp [va]⟩, hS⟩
      case round =>
        obtain ⟨k, e, P, hk, rfl, rfl, he, hP, hT⟩ := hrel
        by_cases hkl : k < b.length
        · obtain ⟨b2, rfl, _, hb2l, hc2⟩ := HB.out.cells (by omega)
          have q2 : wr.cell? ⟨b2, k, none⟩ = some (.int .u32 ((b.getD k 0).toNat : Int)) := by rw [HCL.out _ _ _ hT.out.2 hb2l]; exact hc2 k hkl
          have hy := toNat_lt32 (b.getD k 0)
          have htb := va_take b k hkl
          generalize (b.getD k 0).toNat = y at q2 hy htb
          obtain ⟨j, hj, hje⟩ : ∃ j : Nat, (i : Int) + (k : Int) = (j : Int) ∧ j = i + k := ⟨_, by push_cast; rfl, rfl⟩
          have hjm : j < m := by have := HM.out; have := HLT.out; omega
          have q3 := cell_get hT.out.1 j (by rw [hP.out.1]; exact hjm)
          have f3 := hT.out.1.free j
          have ho := toNat_lt32 (P.getD j 0)
          have hset := fun z hz => va_set_nat P j z (by rw [hP.out.1]; exact hjm) hz
          generalize (P.getD j 0).toNat = o at q3 ho hset
          have hjmi : (j : Int) < (m : Int) := by omega
          have hkli : (k : Int) < (b.length : Int) := by omega
          have hp := mul_prod x y hx hy
          obtain ⟨p, hpi, hpe⟩ : ∃ p : Nat, (x : Int) * (y : Int) = (p : Int) ∧ p = x * y := ⟨_, by push_cast; rfl, rfl⟩
          have hpb : (p : Int) ≤ 18446744065119617025 := by omega
          have hob : (o : Int) < 4294967296 := by omega
          obtain ⟨t, hti, hte⟩ : ∃ t : Nat, (p : Int) + (o : Int) + (e : Int) = (t : Int) ∧ t = x * y + o + e := ⟨p + o + e, by push_cast; rfl, by omega⟩
          have htb2 : (t : Int) < 18446744073709551616 := by omega
          obtain ⟨u, hui, hue⟩ : ∃ u : Nat, (t : Int) % 4294967296 = (u : Int) ∧ u = t % 4294967296 := ⟨t % 4294967296, by omega, rfl⟩
          obtain ⟨v, hvi, hve⟩ : ∃ v : Nat, (t : Int) / 4294967296 = (v : Int) ∧ v = t / 4294967296 := ⟨t / 4294967296, by omega, rfl⟩
          have hub : u < 4294967296 := by omega
          have hvb : (v : Int) < 4294967296 := by omega
          have hlaw := mul_step hP.out.2.2 (va (P.set j (BitVec.ofNat 32 u))) t u v hte (by omega) (by rw [← hje]; exact hset u hub)
          have hnP : Hid ((P.set j (BitVec.ofNat 32 u)).length = m ∧ (P.set j (BitVec.ofNat 32 u)).getD (i + b.length) 0 = 0 ∧ va (P.set j (BitVec.ofNat 32 u)) + v * 4294967296 ^ (i + (k + 1)) = va O + x * va (b.take (k + 1)) * 4294967296 ^ i) := by
            refine Lib.hid ⟨by simp [hP.out.1], ?_, ?_⟩
            · rw [set_getD _ _ _ _ (by rw [hP.out.1]; exact hjm), if_neg (by omega)]
              exact hP.out.2.1
            · rw [← Nat.add_assoc i k 1, Nat.pow_succ, hlaw, htb, Nat.mul_add, Nat.add_mul, Nat.pow_add]
              grind
          have hnb := cell_set hT.out.1 j u hub
          have hnB := hT.out.2.setCell (p := ⟨g, j, none⟩) (Nat.le_refl _) (.int .u32 (u : Int))
          have HS := Lib.hid (And.intro hnb hnB)
          clear hlaw hset hnb hnB hte hpe hue hve hje hP hT hc2 htb hp
          repeat (first | (fail) | go_values | go_skip | go_guarded | go_step | go_upon | go_back)
          go_roundw
          case rel => exact ⟨k + 1, v, _, by omega, by go_num, by go_num, hvb, hnP, HS⟩
          case measure => simp [intOf]; omega
        · obtain rfl : k = b.length := by omega
          obtain ⟨j, hj, hje⟩ : ∃ j : Nat, (i : Int) + (b.length : Int) = (j : Int) ∧ j = i + b.length := ⟨_, by push_cast; rfl, rfl⟩
          have hjm : j < m := by have := HM.out; have := HLT.out; omega
          have q0 : wr.cell? ⟨p1, 0, none⟩ = some (.slice B b.length d) := by rw [HCL.out _ _ _ hT.out.2 HP1.out]; exact HX1.out
          have q3 := cell_get hT.out.1 j (by rw [hP.out.1]; exact hjm)
          have f3 := hT.out.1.free j
          have hset := va_set_nat P j e (by rw [hP.out.1]; exact hjm) (by omega)
          have hjmi : (j : Int) < (m : Int) := by omega
          have hnb := cell_set hT.out.1 j e (by omega)
          have hnB := hT.out.2.setCell (p := ⟨g, j, none⟩) (Nat.le_refl _) (.int .u32 (e : Int))
          have HS := Lib.hid (And.intro hnb hnB)
          have hnO : Hid ((P.set j (BitVec.ofNat 32 e)).length = m ∧ va (P.set j (BitVec.ofNat 32 e)) = va (a.take (i + 1)) * va b) := by
            refine Lib.hid ⟨by simp [hP.out.1], ?_⟩
            have h1 := hP.out.2.2
            rw [hje, hP.out.2.1] at hset
            rw [List.take_length] at h1
            rw [HTK.out, Nat.add_mul, ← hO.out.2, show 4294967296 ^ i * x * va b = x * va b * 4294967296 ^ i by grind, ← h1]
            rw [show e * 4294967296 ^ (i + b.length) = 4294967296 ^ (i + b.length) * e from Nat.mul_comm _ _, ← hje]
            rw [← hje] at hset
            simpa using hset
          clear hset hnb hnB hje hP hT hO
          repeat (first | (fail) | go_values | go_skip | go_guarded | go_step | go_upon | go_back)
          go_roundw
          case rel => exact ⟨i + 1, _, HLT.out, by go_num, hnO, HS⟩
          case measure => have := HLT.out; simp [intOf]; omega
    · obtain rfl : i = a.length := by omega
      have h1 := hO.out.2
      rw [List.take_length] at h1
      have hD := blk_digs hS.out.1 (Nat.le_refl _)
      have htr := nat_trim_va (some ⟨g, 0, none⟩) m O wr (by rw [hO.out.1]; exact Nat.le_refl _) (by have := HL.out; have := HM.out; omega) g hD
      have hle := len_va_le O
      have hDT := hD.trim
      rw [h1] at htr hle hDT
      rw [hO.out.1] at htr hle
      have HTR := Lib.hid htr; have HLE := Lib.hid hle; have HDT := Lib.hid hDT
      have HMB := Lib.hid (show m ≤ 9223372036854775807 by have := HL.out; have := HM.out; omega)
      clear htr hle hDT hD h1 hlt
      repeat (first | (go_at_call 53; refine (Hid.out (p := _) ?_)) | go_values | go_skip | go_guarded | go_step | go_upon | go_back)
      refine Lib.hid ?_
      refine HTR.out.mono ?_
      rintro e w5 ⟨rfl, hB5⟩
      have hg5 := hS.out.1.lt
      have hb5 := hS.out.2.trans (hB5.mono (by omega))
      have hx5 : Blk w5 p2 #[.slice none 0 0] 45 := HX2.out.below (show Below W3.heap.size W3 w5 by rw [← HG.out]; exact hb5) HX2.out.lt
      have z0 : w5.cell? ⟨p2, 0, none⟩ = some (.slice none 0 0) := hx5.cell 0
      have f0 := hx5.free 0
      have hBF : Below w.heap.size w w5 := HB3.out.trans (hb5.mono (by have := HWP.out; have := HP2.out; omega))
      have HBF := Lib.hid hBF; have HX5 := Lib.hid hx5
      have HD5 := Lib.hid (HDT.out.below hB5)
      clear hg5 hb5 hx5 hBF hB5 HTR HDT
      simp only []
      repeat (first | (fail) | go_values | go_skip | go_guarded | go_step | go_upon | go_back)
      have hfin := HX5.out.set 0 (.slice (some ⟨g, 0, none⟩) (nd (va a * va b)).length m)
      refine bodyPost_ret (results1 rfl ⟨_, rfl, nat_load (by simpa using hfin)⟩) rfl ⟨?_, _, rfl, some ⟨g, 0, none⟩, m, rfl, HLE.out, HMB.out, ?_⟩
      · exact HBF.out.setCell (p := ⟨p2, 0, none⟩) HWP.out _
      · exact (HD5.out.low (p := ⟨p2, 0, none⟩) HP2.out _).mono (by have := HWP.out; have := HP2.out; omega)
end Go.Proofs.YtdmfbcfhfopipaaGreatDoor

/- (number.Nat).left. -/
namespace Go.Proofs.YtdmfbcfhfopipaaGreatDoor
open Go.RowKit

theorem or_val (o p s : Nat) (hs : s < 32) (ho : o < 2 ^ s) : bits .or .u32 (o : Int) ((p * 2 ^ s % 4294967296 : Nat) : Int) = ((o + p * 2 ^ s % 4294967296 : Nat) : Int) := by
  have h2 := two_lt s hs
  have h := wd_or (BitVec.ofNat 32 o) (BitVec.ofNat 32 (p * 2 ^ s % 4294967296))
  rw [wd_lit o (by omega), wd_lit _ (Nat.mod_lt _ (by omega))] at h
  rw [h, wd]
  congr 1
  rw [BitVec.toNat_or, BitVec.toNat_ofNat, BitVec.toNat_ofNat, Nat.mod_eq_of_lt (show o < 2 ^ 32 by omega), Nat.mod_eq_of_lt (show p * 2 ^ s % 4294967296 < 2 ^ 32 from Nat.mod_lt _ (by omega))]
  have e : p * 2 ^ s % 4294967296 = 2 ^ s * (p % 2 ^ (32 - s)) := by
    rw [show (4294967296 : Nat) = 2 ^ s * 2 ^ (32 - s) by rw [← Nat.pow_add, show s + (32 - s) = 32 by omega], Nat.mul_comm p, Nat.mul_mod_mul_left]
  rw [e, Nat.or_comm, ← Nat.two_pow_add_eq_or_of_lt ho]
  omega
theorem or_bound (o p s : Nat) (hs : s < 32) (ho : o < 2 ^ s) : o + p * 2 ^ s % 4294967296 < 4294967296 := by
  have h2 := two_lt s hs
  have hm := Nat.mod_lt (p * 2 ^ s) (show 0 < 4294967296 by omega)
  have e := or_val o p s hs ho
  have h := wd_or (BitVec.ofNat 32 o) (BitVec.ofNat 32 (p * 2 ^ s % 4294967296))
  rw [wd_lit o (by omega), wd_lit _ hm, e] at h
  have := wd_lt (BitVec.ofNat 32 o ||| BitVec.ofNat 32 (p * 2 ^ s % 4294967296))
  omega
set_option maxRecDepth 100000 in
set_option maxHeartbeats 2000000 in
theorem nat_left (v : Value) (x s : Nat) (w : World) (hs : s < 32) (hl : (nd x).length ≤ 100000) (lo : Nat) (hv : NatV lo w v (nd x)) :
    Calls Tryz.prog 220 #[v, .int .i64 (s : Int)] w fun e w' => Below w.heap.size w w' ∧ ∃ g O, e = .returned (.slice (some ⟨g, 0, none⟩) ((nd x).length + 1) ((nd x).length + 1)) ∧ w.heap.size ≤ g ∧ Blk w' g (encW O) 64 ∧ O.length = (nd x).length + 1 ∧ va O = x * 2 ^ s := by
  obtain ⟨A, c, rfl, hc, hcm, hA⟩ := hv
  have hvx := va_nd x
  generalize nd x = a at *
  obtain ⟨m, hm, hme⟩ : ∃ m : Nat, (a.length : Int) + 1 = (m : Int) ∧ m = a.length + 1 := ⟨_, by push_cast; rfl, rfl⟩
  have hmk := fun W => run_make_row' 43 64 (.int .u32 0) 4 Tryz.underlying43 info_u32 rfl .i64 .i64 m (by omega) (by omega) W
  simp only [zer_enc] at hmk
  rw [← hme]
  have HM := Lib.hid hme; have HV := Lib.hid hvx
  have ha1 : (a.length : Int) ≤ 100000 := by omega
  have hb3 := (Below.refl w.heap.size w).alloc (Nat.le_refl _) (.cells #[.slice A a.length c] 45)
  have y0 : (w.alloc (.cells #[.slice A a.length c] 45)).cell? ⟨w.heap.size, 0, none⟩ = some (.slice A a.length c) := (Blk.new w _ _).cell 0
  have HA := Lib.hid (hA.below hb3); have HB3 := Lib.hid hb3; have HS := Lib.hid hs
  have hs32 : min s 32 = s := by omega
  have hs64 : min s 64 = s := by omega
  have hsi : (s : Int) < 32 := by omega
  clear hA hme hl hb3 hc hcm hvx hs
  go_enter Tryz.func220, Tryz.ntmps220
  repeat (first | (fail) | go_values | go_skip | go_guarded | go_step | go_upon | go_back)
  clear y0
  obtain ⟨g, hg⟩ : ∃ g, g = w.heap.size + 1 := ⟨_, rfl⟩
  rw [← hg]
  have hg1 : g = (w.alloc (.cells #[.slice A a.length c] 45)).heap.size := by simp [hg]
  generalize w.alloc (.cells #[.slice A a.length c] 45) = W3 at HA HB3 hg1 ⊢
  have hb0 : Blk (W3.alloc (.cells (encW (List.replicate m 0)) 64)) g (encW (List.replicate m 0)) 64 := by rw [hg1]; exact Blk.new W3 _ _
  have hB0 : Below g W3 (W3.alloc (.cells (encW (List.replicate m 0)) 64)) := (Below.refl _ W3).alloc (by omega) _
  generalize W3.alloc (.cells (encW (List.replicate m 0)) 64) = W4 at hb0 hB0 ⊢
  have H0 := Lib.hid (And.intro hb0 hB0)
  have HCL : ∀ (wr : World) (b : Nat) (i : Nat), Below g W3 wr → b < W3.heap.size → wr.cell? ⟨b, i, none⟩ = W3.cell? ⟨b, i, none⟩ := fun _ _ _ h hb => (show Below W3.heap.size W3 _ by rw [← hg1]; exact h).cell (p := ⟨_, _, none⟩) hb
  have HCL := Lib.hid HCL
  have HWG := Lib.hid (show w.heap.size ≤ g by omega)
  clear hb0 hB0 hmk hg hg1
  go_loopw [16] (fun z wr => ∃ (i : Nat) (O : List W32), i ≤ a.length ∧ z = .int .i64 i ∧ Hid (O.length = m ∧ va O = va (a.take i) * 2 ^ s) ∧ Hid (Blk wr g (encW O) 64 ∧ Below g W3 wr)) (fun z _ => a.length - (intOf z).toNat)
  case atStart => exact ⟨0, List.replicate m 0, Nat.zero_le _, rfl, Lib.hid ⟨by simp, by rw [va_zero]; simp [va]⟩, H0⟩
  case round =>
    obtain ⟨i, O, hi, rfl, hO, hS⟩ := hrel
    by_cases hlt : i < a.length
    · obtain ⟨b1, rfl, _, hb1l, hc1⟩ := HA.out.cells (by omega)
      have q1 : wr.cell? ⟨b1, i, none⟩ = some (.int .u32 ((a.getD i 0).toNat : Int)) := by rw [HCL.out _ _ _ hS.out.2 hb1l]; exact hc1 i hlt
      have hx := toNat_lt32 (a.getD i 0)
      have htk := va_take a i hlt
      generalize (a.getD i 0).toNat = xd at q1 hx htk
      have hii : (i : Int) < (a.length : Int) := by omega
      have him : i < m := by have := HM.out; omega
      have him1 : i + 1 < m := by have := HM.out; omega
      have h1 := va_lt (a.take i)
      rw [List.length_take, Nat.min_eq_left (by omega)] at h1
      have hvO : va O < 4294967296 ^ i * 2 ^ s := by rw [hO.out.2]; exact Nat.mul_lt_mul_of_pos_right h1 (Nat.two_pow_pos s)
      have ho : (O.getD i 0).toNat < 2 ^ s := by
        rw [va_dig, BitVec.toNat_ofNat]
        have := Nat.div_lt_of_lt_mul hvO
        exact Nat.lt_of_le_of_lt (Nat.mod_le _ _) this
      have hz0 : (O.getD (i + 1) 0).toNat = 0 := by
        rw [dig_past O (i + 1)]
        · rfl
        · rw [Nat.pow_succ]
          exact Nat.lt_of_lt_of_le hvO (Nat.mul_le_mul_left _ (Nat.le_of_lt (two_lt s HS.out)))
      have q3 := cell_get hS.out.1 i (by rw [hO.out.1]; exact him)
      have f3 := hS.out.1.free i
      have h2s := two_lt s HS.out
      obtain ⟨p, hpi, hpe⟩ : ∃ p : Nat, (xd : Int) * 2 ^ s = (p : Int) ∧ p = xd * 2 ^ s := ⟨xd * 2 ^ s, by rw [Int.natCast_mul, Int.natCast_pow]; rfl, rfl⟩
      have hpb0 : p ≤ 4294967295 * 4294967295 := by rw [hpe]; exact Nat.mul_le_mul (by omega) (by omega)
      have hpb : (p : Int) < 18446744073709551616 := by omega
      obtain ⟨z, hzi, hze⟩ : ∃ z : Nat, (p : Int) % 4294967296 = (z : Int) ∧ z = p % 4294967296 := ⟨_, by omega, rfl⟩
      obtain ⟨hi2, hhi, hhe⟩ : ∃ h : Nat, (p : Int) / 4294967296 = (h : Int) ∧ h = p / 4294967296 := ⟨_, by omega, rfl⟩
      have hor := or_val (O.getD i 0).toNat xd s HS.out ho
      rw [← hpe, ← hze] at hor
      have hob := or_bound (O.getD i 0).toNat xd s HS.out ho
      rw [← hpe, ← hze] at hob
      have hset1 := va_set_nat O i ((O.getD i 0).toNat + z) (by rw [hO.out.1]; exact him) hob
      generalize hoe : (O.getD i 0).toNat = o at q3 hor hob hset1
      obtain ⟨n1, hn1⟩ : ∃ n, n = o + z := ⟨_, rfl⟩
      rw [← hn1] at hor hob hset1
      have hset2 := va_set_nat (O.set i (BitVec.ofNat 32 n1)) (i + 1) hi2 (by rw [List.length_set, hO.out.1]; exact him1) (by omega)
      rw [set_getD _ _ _ _ (by rw [hO.out.1]; exact him), if_neg (by omega), hz0] at hset2
      have hlaw := shl_step hO.out.2 (A' := va ((O.set i (BitVec.ofNat 32 n1)).set (i + 1) (BitVec.ofNat 32 hi2))) (P := 4294967296 ^ i) (d := xd) (by
        rw [← hpe, ← hze, ← hhe]
        have e1 : 4294967296 ^ i * n1 = 4294967296 ^ i * o + 4294967296 ^ i * z := by rw [hn1, Nat.mul_add]
        rw [Nat.pow_succ] at hset2
        omega)
      rw [← htk] at hlaw
      have hob2 : (o : Int) < 4294967296 := by have := toNat_lt32 (O.getD i 0); omega
      have hzb : (z : Int) < 4294967296 := by omega
      have hhb : (hi2 : Int) < 4294967296 := by omega
      have hxi : (xd : Int) < 4294967296 := by omega
      have himi : (i : Int) < (m : Int) := by omega
      have him1i : (i : Int) + 1 < (m : Int) := by omega
      have hmix : Tryz.prog.follows .mixedOrders = true := by kernel_rfl
      have HQ := Lib.hid hlaw; have HOB := Lib.hid hob; have HIM := Lib.hid (And.intro him him1); have HLT := Lib.hid hlt
      have HLEN := Lib.hid hO.out.1
      clear hlaw hset1 hset2 hn1 hoe ho hz0 hvO h1 htk hc1 hpe hze hhe hpb0 hob him him1 hO hlt
      repeat (first | (fail) | go_values | go_skip | go_guarded | go_step | go_upon | go_back)
      refine wp_draw 9 (C := fun w' => ∃ n, w' = wr.drewN n) hmix (by kernel_rfl) (by kernel_rfl) (by kernel_rfl) (by simp) ⟨1, rfl⟩ ?_
      simp only [List.take_succ_cons, List.take_zero, List.drop_succ_cons, List.drop_zero]
      repeat (go_big_quiet_step (fail))
      refine wpQuiet_nil ?_
      intro _ hw'
      obtain ⟨nq, hw''⟩ := hw'
      subst hw''
      have hS1 : Blk (wr.drewN nq) g (encW O) 64 ∧ Below g W3 (wr.drewN nq) := ⟨blk_drew hS.out.1 nq, below_drew hS.out.2 nq⟩
      generalize wr.drewN nq = W5 at hS1 ⊢
      have f5 := hS1.1.free i
      have hn1 := cell_set hS1.1 i n1 HOB.out
      have hN1 := hS1.2.setCell (p := ⟨g, i, none⟩) (Nat.le_refl _) (.int .u32 (n1 : Int))
      have q5 := cell_get hn1 (i + 1) (by rw [List.length_set, HLEN.out]; exact HIM.out.2)
      have f6 := hn1.free (i + 1)
      have hn2 := cell_set hn1 (i + 1) hi2 (by omega)
      have hN2 := hN1.setCell (p := ⟨g, i + 1, none⟩) (Nat.le_refl _) (.int .u32 (hi2 : Int))
      have HN := Lib.hid (And.intro hn2 hN2)
      have q4 := cell_get hS1.1 i (by rw [HLEN.out]; exact HIM.out.1)
      clear hn1 hN1 hn2 hN2 hS1 q1 q3 f3 hS
      repeat (first | (fail) | go_values | go_skip | go_guarded | go_step | go_upon | go_back)
      exact ⟨⟨i + 1, _, HLT.out, by go_num, Lib.hid ⟨by rw [List.length_set, List.length_set]; exact HLEN.out, HQ.out⟩, HN⟩, by have := HLT.out; simp [intOf]; omega⟩
    · obtain rfl : i = a.length := by omega
      have h1 := hO.out.2
      rw [List.take_length, HV.out] at h1
      have HF := Lib.hid (And.intro hO.out.1 h1)
      clear h1 hO hlt
      repeat (first | (fail) | go_values | go_skip | go_guarded | go_step | go_upon | go_back)
      go_ret
      exact ⟨HB3.out.trans (hS.out.2.mono HWG.out), g, O, rfl, HWG.out, hS.out.1, HF.out.1, HF.out.2⟩
end Go.Proofs.YtdmfbcfhfopipaaGreatDoor

