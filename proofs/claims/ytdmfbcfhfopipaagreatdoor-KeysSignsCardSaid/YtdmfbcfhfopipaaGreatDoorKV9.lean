import Derived.Test.YtdmfbcfhfopipaaGreatDoorKV4
import Derived.Test.YtdmfbcfhfopipaaGreatDoorKV7
import Derived.Test.YtdmfbcfhfopipaaGreatDoorKV8
import Derived.Deep.RegionWith
import Derived.Deep.RegionHeld2
/- The program's division: what its loops keep. -/
namespace Go.Proofs.YtdmfbcfhfopipaaGreatDoor
open Go.RowKit

theorem split3 (O : List W32) (k n : Nat) : O = O.take k ++ (O.drop k).take (n + 1) ++ O.drop (k + (n + 1)) := by
  rw [List.append_assoc, ← List.drop_drop, List.take_append_drop, List.take_append_drop]
theorem va3 (P u S : List W32) : va (P ++ u ++ S) = va P + 4294967296 ^ P.length * (va u + 4294967296 ^ u.length * va S) := by
  rw [List.append_assoc, va_append, va_append]
theorem div_start {x y s : Nat} (hy : y ≠ 0) (hxy : y ≤ x) (hs : s < 32) {O : List W32} (hl : O.length = (nd x).length + 1) (hv : va O = x * 2 ^ s) : va (O.drop ((nd x).length + 1 - (nd y).length)) < y * 2 ^ s := by
  have h1 := nd_len_mono hxy
  have h2 := (nd_last y hy).1
  have h3 := nd_low y hy
  have h4 := nd_high x
  obtain ⟨M, hM⟩ : ∃ M, M = (nd x).length + 1 - (nd y).length := ⟨_, rfl⟩
  rw [← hM]
  have h5 := va_split O M (by omega)
  rw [hv] at h5
  have hP : 0 < 4294967296 ^ M := Nat.pow_pos (by omega)
  have h6 : x * 2 ^ s < 4294967296 ^ M * (y * 2 ^ s) := by
    have e : 4294967296 ^ M * 4294967296 ^ ((nd y).length - 1) = 4294967296 ^ (nd x).length := by rw [← Nat.pow_add]; congr 1; omega
    have h7 : 4294967296 ^ M * 4294967296 ^ ((nd y).length - 1) ≤ 4294967296 ^ M * y := Nat.mul_le_mul_left _ h3
    rw [← Nat.mul_assoc]
    exact Nat.mul_lt_mul_of_pos_right (by omega) (Nat.two_pow_pos s)
  have h8 : 4294967296 ^ M * va (O.drop M) < 4294967296 ^ M * (y * 2 ^ s) := by omega
  have := hs
  exact Nat.lt_of_mul_lt_mul_left h8
/-- The part of a row that a digit is of. -/
theorem div_part {O : List W32} {k n Y : Nat} (hk : k + (n + 1) ≤ O.length) (hlt : va (O.drop (k + 1)) < Y) (hY : Y < 4294967296 ^ n) :
    ((O.drop k).take (n + 1)).length = n + 1 ∧ va ((O.drop k).take (n + 1)) < Y * 4294967296 ∧ va (O.drop (k + (n + 1))) = 0 := by
  have h1 := va_drop O k (by omega)
  have h2 := toNat_lt32 (O.getD k 0)
  have h3 := va_split (O.drop k) (n + 1) (by rw [List.length_drop]; omega)
  rw [List.drop_drop] at h3
  refine ⟨by rw [List.length_take, List.length_drop]; omega, by omega, ?_⟩
  have h4 : va (O.drop k) < 4294967296 ^ (n + 1) := by rw [Nat.pow_succ]; omega
  rcases Nat.eq_zero_or_pos (va (O.drop (k + (n + 1)))) with h | h
  · exact h
  · have := Nat.mul_le_mul_left (4294967296 ^ (n + 1)) h
    omega
theorem div_next {P u u' S : List W32} {Y X : Nat} (hl : u'.length = u.length) (hS : va S = 0) (hu : va u' = va u % Y) (hX : va (P ++ u ++ S) % Y = X % Y) : va (P ++ u' ++ S) % Y = X % Y := by
  rw [← hX, va3, va3, hS, hl, Nat.mul_zero, Nat.add_zero, Nat.add_zero, hu, Nat.add_mod, Nat.mul_mod, Nat.mod_mod, ← Nat.mul_mod, ← Nat.add_mod]
theorem div_less {P u' S : List W32} {k Y v : Nat} (hP : P.length = k) (hS : va S = 0) (hu : va u' = v % Y) (hY : 0 < Y) : va ((P ++ u' ++ S).drop k) < Y := by
  rw [List.append_assoc, List.drop_append_of_le_length (by omega), List.drop_of_length_le (by omega), List.nil_append, va_append, hS, Nat.mul_zero, Nat.add_zero, hu]
  exact Nat.mod_lt _ hY
theorem div_end {x y s V : Nat} (hs : V < y * 2 ^ s) (h : V % (y * 2 ^ s) = x * 2 ^ s % (y * 2 ^ s)) : V = (x % y) * 2 ^ s := by
  rw [Nat.mod_eq_of_lt hs, Nat.mul_mod_mul_right] at h
  exact h
theorem top_big {vl : List W32} {n : Nat} (hv : vl.length = n) (hn : 0 < n) (h : 4294967296 ^ n ≤ 2 * va vl) : 2147483648 ≤ (vl.getD (n - 1) 0).toNat := by
  obtain ⟨k, rfl⟩ : ∃ k, n = k + 1 := ⟨n - 1, by omega⟩
  rw [Nat.add_sub_cancel]
  have h1 := va_last vl k hv
  have h2 := va_take_lt vl k (by omega)
  generalize (vl.getD k 0).toNat = d at *
  rw [Nat.pow_succ] at h
  have h3 : 4294967296 ^ k * 4294967296 < 4294967296 ^ k * (2 * (d + 1)) := by
    have e : 4294967296 ^ k * (2 * (d + 1)) = 2 * (4294967296 ^ k * d) + 2 * 4294967296 ^ k := by grind
    omega
  have := Nat.lt_of_mul_lt_mul_left h3
  omega
theorem low_part {V : List W32} {n Y : Nat} (hl : V.length = n + 1) (hv : va V = Y) (hY : Y < 4294967296 ^ n) : (V.take n).length = n ∧ va (V.take n) = Y := by
  refine ⟨by rw [List.length_take]; omega, ?_⟩
  have h := va_split V n (by omega)
  rcases Nat.eq_zero_or_pos (va (V.drop n)) with h0 | h0
  · rw [h0] at h; omega
  · have := Nat.mul_le_mul_left (4294967296 ^ n) h0
    omega
theorem rest_dig {O : List W32} {z s : Nat} (hs : s < 32) (h : va O = z * 2 ^ s) (i : Nat) : BitVec.ofNat 32 (((O.getD (i + 1) 0).toNat * 4294967296 + (O.getD i 0).toNat) / 2 ^ s % 4294967296) = (nd z).getD i 0 := by
  have hz : va O / 2 ^ s = z := by rw [h, Nat.mul_div_cancel _ (Nat.two_pow_pos s)]
  have e := shr_dig (va O) i s hs
  rw [hz] at e
  rw [va_dig O (i + 1), va_dig O i, BitVec.toNat_ofNat, BitVec.toNat_ofNat, Nat.add_comm, ← e, nd_dig]
  apply BitVec.eq_of_toNat_eq
  rw [BitVec.toNat_ofNat, BitVec.toNat_ofNat, Nat.mod_mod]
end Go.Proofs.YtdmfbcfhfopipaaGreatDoor

/- (number.Nat).Div. -/
namespace Go.Proofs.YtdmfbcfhfopipaaGreatDoor
open Go.RowKit

theorem below_drew1 {b : Nat} {w W : World} (h : Below b w W) : Below b w W.drew := ⟨h.os, h.tape, h.output, h.size, h.block⟩
set_option maxRecDepth 100000 in
set_option maxHeartbeats 8000000 in
theorem nat_div (v u : Value) (x y : Nat) (hy : y ≠ 0) (w : World) (hlx : (nd x).length ≤ 9000) (hly : (nd y).length ≤ 9000) (lo lo' : Nat) (hv : NatV lo w v (nd x)) (hu : NatV lo' w u (nd y)) :
    Calls Tryz.prog 148 #[v, u] w fun e w' => Below w.heap.size w w' ∧ ∃ Aq nq cq r, e = .returned (.tuple #[.agg #[.slice Aq nq cq], r, .int .i64 0]) ∧ NatV 0 w' r (nd (x % y)) := by
  have hcmp := fun W (h : Below w.heap.size w W) => nat_cmp v u x y W (by omega) (by omega) lo lo' (hv.below h) (hu.below h)
  have hn0 := (nd_last y hy).1
  obtain ⟨A, c, rfl, hc, hcm, hA⟩ := hv
  obtain ⟨B, d, rfl, hd, hdm, hB⟩ := hu
  have hWx : ∀ W1 : World, W1 = ((((w.alloc (.cells #[.slice A (nd x).length c] 45)).alloc (.cells #[.slice B (nd y).length d] 45)).alloc (.cells #[.slice none 0 0] 45)).alloc (.cells #[.slice none 0 0] 45)) →
      Blk W1 w.heap.size #[.slice A (nd x).length c] 45 ∧ Blk W1 (w.heap.size + 1) #[.slice B (nd y).length d] 45 ∧ Blk W1 (w.heap.size + 1 + 1) #[.slice none 0 0] 45 ∧ Blk W1 (w.heap.size + 1 + 1 + 1) #[.slice none 0 0] 45 ∧ Below w.heap.size w W1 ∧ W1.heap.size = w.heap.size + 4 := by
    rintro W1 rfl
    refine ⟨?_, ?_, ?_, ?_, ?_, by simp⟩
    · exact (((Blk.new w _ _).alloc _).alloc _).alloc _
    · have := (((Blk.new (w.alloc (.cells #[.slice A (nd x).length c] 45)) #[.slice B (nd y).length d] 45)).alloc (.cells #[.slice none 0 0] 45)).alloc (.cells #[.slice none 0 0] 45)
      simpa using this
    · have := (Blk.new ((w.alloc (.cells #[.slice A (nd x).length c] 45)).alloc (.cells #[.slice B (nd y).length d] 45)) #[.slice none 0 0] 45).alloc (.cells #[.slice none 0 0] 45)
      simpa using this
    · have := Blk.new (((w.alloc (.cells #[.slice A (nd x).length c] 45)).alloc (.cells #[.slice B (nd y).length d] 45)).alloc (.cells #[.slice none 0 0] 45)) #[.slice none 0 0] 45
      simpa using this
    · exact ((((Below.refl _ w).alloc (Nat.le_refl _) _).alloc (by simp) _).alloc (by simp; omega) _).alloc (by simp; omega) _
  obtain ⟨W1, hW1⟩ : ∃ W1, W1 = ((((w.alloc (.cells #[.slice A (nd x).length c] 45)).alloc (.cells #[.slice B (nd y).length d] 45)).alloc (.cells #[.slice none 0 0] 45)).alloc (.cells #[.slice none 0 0] 45)) := ⟨_, rfl⟩
  obtain ⟨y0, y1, y2, y3, yB, yS⟩ := hWx W1 hW1
  have a0 : ((((w.alloc (.cells #[.slice A (nd x).length c] 45)).alloc (.cells #[.slice B (nd y).length d] 45)).alloc (.cells #[.slice none 0 0] 45)).alloc (.cells #[.slice none 0 0] 45)).cell? ⟨w.heap.size, 0, none⟩ = some (.slice A (nd x).length c) := by rw [← hW1]; exact y0.cell 0
  have a1 : ((((w.alloc (.cells #[.slice A (nd x).length c] 45)).alloc (.cells #[.slice B (nd y).length d] 45)).alloc (.cells #[.slice none 0 0] 45)).alloc (.cells #[.slice none 0 0] 45)).cell? ⟨w.heap.size + 1, 0, none⟩ = some (.slice B (nd y).length d) := by rw [← hW1]; exact y1.cell 0
  have HCM := Lib.hid (hcmp W1 yB)
  have HA0 := Lib.hid hA; have HW1 := Lib.hid hW1; have HA := Lib.hid (hA.below yB); have HB := Lib.hid (hB.below yB)
  have Y0 := Lib.hid y0; have Y1 := Lib.hid y1; have Y2 := Lib.hid y2; have Y3 := Lib.hid y3; have YB := Lib.hid yB; have YS := Lib.hid yS
  have HLX := Lib.hid hlx; have HLY := Lib.hid hly; have HY := Lib.hid hy; have HN0 := Lib.hid hn0; have HC := Lib.hid (And.intro hc (And.intro hcm (And.intro hd hdm)))
  have hnz : (((nd y).length : Int) == 0) = false := by rw [beq_eq_false_iff_ne]; omega
  have hnyi : ((nd y).length : Int) ≤ 9000 := by omega
  have hnxi : ((nd x).length : Int) ≤ 9000 := by omega
  clear hcmp hWx hW1 hA hB y0 y1 y2 y3 yB yS hlx hly hy hn0 hc hcm hd hdm
  go_enter Tryz.func148, Tryz.ntmps148
  repeat (first | (go_at_call 29; refine (Hid.out (p := _) ?_)) | go_values | go_skip | go_guarded | go_step | go_upon | go_back)
  refine Lib.hid ?_
  clear a0 a1
  rw [← HW1.out]
  refine HCM.out.mono ?_
  rintro e w2 ⟨rfl, hb2⟩
  have B2 := Lib.hid hb2
  clear hb2 HCM HW1
  simp only []
  have hmix : Tryz.prog.follows .mixedOrders = true := by kernel_rfl
  by_cases hlt : x < y
  · rw [cmpI_lt hlt]
    have hmod : x % y = x := Nat.mod_eq_of_lt hlt
    have c0 : w2.cell? ⟨w.heap.size, 0, none⟩ = some (.slice A (nd x).length c) := (Y0.out.below B2.out Y0.out.lt).cell 0
    have c2 : w2.cell? ⟨w.heap.size + 1 + 1, 0, none⟩ = some (.slice none 0 0) := (Y2.out.below B2.out Y2.out.lt).cell 0
    have c3 : w2.cell? ⟨w.heap.size + 1 + 1 + 1, 0, none⟩ = some (.slice none 0 0) := (Y3.out.below B2.out Y3.out.lt).cell 0
    have f2 := (Y2.out.below B2.out Y2.out.lt).free 0
    have f3 := (Y3.out.below B2.out Y3.out.lt).free 0
    have HMOD := Lib.hid hmod
    clear hlt hmod
    repeat (first | (fail) | go_values | go_skip | go_guarded | go_step | go_upon | go_back)
    go_region
    repeat (first | (fail) | go_values | go_skip | go_guarded | go_step | go_upon | go_back)
    have z2 : Blk (((w2.setCell ⟨w.heap.size + 1 + 1, 0, none⟩ (.slice none 0 0)).setCell ⟨w.heap.size + 1 + 1 + 1, 0, none⟩ (.slice A (nd x).length c)).drew) (w.heap.size + 1 + 1) #[.slice none 0 0] 45 := by
      have h := (Y2.out.below B2.out Y2.out.lt).set 0 (.slice none 0 0)
      exact ((show Blk _ _ #[.slice none 0 0] _ by simpa using h).other (p := ⟨w.heap.size + 1 + 1 + 1, 0, none⟩) (by simp) _).drew
    have z3 : Blk (((w2.setCell ⟨w.heap.size + 1 + 1, 0, none⟩ (.slice none 0 0)).setCell ⟨w.heap.size + 1 + 1 + 1, 0, none⟩ (.slice A (nd x).length c)).drew) (w.heap.size + 1 + 1 + 1) #[.slice A (nd x).length c] 45 := by
      have h := ((Y3.out.below B2.out Y3.out.lt).other (p := ⟨w.heap.size + 1 + 1, 0, none⟩) (by simp) (.slice none 0 0)).set 0 (.slice A (nd x).length c)
      exact (show Blk _ _ #[.slice A (nd x).length c] _ by simpa using h).drew
    have hbf := ((YB.out.trans (B2.out.mono (by rw [YS.out]; omega))).setCell (p := ⟨w.heap.size + 1 + 1, 0, none⟩) (by simp; omega) (.slice none 0 0)).setCell (p := ⟨w.heap.size + 1 + 1 + 1, 0, none⟩) (by simp; omega) (.slice A (nd x).length c)
    have hbd : Below w.heap.size w (((w2.setCell ⟨w.heap.size + 1 + 1, 0, none⟩ (.slice none 0 0)).setCell ⟨w.heap.size + 1 + 1 + 1, 0, none⟩ (.slice A (nd x).length c)).drew) := ⟨hbf.os, hbf.tape, hbf.output, hbf.size, hbf.block⟩
    refine bodyPost_ret (results3 rfl ⟨_, rfl, nat_load z2⟩ ⟨_, rfl, nat_load z3⟩ rfl) rfl ⟨hbd, none, 0, 0, _, rfl, A, c, by rw [HMOD.out], by rw [HMOD.out]; exact HC.out.1, HC.out.2.1, ?_⟩
    rw [HMOD.out]
    exact (HA0.out.below hbd).mono (Nat.zero_le _)
  · have hge : ¬ (cmpI x y < 0) := fun h => hlt (cmpI_neg.1 h)
    generalize cmpI x y = cm at hge ⊢
    obtain ⟨b, hb, hbl, hs32, hY1, hY2⟩ := shift_of y HY.out
    obtain ⟨s, hse⟩ : ∃ s, s = 32 * (nd y).length - b := ⟨_, rfl⟩
    rw [← hse] at hs32 hY1 hY2
    obtain ⟨bB, rfl, _, hbBl, hcB⟩ := HB.out.cells HN0.out
    have hb2' : Below W1.heap.size W1 w2 := B2.out
    have d1 : w2.cell? ⟨bB, (nd y).length - 1, none⟩ = some (.int .u32 (((nd y).getD ((nd y).length - 1) 0).toNat : Int)) := by rw [hb2'.cell (p := ⟨bB, (nd y).length - 1, none⟩) hbBl]; exact hcB _ (by have := HN0.out; omega)
    have hlz := fun W => Tryz.bits_LeadingZeros32 (((nd y).getD ((nd y).length - 1) 0).toNat : Int) W (by omega) (by have := toNat_lt32 ((nd y).getD ((nd y).length - 1) 0); omega)
    have hsv : (32 : Int) - (Lib.bitLen ((nd y).getD ((nd y).length - 1) 0).toNat : Int) = (s : Int) := by
      have h := hb
      rw [bitsL, if_neg (by intro h0; have := HN0.out; rw [h0] at this; simp at this)] at h
      omega
    rw [Int.toNat_natCast, hsv] at hlz
    generalize ((nd y).getD ((nd y).length - 1) 0).toNat = td at d1 hlz
    have HLZ := Lib.hid hlz
    obtain ⟨n1, hn1, hn1e⟩ : ∃ m : Nat, ((nd y).length : Int) - 1 = (m : Int) ∧ m = (nd y).length - 1 := ⟨_, by have := HN0.out; omega, rfl⟩
    rw [← hn1e] at d1
    have c0 : w2.cell? ⟨w.heap.size, 0, none⟩ = some (.slice A (nd x).length c) := (Y0.out.below B2.out Y0.out.lt).cell 0
    have c1 : w2.cell? ⟨w.heap.size + 1, 0, none⟩ = some (.slice (some ⟨bB, 0, none⟩) (nd y).length d) := (Y1.out.below B2.out Y1.out.lt).cell 0
    have hn1l : (n1 : Int) < ((nd y).length : Int) := by omega
    have HS := Lib.hid (And.intro hs32 (And.intro hY1 hY2)); have HXY := Lib.hid (show y ≤ x by omega)
    clear hlz hsv hb hbl hs32 hY1 hY2 hse hcB hn1e hlt hb2'
    repeat (first | (go_at_call 76; refine (Hid.out (p := _) ?_)) | go_values | go_skip | go_guarded | go_step | go_upon | go_back)
    refine Lib.hid ?_
    clear d1
    refine (HLZ.out _).mono ?_
    rintro e w3 ⟨rfl, h3⟩
    subst h3
    clear HLZ
    simp only []
    have hla := fun W (h : Below W1.heap.size W1 W) => nat_left (.agg #[.slice A (nd x).length c]) x s W HS.out.1 (by have := HLX.out; omega) lo ⟨A, c, rfl, HC.out.1, HC.out.2.1, HA.out.below h⟩
    have hlb := fun W (h : Below W1.heap.size W1 W) => nat_left (.agg #[.slice (some ⟨bB, 0, none⟩) (nd y).length d]) y s W HS.out.1 (by have := HLY.out; omega) lo' ⟨_, d, rfl, HC.out.2.2.1, HC.out.2.2.2, HB.out.below h⟩
    have HLA := Lib.hid hla; have HLB := Lib.hid hlb
    have hs32i : (s : Int) < 32 := by have := HS.out.1; omega
    have hnle : ((nd y).length : Int) ≤ ((nd y).length : Int) + 1 := by omega
    clear hla hlb
    repeat (first | (fail) | go_values | go_skip | go_guarded | go_step | go_upon | go_back)
    go_region_with (first
      | (go_at_call_of 220 A; refine (HLA.out _ ?_).mono ?_; exact below_drew1 B2.out; rintro e w3 ⟨hb3, g1, O, rfl, hg1, hO1, hO2, hO3⟩; have c1' : w3.cell? ⟨w.heap.size + 1, 0, none⟩ = some (.slice (some ⟨bB, 0, none⟩) (nd y).length d) := ((Y1.out.below B2.out Y1.out.lt).drew.below hb3 (Y1.out.below B2.out Y1.out.lt).drew.lt).cell 0; have hb3' := (below_drew1 B2.out).trans (hb3.mono (below_drew1 B2.out).size))
      | (go_at_call_of 220 bB; refine (HLB.out _ ?_).mono ?_; exact hb3'; rintro e w4 ⟨hb4, g2, V, rfl, hg2, hV1, hV2, hV3⟩))
    all_goals
      have hb4' := hb3'.trans (hb4.mono hb3'.size)
      have hO4 := hO1.below hb4 hO1.lt
      have hgg : g1 ≠ g2 := by have := hO1.lt; omega
      have hG1 : W1.heap.size ≤ g1 := Nat.le_trans (below_drew1 B2.out).size hg1
      have hG2 : W1.heap.size ≤ g2 := Nat.le_trans hb3'.size hg2
      have hll := nd_len_mono HXY.out
      have hdst := div_start HY.out HXY.out HS.out.1 hO2 hO3
      obtain ⟨M, hM, hMe⟩ : ∃ M : Nat, ((nd x).length : Int) + 1 - ((nd y).length : Int) = (M : Int) ∧ M = (nd x).length + 1 - (nd y).length := ⟨_, by omega, rfl⟩
      rw [← hMe] at hdst
      have hmk := fun W => run_make_row' 43 64 (.int .u32 0) 4 Tryz.underlying43 info_u32 rfl .i64 .i64 M (by omega) (by omega) W
      simp only [zer_enc] at hmk
      have hMi : (M : Int) ≤ 9001 := by omega
      have HV := Lib.hid (And.intro hV2 hV3); have HO := Lib.hid (And.intro hO2 hO3)
      have H4 := Lib.hid (And.intro hO4 (And.intro hV1 hb4')); have HGG := Lib.hid hgg; have HG := Lib.hid (And.intro hG1 hG2); have HM := Lib.hid (And.intro hMe hll); have HDST := Lib.hid hdst
      clear c0 c1 c1' hb4' hO4 hgg hG1 hG2 hll hdst hMe hb3 hb3' hb4 hO1 hO2 hO3 hV1 hV2 hV3 hg1 hg2 HLA HLB
      repeat (first | (fail) | go_values | go_skip | go_guarded | go_step | go_upon | go_back)
      obtain ⟨gq, hgq⟩ : ∃ g, g = w4.heap.size := ⟨_, rfl⟩
      have h5q : Blk (w4.alloc (.cells (encW (List.replicate M 0)) 64)) gq (encW (List.replicate M 0)) 64 := by rw [hgq]; exact Blk.new w4 _ _
      have h5o := H4.out.1.alloc (.cells (encW (List.replicate M 0)) 64)
      have h5v := H4.out.2.1.alloc (.cells (encW (List.replicate M 0)) 64)
      have h5b := H4.out.2.2.alloc H4.out.2.2.size (.cells (encW (List.replicate M 0)) 64)
      have HGQ := Lib.hid (show g1 ≠ gq ∧ g2 ≠ gq ∧ W1.heap.size ≤ gq by have := H4.out.1.lt; have := H4.out.2.1.lt; have := H4.out.2.2.size; omega)
      rw [show (⟨w4.heap.size, 0, none⟩ : Addr) = ⟨gq, 0, none⟩ by rw [hgq]]
      generalize w4.alloc (.cells (encW (List.replicate M 0)) 64) = w5 at h5q h5o h5v h5b ⊢
      have H5 := Lib.hid (And.intro h5o (And.intro h5v (And.intro h5q h5b)))
      clear h5q h5o h5v h5b hgq H4 hmk
      go_loopw [12] (fun z wr => ∃ (j : Nat) (zi : Int) (O' Q : List W32), j ≤ M ∧ z = .int .i64 zi ∧ Hid (zi = (j : Int) - 1) ∧ Hid (O'.length = (nd x).length + 1 ∧ va (O'.drop j) < y * 2 ^ s ∧ va O' % (y * 2 ^ s) = x * 2 ^ s % (y * 2 ^ s) ∧ Q.length = M) ∧ Hid (Blk wr g1 (encW O') 64 ∧ Blk wr g2 (encW V) 64 ∧ Blk wr gq (encW Q) 64 ∧ Below W1.heap.size W1 wr)) (fun z _ => (intOf z + 1).toNat)
      case atStart => exact ⟨M, _, O, _, Nat.le_refl _, rfl, Lib.hid rfl, Lib.hid ⟨HO.out.1, HDST.out, by rw [HO.out.2], by simp⟩, H5⟩
      case round =>
        clear H5
        obtain ⟨j, zi, O', Q, hj, rfl, hz, hI, hT⟩ := hrel
        cases j with
        | zero =>
          obtain rfl : zi = -1 := by have := hz.out; omega
          have hfin : va O' = x % y * 2 ^ s := div_end (by have := hI.out.2.1; rwa [List.drop_zero] at this) hI.out.2.2.1
          have hdig := fun i => rest_dig HS.out.1 hfin i
          have HD := Lib.hid hdig; have HOL := Lib.hid hI.out.1; have HQL := Lib.hid hI.out.2.2.2
          have hmk := fun W => run_make_row' 43 64 (.int .u32 0) 4 Tryz.underlying43 info_u32 rfl .i64 .i64 (nd y).length (by omega) (by omega) W
          simp only [zer_enc] at hmk
          have hs64 : min s 64 = s := by omega
          clear hfin hdig hI hz
          repeat (first | (fail) | go_values | go_skip | go_guarded | go_step | go_upon | go_back)
          obtain ⟨gr, hgr⟩ : ∃ g, g = wr.heap.size := ⟨_, rfl⟩
          have h6r : Blk (wr.alloc (.cells (encW (List.replicate (nd y).length 0)) 64)) gr (encW (List.replicate (nd y).length 0)) 64 := by rw [hgr]; exact Blk.new wr _ _
          have h6o := hT.out.1.alloc (.cells (encW (List.replicate (nd y).length 0)) 64)
          have h6q := hT.out.2.2.1.alloc (.cells (encW (List.replicate (nd y).length 0)) 64)
          have h6b := hT.out.2.2.2.alloc hT.out.2.2.2.size (.cells (encW (List.replicate (nd y).length 0)) 64)
          have HGR := Lib.hid (show g1 ≠ gr ∧ gq ≠ gr ∧ W1.heap.size ≤ gr by have := hT.out.1.lt; have := hT.out.2.2.1.lt; have := hT.out.2.2.2.size; omega)
          rw [show (⟨wr.heap.size, 0, none⟩ : Addr) = ⟨gr, 0, none⟩ by rw [hgr]]
          generalize wr.alloc (.cells (encW (List.replicate (nd y).length 0)) 64) = w7 at h6r h6o h6q h6b ⊢
          have H7 := Lib.hid (And.intro h6o (And.intro h6q (And.intro h6r h6b)))
          clear h6r h6o h6q h6b hgr hT hmk
          go_loopw [73] (fun z wr => ∃ (i : Nat) (R : List W32), i ≤ (nd y).length ∧ z = .int .i64 i ∧ Hid (R.length = (nd y).length ∧ ∀ k, k < i → R.getD k 0 = (nd (x % y)).getD k 0) ∧ Hid (Blk wr g1 (encW O') 64 ∧ Blk wr gq (encW Q) 64 ∧ Blk wr gr (encW R) 64 ∧ Below W1.heap.size W1 wr)) (fun z _ => (nd y).length - (intOf z).toNat)
          case atStart => exact ⟨0, _, Nat.zero_le _, rfl, Lib.hid ⟨by simp, fun k hk => absurd hk (by omega)⟩, H7⟩
          case round =>
            clear H7
            obtain ⟨i, R, hi, rfl, hR, hT⟩ := hrel
            by_cases hin : i < (nd y).length
            · have hMM := HM.out
              have q1 := cell_get hT.out.1 i (by rw [HOL.out]; omega)
              have q2 := cell_get hT.out.1 (i + 1) (by rw [HOL.out]; omega)
              have q3 := cell_get hT.out.2.2.1 i (by rw [hR.out.1]; exact hin)
              have hd := HD.out i
              have hpl := toNat_lt32 (O'.getD i 0)
              have hql := toNat_lt32 (O'.getD (i + 1) 0)
              generalize (O'.getD i 0).toNat = p at *
              generalize (O'.getD (i + 1) 0).toNat = q at *
              obtain ⟨v, hv, hve⟩ : ∃ v : Nat, bits .or .u64 ((q : Int) * 4294967296) (p : Int) = (v : Int) ∧ v = q * 4294967296 + p := ⟨_, by rw [← u64_join q p hql hpl, Int.natCast_mul]; rfl, rfl⟩
              rw [← hve] at hd
              obtain ⟨dv, hdv, hdve⟩ : ∃ dv : Nat, (v : Int) / 2 ^ s = (dv : Int) ∧ dv = v / 2 ^ s := ⟨v / 2 ^ s, by rw [Int.natCast_ediv, Int.natCast_pow]; rfl, rfl⟩
              rw [← hdve] at hd
              obtain ⟨uu, huu, huue⟩ : ∃ u : Nat, (dv : Int) % 4294967296 = (u : Int) ∧ u = dv % 4294967296 := ⟨dv % 4294967296, by omega, rfl⟩
              rw [← huue] at hd
              have huub : uu < 4294967296 := by omega
              have hdvl : dv ≤ v := by rw [hdve]; exact Nat.div_le_self _ _
              have hdvi : (dv : Int) < 18446744073709551616 := by omega
              have hvi : (v : Int) < 18446744073709551616 := by omega
              have hpi : (p : Int) < 4294967296 := by omega
              have hqi : (q : Int) < 4294967296 := by omega
              have hii : (i : Int) < ((nd y).length : Int) := by omega
              have hix : (i : Int) < ((nd x).length : Int) + 1 := by omega
              have hix1 : (i : Int) + 1 < ((nd x).length : Int) + 1 := by omega
              have f3 := hT.out.2.2.1.free i
              have hnR : Hid ((R.set i (BitVec.ofNat 32 uu)).length = (nd y).length ∧ ∀ k, k < i + 1 → (R.set i (BitVec.ofNat 32 uu)).getD k 0 = (nd (x % y)).getD k 0) := by
                refine Lib.hid ⟨by rw [List.length_set]; exact hR.out.1, fun k hk => ?_⟩
                rw [set_getD _ _ _ _ (by rw [hR.out.1]; exact hin)]
                split
                · rename_i h; rw [h, hd]
                · exact hR.out.2 k (by omega)
              have HUB := Lib.hid huub; have HIN := Lib.hid hin; have HRL := Lib.hid hR.out.1
              clear hd hve hdve huue hdvl hpl hql hMM hR hin huub
              repeat (first | (fail) | go_values | go_skip | go_guarded | go_step | go_upon | go_back)
              refine wp_draw 19 (C := fun w' => ∃ n, w' = wr.drewN n) hmix (by kernel_rfl) (by kernel_rfl) (by kernel_rfl) (by simp) ⟨1, rfl⟩ ?_
              simp only [List.take_succ_cons, List.take_zero, List.drop_succ_cons, List.drop_zero]
              repeat (go_big_quiet_step (fail))
              refine wpQuiet_nil ?_
              intro _ hw'
              obtain ⟨nq, hw''⟩ := hw'
              subst hw''
              have t1 := blk_drew hT.out.1 nq
              have t2 := blk_drew hT.out.2.1 nq
              have t3 := blk_drew hT.out.2.2.1 nq
              have t4 := below_drew hT.out.2.2.2 nq
              generalize wr.drewN nq = w8 at t1 t2 t3 t4 ⊢
              have g3 := t3.free i
              have q4 := cell_get t3 i (by rw [HRL.out]; exact HIN.out)
              have s1 := t1.other (p := ⟨gr, i, none⟩) HGR.out.1 (.int .u32 (uu : Int))
              have s2 := t2.other (p := ⟨gr, i, none⟩) HGR.out.2.1 (.int .u32 (uu : Int))
              have s3 := cell_set t3 i uu HUB.out
              have s4 := t4.setCell (p := ⟨gr, i, none⟩) HGR.out.2.2 (.int .u32 (uu : Int))
              have HT2 := Lib.hid (And.intro s1 (And.intro s2 (And.intro s3 s4)))
              clear s1 s2 s3 s4 t1 t2 t3 t4 hT q1 q2 q3 f3
              repeat (first | (fail) | go_values | go_skip | go_guarded | go_step | go_upon | go_back)
              exact ⟨⟨i + 1, _, HIN.out, by go_num, hnR, HT2⟩, by have := HIN.out; simp [intOf]; omega⟩
            · obtain rfl : i = (nd y).length := by omega
              have hrl : (nd (x % y)).length ≤ (nd y).length := nd_len_mono (Nat.le_of_lt (Nat.mod_lt _ (by have := HY.out; omega)))
              have hva := all_digs hR.out.1 hrl hR.out.2
              have htq := nat_trim_va (some ⟨gq, 0, none⟩) M Q wr (by rw [HQL.out]; exact Nat.le_refl _) (by omega) 0 (blk_digs hT.out.2.1 (Nat.zero_le _))
              rw [HQL.out] at htq
              have HTQ := Lib.hid htq; have HVA := Lib.hid hva; have HRL := Lib.hid hR.out.1; have HRLE := Lib.hid hrl
              clear htq hva hrl hR hin
              repeat (first | (go_at_call 53; refine (Hid.out (p := _) ?_)) | go_values | go_skip | go_guarded | go_step | go_upon | go_back)
              refine Lib.hid ?_
              refine HTQ.out.mono ?_
              rintro e w8 ⟨rfl, hb8⟩
              have H8 := Lib.hid (And.intro (hT.out.2.2.1.below hb8 hT.out.2.2.1.lt) (hT.out.2.2.2.trans (hb8.mono hT.out.2.2.2.size)))
              clear hb8 HTQ hT
              simp only []
              have htr := nat_trim_va (some ⟨gr, 0, none⟩) (nd y).length R w8 (by rw [HRL.out]; exact Nat.le_refl _) (by omega) gr (blk_digs H8.out.1 (Nat.le_refl _))
              rw [HRL.out, HVA.out] at htr
              have hD := (blk_digs H8.out.1 (Nat.le_refl gr)).trim
              rw [HVA.out] at hD
              have HTR := Lib.hid htr; have HD2 := Lib.hid hD
              clear htr hD
              repeat (first | (go_at_call 53; refine (Hid.out (p := _) ?_)) | go_values | go_skip | go_guarded | go_step | go_upon | go_back)
              refine Lib.hid ?_
              refine HTR.out.mono ?_
              rintro e w9 ⟨rfl, hb9⟩
              have hb9' := H8.out.2.trans (hb9.mono H8.out.2.size)
              have HD9 := Lib.hid (HD2.out.below hb9)
              have x2 := Y2.out.below hb9' Y2.out.lt
              have x3 := Y3.out.below hb9' Y3.out.lt
              have c2 : w9.cell? ⟨w.heap.size + 1 + 1, 0, none⟩ = some (.slice none 0 0) := x2.cell 0
              have c3 : w9.cell? ⟨w.heap.size + 1 + 1 + 1, 0, none⟩ = some (.slice none 0 0) := x3.cell 0
              have f2 := x2.free 0
              have f3 := x3.free 0
              have HB9 := Lib.hid hb9'; have X2 := Lib.hid x2; have X3 := Lib.hid x3
              clear hb9 hb9' x2 x3 HTR HD2 H8
              simp only []
              repeat (first | (fail) | go_values | go_skip | go_guarded | go_step | go_upon | go_back)
              have z2 : Blk ((w9.setCell ⟨w.heap.size + 1 + 1, 0, none⟩ (.slice (some ⟨gq, 0, none⟩) (nd (va Q)).length M)).setCell ⟨w.heap.size + 1 + 1 + 1, 0, none⟩ (.slice (some ⟨gr, 0, none⟩) (nd (x % y)).length (nd y).length)) (w.heap.size + 1 + 1) #[.slice (some ⟨gq, 0, none⟩) (nd (va Q)).length M] 45 := by
                have h := X2.out.set 0 (.slice (some ⟨gq, 0, none⟩) (nd (va Q)).length M)
                exact (show Blk _ _ #[.slice (some ⟨gq, 0, none⟩) (nd (va Q)).length M] _ by simpa using h).other (p := ⟨w.heap.size + 1 + 1 + 1, 0, none⟩) (by simp) _
              have z3 : Blk ((w9.setCell ⟨w.heap.size + 1 + 1, 0, none⟩ (.slice (some ⟨gq, 0, none⟩) (nd (va Q)).length M)).setCell ⟨w.heap.size + 1 + 1 + 1, 0, none⟩ (.slice (some ⟨gr, 0, none⟩) (nd (x % y)).length (nd y).length)) (w.heap.size + 1 + 1 + 1) #[.slice (some ⟨gr, 0, none⟩) (nd (x % y)).length (nd y).length] 45 := by
                have h := (X3.out.other (p := ⟨w.heap.size + 1 + 1, 0, none⟩) (by simp) (.slice (some ⟨gq, 0, none⟩) (nd (va Q)).length M)).set 0 (.slice (some ⟨gr, 0, none⟩) (nd (x % y)).length (nd y).length)
                exact (show Blk _ _ #[.slice (some ⟨gr, 0, none⟩) (nd (x % y)).length (nd y).length] _ by simpa using h)
              have hbf := ((YB.out.trans (HB9.out.mono (by rw [YS.out]; omega))).setCell (p := ⟨w.heap.size + 1 + 1, 0, none⟩) (by simp; omega) (.slice (some ⟨gq, 0, none⟩) (nd (va Q)).length M)).setCell (p := ⟨w.heap.size + 1 + 1 + 1, 0, none⟩) (by simp; omega) (.slice (some ⟨gr, 0, none⟩) (nd (x % y)).length (nd y).length)
              refine bodyPost_ret (results3 rfl ⟨_, rfl, nat_load z2⟩ ⟨_, rfl, nat_load z3⟩ rfl) rfl ⟨hbf, _, _, _, _, rfl, some ⟨gr, 0, none⟩, (nd y).length, rfl, HRLE.out, by omega, ?_⟩
              have hgs := HGR.out.2.2
              rw [YS.out] at hgs
              exact ((HD9.out.low (p := ⟨w.heap.size + 1 + 1, 0, none⟩) (by simp; omega) _).low (p := ⟨w.heap.size + 1 + 1 + 1, 0, none⟩) (by simp; omega) _).mono (Nat.zero_le _)
        | succ k =>
          obtain rfl : zi = (k : Int) := by have := hz.out; omega
          have hMM := HM.out
          have hkn : k + ((nd y).length + 1) ≤ O'.length := by rw [hI.out.1]; omega
          obtain ⟨p1, p2, p3⟩ := div_part hkn hI.out.2.1 HS.out.2.1
          obtain ⟨l1, l2⟩ := low_part HV.out.1 HV.out.2 HS.out.2.1
          have l3 := top_big l1 HN0.out (by rw [l2]; exact HS.out.2.2)
          have hbo := hT.out.1
          rw [split3 O' k (nd y).length] at hbo
          have hbv := hT.out.2.1
          rw [← List.take_append_drop (nd y).length V] at hbv
          have hPl : (O'.take k).length = k := by rw [List.length_take]; omega
          have hdg := nat_digit (O'.take k) ((O'.drop k).take ((nd y).length + 1)) (O'.drop (k + ((nd y).length + 1))) (V.take (nd y).length) (V.drop (nd y).length) (nd y).length g1 g2 ((nd x).length + 1 - k) ((nd y).length + 1) wr p1 l1 HN0.out (by omega) (by have := HLX.out; omega) l3 (by rw [l2]; exact p2) hbo hbv HGG.out.symm
          rw [hPl, l2] at hdg
          have hX := hI.out.2.2.1
          rw [split3 O' k (nd y).length] at hX
          have HDG := Lib.hid hdg; have HX := Lib.hid hX; have HPP := Lib.hid (And.intro p1 (And.intro p3 hPl)); have HQL := Lib.hid hI.out.2.2.2; have HKM := Lib.hid (show k < M by omega); have HOL := Lib.hid hI.out.1
          have hki : (k : Int) ≤ 9001 := by omega
          have hks : (k : Int) ≤ (k : Int) + ((nd y).length : Int) + 1 := by omega
          have hks2 : (k : Int) + ((nd y).length : Int) + 1 ≤ ((nd x).length : Int) + 1 := by omega
          have hkM : (k : Int) < (M : Int) := by omega
          have ht1 : ((k : Int) + ((nd y).length : Int) + 1 - (k : Int)).toNat = (nd y).length + 1 := by omega
          clear p1 p2 p3 l1 l2 l3 hbo hbv hPl hdg hX hI hkn hMM hz
          repeat (first | (go_at_call 221; refine (Hid.out (p := _) ?_)) | go_values | go_skip | go_guarded | go_step | go_upon | go_back)
          refine Lib.hid ?_
          rw [show k + (nd y).length + 1 - k = (nd y).length + 1 by omega]
          refine HDG.out.mono ?_
          rintro e w6 ⟨ho6, q, u', rfl, hq, hb6, hl6, hv6⟩
          have hv7 := hT.out.2.1.only ho6 HGG.out.symm
          have hq7 := hT.out.2.2.1.only ho6 HGQ.out.1.symm
          have hB7 := hT.out.2.2.2.trans (ho6.belowOf HG.out.1 hT.out.2.2.2.size)
          have fk := hq7.free k
          have ck := cell_get hq7 k (by rw [HQL.out]; exact HKM.out)
          have s1 := cell_set hq7 k q hq
          have s2 := hb6.other (p := ⟨gq, k, none⟩) HGQ.out.1 (.int .u32 (q : Int))
          have s3 := hv7.other (p := ⟨gq, k, none⟩) HGQ.out.2.1 (.int .u32 (q : Int))
          have s4 := hB7.setCell (p := ⟨gq, k, none⟩) HGQ.out.2.2 (.int .u32 (q : Int))
          have HT2 := Lib.hid (And.intro s2 (And.intro s3 (And.intro s1 s4)))
          have hYp : 0 < y * 2 ^ s := Nat.mul_pos (by have := HY.out; omega) (Nat.two_pow_pos s)
          have hI2 : Hid ((O'.take k ++ u' ++ O'.drop (k + ((nd y).length + 1))).length = (nd x).length + 1 ∧ va ((O'.take k ++ u' ++ O'.drop (k + ((nd y).length + 1))).drop k) < y * 2 ^ s ∧ va (O'.take k ++ u' ++ O'.drop (k + ((nd y).length + 1))) % (y * 2 ^ s) = x * 2 ^ s % (y * 2 ^ s) ∧ (Q.set k (BitVec.ofNat 32 q)).length = M) := by
            refine Lib.hid ⟨?_, div_less HPP.out.2.2 HPP.out.2.1 hv6 hYp, div_next (by rw [hl6, HPP.out.1]) HPP.out.2.1 hv6 HX.out, by rw [List.length_set]; exact HQL.out⟩
            have := HKM.out
            have := HM.out
            rw [List.length_append, List.length_append, HPP.out.2.2, hl6, List.length_drop, HOL.out]
            omega
          have hqi : (q : Int) < 4294967296 := by omega
          clear s1 s2 s3 s4 hv7 hq7 hB7 hb6 hl6 hv6 ho6 hT hYp HDG HX HPP ht1 hq
          simp only []
          repeat (first | (fail) | go_values | go_skip | go_guarded | go_step | go_upon | go_back)
          go_roundw
          case rel => exact ⟨k, (k : Int) - 1, _, _, by have := HKM.out; omega, by go_num, Lib.hid rfl, hI2, HT2⟩
          case measure => simp [intOf]
end Go.Proofs.YtdmfbcfhfopipaaGreatDoor

/- (number.Nat).mod, number.Small of 1, number.modulus. -/
namespace Go.Proofs.YtdmfbcfhfopipaaGreatDoor
open Go.RowKit

/-- A variable that holds a slice is no row of digits. -/
theorem DigsAt.keep {lo : Nat} {w : World} {A : Option Addr} {l : List W32} (h : DigsAt lo w A l) {g : Nat} {X : Option Addr} {n c : Nat} (hg : w.cell? ⟨g, 0, none⟩ = some (.slice X n c)) (v : Value) : DigsAt lo (w.setCell ⟨g, 0, none⟩ v) A l := by
  rcases h with h | ⟨b, rfl, hlo, hlt, hc⟩
  · exact .inl h
  · by_cases hl : l.length = 0
    · exact .inl (List.eq_nil_of_length_eq_zero hl)
    · have hne : b ≠ g := by
        rintro rfl
        rw [hc 0 (by omega)] at hg
        cases hg
      refine .inr ⟨b, rfl, hlo, by simpa using hlt, fun i hi => ?_⟩
      rw [World.cell?_of_block (w := w)]
      · exact hc i hi
      · exact heap_setCell_other _ _ _ _ (by simpa using hne)
theorem NatV.keep {lo : Nat} {w : World} {v : Value} {l : List W32} (h : NatV lo w v l) {g : Nat} {X : Option Addr} {n c : Nat} (hg : w.cell? ⟨g, 0, none⟩ = some (.slice X n c)) (u : Value) : NatV lo (w.setCell ⟨g, 0, none⟩ u) v l := by
  obtain ⟨A, c, h1, h2, h3, h4⟩ := h
  exact ⟨A, c, h1, h2, h3, h4.keep hg u⟩
set_option maxRecDepth 100000 in
set_option maxHeartbeats 1000000 in
theorem nat_mod (v u : Value) (x y : Nat) (hy : y ≠ 0) (w : World) (hlx : (nd x).length ≤ 9000) (hly : (nd y).length ≤ 9000) (lo lo' : Nat) (hv : NatV lo w v (nd x)) (hu : NatV lo' w u (nd y)) :
    Calls Tryz.prog 56 #[v, u] w fun e w' => Below w.heap.size w w' ∧ ∃ r, e = .returned r ∧ NatV 0 w' r (nd (x % y)) := by
  have hdv := fun W (h : Below w.heap.size w W) => nat_div v u x y hy W hlx hly lo lo' (hv.below h) (hu.below h)
  obtain ⟨A, c, rfl, _, _, _⟩ := hv
  obtain ⟨B, d, rfl, _, _, _⟩ := hu
  have hWx : ∀ W1 : World, W1 = (((w.alloc (.cells #[.slice A (nd x).length c] 45)).alloc (.cells #[.slice B (nd y).length d] 45)).alloc (.cells #[.slice none 0 0] 45)) →
      Blk W1 w.heap.size #[.slice A (nd x).length c] 45 ∧ Blk W1 (w.heap.size + 1) #[.slice B (nd y).length d] 45 ∧ Blk W1 (w.heap.size + 1 + 1) #[.slice none 0 0] 45 ∧ Below w.heap.size w W1 ∧ W1.heap.size = w.heap.size + 3 := by
    rintro W1 rfl
    refine ⟨?_, ?_, ?_, ?_, by simp⟩
    · exact ((Blk.new w _ _).alloc _).alloc _
    · have := ((Blk.new (w.alloc (.cells #[.slice A (nd x).length c] 45)) #[.slice B (nd y).length d] 45)).alloc (.cells #[.slice none 0 0] 45)
      simpa using this
    · have := Blk.new ((w.alloc (.cells #[.slice A (nd x).length c] 45)).alloc (.cells #[.slice B (nd y).length d] 45)) #[.slice none 0 0] 45
      simpa using this
    · exact (((Below.refl _ w).alloc (Nat.le_refl _) _).alloc (by simp) _).alloc (by simp; omega) _
  obtain ⟨W1, hW1⟩ : ∃ W1, W1 = (((w.alloc (.cells #[.slice A (nd x).length c] 45)).alloc (.cells #[.slice B (nd y).length d] 45)).alloc (.cells #[.slice none 0 0] 45)) := ⟨_, rfl⟩
  obtain ⟨y0, y1, y2, yB, yS⟩ := hWx W1 hW1
  have a0 : (((w.alloc (.cells #[.slice A (nd x).length c] 45)).alloc (.cells #[.slice B (nd y).length d] 45)).alloc (.cells #[.slice none 0 0] 45)).cell? ⟨w.heap.size, 0, none⟩ = some (.slice A (nd x).length c) := by rw [← hW1]; exact y0.cell 0
  have a1 : (((w.alloc (.cells #[.slice A (nd x).length c] 45)).alloc (.cells #[.slice B (nd y).length d] 45)).alloc (.cells #[.slice none 0 0] 45)).cell? ⟨w.heap.size + 1, 0, none⟩ = some (.slice B (nd y).length d) := by rw [← hW1]; exact y1.cell 0
  have HD := Lib.hid (hdv W1 yB); have HW := Lib.hid hW1; have Y2 := Lib.hid y2; have YB := Lib.hid yB; have YS := Lib.hid yS
  clear hdv hWx hW1 y0 y1 y2 yB yS
  go_enter Tryz.func56, Tryz.ntmps56
  repeat (first | (go_at_call 148; refine (Hid.out (p := _) ?_)) | go_values | go_skip | go_guarded | go_step | go_upon | go_back)
  refine Lib.hid ?_
  clear a0 a1
  rw [← HW.out]
  refine HD.out.mono ?_
  rintro e w2 ⟨hb2, Aq, nq, cq, r, rfl, hr⟩
  obtain ⟨C, f, rfl, k1, k2, k3⟩ := hr
  have x2 := Y2.out.below hb2 Y2.out.lt
  have HX := Lib.hid x2; have HB2 := Lib.hid (YB.out.trans (hb2.mono YB.out.size)); have HK := Lib.hid (And.intro k1 (And.intro k2 k3))
  clear hb2 k1 k2 k3 x2 HD HW Y2
  simp only []
  have HG := Lib.hid (show w.heap.size + 1 + 1 < w2.heap.size by have := HX.out.lt; omega)
  obtain ⟨W5, hW5⟩ : ∃ W5, W5 = (w2.alloc (.cells #[.slice Aq nq cq] 45)).alloc (.cells #[.slice C (nd (x % y)).length f] 45) := ⟨_, rfl⟩
  have hx5 : Blk W5 (w.heap.size + 1 + 1) #[.slice none 0 0] 45 := by rw [hW5]; exact (HX.out.alloc _).alloc _
  have hr5 : Blk W5 (w2.heap.size + 1) #[.slice C (nd (x % y)).length f] 45 := by
    have := Blk.new (w2.alloc (.cells #[.slice Aq nq cq] 45)) #[.slice C (nd (x % y)).length f] 45
    rw [hW5]; simpa using this
  have hq5 : Below w2.heap.size w2 W5 := by rw [hW5]; exact ((Below.refl _ w2).alloc (Nat.le_refl _) _).alloc (by simp) _
  have c5 : ((w2.alloc (.cells #[.slice Aq nq cq] 45)).alloc (.cells #[.slice C (nd (x % y)).length f] 45)).cell? ⟨w2.heap.size + 1, 0, none⟩ = some (.slice C (nd (x % y)).length f) := by rw [← hW5]; exact hr5.cell 0
  have c2 : ((w2.alloc (.cells #[.slice Aq nq cq] 45)).alloc (.cells #[.slice C (nd (x % y)).length f] 45)).cell? ⟨w.heap.size + 1 + 1, 0, none⟩ = some (.slice none 0 0) := by rw [← hW5]; exact hx5.cell 0
  have f2 : ((w2.alloc (.cells #[.slice Aq nq cq] 45)).alloc (.cells #[.slice C (nd (x % y)).length f] 45)).frozen? ⟨w.heap.size + 1 + 1, 0, none⟩ = false := by rw [← hW5]; exact hx5.free 0
  have HX5 := Lib.hid hx5; have HQ5 := Lib.hid hq5; have HW5 := Lib.hid hW5
  clear hx5 hr5 hq5 hW5
  repeat (first | (fail) | go_values | go_skip | go_guarded | go_step | go_upon | go_back)
  rw [← HW5.out]
  have hfin := HX5.out.set 0 (.slice C (nd (x % y)).length f)
  refine bodyPost_ret (results1 rfl ⟨_, rfl, nat_load (by simpa using hfin)⟩) rfl ⟨?_, _, rfl, C, f, rfl, HK.out.1, HK.out.2.1, ?_⟩
  · exact (HB2.out.trans (HQ5.out.mono HB2.out.size)).setCell (p := ⟨w.heap.size + 1 + 1, 0, none⟩) (by simp; omega) _
  · exact (HK.out.2.2.below HQ5.out).keep (HX5.out.cell 0) _
set_option maxRecDepth 100000 in
set_option maxHeartbeats 1000000 in
theorem small_one (w : World) : Calls Tryz.prog 55 #[.int .u64 1] w fun e w' => Below w.heap.size w w' ∧ ∃ r, e = .returned r ∧ NatV 0 w' r (nd 1) := by
  obtain ⟨W1, hW1⟩ : ∃ W1, W1 = (w.alloc (.cells #[.slice none 0 0] 45)).alloc (.cells #[.int .u32 1, .int .u32 0] 64) := ⟨_, rfl⟩
  have hcs : encW [1#32, 0#32] = #[Value.int .u32 1, .int .u32 0] := rfl
  have hb : Blk W1 (w.heap.size + 1) (encW [1#32, 0#32]) 64 := by
    have := Blk.new (w.alloc (.cells #[.slice none 0 0] 45)) (encW [1#32, 0#32]) 64
    rw [hW1, ← hcs]; simpa using this
  have hx : Blk W1 w.heap.size #[.slice none 0 0] 45 := by rw [hW1]; exact (Blk.new w _ _).alloc _
  have hB : Below w.heap.size w W1 := by rw [hW1]; exact ((Below.refl _ w).alloc (Nat.le_refl _) _).alloc (by simp) _
  have hD := blk_digs hb (Nat.le_refl (w.heap.size + 1))
  have hva : va [1#32, 0#32] = 1 := rfl
  have htr := nat_trim_va (some ⟨w.heap.size + 1, 0, none⟩) 2 [1#32, 0#32] W1 (Nat.le_refl _) (by omega) _ hD
  have hDT := hD.trim
  have hle := len_va_le [1#32, 0#32]
  rw [hva] at htr hDT hle
  have HTR := Lib.hid htr; have HD := Lib.hid hDT; have HLE := Lib.hid hle; have HX := Lib.hid hx; have HB := Lib.hid hB; have HW := Lib.hid hW1
  clear hcs hb hx hB hD hva htr hDT hle hW1
  go_enter Tryz.func55, Tryz.ntmps55
  repeat (first | (go_at_call 53; refine (Hid.out (p := _) ?_)) | go_values | go_skip | go_guarded | go_step | go_upon | go_back)
  refine Lib.hid ?_
  rw [← HW.out]
  refine HTR.out.mono ?_
  rintro e w2 ⟨rfl, hb2⟩
  have hx2 := HX.out.below hb2 HX.out.lt
  have c2 : w2.cell? ⟨w.heap.size, 0, none⟩ = some (.slice none 0 0) := hx2.cell 0
  have f2 := hx2.free 0
  have HX2 := Lib.hid hx2; have HB2 := Lib.hid (HB.out.trans (hb2.mono HB.out.size)); have HD2 := Lib.hid (HD.out.below hb2)
  clear hx2 hb2 HTR HX HB HW HD
  simp only []
  repeat (first | (fail) | go_values | go_skip | go_guarded | go_step | go_upon | go_back)
  have hfin := HX2.out.set 0 (.slice (some ⟨w.heap.size + 1, 0, none⟩) (nd 1).length 2)
  refine bodyPost_ret (results1 rfl ⟨_, rfl, nat_load (by simpa using hfin)⟩) rfl ⟨HB2.out.setCell (p := ⟨w.heap.size, 0, none⟩) (Nat.le_refl _) _, _, rfl, some ⟨w.heap.size + 1, 0, none⟩, 2, rfl, HLE.out, by omega, ?_⟩
  exact (HD2.out.mono (Nat.zero_le _)).keep (HX2.out.cell 0) _
set_option maxRecDepth 100000 in
set_option maxHeartbeats 1000000 in
theorem modulus_ok (v : Value) (n : Nat) (w : World) (hn : n ≠ 0) (hl : (nd n).length ≤ 64) (lo : Nat) (hv : NatV lo w v (nd n)) :
    Calls Tryz.prog 54 #[v] w fun e w' => e = .returned (.int .i64 0) ∧ Below w.heap.size w w' := by
  have hbi := fun W (h : Below w.heap.size w W) => nat_bits v (nd n) W lo (hv.below h) (by omega)
  obtain ⟨b, hb, _, hbl⟩ := bits_len n
  rw [hb] at hbi
  have hn0 := (nd_last n hn).1
  obtain ⟨A, c, rfl, _, _, _⟩ := hv
  have hb1 := (Below.refl w.heap.size w).alloc (Nat.le_refl _) (.cells #[.slice A (nd n).length c] 45)
  have c0 : (w.alloc (.cells #[.slice A (nd n).length c] 45)).cell? ⟨w.heap.size, 0, none⟩ = some (.slice A (nd n).length c) := (Blk.new w _ _).cell 0
  have hnz : (((nd n).length : Int) == 0) = false := by rw [beq_eq_false_iff_ne]; omega
  have hno : ¬ ((2048 : Int) < (b : Int)) := by omega
  have HB := Lib.hid (hbi _ hb1); have HB1 := Lib.hid hb1
  clear hbi hb hbl hn hl hb1 hn0
  generalize (nd n).length = ln at *
  go_enter Tryz.func54, Tryz.ntmps54
  repeat (first | (go_at_call 40; refine (Hid.out (p := _) ?_)) | go_values | go_skip | go_guarded | go_step | go_upon | go_back)
  refine Lib.hid ?_
  clear c0
  refine HB.out.mono ?_
  rintro e w2 ⟨rfl, hb2⟩
  have HB2 := Lib.hid (HB1.out.trans (hb2.mono HB1.out.size))
  clear hb2
  simp only []
  repeat (first | (fail) | go_values | go_skip | go_guarded | go_step | go_upon | go_back)
  go_ret
  exact ⟨rfl, HB2.out⟩
end Go.Proofs.YtdmfbcfhfopipaaGreatDoor

/- (number.Nat).Pow. -/
namespace Go.Proofs.YtdmfbcfhfopipaaGreatDoor
open Go.RowKit

/-- What holds behind a region that goes on. -/
def PostN (R : Act → World → Prop) : Exit → Act → World → Prop
  | .normal, a, W => R a W
  | _, _, _ => False
theorem PostN.imp {R : Act → World → Prop} {Q : Exit → Act → World → Prop} (h : ∀ a W, R a W → Q .normal a W) : ∀ e a W, PostN R e a W → Q e a W := fun e a W hp => by
  cases e <;> first | exact h a W hp | exact (hp : False).elim
theorem wp_post {P : Program} {c : Code} {Q : Exit → Act → World → Prop} {a : Act} {w : World} (R : Act → Act → World → Prop) (h : c.wp P (PostN (R a)) a w) (hi : ∀ a' W, R a a' W → Q .normal a' W) : c.wp P Q a w :=
  Code.wp_mono (PostN.imp hi) h
/-- A number that a call tells. -/
def NatR (w w' : World) (e : Ending) (z : Nat) : Prop := Below w.heap.size w w' ∧ ∃ A c, e = .returned (.agg #[.slice A (nd z).length c]) ∧ Hid ((nd z).length ≤ c ∧ c ≤ 9223372036854775807 ∧ DigsAt 0 w' A (nd z))
theorem NatR.of {w w' : World} {e : Ending} {z : Nat} (hb : Below w.heap.size w w') {r : Value} (he : e = .returned r) {lo : Nat} (hr : NatV lo w' r (nd z)) : NatR w w' e z := by
  obtain ⟨A, c, rfl, h1, h2, h3⟩ := hr
  exact ⟨hb, A, c, he, Lib.hid ⟨h1, h2, h3.mono (Nat.zero_le _)⟩⟩
theorem mod_r {A B : Option Addr} {c d x y : Nat} {w : World} (hy : y ≠ 0) (hlx : (nd x).length ≤ 9000) (hly : (nd y).length ≤ 9000) (hA : (nd x).length ≤ c ∧ c ≤ 9223372036854775807 ∧ DigsAt 0 w A (nd x)) (hB : (nd y).length ≤ d ∧ d ≤ 9223372036854775807 ∧ DigsAt 0 w B (nd y)) :
    Calls Tryz.prog 56 #[.agg #[.slice A (nd x).length c], .agg #[.slice B (nd y).length d]] w fun e w' => NatR w w' e (x % y) :=
  (nat_mod _ _ x y hy w hlx hly 0 0 ⟨A, c, rfl, hA.1, hA.2.1, hA.2.2⟩ ⟨B, d, rfl, hB.1, hB.2.1, hB.2.2⟩).mono fun _ _ ⟨hb, _, he, hr⟩ => NatR.of hb he hr
theorem mul_r {A B : Option Addr} {c d x y : Nat} {w : World} (hl : (nd x).length + (nd y).length ≤ 9000) (hA : (nd x).length ≤ c ∧ c ≤ 9223372036854775807 ∧ DigsAt 0 w A (nd x)) (hB : (nd y).length ≤ d ∧ d ≤ 9223372036854775807 ∧ DigsAt 0 w B (nd y)) :
    Calls Tryz.prog 57 #[.agg #[.slice A (nd x).length c], .agg #[.slice B (nd y).length d]] w fun e w' => NatR w w' e (x * y) :=
  (nat_mul _ _ (nd x) (nd y) w (by omega) 0 0 ⟨A, c, rfl, hA.1, hA.2.1, hA.2.2⟩ ⟨B, d, rfl, hB.1, hB.2.1, hB.2.2⟩).mono fun _ _ ⟨hb, _, he, hr⟩ => NatR.of hb he (by rw [va_nd, va_nd] at hr; exact hr)
theorem small_r (w : World) : Calls Tryz.prog 55 #[.int .u64 1] w fun e w' => NatR w w' e 1 :=
  (small_one w).mono fun _ _ ⟨hb, _, he, hr⟩ => NatR.of hb he hr
section
variable {W1 W W' : World} {o o' : Obj}
theorem bl0 (h : Below W1.heap.size W1 W) (hb : Below W.heap.size W W') : Below W1.heap.size W1 W' := h.trans (hb.mono h.size)
theorem bl1 (h : Below W1.heap.size W1 W) (hb : Below (W.alloc o).heap.size (W.alloc o) W') : Below W1.heap.size W1 W' := bl0 (h.alloc h.size o) hb
theorem bl2 (h : Below W1.heap.size W1 W) (hb : Below ((W.alloc o).alloc o').heap.size ((W.alloc o).alloc o') W') : Below W1.heap.size W1 W' := bl1 (h.alloc h.size o) hb
theorem bw0 (h : Below W1.heap.size W1 W) : Below W1.heap.size W1 W := h
theorem bw1 (h : Below W1.heap.size W1 W) : Below W1.heap.size W1 (W.alloc o) := h.alloc h.size o
theorem bw2 (h : Below W1.heap.size W1 W) : Below W1.heap.size W1 ((W.alloc o).alloc o') := bw1 (bw1 h)
/-- What a call leaves of cells, as rules. -/
theorem cellsOf (hb : Below W.heap.size W W') : ∀ p : Addr, p.block < W.heap.size → W'.cell? p = W.cell? p := fun _ h => hb.cell h
theorem frozOf (hb : Below W.heap.size W W') : ∀ p : Addr, p.block < W.heap.size → W'.frozen? p = W.frozen? p := fun _ h => hb.frozen h
theorem ltOf (hb : Below W.heap.size W W') : ∀ k : Nat, k < W.heap.size → k < W'.heap.size := fun _ h => Nat.lt_of_lt_of_le h hb.size
theorem leOf (hb : Below W.heap.size W W') : ∀ k : Nat, k < W.heap.size → k ≤ W'.heap.size := fun _ h => Nat.le_trans (Nat.le_of_lt h) hb.size
theorem new1 {v : Value} {t : TypeId} (hb : Below (W.alloc (.cells #[v] t)).heap.size (W.alloc (.cells #[v] t)) W') : W'.cell? ⟨W.heap.size, 0, none⟩ = some v ∧ W'.frozen? ⟨W.heap.size, 0, none⟩ = false := by
  have h := (Blk.new W #[v] t).below hb (by simp)
  exact ⟨h.cell 0, h.free 0⟩
theorem new2 {v v' : Value} {t t' : TypeId} (hb : Below ((W.alloc (.cells #[v] t)).alloc (.cells #[v'] t')).heap.size ((W.alloc (.cells #[v] t)).alloc (.cells #[v'] t')) W') : W'.cell? ⟨W.heap.size, 0, none⟩ = some v ∧ W'.frozen? ⟨W.heap.size, 0, none⟩ = false ∧ W'.cell? ⟨W.heap.size + 1, 0, none⟩ = some v' ∧ W'.frozen? ⟨W.heap.size + 1, 0, none⟩ = false := by
  have h := ((Blk.new W #[v] t).alloc (.cells #[v'] t')).below hb (by simp; omega)
  have k : Blk W' (W.heap.size + 1) #[v'] t' := by
    have := (Blk.new (W.alloc (.cells #[v] t)) #[v'] t').below hb (by simp)
    simpa using this
  exact ⟨h.cell 0, h.free 0, k.cell 0, k.free 0⟩
theorem new1K {G : Prop} {v : Value} {t : TypeId} (hb : Below (W.alloc (.cells #[v] t)).heap.size (W.alloc (.cells #[v] t)) W') (k : (W'.cell? ⟨W.heap.size, 0, none⟩ = some v ∧ W'.frozen? ⟨W.heap.size, 0, none⟩ = false ∧ ¬ W.heap.size = W'.heap.size ∧ ¬ W'.heap.size = W.heap.size) → G) : G :=
  k ⟨(new1 hb).1, (new1 hb).2, by have := hb.size; simp at this; omega, by have := hb.size; simp at this; omega⟩
theorem new2K {G : Prop} {v v' : Value} {t t' : TypeId} (hb : Below ((W.alloc (.cells #[v] t)).alloc (.cells #[v'] t')).heap.size ((W.alloc (.cells #[v] t)).alloc (.cells #[v'] t')) W') (k : (W'.cell? ⟨W.heap.size, 0, none⟩ = some v ∧ W'.frozen? ⟨W.heap.size, 0, none⟩ = false ∧ W'.cell? ⟨W.heap.size + 1, 0, none⟩ = some v' ∧ W'.frozen? ⟨W.heap.size + 1, 0, none⟩ = false) → G) : G := k (new2 hb)
theorem new1D {G : Prop} {v : Value} {t : TypeId} (hb : Below (W.alloc (.cells #[v] t)).drew.heap.size (W.alloc (.cells #[v] t)).drew W') (k : (W'.cell? ⟨W.heap.size, 0, none⟩ = some v ∧ W'.frozen? ⟨W.heap.size, 0, none⟩ = false ∧ ¬ W.heap.size = W'.heap.size ∧ ¬ W'.heap.size = W.heap.size) → G) : G :=
  new1K (W := W) ⟨hb.os, hb.tape, hb.output, hb.size, hb.block⟩ k
theorem new2D {G : Prop} {v v' : Value} {t t' : TypeId} (hb : Below ((W.alloc (.cells #[v] t)).alloc (.cells #[v'] t')).drew.heap.size ((W.alloc (.cells #[v] t)).alloc (.cells #[v'] t')).drew W') (k : (W'.cell? ⟨W.heap.size, 0, none⟩ = some v ∧ W'.frozen? ⟨W.heap.size, 0, none⟩ = false ∧ W'.cell? ⟨W.heap.size + 1, 0, none⟩ = some v' ∧ W'.frozen? ⟨W.heap.size + 1, 0, none⟩ = false) → G) : G :=
  new2K (W := W) ⟨hb.os, hb.tape, hb.output, hb.size, hb.block⟩ k
theorem carK {G : Prop} {v : Value} {g : Nat} (h : W.cell? ⟨g, 0, none⟩ = some v) (hf : W.frozen? ⟨g, 0, none⟩ = false) (hb : Below W.heap.size W W') (k : (W'.cell? ⟨g, 0, none⟩ = some v ∧ W'.frozen? ⟨g, 0, none⟩ = false ∧ ¬ g = W'.heap.size ∧ ¬ W'.heap.size = g) → G) : G := by
  have hl : g < W.heap.size := World.block_lt_of_cell? W ⟨g, 0, none⟩ h
  have hs := hb.size
  exact k ⟨by rw [hb.cell (p := ⟨g, 0, none⟩) hl]; exact h, by rw [hb.frozen (p := ⟨g, 0, none⟩) hl]; exact hf, by omega, by omega⟩
theorem car1K {G : Prop} {v : Value} {g : Nat} (h : W.cell? ⟨g, 0, none⟩ = some v) (hf : W.frozen? ⟨g, 0, none⟩ = false) (hb : Below (W.alloc o).heap.size (W.alloc o) W') (k : (W'.cell? ⟨g, 0, none⟩ = some v ∧ W'.frozen? ⟨g, 0, none⟩ = false ∧ ¬ g = W'.heap.size ∧ ¬ W'.heap.size = g) → G) : G := by
  have hl : g < W.heap.size := World.block_lt_of_cell? W ⟨g, 0, none⟩ h
  refine carK (W := W.alloc o) ?_ ?_ hb k
  · rw [World.cell?_alloc_lt W o ⟨g, 0, none⟩ hl]; exact h
  · rw [((Below.refl W.heap.size W).alloc (Nat.le_refl _) o).frozen (p := ⟨g, 0, none⟩) hl]; exact hf
theorem neOf (hb : Below W.heap.size W W') : ∀ k : Nat, k < W.heap.size → ¬ k = W'.heap.size ∧ ¬ W'.heap.size = k ∧ ¬ k = W'.heap.size + 1 ∧ ¬ W'.heap.size + 1 = k := fun _ h => by
  have := hb.size; omega
theorem farOf {m n : Nat} (h : m + 4 ≤ n) : (¬ n = m ∧ ¬ m = n ∧ ¬ n + 1 = m ∧ ¬ m = n + 1) ∧ (¬ n = m + 1 ∧ ¬ m + 1 = n) ∧ (¬ n = m + 1 + 1 ∧ ¬ m + 1 + 1 = n ∧ ¬ n + 1 = m + 1 + 1 ∧ ¬ m + 1 + 1 = n + 1) := by omega
/-- Every cell of a word lies as it lay. -/
def IntKeep (W W' : World) : Prop := W.heap.size ≤ W'.heap.size ∧ ∀ (p : Addr) (v : Int), W.cell? p = some (.int .u32 v) → W'.cell? p = some (.int .u32 v)
theorem IntKeep.refl (W : World) : IntKeep W W := ⟨Nat.le_refl _, fun _ _ h => h⟩
theorem cell_lt {w : World} {p : Addr} {v : Value} (h : w.cell? p = some v) : p.block < w.heap.size := World.block_lt_of_cell? w p h
theorem IntKeep.below {X : World} (h : IntKeep W X) (hb : Below X.heap.size X W') : IntKeep W W' := ⟨Nat.le_trans h.1 hb.size, fun p v hp => by
  have := h.2 p v hp
  rw [hb.cell (cell_lt this)]; exact this⟩
theorem IntKeep.alloc {X : World} (h : IntKeep W X) (o : Obj) : IntKeep W (X.alloc o) := h.below ((Below.refl _ X).alloc (Nat.le_refl _) o)
theorem IntKeep.put {X : World} (h : IntKeep W X) {g : Nat} (hg : ∀ u, ¬ X.cell? ⟨g, 0, none⟩ = some (.int .u32 u)) (v : Value) : IntKeep W (X.setCell ⟨g, 0, none⟩ v) := by
  refine ⟨by simpa using h.1, fun p u hp => ?_⟩
  have h1 := h.2 p u hp
  by_cases hq : (⟨g, 0, none⟩ : Addr) = p
  · subst hq; exact absurd h1 (hg u)
  · exact (World.cell?_setCell_other X ⟨g, 0, none⟩ p v hq).trans h1
theorem IntKeep.digs (h : IntKeep W W') {l c : Nat} {A : Option Addr} {x : List W32} (hd : l ≤ c ∧ c ≤ 9223372036854775807 ∧ DigsAt 0 W A x) : l ≤ c ∧ c ≤ 9223372036854775807 ∧ DigsAt 0 W' A x := by
  refine ⟨hd.1, hd.2.1, ?_⟩
  rcases hd.2.2 with h1 | ⟨b, h1, h2, h3, h4⟩
  · exact .inl h1
  · exact .inr ⟨b, h1, h2, Nat.lt_of_lt_of_le h3 h.1, fun i hi => h.2 _ _ (h4 i hi)⟩
variable {l c : Nat} {A : Option Addr} {x : List W32}
theorem dg1 (h : l ≤ c ∧ c ≤ 9223372036854775807 ∧ DigsAt 0 W A x) : l ≤ c ∧ c ≤ 9223372036854775807 ∧ DigsAt 0 (W.alloc o) A x := ⟨h.1, h.2.1, h.2.2.below ((Below.refl _ W).alloc (Nat.le_refl _) o)⟩
theorem dg2 (h : l ≤ c ∧ c ≤ 9223372036854775807 ∧ DigsAt 0 W A x) : l ≤ c ∧ c ≤ 9223372036854775807 ∧ DigsAt 0 ((W.alloc o).alloc o') A x := dg1 (dg1 h)
theorem dgb (h : l ≤ c ∧ c ≤ 9223372036854775807 ∧ DigsAt 0 W1 A x) (hb : Below W1.heap.size W1 W) : l ≤ c ∧ c ≤ 9223372036854775807 ∧ DigsAt 0 W A x := ⟨h.1, h.2.1, h.2.2.below hb⟩
end
theorem u32_low1 (z : Nat) (h : z < 4294967296) : bits .and .u32 (z : Int) 1 = ((z % 2 : Nat) : Int) := by
  have e := wd_and (BitVec.ofNat 32 z) 1#32
  rw [wd_lit z h, show wd 1#32 = 1 from rfl] at e
  rw [e, wd, BitVec.toNat_and, BitVec.toNat_ofNat, Nat.mod_eq_of_lt (show z < 2 ^ 32 from h), show (1#32 : W32).toNat = 2 ^ 1 - 1 from rfl, Nat.and_two_pow_sub_one_eq_mod]
set_option maxRecDepth 100000 in
set_option maxHeartbeats 20000000 in
theorem nat_pow (v0 v1 v2 : Value) (s e n : Nat) (hn : n ≠ 0) (w : World) (hls : (nd s).length ≤ 3000) (hle : (nd e).length ≤ 3000) (hln : (nd n).length ≤ 64) (lo lo' lo'' : Nat) (h0 : NatV lo w v0 (nd s)) (h1 : NatV lo' w v1 (nd e)) (h2 : NatV lo'' w v2 (nd n)) :
    Calls Tryz.prog 27 #[v0, v1, v2] w fun en w' => Below w.heap.size w w' ∧ ∃ r, en = .returned (.tuple #[r, .int .i64 0]) ∧ NatV 0 w' r (nd (s ^ e % n)) := by
  have hmd := fun W (h : Below w.heap.size w W) => modulus_ok v2 n W hn hln lo'' (h2.below h)
  have hbi := fun W (h : Below w.heap.size w W) => nat_bits v1 (nd e) W lo' (h1.below h) (by omega)
  obtain ⟨b, hb, hbe, hbl⟩ := bits_len e
  rw [hb] at hbi
  obtain ⟨A, c, rfl, hA1, hA2, hA3⟩ := h0
  obtain ⟨B, d, rfl, hB1, hB2, hB3⟩ := h1
  obtain ⟨C, f, rfl, hC1, hC2, hC3⟩ := h2
  have hWx : ∀ W1 : World, W1 = ((((w.alloc (.cells #[.slice A (nd s).length c] 45)).alloc (.cells #[.slice B (nd e).length d] 45)).alloc (.cells #[.slice C (nd n).length f] 45)).alloc (.cells #[.slice none 0 0] 45)) →
      Blk W1 w.heap.size #[.slice A (nd s).length c] 45 ∧ Blk W1 (w.heap.size + 1) #[.slice B (nd e).length d] 45 ∧ Blk W1 (w.heap.size + 1 + 1) #[.slice C (nd n).length f] 45 ∧ Blk W1 (w.heap.size + 1 + 1 + 1) #[.slice none 0 0] 45 ∧ Below w.heap.size w W1 ∧ W1.heap.size = w.heap.size + 4 := by
    rintro W1 rfl
    refine ⟨?_, ?_, ?_, ?_, ?_, by simp⟩
    · exact (((Blk.new w _ _).alloc _).alloc _).alloc _
    · have := (((Blk.new (w.alloc (.cells #[.slice A (nd s).length c] 45)) #[.slice B (nd e).length d] 45)).alloc (.cells #[.slice C (nd n).length f] 45)).alloc (.cells #[.slice none 0 0] 45)
      simpa using this
    · have := (Blk.new ((w.alloc (.cells #[.slice A (nd s).length c] 45)).alloc (.cells #[.slice B (nd e).length d] 45)) #[.slice C (nd n).length f] 45).alloc (.cells #[.slice none 0 0] 45)
      simpa using this
    · have := Blk.new (((w.alloc (.cells #[.slice A (nd s).length c] 45)).alloc (.cells #[.slice B (nd e).length d] 45)).alloc (.cells #[.slice C (nd n).length f] 45)) #[.slice none 0 0] 45
      simpa using this
    · exact ((((Below.refl _ w).alloc (Nat.le_refl _) _).alloc (by simp) _).alloc (by simp; omega) _).alloc (by simp; omega) _
  obtain ⟨W1, hW1⟩ : ∃ W1, W1 = ((((w.alloc (.cells #[.slice A (nd s).length c] 45)).alloc (.cells #[.slice B (nd e).length d] 45)).alloc (.cells #[.slice C (nd n).length f] 45)).alloc (.cells #[.slice none 0 0] 45)) := ⟨_, rfl⟩
  obtain ⟨y0, y1, y2, y3, yB, yS⟩ := hWx W1 hW1
  have a2 : ((((w.alloc (.cells #[.slice A (nd s).length c] 45)).alloc (.cells #[.slice B (nd e).length d] 45)).alloc (.cells #[.slice C (nd n).length f] 45)).alloc (.cells #[.slice none 0 0] 45)).cell? ⟨w.heap.size + 1 + 1, 0, none⟩ = some (.slice C (nd n).length f) := by rw [← hW1]; exact y2.cell 0
  have HMD := Lib.hid (hmd W1 yB)
  have HBI := Lib.hid fun W (h : Below W1.heap.size W1 W) => hbi W (yB.trans (h.mono yB.size))
  have HW := Lib.hid hW1; have Y3 := Lib.hid y3; have YB := Lib.hid yB; have YS := Lib.hid yS
  have HA := Lib.hid (And.intro hA1 (And.intro hA2 ((hA3.below yB).mono (Nat.zero_le _)))); have HB := Lib.hid (And.intro hB1 (And.intro hB2 ((hB3.below yB).mono (Nat.zero_le _)))); have HC := Lib.hid (And.intro hC1 (And.intro hC2 ((hC3.below yB).mono (Nat.zero_le _))))
  have HLS := Lib.hid hls; have HLE := Lib.hid hle; have HLN := Lib.hid hln; have HN := Lib.hid hn; have HBE := Lib.hid hbe; have HBL := Lib.hid hbl
  have hcel : ∀ W, Below W1.heap.size W1 W → W.cell? ⟨w.heap.size, 0, none⟩ = some (.slice A (nd s).length c) ∧ W.cell? ⟨w.heap.size + 1, 0, none⟩ = some (.slice B (nd e).length d) ∧ W.cell? ⟨w.heap.size + 1 + 1, 0, none⟩ = some (.slice C (nd n).length f) := fun W h =>
    ⟨(y0.below h y0.lt).cell 0, (y1.below h y1.lt).cell 0, (y2.below h y2.lt).cell 0⟩
  have HCEL := Lib.hid hcel
  have hbb : (b : Int) ≤ 1000000 := by omega
  clear hmd hbi hWx hW1 y0 y1 y2 y3 yB yS hA1 hA2 hA3 hB1 hB2 hB3 hC1 hC2 hC3 hls hle hln hn hbe hbl hcel hb
  go_enter Tryz.func27, Tryz.ntmps27
  repeat (first | (go_at_call 54; refine (Hid.out (p := _) ?_)) | go_values | go_skip | go_guarded | go_step | go_upon | go_back)
  refine Lib.hid ?_
  clear a2
  rw [← HW.out]
  refine HMD.out.mono ?_
  rintro en w2 ⟨rfl, hb2⟩
  obtain ⟨c0, c1, c2⟩ := HCEL.out w2 hb2
  have B2 := Lib.hid hb2
  clear hb2 HMD HW
  simp only []
  repeat (first | (fail) | go_values | go_skip | go_guarded | go_step | go_upon | go_back)
  refine Code.wp_mono (Q := PostN fun a W => ∃ (g9 g10 : Nat) (A2 A3 : Option Addr) (k2 k3 : Nat) (z18 : Value), a = { tmps := #[.agg #[.slice A (nd s).length c], .agg #[.slice B (nd e).length d], .agg #[.slice C (nd n).length f], .pointer (some ⟨w.heap.size, 0, none⟩), .pointer (some ⟨w.heap.size + 1, 0, none⟩), .pointer (some ⟨w.heap.size + 1 + 1, 0, none⟩), .pointer (some ⟨w.heap.size + 1 + 1 + 1, 0, none⟩), .int .i64 0, .int .i64 0, .pointer (some ⟨g9, 0, none⟩), .pointer (some ⟨g10, 0, none⟩), undef, .agg #[.slice C (nd n).length f], .int .i64 0, .int .i64 0, .bool false, undef, undef, z18, .agg #[.slice C (nd n).length f], .agg #[.slice A2 (nd (1 % n)).length k2], .agg #[.slice A (nd s).length c], .agg #[.slice C (nd n).length f], .agg #[.slice A3 (nd (s % n)).length k3], undef, undef, undef, undef, undef, undef, undef, undef, undef, undef, undef, undef, undef, undef, undef, undef, undef, undef, undef, undef, undef, undef, undef, undef, undef, undef, undef, undef], defers := [] }
      ∧ Hid (W.cell? ⟨g9, 0, none⟩ = some (.slice A2 (nd (1 % n)).length k2) ∧ W.frozen? ⟨g9, 0, none⟩ = false ∧ W.cell? ⟨g10, 0, none⟩ = some (.slice A3 (nd (s % n)).length k3) ∧ W.frozen? ⟨g10, 0, none⟩ = false ∧ g9 ≠ g10 ∧ W1.heap.size ≤ g9 ∧ W1.heap.size ≤ g10)
      ∧ Hid (((nd (1 % n)).length ≤ k2 ∧ k2 ≤ 9223372036854775807 ∧ DigsAt 0 W A2 (nd (1 % n))) ∧ ((nd (s % n)).length ≤ k3 ∧ k3 ≤ 9223372036854775807 ∧ DigsAt 0 W A3 (nd (s % n))) ∧ Below W1.heap.size W1 W)) (PostN.imp ?imp) ?reg
  case imp =>
    rintro a W ⟨g9, g10, A2, A3, k2, k3, z18, rfl, H1, H2⟩
    have HBR := Lib.hid (HBI.out W H2.out.2.2)
    obtain ⟨c0', c1', c2'⟩ := HCEL.out W H2.out.2.2
    have HGG := Lib.hid (show g9 ≠ g10 ∧ W1.heap.size ≤ g9 ∧ W1.heap.size ≤ g10 from ⟨H1.out.2.2.2.2.1, H1.out.2.2.2.2.2.1, H1.out.2.2.2.2.2.2⟩)
    repeat (first | (go_at_call 40; refine (Hid.out (p := _) ?_)) | go_values | go_skip | go_guarded | go_step | go_upon | go_back)
    refine Lib.hid ?_
    refine HBR.out.mono ?_
    rintro en w6 ⟨rfl, hb6⟩
    have hb6' := bl0 H2.out.2.2 hb6
    have hq9 : w6.cell? ⟨g9, 0, none⟩ = some (.slice A2 (nd (1 % n)).length k2) ∧ w6.frozen? ⟨g9, 0, none⟩ = false := carK H1.out.1 H1.out.2.1 hb6 fun h => ⟨h.1, h.2.1⟩
    have hq10 : w6.cell? ⟨g10, 0, none⟩ = some (.slice A3 (nd (s % n)).length k3) ∧ w6.frozen? ⟨g10, 0, none⟩ = false := carK H1.out.2.2.1 H1.out.2.2.2.1 hb6 fun h => ⟨h.1, h.2.1⟩
    have hk6 := (IntKeep.refl W).below hb6
    have H6 := Lib.hid (And.intro (And.intro hq9.1 (And.intro hq9.2 (And.intro hq10.1 hq10.2))) (And.intro (hk6.digs H2.out.1) (And.intro (hk6.digs H2.out.2.1) hb6')))
    clear hb6 hb6' hq9 hq10 hk6 HBR c0' c1' c2' H1 H2 c0 c1 c2
    simp only []
    repeat (first | (fail) | go_values | go_skip | go_guarded | go_step | go_upon | go_back)
    go_loopw [26] (fun z wr => ∃ (k : Nat) (A9 A10 : Option Addr) (k9 k10 : Nat), k ≤ b ∧ z = .int .i64 k ∧ Hid ((wr.cell? ⟨g9, 0, none⟩ = some (.slice A9 (nd (s ^ (e % 2 ^ k) % n)).length k9) ∧ wr.frozen? ⟨g9, 0, none⟩ = false ∧ wr.cell? ⟨g10, 0, none⟩ = some (.slice A10 (nd (s ^ 2 ^ k % n)).length k10) ∧ wr.frozen? ⟨g10, 0, none⟩ = false) ∧ ((nd (s ^ (e % 2 ^ k) % n)).length ≤ k9 ∧ k9 ≤ 9223372036854775807 ∧ DigsAt 0 wr A9 (nd (s ^ (e % 2 ^ k) % n))) ∧ ((nd (s ^ 2 ^ k % n)).length ≤ k10 ∧ k10 ≤ 9223372036854775807 ∧ DigsAt 0 wr A10 (nd (s ^ 2 ^ k % n))) ∧ Below W1.heap.size W1 wr)) (fun z _ => b - (intOf z).toNat)
    case atStart =>
      refine ⟨0, A2, A3, k2, k3, Nat.zero_le _, rfl, ?_⟩
      rw [Nat.pow_zero, Nat.mod_one, Nat.pow_zero, Nat.pow_one]
      exact H6
    case round =>
      clear H6
      obtain ⟨k, A9, A10, k9, k10, hk, rfl, hT⟩ := hrel
      by_cases hkb : k < b
      · have hlaw := pow_low s e k n
        have hlaw2 := pow_two s k n
        have hnp : 0 < n := by have := HN.out; omega
        have hol : (nd (s ^ (e % 2 ^ k) % n)).length ≤ 64 := Nat.le_trans (nd_len_mono (Nat.le_of_lt (Nat.mod_lt _ hnp))) HLN.out
        have hxl : (nd (s ^ 2 ^ k % n)).length ≤ 64 := Nat.le_trans (nd_len_mono (Nat.le_of_lt (Nat.mod_lt _ hnp))) HLN.out
        obtain ⟨o, ho⟩ : ∃ o, o = s ^ (e % 2 ^ k) % n := ⟨_, rfl⟩
        obtain ⟨x, hx⟩ : ∃ x, x = s ^ 2 ^ k % n := ⟨_, rfl⟩
        rw [← ho] at hT hlaw hol
        rw [← hx] at hT hlaw hlaw2 hxl
        have HXL := Lib.hid (show (nd x).length + (nd x).length ≤ 9000 by omega); have HOL := Lib.hid (show (nd o).length + (nd x).length ≤ 9000 by omega)
        have hol2 : (nd o).length ≤ 64 := hol
        have BW := Lib.hid hT.out.2.2.2
        obtain ⟨b9, f9, b10, f10⟩ := hT.out.1
        have D9 := Lib.hid hT.out.2.1; have D10 := Lib.hid hT.out.2.2.1
        obtain ⟨c0, c1, c2⟩ := HCEL.out wr BW.out
        obtain ⟨k32, hk32, hk32e⟩ : ∃ k32 : Nat, (k : Int) / 32 = (k32 : Int) ∧ k32 = k / 32 := ⟨_, by omega, rfl⟩
        obtain ⟨kr, hkr, hkre⟩ : ∃ kr : Nat, (k : Int) % 32 = (kr : Int) ∧ kr = k % 32 := ⟨_, by omega, rfl⟩
        have hklt : k32 < (nd e).length := by have := HBL.out; omega
        have hbe := dgb HB.out BW.out
        obtain ⟨bE, rfl, _, _, hcE⟩ := hbe.2.2.cells (by omega)
        have q1 := hcE k32 hklt
        have hbd := bit_dig e k
        have hed := nd_digN e k32
        have hel := toNat_lt32 ((nd e).getD k32 0)
        rw [← hk32e, ← hkre, ← hed] at hbd
        generalize ((nd e).getD k32 0).toNat = ed at q1 hbd hed hel
        obtain ⟨z, hzi, hze⟩ : ∃ z : Nat, (ed : Int) / 2 ^ kr = (z : Int) ∧ z = ed / 2 ^ kr := ⟨ed / 2 ^ kr, by rw [Int.natCast_ediv, Int.natCast_pow]; rfl, rfl⟩
        rw [← hze] at hbd
        have hzl : z ≤ ed := by rw [hze]; exact Nat.div_le_self _ _
        have hzb : (z : Int) < 4294967296 := by omega
        rw [← hbd] at hlaw
        have hkli : (k32 : Int) < ((nd e).length : Int) := by omega
        have hli : ((nd e).length : Int) ≤ 3000 := by have := HLE.out; omega
        have hkrm : min kr 32 = kr := by omega
        have hkri : (kr : Int) < 32 := by omega
        have hkbi : (k : Int) < (b : Int) := by omega
        obtain ⟨m, hmi, hme⟩ : ∃ m : Nat, bits .and .u32 (z : Int) 1 = (m : Int) ∧ m = z % 2 := ⟨_, u32_low1 z (by omega), rfl⟩
        rw [← hme] at hlaw
        have hm2 : m = 0 ∨ m = 1 := by omega
        have HL2 := Lib.hid hlaw2; have HKB := Lib.hid hkb
        clear hcE hbd hed hze hk32e hkre hme hel hzl hklt hlaw2 hT hol hol2 hxl hnp ho hx hkb hbe
        rcases hm2 with rfl | rfl
        · rw [if_neg (by omega)] at hlaw
          have HR := Lib.hid hlaw
          have hmi2 : bits .and .u32 (z : Int) 1 = 0 := hmi
          clear hmi hlaw
          repeat (first | (fail) | go_values | go_skip | go_guarded | go_step | go_upon | go_back)
          clear q1
          refine wp_post (fun a a' W => (∃ z45 z46 z47 z48 z49, a' = ((((a.put (some 45) z45).put (some 46) z46).put (some 47) z47).put (some 48) z48).put (some 49) z49) ∧ ∃ A4 k4, Hid ((W.cell? ⟨g9, 0, none⟩ = some (.slice A9 (nd o).length k9) ∧ W.frozen? ⟨g9, 0, none⟩ = false ∧ W.cell? ⟨g10, 0, none⟩ = some (.slice A4 (nd (x * x % n)).length k4) ∧ W.frozen? ⟨g10, 0, none⟩ = false) ∧ ((nd o).length ≤ k9 ∧ k9 ≤ 9223372036854775807 ∧ DigsAt 0 W A9 (nd o)) ∧ ((nd (x * x % n)).length ≤ k4 ∧ k4 ≤ 9223372036854775807 ∧ DigsAt 0 W A4 (nd (x * x % n))) ∧ Below W1.heap.size W1 W)) ?_ ?_
          · go_region_with (first
              | (go_at_call 57; refine (mul_r (x := x) (y := x) HXL.out (dgb D10.out (below_drew1 (Below.refl _ _))) (dgb D10.out (below_drew1 (Below.refl _ _)))).mono ?_; rintro en w3 ⟨hb3, A3, k3, rfl, hd3⟩; have B3 := Lib.hid (bl0 (below_drew1 BW.out) hb3); obtain ⟨c0', c1', c2'⟩ := HCEL.out w3 B3.out; refine carK (W := World.drew wr) b10 f10 hb3 ?_; rintro ⟨b10', f10', _, _⟩; refine carK (W := World.drew wr) b9 f9 hb3 ?_; rintro ⟨b9', f9', _, _⟩; replace hb3 := Lib.hid hb3)
              | (go_at_call 56; refine (mod_r HN.out (Nat.le_trans (nd_len_mul x x) HXL.out) (Nat.le_trans HLN.out (by omega)) hd3.out (dgb HC.out B3.out)).mono ?_; rintro en w4 ⟨hb4, A4, k4, rfl, hd4⟩; have B4 := Lib.hid (bl0 B3.out hb4); obtain ⟨c0', c1', c2'⟩ := HCEL.out w4 B4.out; refine carK b10' f10' hb4 ?_; rintro ⟨b10'', f10'', _, _⟩; refine carK b9' f9' hb4 ?_; rintro ⟨b9'', f9'', _, _⟩; replace hb4 := Lib.hid hb4))
            all_goals
              have g9' : (w4.setCell ⟨g10, 0, none⟩ (.slice A4 (nd (x * x % n)).length k4)).cell? ⟨g9, 0, none⟩ = some (.slice A9 (nd o).length k9) := by rw [World.cell?_setCell_other _ _ _ _ (by intro e; cases e; exact HGG.out.1 rfl)]; exact b9''
              have g10' : (w4.setCell ⟨g10, 0, none⟩ (.slice A4 (nd (x * x % n)).length k4)).cell? ⟨g10, 0, none⟩ = some (.slice A4 (nd (x * x % n)).length k4) := World.cell?_setCell_same _ _ _ b10''
              have hk1 := (((IntKeep.refl wr).below (below_drew1 (Below.refl _ _))).below hb3.out).below hb4.out
              have hk2 := hk1.put (g := g10) (by intro u; rw [b10'']; simp) (.slice A4 (nd (x * x % n)).length k4)
              have hk3 := (IntKeep.refl w4).put (g := g10) (by intro u; rw [b10'']; simp) (.slice A4 (nd (x * x % n)).length k4)
              have hbW := B4.out.setCell (p := ⟨g10, 0, none⟩) HGG.out.2.2 (.slice A4 (nd (x * x % n)).length k4)
              exact ⟨⟨.agg #[.slice A10 (nd x).length k10], .agg #[.slice A10 (nd x).length k10], .agg #[.slice A3 (nd (x * x)).length k3], .agg #[.slice C (nd n).length f], .agg #[.slice A4 (nd (x * x % n)).length k4], by simp [Act.put, hkr]⟩, A4, k4, Lib.hid ⟨⟨g9', by rw [World.frozen?_setCell]; exact f9'', g10', by rw [World.frozen?_setCell]; exact f10''⟩, hk2.digs D9.out, hk3.digs hd4.out, hbW⟩⟩
          · rintro _ W ⟨⟨z45, z46, z47, z48, z49, rfl⟩, A4, k4, HREL⟩
            clear b9 f9 b10 f10
            repeat (first | (fail) | go_values | go_skip | go_guarded | go_step | go_upon | go_back)
            rw [← HR.out, ← HL2.out] at HREL
            exact ⟨⟨k + 1, A9, A4, k9, k4, HKB.out, by go_num, HREL⟩, by have := HKB.out; simp [intOf]; omega⟩
        · rw [if_pos rfl] at hlaw
          have HR := Lib.hid hlaw
          have hmi2 : bits .and .u32 (z : Int) 1 = 1 := hmi
          clear hmi hlaw
          repeat (first | (fail) | go_values | go_skip | go_guarded | go_step | go_upon | go_back)
          clear q1
          refine wp_post (fun a a' W => (∃ z40 z41 z42 z43 z44, a' = ((((a.put (some 40) z40).put (some 41) z41).put (some 42) z42).put (some 43) z43).put (some 44) z44) ∧ ∃ A4 k4, Hid ((W.cell? ⟨g9, 0, none⟩ = some (.slice A4 (nd (o * x % n)).length k4) ∧ W.frozen? ⟨g9, 0, none⟩ = false ∧ W.cell? ⟨g10, 0, none⟩ = some (.slice A10 (nd x).length k10) ∧ W.frozen? ⟨g10, 0, none⟩ = false) ∧ ((nd (o * x % n)).length ≤ k4 ∧ k4 ≤ 9223372036854775807 ∧ DigsAt 0 W A4 (nd (o * x % n))) ∧ ((nd x).length ≤ k10 ∧ k10 ≤ 9223372036854775807 ∧ DigsAt 0 W A10 (nd x)) ∧ Below W1.heap.size W1 W)) ?_ ?_
          · go_region_with (first
              | (go_at_call 57; refine (mul_r (x := o) (y := x) HOL.out (dgb D9.out (below_drew1 (Below.refl _ _))) (dgb D10.out (below_drew1 (Below.refl _ _)))).mono ?_; rintro en w3 ⟨hb3, A3, k3, rfl, hd3⟩; have B3 := Lib.hid (bl0 (below_drew1 BW.out) hb3); obtain ⟨c0', c1', c2'⟩ := HCEL.out w3 B3.out; refine carK (W := World.drew wr) b10 f10 hb3 ?_; rintro ⟨b10', f10', _, _⟩; refine carK (W := World.drew wr) b9 f9 hb3 ?_; rintro ⟨b9', f9', _, _⟩; replace hb3 := Lib.hid hb3)
              | (go_at_call 56; refine (mod_r HN.out (Nat.le_trans (nd_len_mul o x) HOL.out) (Nat.le_trans HLN.out (by omega)) hd3.out (dgb HC.out B3.out)).mono ?_; rintro en w4 ⟨hb4, A4, k4, rfl, hd4⟩; have B4 := Lib.hid (bl0 B3.out hb4); obtain ⟨c0', c1', c2'⟩ := HCEL.out w4 B4.out; refine carK b10' f10' hb4 ?_; rintro ⟨b10'', f10'', _, _⟩; refine carK b9' f9' hb4 ?_; rintro ⟨b9'', f9'', _, _⟩; replace hb4 := Lib.hid hb4))
            all_goals
              have g10' : (w4.setCell ⟨g9, 0, none⟩ (.slice A4 (nd (o * x % n)).length k4)).cell? ⟨g10, 0, none⟩ = some (.slice A10 (nd x).length k10) := by rw [World.cell?_setCell_other _ _ _ _ (by intro e; cases e; exact HGG.out.1 rfl)]; exact b10''
              have g9' : (w4.setCell ⟨g9, 0, none⟩ (.slice A4 (nd (o * x % n)).length k4)).cell? ⟨g9, 0, none⟩ = some (.slice A4 (nd (o * x % n)).length k4) := World.cell?_setCell_same _ _ _ b9''
              have hk1 := (((IntKeep.refl wr).below (below_drew1 (Below.refl _ _))).below hb3.out).below hb4.out
              have hk2 := hk1.put (g := g9) (by intro u; rw [b9'']; simp) (.slice A4 (nd (o * x % n)).length k4)
              have hk3 := (IntKeep.refl w4).put (g := g9) (by intro u; rw [b9'']; simp) (.slice A4 (nd (o * x % n)).length k4)
              have hbW := B4.out.setCell (p := ⟨g9, 0, none⟩) HGG.out.2.1 (.slice A4 (nd (o * x % n)).length k4)
              exact ⟨⟨.agg #[.slice A9 (nd o).length k9], .agg #[.slice A10 (nd x).length k10], .agg #[.slice A3 (nd (o * x)).length k3], .agg #[.slice C (nd n).length f], .agg #[.slice A4 (nd (o * x % n)).length k4], by simp [Act.put, hkr]⟩, A4, k4, Lib.hid ⟨⟨g9', by rw [World.frozen?_setCell]; exact f9'', g10', by rw [World.frozen?_setCell]; exact f10''⟩, hk3.digs hd4.out, hk2.digs D10.out, hbW⟩⟩
          · rintro _ W7 ⟨⟨z40, z41, z42, z43, z44, rfl⟩, A7, k7, H7⟩
            clear b9 f9 b10 f10 c0 c1 c2 D9 D10 BW
            obtain ⟨b9, f9, b10, f10⟩ := H7.out.1
            have D9 := Lib.hid H7.out.2.1; have D10 := Lib.hid H7.out.2.2.1; have BW := Lib.hid H7.out.2.2.2
            obtain ⟨c0, c1, c2⟩ := HCEL.out W7 BW.out
            clear H7
            repeat (first | (fail) | go_values | go_skip | go_guarded | go_step | go_upon | go_back)
            refine wp_post (fun a a' W => (∃ z45 z46 z47 z48 z49, a' = ((((a.put (some 45) z45).put (some 46) z46).put (some 47) z47).put (some 48) z48).put (some 49) z49) ∧ ∃ A4 k4, Hid ((W.cell? ⟨g9, 0, none⟩ = some (.slice A7 (nd (o * x % n)).length k7) ∧ W.frozen? ⟨g9, 0, none⟩ = false ∧ W.cell? ⟨g10, 0, none⟩ = some (.slice A4 (nd (x * x % n)).length k4) ∧ W.frozen? ⟨g10, 0, none⟩ = false) ∧ ((nd (o * x % n)).length ≤ k7 ∧ k7 ≤ 9223372036854775807 ∧ DigsAt 0 W A7 (nd (o * x % n))) ∧ ((nd (x * x % n)).length ≤ k4 ∧ k4 ≤ 9223372036854775807 ∧ DigsAt 0 W A4 (nd (x * x % n))) ∧ Below W1.heap.size W1 W)) ?_ ?_
            · go_region_with (first
                | (go_at_call 57; refine (mul_r (x := x) (y := x) HXL.out (dgb D10.out (below_drew1 (Below.refl _ _))) (dgb D10.out (below_drew1 (Below.refl _ _)))).mono ?_; rintro en w3 ⟨hb3, A3, k3, rfl, hd3⟩; have B3 := Lib.hid (bl0 (below_drew1 BW.out) hb3); obtain ⟨c0', c1', c2'⟩ := HCEL.out w3 B3.out; refine carK (W := World.drew W7) b10 f10 hb3 ?_; rintro ⟨b10', f10', _, _⟩; refine carK (W := World.drew W7) b9 f9 hb3 ?_; rintro ⟨b9', f9', _, _⟩; replace hb3 := Lib.hid hb3)
                | (go_at_call 56; refine (mod_r HN.out (Nat.le_trans (nd_len_mul x x) HXL.out) (Nat.le_trans HLN.out (by omega)) hd3.out (dgb HC.out B3.out)).mono ?_; rintro en w4 ⟨hb4, A4, k4, rfl, hd4⟩; have B4 := Lib.hid (bl0 B3.out hb4); obtain ⟨c0', c1', c2'⟩ := HCEL.out w4 B4.out; refine carK b10' f10' hb4 ?_; rintro ⟨b10'', f10'', _, _⟩; refine carK b9' f9' hb4 ?_; rintro ⟨b9'', f9'', _, _⟩; replace hb4 := Lib.hid hb4))
              all_goals
                have g9' : (w4.setCell ⟨g10, 0, none⟩ (.slice A4 (nd (x * x % n)).length k4)).cell? ⟨g9, 0, none⟩ = some (.slice A7 (nd (o * x % n)).length k7) := by rw [World.cell?_setCell_other _ _ _ _ (by intro e; cases e; exact HGG.out.1 rfl)]; exact b9''
                have g10' : (w4.setCell ⟨g10, 0, none⟩ (.slice A4 (nd (x * x % n)).length k4)).cell? ⟨g10, 0, none⟩ = some (.slice A4 (nd (x * x % n)).length k4) := World.cell?_setCell_same _ _ _ b10''
                have hk1 := (((IntKeep.refl W7).below (below_drew1 (Below.refl _ _))).below hb3.out).below hb4.out
                have hk2 := hk1.put (g := g10) (by intro u; rw [b10'']; simp) (.slice A4 (nd (x * x % n)).length k4)
                have hk3 := (IntKeep.refl w4).put (g := g10) (by intro u; rw [b10'']; simp) (.slice A4 (nd (x * x % n)).length k4)
                have hbW := B4.out.setCell (p := ⟨g10, 0, none⟩) HGG.out.2.2 (.slice A4 (nd (x * x % n)).length k4)
                exact ⟨⟨.agg #[.slice A10 (nd x).length k10], .agg #[.slice A10 (nd x).length k10], .agg #[.slice A3 (nd (x * x)).length k3], .agg #[.slice C (nd n).length f], .agg #[.slice A4 (nd (x * x % n)).length k4], by simp [Act.put, hkr]⟩, A4, k4, Lib.hid ⟨⟨g9', by rw [World.frozen?_setCell]; exact f9'', g10', by rw [World.frozen?_setCell]; exact f10''⟩, hk2.digs D9.out, hk3.digs hd4.out, hbW⟩⟩
            · rintro _ W ⟨⟨z45, z46, z47, z48, z49, rfl⟩, A4, k4, HREL⟩
              clear b9 f9 b10 f10
              repeat (first | (fail) | go_values | go_skip | go_guarded | go_step | go_upon | go_back)
              rw [← HR.out, ← HL2.out] at HREL
              exact ⟨⟨k + 1, A7, A4, k7, k4, HKB.out, by go_num, HREL⟩, by have := HKB.out; simp [intOf]; omega⟩
      · obtain rfl : k = b := by omega
        have hfin : e % 2 ^ k = e := Nat.mod_eq_of_lt HBE.out
        rw [hfin] at hT
        obtain ⟨b9, f9, _, _⟩ := hT.out.1
        have hx3 := Y3.out.below hT.out.2.2.2 Y3.out.lt
        have c3 : wr.cell? ⟨w.heap.size + 1 + 1 + 1, 0, none⟩ = some (.slice none 0 0) := hx3.cell 0
        have f3 := hx3.free 0
        have HX3 := Lib.hid hx3
        have HBF := Lib.hid (YB.out.trans (hT.out.2.2.2.mono YB.out.size)); have HD := Lib.hid hT.out.2.1
        clear hx3 hfin hT hkb
        repeat (first | (fail) | go_values | go_skip | go_guarded | go_step | go_upon | go_back)
        have z3 := HX3.out.set 0 (.slice A9 (nd (s ^ e % n)).length k9)
        refine bodyPost_ret (results2 rfl ⟨_, rfl, nat_load (by simpa using z3)⟩ rfl) rfl ⟨HBF.out.setCell (p := ⟨w.heap.size + 1 + 1 + 1, 0, none⟩) (by simp; omega) _, _, rfl, A9, k9, rfl, HD.out.1, HD.out.2.1, ?_⟩
        exact HD.out.2.2.keep (HX3.out.cell 0) _
  case reg =>
    have hal : ∀ (X : World) (o : Obj) (a : Addr), (X.cell? a).isSome = true → (X.alloc o).cell? a = X.cell? a := fun X o a h => World.cell?_alloc_some X a o h
    have hfl : ∀ (X : World) (o : Obj) (a : Addr), (X.cell? a).isSome = true → (X.alloc o).frozen? a = X.frozen? a := fun X o a h => by
      obtain ⟨u, hu⟩ := Option.isSome_iff_exists.1 h
      exact ((Below.refl X.heap.size X).alloc (Nat.le_refl _) o).frozen (World.block_lt_of_cell? X a hu)
    obtain ⟨⟨_, _, _, _⟩, ⟨_, _⟩, ⟨_, _, _, _⟩⟩ := farOf (show w.heap.size + 4 ≤ w2.heap.size by have := B2.out.size; rw [YS.out] at this; exact this)
    go_region_held2 (fun W => W.cell? ⟨w.heap.size, 0, none⟩ = some (.slice A (nd s).length c) ∧ W.cell? ⟨w.heap.size + 1 + 1, 0, none⟩ = some (.slice C (nd n).length f)) (go_keep)
      (first
        | (go_at_call 55; refine (small_r _).mono ?_; rintro en w3 ⟨hb3, A1, k1, rfl, hd1⟩; have B3 := Lib.hid (show Below W1.heap.size W1 w3 by first | exact bl0 (below_drew1 B2.out) hb3 | exact bl1 (below_drew1 B2.out) hb3 | exact bl2 (below_drew1 B2.out) hb3); obtain ⟨c0', c1', c2'⟩ := HCEL.out w3 B3.out; have x3 := cellsOf hb3; have y3 := frozOf hb3; have z3 := ltOf hb3; have e3 := neOf hb3; have l3 := leOf hb3; (first | (refine new2D hb3 ?_; rintro ⟨b1, f1, b2, f2⟩) | (refine new1D hb3 ?_; rintro ⟨b1, f1, _, _⟩) | skip); obtain ⟨⟨_, _, _, _⟩, ⟨_, _⟩, ⟨_, _, _, _⟩⟩ := farOf (show w.heap.size + 4 ≤ w3.heap.size by have := B3.out.size; rw [YS.out] at this; exact this); replace hb3 := Lib.hid hb3)
        | (go_at_call_of 56 A; refine (mod_r HN.out (Nat.le_trans HLS.out (by omega)) (Nat.le_trans HLN.out (by omega)) (by first | exact dgb HA.out B4.out | exact dgb HA.out (bw1 B4.out) | exact dgb HA.out (bw2 B4.out)) (by first | exact dgb HC.out B4.out | exact dgb HC.out (bw1 B4.out) | exact dgb HC.out (bw2 B4.out))).mono ?_; rintro en w5 ⟨hb5, A3, k3, rfl, hd3⟩; have B5 := Lib.hid (show Below W1.heap.size W1 w5 by first | exact bl0 B4.out hb5 | exact bl1 B4.out hb5 | exact bl2 B4.out hb5); obtain ⟨c0', c1', c2'⟩ := HCEL.out w5 B5.out; have x5 := cellsOf hb5; have y5 := frozOf hb5; have z5 := ltOf hb5; have e5 := neOf hb5; have l5 := leOf hb5; (first | (refine carK b1 f1 hb5 ?_; rintro ⟨b1, f1, _, _⟩) | (refine car1K b1 f1 hb5 ?_; rintro ⟨b1, f1, _, _⟩) | skip); (first | (refine carK b2 f2 hb5 ?_; rintro ⟨b2, f2, _, _⟩) | (refine car1K b2 f2 hb5 ?_; rintro ⟨b2, f2, _, _⟩) | skip); (first | (refine carK b3 f3 hb5 ?_; rintro ⟨b3, f3, _, _⟩) | (refine car1K b3 f3 hb5 ?_; rintro ⟨b3, f3, _, _⟩) | skip); (first | (refine carK b4 f4 hb5 ?_; rintro ⟨b4, f4, _, _⟩) | (refine car1K b4 f4 hb5 ?_; rintro ⟨b4, f4, _, _⟩) | skip); (first | (refine new2K hb5 ?_; rintro ⟨b5, f5, b6, f6⟩) | (refine new1K hb5 ?_; rintro ⟨b5, f5, _, _⟩) | skip); obtain ⟨⟨_, _, _, _⟩, ⟨_, _⟩, ⟨_, _, _, _⟩⟩ := farOf (show w.heap.size + 4 ≤ w5.heap.size by have := B5.out.size; rw [YS.out] at this; exact this); replace hb5 := Lib.hid hb5)
        | (go_at_call 56; refine (mod_r HN.out (by rw [nd_one]; simp) (Nat.le_trans HLN.out (by omega)) (by first | exact hd1.out | exact dg1 hd1.out | exact dg2 hd1.out) (by first | exact dgb HC.out B3.out | exact dgb HC.out (bw1 B3.out) | exact dgb HC.out (bw2 B3.out))).mono ?_; rintro en w4 ⟨hb4, A2, k2, rfl, hd2⟩; have B4 := Lib.hid (show Below W1.heap.size W1 w4 by first | exact bl0 B3.out hb4 | exact bl1 B3.out hb4 | exact bl2 B3.out hb4); obtain ⟨c0', c1', c2'⟩ := HCEL.out w4 B4.out; have x4 := cellsOf hb4; have y4 := frozOf hb4; have z4 := ltOf hb4; have e4 := neOf hb4; have l4 := leOf hb4; (first | (refine carK b1 f1 hb4 ?_; rintro ⟨b1, f1, _, _⟩) | (refine car1K b1 f1 hb4 ?_; rintro ⟨b1, f1, _, _⟩) | skip); (first | (refine carK b2 f2 hb4 ?_; rintro ⟨b2, f2, _, _⟩) | (refine car1K b2 f2 hb4 ?_; rintro ⟨b2, f2, _, _⟩) | skip); (first | (refine new2K hb4 ?_; rintro ⟨b3, f3, b4, f4⟩) | (refine new1K hb4 ?_; rintro ⟨b3, f3, _, _⟩) | skip); obtain ⟨⟨_, _, _, _⟩, ⟨_, _⟩, ⟨_, _, _, _⟩⟩ := farOf (show w.heap.size + 4 ≤ w4.heap.size by have := B4.out.size; rw [YS.out] at this; exact this); replace hb4 := Lib.hid hb4))
    all_goals
      have s2 := B2.out.size
      have s3 := B3.out.size
      have s4 := B4.out.size
      have s5 := B5.out.size
      refine ⟨_, _, A2, A3, k2, k3, _, rfl, Lib.hid ⟨?_, ?_, ?_, ?_, ?_, ?_, ?_⟩, Lib.hid ⟨IntKeep.digs (W := w4) ?_ hd2.out, IntKeep.digs (W := w5) ?_ hd3.out, ?_⟩⟩
      · first | (go_simp; done) | (simp [*]; done) | skip
      · first | (go_simp; done) | (simp [*]; done) | skip
      · first | (go_simp; done) | (simp [*]; done) | skip
      · first | (go_simp; done) | (simp [*]; done) | skip
      · first | assumption | (go_simp; done) | omega | skip
      · first | omega | skip
      · first | omega | skip
      · (repeat (first | exact IntKeep.refl _ | refine IntKeep.below ?_ hb5.out | refine IntKeep.alloc ?_ _ | refine IntKeep.put ?_ (by intro u; go_simp) _))
      · (repeat (first | exact IntKeep.refl _ | refine IntKeep.alloc ?_ _ | refine IntKeep.put ?_ (by intro u; go_simp) _))
      · (repeat (first | exact B5.out | refine Below.alloc ?_ (by first | omega | (simp; omega)) _ | refine Below.setCell ?_ (by first | omega | (simp; omega)) _))
end Go.Proofs.YtdmfbcfhfopipaaGreatDoor

