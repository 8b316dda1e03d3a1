import Derived.Test.YtdmfbcfhfopipaaGreatDoorKV3
/- The document's own numbers (its chapter 5): up, down, moved. -/
namespace Go.Proofs.YtdmfbcfhfopipaaGreatDoor
open Go.RowKit

theorem all_digs {O : List W32} {z n : Nat} (hl : O.length = n) (hz : (nd z).length ≤ n) (h : ∀ i, i < n → O.getD i 0 = (nd z).getD i 0) : va O = z := by
  have : trimL O = trimL (nd z) := by
    refine trim_ext fun i => ?_
    by_cases hi : i < n
    · exact h i hi
    · rw [getD_past O i (by omega), getD_past (nd z) i (by omega)]
  rw [← va_trim, this, va_trim, va_nd]
theorem two_lt (by_ : Nat) (h : by_ < 32) : 2 ^ by_ < 4294967296 := by
  have := Nat.pow_lt_pow_right (a := 2) (by omega) h
  omega
theorem va_one (x : Nat) (h : x < 4294967296) : va [BitVec.ofNat 32 x] = x := by
  simp [va]; omega
set_option maxRecDepth 100000 in
set_option maxHeartbeats 2000000 in
theorem ref_up (x s : Nat) (A : Option Addr) (c : Nat) (w : World) (hs : s < 32) (hl : (nd x).length ≤ 10000) (lo : Nat) (hA : DigsAt lo w A (nd x)) :
    Calls Tryz.prog 157 #[.slice A (nd x).length c, .int .i64 (s : Int)] w fun e w' => Below w.heap.size w w' ∧ ∃ v, e = .returned v ∧ SlV w.heap.size w' v (nd (x * 2 ^ s)) := by
  have h2 := two_lt s hs
  obtain ⟨k, hk, hke⟩ : ∃ k : Nat, (1 : Int) * 2 ^ s = (k : Int) ∧ k = 2 ^ s := ⟨2 ^ s, by push_cast; omega, rfl⟩
  have hb0 : Below w.heap.size w (w.alloc (.cells #[.int .u32 (k : Int)] 64)) := (Below.refl _ w).alloc (Nat.le_refl _) _
  have hx0 : Blk (w.alloc (.cells #[.int .u32 (k : Int)] 64)) w.heap.size (encW [BitVec.ofNat 32 k]) 64 := by
    rw [show encW [BitVec.ofNat 32 k] = #[Value.int .u32 (k : Int)] by simp [encW, vw, wd_lit k (by omega)]]
    exact Blk.new w _ _
  have hm := ref_mul A (some ⟨w.heap.size, 0, none⟩) c 1 (nd x) [BitVec.ofNat 32 k] _ (by simp; omega) lo w.heap.size (hA.below hb0) (blk_digs hx0 (Nat.le_refl _))
  rw [va_nd, va_one k (by omega)] at hm
  rw [← hke]
  have HM := Lib.hid hm; have HB := Lib.hid hb0
  have hki : (k : Int) < 4294967296 := by omega
  have hsi : (s : Int) < 32 := by omega
  have hmn : min s 32 = s := by omega
  clear hm hb0 hx0 hA h2 hke
  go_enter Tryz.func157, Tryz.ntmps157
  repeat (first | (go_at_call 79; refine (Hid.out (p := _) ?_)) | go_values | go_skip | go_guarded | go_step | go_upon | go_back)
  refine Lib.hid ?_
  refine HM.out.mono ?_
  rintro e w1 ⟨hB1, v, rfl, hv⟩
  have HB1 := Lib.hid (HB.out.trans (hB1.mono (by simp)))
  have HV := Lib.hid (hv.mono (lo' := w.heap.size) (by simp))
  clear hB1 hv HM HB
  simp only []
  repeat (first | (fail) | go_values | go_skip | go_guarded | go_step | go_upon | go_back)
  go_ret
  exact ⟨HB1.out, _, rfl, HV.out⟩
set_option maxRecDepth 100000 in
set_option maxHeartbeats 2000000 in
theorem ref_down (x s : Nat) (A : Option Addr) (c : Nat) (w : World) (hs : s < 32) (hl : (nd x).length ≤ 100000) (lo : Nat) (hA : DigsAt lo w A (nd x)) :
    Calls Tryz.prog 160 #[.slice A (nd x).length c, .int .i64 (s : Int)] w fun e w' => Below w.heap.size w w' ∧ ∃ v, e = .returned v ∧ SlV w.heap.size w' v (nd (x / 2 ^ s)) := by
  have hle : (nd (x / 2 ^ s)).length ≤ (nd x).length := nd_len_mono (Nat.div_le_self _ _)
  have hmk := run_make_row' 43 64 (.int .u32 0) 4 Tryz.underlying43 info_u32 rfl .i64 .i64 (nd x).length (by omega) (by omega) w
  rw [zer_enc] at hmk
  have hdig : ∀ i, i < (nd x).length → ∀ p q v : Nat, p = ((nd x).getD i 0).toNat → q = ((nd x).getD (i + 1) 0).toNat → v = p + q * 4294967296 → BitVec.ofNat 32 (v / 2 ^ s % 4294967296) = (nd (x / 2 ^ s)).getD i 0 := by
    rintro i hi p q v rfl rfl rfl
    rw [nd_dig (x / 2 ^ s), nd_digN, nd_digN, ← shr_dig x i s hs]
    apply BitVec.eq_of_toNat_eq
    rw [BitVec.toNat_ofNat, BitVec.toNat_ofNat, Nat.mod_mod]
  have hpast : ((nd x).getD (nd x).length 0).toNat = 0 := by rw [getD_past _ _ (Nat.le_refl _)]; rfl
  generalize nd x = a at *
  have HA := Lib.hid hA; have HD := Lib.hid hdig; have HP := Lib.hid hpast; have HLE := Lib.hid hle
  have ha1 : (a.length : Int) ≤ 100000 := by omega
  have hs64 : min s 64 = s := by omega
  clear hA hdig hpast hle hl
  go_enter Tryz.func160, Tryz.ntmps160
  repeat (first | (fail) | go_values | go_skip | go_guarded | go_step | go_upon | go_back)
  have hb0 : Blk (w.alloc (.cells (encW (List.replicate a.length 0)) 64)) w.heap.size (encW (List.replicate a.length 0)) 64 := Blk.new w _ _
  have hB0 : Below w.heap.size w (w.alloc (.cells (encW (List.replicate a.length 0)) 64)) := (Below.refl _ w).alloc (Nat.le_refl _) _
  have H0 := Lib.hid (And.intro hb0 hB0)
  clear hb0 hB0 hmk
  go_loopw [6] (fun z wr => ∃ (k : Nat) (O : List W32), k ≤ a.length ∧ z = .int .i64 k ∧ Hid (O.length = a.length ∧ ∀ i, i < k → O.getD i 0 = (nd (x / 2 ^ s)).getD i 0) ∧ Hid (Blk wr w.heap.size (encW O) 64 ∧ Below w.heap.size w wr)) (fun z _ => a.length - (intOf z).toNat)
  case atStart => exact ⟨0, List.replicate a.length 0, Nat.zero_le _, rfl, Lib.hid ⟨by simp, fun i hi => absurd hi (by omega)⟩, H0⟩
  case round =>
    obtain ⟨k, O, hk, rfl, hO, hS⟩ := hrel
    by_cases hlt : k < a.length
    · obtain ⟨b1, rfl, _, hb1l, hc1⟩ := HA.out.cells (by omega)
      have q1 : wr.cell? ⟨b1, k, none⟩ = some (.int .u32 ((a.getD k 0).toNat : Int)) := by rw [hS.out.2.cell (p := ⟨b1, k, none⟩) hb1l]; exact hc1 k hlt
      have q2 : k + 1 < a.length → wr.cell? ⟨b1, k + 1, none⟩ = some (.int .u32 ((a.getD (k + 1) 0).toNat : Int)) := fun h => by rw [hS.out.2.cell (p := ⟨b1, k + 1, none⟩) hb1l]; exact hc1 (k + 1) h
      have q3 := cell_get hS.out.1 k (by rw [hO.out.1]; exact hlt)
      have f3 := hS.out.1.free k
      have hx := toNat_lt32 (a.getD k 0)
      have hy := toNat_lt32 (a.getD (k + 1) 0)
      have hd := HD.out k hlt _ _ _ rfl rfl rfl
      have hyz : a.length ≤ k + 1 → (a.getD (k + 1) 0).toNat = 0 := fun h => by rw [getD_past a (k + 1) h]; rfl
      generalize (a.getD k 0).toNat = p at *
      generalize (a.getD (k + 1) 0).toNat = q at *
      have hki : (k : Int) < (a.length : Int) := by omega
      have hpi : (p : Int) < 4294967296 := by omega
      have hqi : (q : Int) < 4294967296 := by omega
      obtain ⟨v, hv, hve⟩ : ∃ v : Nat, (p : Int) + (q : Int) * 4294967296 = (v : Int) ∧ v = p + q * 4294967296 := ⟨p + q * 4294967296, by omega, rfl⟩
      have hvi : (v : Int) < 18446744073709551616 := by omega
      rw [← hve] at hd
      obtain ⟨dv, hdv, hdve⟩ : ∃ dv : Nat, (v : Int) / 2 ^ s = (dv : Int) ∧ dv = v / 2 ^ s := ⟨v / 2 ^ s, by rw [Int.natCast_ediv, Int.natCast_pow]; rfl, rfl⟩
      rw [← hdve] at hd
      obtain ⟨u, hu, hue⟩ : ∃ u : Nat, (dv : Int) % 4294967296 = (u : Int) ∧ u = dv % 4294967296 := ⟨dv % 4294967296, by omega, rfl⟩
      rw [← hue] at hd
      have hub : u < 4294967296 := by omega
      have hui : (u : Int) < 4294967296 := by omega
      have hnb := cell_set hS.out.1 k u hub
      have hnB := hS.out.2.setCell (p := ⟨w.heap.size, k, none⟩) (Nat.le_refl _) (.int .u32 (u : Int))
      have HS := Lib.hid (And.intro hnb hnB)
      have hnO : Hid ((O.set k (BitVec.ofNat 32 u)).length = a.length ∧ ∀ i, i < k + 1 → (O.set k (BitVec.ofNat 32 u)).getD i 0 = (nd (x / 2 ^ s)).getD i 0) := by
        refine Lib.hid ⟨by simp [hO.out.1], fun i hi => ?_⟩
        rw [set_getD _ _ _ _ (by rw [hO.out.1]; exact hlt)]
        split
        · rename_i h; rw [h, hd]
        · exact hO.out.2 i (by omega)
      have HQ2 := Lib.hid q2; have HYZ := Lib.hid hyz; have HK := Lib.hid hlt; have HVE := Lib.hid hve
      clear hd hue hdve hve hnb hnB q2 hyz hc1 hO hS hlt
      by_cases h1 : k + 1 < a.length
      · have q2 := HQ2.out h1
        have h1i : (k : Int) + 1 < (a.length : Int) := by omega
        repeat (first | (fail) | go_values | go_skip | go_guarded | go_step | go_upon | go_back)
        go_roundw
        case rel => exact ⟨k + 1, _, HK.out, by go_num, hnO, HS⟩
        case measure => have := HK.out; simp [intOf]; omega
      · have h1i : ¬ ((k : Int) + 1 < (a.length : Int)) := by omega
        obtain rfl : q = 0 := HYZ.out (by omega)
        obtain rfl : v = p := by have := HVE.out; omega
        clear hv
        repeat (first | (fail) | go_values | go_skip | go_guarded | go_step | go_upon | go_back)
        go_roundw
        case rel => exact ⟨k + 1, _, HK.out, by go_num, hnO, HS⟩
        case measure => have := HK.out; simp [intOf]; omega
    · obtain rfl : k = a.length := by omega
      have h1 := all_digs hO.out.1 HLE.out hO.out.2
      have hD := blk_digs hS.out.1 (Nat.le_refl _)
      have htr := ref_trim_va (some ⟨w.heap.size, 0, none⟩) a.length O wr (by rw [hO.out.1]; exact Nat.le_refl _) (by rw [hO.out.1]; omega) w.heap.size hD
      have hle := len_va_le O
      have hDT := hD.trim
      rw [h1] at htr hle hDT
      rw [hO.out.1] at htr hle
      have HTR := Lib.hid htr; have HLE2 := Lib.hid hle; have HDT := Lib.hid hDT
      clear htr hle hDT hD h1 hlt
      repeat (first | (go_at_call 77; refine HTR.out.mono ?_; rintro e w1 ⟨rfl, rfl⟩; simp only []) | go_values | go_skip | go_guarded | go_step | go_upon | go_back)
      go_ret
      exact ⟨hS.out.2, _, rfl, _, _, rfl, HLE2.out, HDT.out⟩
end Go.Proofs.YtdmfbcfhfopipaaGreatDoor

/- The document's own numbers (its chapter 5): moved. -/
namespace Go.Proofs.YtdmfbcfhfopipaaGreatDoor
open Go.RowKit

/-- 'append(s, y ..)' of words, y another slice of words. -/
theorem ownW_append_at {ops : Array Oper} {rest : List Oper} {o : Oper} {a : Act} {Q : Exit → Act → World → Prop} {base : Nat} {v : Value} {l : List W32} {w0 W : World} (HO : OwnW base v l W) (HB : Below base w0 W) (hbase : base ≤ W.heap.size) (m : List W32) (hl : l.length + m.length ≤ 1000000)
    (hgd : o.guard = none) (s y : Operand) (ho : o.op = .call { callee := .builtin .append, args := #[s, y], argTypes := #[43, 43] }) (ad : Addr) (c : Nat) (hs : a.eval s = v) (hx : a.eval y = .slice (some ad) m.length c) (hnews : ∀ j, j < m.length → W.cell? (ad.add j) = some (vw (m.getD j 0)))
    (h : ∀ v1 w1, OwnW base v1 (l ++ m) w1 → Below base w0 w1 → base ≤ w1.heap.size → wpList Tryz.prog ops Q rest (a.put o.dst v1) w1) : wpList Tryz.prog ops Q (o :: rest) a W := by
  obtain ⟨i0, hi, hzz⟩ := Option.map_eq_some_iff.1 info_u32
  simp only [Prod.mk.injEq] at hzz
  obtain ⟨hz0, hz1, hz2⟩ := hzz
  refine wpList_append_own_at W hgd s y 43 ho base 64 i0 (.int .u32 0) 1 4 Tryz.underlying43 hi hz0 hz1 hz2 rfl (by omega) v l.length (l.map vw) hs HO ad m.length c (m.map vw) hx (by simp) ?_ ?_ (by simp only [maxLen]; omega) (by omega) hbase ?_
  · intro j u hj
    rw [List.getElem?_map] at hj
    by_cases hlt : j < m.length
    · rw [List.getElem?_eq_getElem hlt] at hj
      have e := hnews j hlt
      rw [e, ← hj]
      simp [List.getD, hlt]
    · rw [List.getElem?_eq_none (by omega)] at hj
      cases hj
  · intro u hu
    obtain ⟨x, _, rfl⟩ := List.mem_map.1 hu
    rfl
  · intro v1 w1 hown hg _ hat
    have hB := HB.grown hg hbase (ownBase HO)
    refine h v1 w1 (by simpa [OwnW] using hown) hB (Nat.le_trans hbase hg.size)
theorem OwnW.one (w : World) (x : W32) : OwnW w.heap.size (.slice (some ⟨w.heap.size, 0, none⟩) 1 1) [x] (w.alloc (.cells #[vw x] 64)) :=
  ⟨rfl, .inr ⟨w.heap.size, 1, _, rfl, Nat.le_refl _, heap_alloc_new w _, Nat.le_refl _, by decide, rfl, rfl⟩⟩
set_option maxRecDepth 100000 in
set_option maxHeartbeats 1000000 in
theorem ref_moved (x u : Nat) (A : Option Addr) (c : Nat) (w : World) (hu : u < 4294967296) (hl : (nd x).length ≤ 100000) (lo : Nat) (hA : DigsAt lo w A (nd x)) :
    Calls Tryz.prog 158 #[.slice A (nd x).length c, .int .u32 (u : Int)] w fun e w' => Below w.heap.size w w' ∧ ∃ v, e = .returned v ∧ SlV w.heap.size w' v (nd (u + 4294967296 * x)) := by
  have hvx := va_nd x
  generalize nd x = a at *
  obtain ⟨y, hy, hye⟩ : ∃ y : W32, (u : Int) = wd y ∧ y.toNat = u := ⟨BitVec.ofNat 32 u, by simp [wd]; omega, by rw [BitVec.toNat_ofNat]; omega⟩
  have HO := Lib.hid (OwnW.one w y)
  have HB := Lib.hid ((Below.refl w.heap.size w).alloc (Nat.le_refl _) (.cells #[vw y] 64))
  have hval : va ([y] ++ a) = u + 4294967296 * x := by rw [List.singleton_append, va, hye, hvx]
  have HV := Lib.hid hval; have HA := Lib.hid hA; have HL := Lib.hid hl
  rw [hy]
  clear hval hA hvx hye hu hl hy
  cases A with
  | none =>
    have ha0 : a = [] := by
      rcases HA.out with h | ⟨b, hb, _⟩
      · exact h
      · cases hb
    subst ha0
    go_enter Tryz.func158, Tryz.ntmps158
    have hD : DigsAt w.heap.size (w.alloc (.cells #[vw y] 64)) (some ⟨w.heap.size, 0, none⟩) [y] := blk_digs (Blk.new w (encW [y]) 64) (Nat.le_refl _)
    have htr := ref_trim_va _ 1 [y] _ (Nat.le_refl _) (by simp) w.heap.size hD
    have hle := len_va_le [y]
    have hDT := hD.trim
    have hv2 := HV.out
    rw [List.append_nil] at hv2
    rw [hv2] at htr hle hDT
    have HTR := Lib.hid htr; have HLE := Lib.hid hle; have HDT := Lib.hid hDT
    clear htr hle hDT hD hv2
    repeat (first | (go_at_call 77; refine HTR.out.mono ?_; rintro e w1 ⟨rfl, rfl⟩; simp only []) | go_values | go_skip | go_guarded | go_step | go_upon | go_back)
    go_ret
    exact ⟨HB.out, _, rfl, _, 1, rfl, HLE.out, HDT.out⟩
  | some ad =>
    have hnews : ∀ j, j < a.length → (w.alloc (.cells #[vw y] 64)).cell? (ad.add j) = some (vw (a.getD j 0)) := by
      intro j hj
      obtain ⟨b, hb, _, hbl, hc⟩ := HA.out.cells (by omega)
      cases hb
      have := hc j hj
      rw [show (⟨b, 0, none⟩ : Addr).add j = ⟨b, j, none⟩ by cases j <;> simp [Addr.add]]
      rw [HB.out.cell (p := ⟨b, j, none⟩) hbl]
      exact this
    have HN := Lib.hid hnews
    clear hnews HA
    go_enter Tryz.func158, Tryz.ntmps158
    repeat (first | ((at_builtin; go_loud (refine ownW_append_at HO.out HB.out (by simp) a (by have := HL.out; simp; omega) rfl _ _ rfl ad c rfl rfl HN.out ?_); refine Lib.hid ?_)) | go_values | go_skip | go_guarded | go_step | go_upon | go_back)
    intro v1 w1 a1 a2 a3
    obtain ⟨A1, c1, rfl, hc, hD⟩ := a1.digs
    have htr := ref_trim_va A1 c1 _ w1 hc (by have := HL.out; simp; omega) w.heap.size hD
    have hle2 := len_va_le ([y] ++ a)
    have hDT := hD.trim
    rw [HV.out] at htr hle2 hDT
    have HTR := Lib.hid htr; have HLE := Lib.hid (Nat.le_trans hle2 hc); have HDT := Lib.hid hDT; have HBB := Lib.hid a2
    clear htr hle2 hDT hD a1 a2 a3 hc HO HB HN HV
    generalize ([y] ++ a).length = n at HTR ⊢
    repeat (first | (go_at_call 77; refine HTR.out.mono ?_; rintro e w1 ⟨rfl, rfl⟩; simp only []) | go_values | go_skip | go_guarded | go_step | go_upon | go_back)
    go_ret
    exact ⟨HBB.out, _, rfl, _, c1, rfl, HLE.out, HDT.out⟩
end Go.Proofs.YtdmfbcfhfopipaaGreatDoor

/- The document's own numbers (its chapter 5): Cmp. -/
namespace Go.Proofs.YtdmfbcfhfopipaaGreatDoor
open Go.RowKit

set_option maxRecDepth 100000 in
set_option maxHeartbeats 2000000 in
theorem ref_cmp (x y : Nat) (A B : Option Addr) (c d : Nat) (w : World) (hl : (nd x).length ≤ 1000000) (lo lo' : Nat) (hA : DigsAt lo w A (nd x)) (hB : DigsAt lo' w B (nd y)) :
    Calls Tryz.prog 44 #[.slice A (nd x).length c, .slice B (nd y).length d] w fun e w' => e = .returned (.int .i64 (cmpI x y)) ∧ Below w.heap.size w w' := by
  have HA := Lib.hid hA; have HB := Lib.hid hB
  clear hA hB
  by_cases he : (nd x).length = (nd y).length
  · have ht := top_eq he
    have hdl := fun j => @dig_lt x y j
    have hdg := fun j => @dig_lt y x j
    have hde := fun j => @dig_eq x y j
    have hxy : x = y ∨ x ≠ y := by omega
    generalize hR : cmpI x y = R
    have hlt : x < y → R = -1 := fun h => by rw [← hR, cmpI_lt h]
    have hgt : y < x → R = 1 := fun h => by rw [← hR, cmpI_gt h]
    have heq : x = y → R = 0 := fun h => by rw [← hR, h, cmpI_eq]
    rw [← he]
    have HA2 := HA.out; have HB2 := HB.out
    generalize hnx : nd x = lx at *
    generalize hny : nd y = ly at *
    have he2 : lx.length = ly.length := he
    have HT := Lib.hid ht; have HDL := Lib.hid hdl; have HDG := Lib.hid hdg; have HDE := Lib.hid hde; have HLT := Lib.hid hlt; have HGT := Lib.hid hgt; have HEQ := Lib.hid heq; have HE := Lib.hid he2
    clear ht hdl hdg hde hxy hR hlt hgt heq HA HB hnx hny he he2
    have HA := Lib.hid HA2; have HB := Lib.hid HB2
    clear HA2 HB2
    go_enter Tryz.func44, Tryz.ntmps44
    repeat (first | (fail) | go_values | go_skip | go_guarded | go_step | go_upon | go_back)
    go_loopw [5] (fun v wr => ∃ (n : Nat) (z : Int), Hid (Below w.heap.size w wr) ∧ n ≤ lx.length ∧ v = .int .i64 z ∧ Hid (z = (n : Int) - 1) ∧ Hid (x / 4294967296 ^ n = y / 4294967296 ^ n)) (fun v _ => (intOf v + 1).toNat)
    case atStart => exact ⟨lx.length, _, Lib.hid (Below.refl _ _), Nat.le_refl _, rfl, Lib.hid rfl, HT⟩
    case round =>
      obtain ⟨n, z, hS, hn, rfl, hz, hq⟩ := hrel
      cases n with
      | zero =>
        have hz0 : z = -1 := by have := hz.out; omega
        subst hz0
        have h0 : R = 0 := HEQ.out (by have := hq.out; simpa using this)
        subst h0
        repeat (first | (fail) | go_values | go_skip | go_guarded | go_step | go_upon | go_back)
        go_ret
        exact ⟨rfl, hS.out⟩
      | succ j =>
        obtain rfl : z = (j : Int) := by have := hz.out; omega
        obtain ⟨b1, rfl, _, hl1, hc1⟩ := HA.out.cells (by omega)
        obtain ⟨b2, rfl, _, hl2', hc2⟩ := HB.out.cells (by have := HE.out; omega)
        have q1 : wr.cell? ⟨b1, j, none⟩ = some (.int .u32 ((lx.getD j 0).toNat : Int)) := by rw [hS.out.cell (p := ⟨b1, j, none⟩) hl1]; exact hc1 j (by omega)
        have q2 : wr.cell? ⟨b2, j, none⟩ = some (.int .u32 ((ly.getD j 0).toNat : Int)) := by rw [hS.out.cell (p := ⟨b2, j, none⟩) hl2']; exact hc2 j (by have := HE.out; omega)
        have r1 := HDL.out j hq.out
        have r2 := HDG.out j hq.out.symm
        have r3 := HDE.out j hq.out
        have hji : (j : Int) < (lx.length : Int) := by omega
        have hj0 : (0 : Int) ≤ (j : Int) := by omega
        have he3 : lx.getD j 0 = ly.getD j 0 ↔ (lx.getD j 0).toNat = (ly.getD j 0).toNat := BitVec.toNat_inj.symm
        rw [he3] at r3
        clear he3 hc1 hc2 hz hq
        generalize (lx.getD j 0).toNat = u at *
        generalize (ly.getD j 0).toNat = v at *
        rcases Nat.lt_trichotomy u v with h | h | h
        · have h0 := HLT.out (r1 h)
          subst h0
          have t1 : ((u : Int) == (v : Int)) = false := by rw [beq_eq_false_iff_ne]; omega
          have t2 : (u : Int) < (v : Int) := by omega
          clear r1 r2 r3 h
          repeat (first | (fail) | go_values | go_skip | go_guarded | go_step | go_upon | go_back)
          go_quiet (fail)
          generalize hW : wr.drewN nq = W1
          have HS := Lib.hid (below_drew hS.out nq)
          rw [hW] at HS
          have p1 : W1.cell? ⟨b1, j, none⟩ = some (.int .u32 (u : Int)) := by rw [← hW]; exact q1
          have p2 : W1.cell? ⟨b2, j, none⟩ = some (.int .u32 (v : Int)) := by rw [← hW]; exact q2
          clear hW q1 q2 hS
          repeat (first | (fail) | go_values | go_skip | go_guarded | go_step | go_upon | go_back)
          go_quiet (fail)
          generalize hW : W1.drewN nq = W2
          have HT := Lib.hid (below_drew HS.out nq)
          rw [hW] at HT
          clear hW HS
          repeat (first | (fail) | go_values | go_skip | go_guarded | go_step | go_upon | go_back)
          go_ret
          exact ⟨rfl, HT.out⟩
        · have R3 := Lib.hid (r3 h)
          subst h
          clear r1 r2 r3
          repeat (first | (fail) | go_values | go_skip | go_guarded | go_step | go_upon | go_back)
          go_quiet (fail)
          generalize hW : wr.drewN nq = W1
          have HS := Lib.hid (below_drew hS.out nq)
          rw [hW] at HS
          clear hW q1 q2 hS
          repeat (first | (fail) | go_values | go_skip | go_guarded | go_step | go_upon | go_back)
          go_roundw
          case rel => exact ⟨j, (j : Int) - 1, HS, by omega, by go_num, Lib.hid rfl, R3⟩
          case measure => simp [intOf]
        · have h0 := HGT.out (r2 h)
          subst h0
          have t1 : ((u : Int) == (v : Int)) = false := by rw [beq_eq_false_iff_ne]; omega
          have t2 : ¬ ((u : Int) < (v : Int)) := by omega
          clear r1 r2 r3 h
          repeat (first | (fail) | go_values | go_skip | go_guarded | go_step | go_upon | go_back)
          go_quiet (fail)
          generalize hW : wr.drewN nq = W1
          have HS := Lib.hid (below_drew hS.out nq)
          rw [hW] at HS
          have p1 : W1.cell? ⟨b1, j, none⟩ = some (.int .u32 (u : Int)) := by rw [← hW]; exact q1
          have p2 : W1.cell? ⟨b2, j, none⟩ = some (.int .u32 (v : Int)) := by rw [← hW]; exact q2
          clear hW q1 q2 hS
          repeat (first | (fail) | go_values | go_skip | go_guarded | go_step | go_upon | go_back)
          go_quiet (fail)
          generalize hW : W1.drewN nq = W2
          have HT := Lib.hid (below_drew HS.out nq)
          rw [hW] at HT
          clear hW HS
          repeat (first | (fail) | go_values | go_skip | go_guarded | go_step | go_upon | go_back)
          go_ret
          exact ⟨rfl, HT.out⟩
  · have t1 : (((nd x).length : Int) == ((nd y).length : Int)) = false := by rw [beq_eq_false_iff_ne]; omega
    by_cases hlt : (nd x).length < (nd y).length
    · have t2 : ((nd x).length : Int) < ((nd y).length : Int) := by omega
      rw [cmpI_lt (len_lt hlt)]
      clear hlt he HA HB
      generalize (nd x).length = n1 at *
      generalize (nd y).length = n2 at *
      go_enter Tryz.func44, Tryz.ntmps44
      repeat (first | (fail) | go_values | go_skip | go_guarded | go_step | go_upon | go_back)
      go_ret
      exact ⟨rfl, Below.refl _ _⟩
    · have t2 : ¬ (((nd x).length : Int) < ((nd y).length : Int)) := by omega
      rw [cmpI_gt (len_lt (show (nd y).length < (nd x).length by omega))]
      clear hlt he HA HB
      generalize (nd x).length = n1 at *
      generalize (nd y).length = n2 at *
      go_enter Tryz.func44, Tryz.ntmps44
      repeat (first | (fail) | go_values | go_skip | go_guarded | go_step | go_upon | go_back)
      go_ret
      exact ⟨rfl, Below.refl _ _⟩
end Go.Proofs.YtdmfbcfhfopipaaGreatDoor

/- Bytes as numbers, the greatest first: the digits of bytes, a number's bytes, its bits. -/
namespace Go.Proofs.YtdmfbcfhfopipaaGreatDoor
open Go.RowKit

/-- The number of bytes, the greatest first. -/
def be (l : List UInt8) : Nat := l.foldl (fun a x => 256 * a + x.toNat) 0
theorem be_snoc (l : List UInt8) (x : UInt8) : be (l ++ [x]) = 256 * be l + x.toNat := by simp [be]
theorem list_snoc (l : List UInt8) : l = [] ∨ ∃ m x, l = m ++ [x] := by
  rcases List.eq_nil_or_concat l with h | ⟨m, x, h⟩
  · exact .inl h
  · exact .inr ⟨m, x, by simpa using h⟩
theorem rb_be : ∀ (k : Nat) (l : List UInt8), rb l k = be l / 256 ^ k % 256 := by
  intro k
  induction k with
  | zero =>
    intro l
    rcases list_snoc l with rfl | ⟨m, x, rfl⟩
    · rfl
    · rw [be_snoc, rb, if_pos (by simp)]
      have := x.toNat_lt
      rw [show (m ++ [x]).length - 1 - 0 = m.length by simp]
      simp [List.getD]
  | succ k ih =>
    intro l
    rcases list_snoc l with rfl | ⟨m, x, rfl⟩
    · simp [be, rb]
    · have hx := x.toNat_lt
      rw [be_snoc, Nat.pow_succ, Nat.mul_comm (256 ^ k), ← Nat.div_div_eq_div_mul, show (256 * be m + x.toNat) / 256 = be m by omega, ← ih m]
      unfold rb
      rw [List.length_append, List.length_singleton]
      by_cases h : k < m.length
      · rw [if_pos h, if_pos (by omega), show m.length + 1 - 1 - (k + 1) = m.length - 1 - k by omega]
        simp [List.getD, List.getElem?_append_left, show m.length - 1 - k < m.length by omega]
      · rw [if_neg h, if_neg (by omega)]
theorem be_lt (l : List UInt8) : be l < 256 ^ l.length := by
  induction hn : l.length generalizing l with
  | zero => have := List.eq_nil_of_length_eq_zero hn; subst this; simp [be]
  | succ n ih =>
    rcases list_snoc l with rfl | ⟨m, x, rfl⟩
    · simp at hn
    · have := ih m (by simpa using hn)
      have hx := x.toNat_lt
      rw [be_snoc, Nat.pow_succ]
      omega
theorem part_be (l : List UInt8) (d n : Nat) (hn : n ≤ 4) : partN l d n = be l / 256 ^ (4 * d + 4 - n) % 256 ^ n := by
  induction n with
  | zero => simp [partN, Nat.mod_one]
  | succ n ih =>
    rw [partN, ih (by omega), rb_be]
    have e : 4 * d + 4 - n = (4 * d + 4 - (n + 1)) + 1 := by omega
    have e2 : 4 * d + 3 - n = 4 * d + 4 - (n + 1) := by omega
    rw [e2, e, Nat.pow_succ, ← Nat.div_div_eq_div_mul, Nat.pow_succ, Nat.mul_comm (256 ^ n) 256, Nat.mod_mul]
    omega
theorem part_be4 (l : List UInt8) (d : Nat) : partN l d 4 = be l / 4294967296 ^ d % 4294967296 := by
  rw [part_be l d 4 (by omega), show 4 * d + 4 - 4 = 4 * d by omega, Nat.pow_mul]
theorem mod_ext (x y k : Nat) (h : ∀ j, j < k → x / 256 ^ j % 256 = y / 256 ^ j % 256) : x % 256 ^ k = y % 256 ^ k := by
  induction k with
  | zero => simp [Nat.mod_one]
  | succ k ih => rw [Nat.pow_succ, Nat.mod_mul, Nat.mod_mul, ih fun j hj => h j (by omega), h k (by omega)]
theorem be_low (l : List UInt8) (h : 0 < l.length) (h0 : (l.getD 0 0).toNat ≠ 0) : 256 ^ (l.length - 1) ≤ be l := by
  have h1 := rb_be (l.length - 1) l
  rw [rb, if_pos (by omega), show l.length - 1 - (l.length - 1) = 0 by omega] at h1
  have h2 : be l / 256 ^ (l.length - 1) ≠ 0 := fun h3 => by rw [h3] at h1; omega
  exact (Nat.div_ne_zero_iff.mp h2).2
theorem bitLenAux_zero (f : Nat) : Lib.bitLenAux f 0 = 0 := by cases f <;> simp [Lib.bitLenAux]
theorem bitLenAux_lt : ∀ (f x : Nat), x < 2 ^ f → x < 2 ^ Lib.bitLenAux f x ∧ (x ≠ 0 → 0 < Lib.bitLenAux f x ∧ 2 ^ (Lib.bitLenAux f x - 1) ≤ x) := by
  intro f
  induction f with
  | zero => intro x h; obtain rfl : x = 0 := by simpa using h
            exact ⟨by simp [Lib.bitLenAux], fun h => absurd rfl h⟩
  | succ f ih =>
    intro x h
    rw [Lib.bitLenAux]
    split
    · rename_i h0
      subst h0
      exact ⟨by simp, fun h => absurd rfl h⟩
    · rename_i h0
      obtain ⟨a, b⟩ := ih (x / 2) (by rw [Nat.pow_succ] at h; omega)
      by_cases h1 : x / 2 = 0
      · rw [h1, bitLenAux_zero]
        exact ⟨by omega, fun _ => ⟨by omega, by omega⟩⟩
      generalize Lib.bitLenAux f (x / 2) = n at a b ⊢
      refine ⟨?_, fun _ => ⟨by omega, ?_⟩⟩
      · rw [Nat.add_comm, Nat.pow_succ]; omega
      · rw [Nat.add_sub_cancel_left]
        obtain ⟨c, e⟩ := b h1
        obtain ⟨k, rfl⟩ : ∃ k, n = k + 1 := ⟨n - 1, by omega⟩
        rw [Nat.add_sub_cancel] at e
        rw [Nat.pow_succ]; omega
theorem num_be (l : List UInt8) : numDigs l = nd (be l) := by
  rw [← doc_trim, ← trim_nd]
  refine trim_ext fun i => ?_
  rw [docDigs_dig, part_be4, nd_dig]
  apply BitVec.eq_of_toNat_eq
  rw [BitVec.toNat_ofNat, BitVec.toNat_ofNat, Nat.mod_mod]
theorem bits_nd (n : Nat) : ∃ b : Nat, bitsL (nd n) = (b : Int) ∧ n < 2 ^ b ∧ (n ≠ 0 → 0 < b ∧ 2 ^ (b - 1) ≤ n) := by
  by_cases h : n = 0
  · subst h
    exact ⟨0, by rw [nd_zero]; rfl, by simp, fun h => absurd rfl h⟩
  · obtain ⟨h1, h2⟩ := nd_last n h
    have hh := nd_high n
    have hl := nd_low n h
    rw [bitsL, if_neg (by intro h3; rw [h3] at h1; simp at h1)]
    rw [nd_dig] at h2 ⊢
    obtain ⟨k, hk⟩ : ∃ k, (nd n).length = k + 1 := ⟨(nd n).length - 1, by omega⟩
    rw [hk, Nat.add_sub_cancel] at h2 hl ⊢
    rw [hk] at hh
    have ht : n / 4294967296 ^ k < 4294967296 := by
      refine Nat.div_lt_of_lt_mul ?_
      rw [Nat.pow_succ] at hh; exact hh
    have ht0 : n / 4294967296 ^ k ≠ 0 := (Nat.div_ne_zero_iff).mpr ⟨by have := Nat.pow_pos (n := k) (show 0 < 4294967296 by omega); omega, hl⟩
    rw [BitVec.toNat_ofNat, Nat.mod_eq_of_lt (show n / 4294967296 ^ k < 2 ^ 32 from ht)]
    have hb := bitLenAux_lt 64 (n / 4294967296 ^ k) (by omega)
    have hb2 := bitLen_le (n / 4294967296 ^ k) 32 ht
    rw [show Lib.bitLenAux 64 (n / 4294967296 ^ k) = Lib.bitLen (n / 4294967296 ^ k) from rfl] at hb
    have hd := Nat.div_add_mod n (4294967296 ^ k)
    have hm := Nat.mod_lt n (Nat.pow_pos (n := k) (show 0 < 4294967296 by omega))
    generalize n / 4294967296 ^ k = t at *
    generalize Lib.bitLen t = bl at *
    obtain ⟨ha, hc⟩ := hb
    obtain ⟨hc1, hc2⟩ := hc ht0
    have hP : (4294967296 : Nat) ^ k = 2 ^ (32 * k) := by rw [Nat.pow_mul]
    refine ⟨32 * k + bl, by push_cast; omega, ?_, fun _ => ⟨by omega, ?_⟩⟩
    · rw [Nat.pow_add, ← hP]
      have : 4294967296 ^ k * (t + 1) ≤ 4294967296 ^ k * 2 ^ bl := Nat.mul_le_mul_left _ ha
      rw [Nat.mul_add] at this
      omega
    · rw [show 32 * k + bl - 1 = 32 * k + (bl - 1) by omega, Nat.pow_add, ← hP]
      have : 4294967296 ^ k * 2 ^ (bl - 1) ≤ 4294967296 ^ k * t := Nat.mul_le_mul_left _ hc2
      omega
theorem byte_dig (x k : Nat) : (x / 4294967296 ^ (k / 4) % 4294967296) / 2 ^ (8 * (k % 4)) % 256 = x / 256 ^ k % 256 := by
  have h1 : (4294967296 : Nat) ^ (k / 4) = 256 ^ (4 * (k / 4)) := by rw [Nat.pow_mul]
  have h2 : (2 : Nat) ^ (8 * (k % 4)) = 256 ^ (k % 4) := by rw [Nat.pow_mul]
  have h3 : 256 ^ k = 256 ^ (4 * (k / 4)) * 256 ^ (k % 4) := by rw [← Nat.pow_add]; congr 1; omega
  rw [h1, h2, h3, ← Nat.div_div_eq_div_mul]
  generalize x / 256 ^ (4 * (k / 4)) = X
  have hj : k % 4 = 0 ∨ k % 4 = 1 ∨ k % 4 = 2 ∨ k % 4 = 3 := by omega
  rcases hj with hj | hj | hj | hj <;> rw [hj] <;> simp only [Nat.reducePow] <;> omega
theorem wideB_nd (x k : Nat) : (wideB (nd x) k).toNat = x / 256 ^ k % 256 := by
  rw [wideB]
  split
  · rw [nd_dig, ← byte_dig]
    simp [by8, BitVec.toNat_ushiftRight, Nat.shiftRight_eq_div_pow]
  · rename_i h
    have h1 := nd_high x
    have h2 : x < 4294967296 ^ (k / 4) := Nat.lt_of_lt_of_le h1 (Nat.pow_le_pow_right (by omega) (by omega))
    rw [← byte_dig, Nat.div_eq_of_lt h2]
    simp
/-- The bytes of a number. -/
def wideL (x m : Nat) : List UInt8 := (List.range m).map fun i => wideB (nd x) (m - 1 - i)
theorem wideS_nd (x m : Nat) : wideS (nd x) m = bs (wideL x m) := rfl
theorem wideL_len (x m : Nat) : (wideL x m).length = m := by simp [wideL]
theorem wideL_rb (x m k : Nat) (h : k < m) : rb (wideL x m) k = x / 256 ^ k % 256 := by
  rw [rb, wideL_len, if_pos h, ← wideB_nd]
  simp [wideL, List.getD, show m - 1 - k < m by omega, show m - 1 - (m - 1 - k) = k by omega]
theorem be_wide (x m : Nat) (h : x < 256 ^ m) : be (wideL x m) = x := by
  have h1 := mod_ext (be (wideL x m)) x m fun j hj => by rw [← rb_be, wideL_rb _ _ _ hj]
  have h2 := be_lt (wideL x m)
  rw [wideL_len] at h2
  rwa [Nat.mod_eq_of_lt h2, Nat.mod_eq_of_lt h] at h1
theorem be_inj {l l' : List UInt8} (hl : l.length = l'.length) (h : be l = be l') : l = l' := by
  refine List.ext_getElem hl fun i h1 h2 => ?_
  have a := rb_be (l.length - 1 - i) l
  have b := rb_be (l.length - 1 - i) l'
  rw [h, ← b, rb, rb, if_pos (by omega), if_pos (by omega), ← hl, show l.length - 1 - (l.length - 1 - i) = i by omega] at a
  have c := UInt8.toNat_inj.mp a
  simpa [List.getD, h1, h2] using c
theorem wide_be (l : List UInt8) : wideL (be l) l.length = l := be_inj (by rw [wideL_len]) (be_wide _ _ (be_lt l))
end Go.Proofs.YtdmfbcfhfopipaaGreatDoor

/- The document's division, digit by digit: what is guessed is never too great. -/
namespace Go.Proofs.YtdmfbcfhfopipaaGreatDoor
open Go.RowKit

theorem top_digit {Y : Nat} (hY : Y ≠ 0) : ((nd Y).getD ((nd Y).length - 1) 0).toNat = Y / 4294967296 ^ ((nd Y).length - 1) := by
  rw [nd_digN]
  refine Nat.mod_eq_of_lt (Nat.div_lt_of_lt_mul ?_)
  have h1 := nd_high Y
  have h2 := (nd_last Y hY).1
  rw [← Nat.pow_succ, Nat.succ_eq_add_one, show (nd Y).length - 1 + 1 = (nd Y).length by omega]
  exact h1
theorem guess_len {R Y : Nat} (hY : Y ≠ 0) (h1 : Y ≤ R) (h2 : R < 4294967296 * Y) : (nd R).length = (nd Y).length ∨ (nd R).length = (nd Y).length + 1 := by
  have a := nd_len_mono h1
  have b : (nd R).length ≤ (nd Y).length + 1 := by
    refine nd_len_le _ _ (Nat.lt_trans h2 ?_)
    rw [Nat.pow_succ, Nat.mul_comm]
    exact Nat.mul_lt_mul_of_pos_right (nd_high Y) (by omega)
  have := hY
  omega
theorem guess_top1 {R Y : Nat} (hR : R ≠ 0) (h : (nd R).length = (nd Y).length) : ((nd R).getD ((nd R).length - 1) 0).toNat = R / 4294967296 ^ ((nd Y).length - 1) := by
  rw [top_digit hR, h]
theorem guess_top2 {R Y : Nat} (hY : Y ≠ 0) (hR : R ≠ 0) (h : (nd R).length = (nd Y).length + 1) : ((nd R).getD ((nd R).length - 1) 0).toNat * 4294967296 + ((nd R).getD ((nd R).length - 2) 0).toNat = R / 4294967296 ^ ((nd Y).length - 1) := by
  have h2 := (nd_last Y hY).1
  rw [top_digit hR, nd_digN, h]
  have e := div_split R ((nd Y).length - 1)
  rw [show (nd Y).length - 1 + 1 = (nd Y).length + 1 - 1 by omega] at e
  rw [show (nd Y).length + 1 - 2 = (nd Y).length - 1 by omega]
  omega
theorem guess_le (R Y : Nat) (n : Nat) : R / 4294967296 ^ n / (Y / 4294967296 ^ n + 1) * Y ≤ R := by
  have hp : 0 < 4294967296 ^ n := Nat.pow_pos (by omega)
  generalize 4294967296 ^ n = P at *
  have h1 : Y ≤ (Y / P + 1) * P := by
    have := Nat.div_add_mod Y P
    have := Nat.mod_lt Y hp
    rw [Nat.add_mul, Nat.mul_comm]
    omega
  have h2 : R / P / (Y / P + 1) * (Y / P + 1) ≤ R / P := Nat.div_mul_le_self _ _
  have h3 : R / P * P ≤ R := Nat.div_mul_le_self _ _
  have h4 : R / P / (Y / P + 1) * Y ≤ R / P / (Y / P + 1) * ((Y / P + 1) * P) := Nat.mul_le_mul_left _ h1
  have h5 : R / P / (Y / P + 1) * ((Y / P + 1) * P) = R / P / (Y / P + 1) * (Y / P + 1) * P := by rw [Nat.mul_assoc]
  have h6 : R / P / (Y / P + 1) * (Y / P + 1) * P ≤ R / P * P := Nat.mul_le_mul_right _ h2
  omega
theorem quot_lt {D Y R r : Nat} (h : r + D * Y = R) (h2 : R < 4294967296 * Y) : D < 4294967296 := by
  refine Nat.lt_of_not_le fun hle => ?_
  have := Nat.mul_le_mul_right Y hle
  omega
theorem rest_mod {D Y R r : Nat} (h : r + D * Y = R) (h2 : r < Y) : r = R % Y := by
  rw [← h, Nat.add_mul_mod_self_right, Nat.mod_eq_of_lt h2]
theorem rest_step (X Y j : Nat) : (X / 4294967296 ^ j % 4294967296 + 4294967296 * (X / 4294967296 ^ (j + 1) % Y)) % Y = X / 4294967296 ^ j % Y := by
  conv => rhs; rw [div_split X j]
  rw [Nat.add_mod, Nat.mul_mod, Nat.mod_mod, ← Nat.mul_mod, ← Nat.add_mod]
theorem rest_lt {Y r x : Nat} (hr : r < Y) (hx : x < 4294967296) : x + 4294967296 * r < 4294967296 * Y := by omega
/-- How far a divisor is shifted. -/
theorem shift_of (y : Nat) (hy : y ≠ 0) : ∃ b : Nat, bitsL (nd y) = (b : Int) ∧ b ≤ 32 * (nd y).length ∧ 32 * (nd y).length - b < 32 ∧ y * 2 ^ (32 * (nd y).length - b) < 4294967296 ^ (nd y).length ∧ 4294967296 ^ (nd y).length ≤ 2 * (y * 2 ^ (32 * (nd y).length - b)) := by
  obtain ⟨b, hb, h1, h2⟩ := bits_nd y
  obtain ⟨h3, h4⟩ := h2 hy
  have hn := (nd_last y hy).1
  have hh := nd_high y
  have hl := nd_low y hy
  have hP : (4294967296 : Nat) ^ (nd y).length = 2 ^ (32 * (nd y).length) := by rw [Nat.pow_mul]
  have hP1 : (4294967296 : Nat) ^ ((nd y).length - 1) = 2 ^ (32 * ((nd y).length - 1)) := by rw [Nat.pow_mul]
  rw [hP] at hh
  rw [hP1] at hl
  have c1 : b - 1 < 32 * (nd y).length := (Nat.pow_lt_pow_iff_right (by omega : 1 < 2)).mp (Nat.lt_of_le_of_lt h4 hh)
  have c2 : 32 * ((nd y).length - 1) < b := (Nat.pow_lt_pow_iff_right (by omega : 1 < 2)).mp (Nat.lt_of_le_of_lt hl h1)
  refine ⟨b, hb, by omega, by omega, ?_, ?_⟩
  · rw [hP]
    have : y * 2 ^ (32 * (nd y).length - b) < 2 ^ b * 2 ^ (32 * (nd y).length - b) := Nat.mul_lt_mul_of_pos_right h1 (Nat.two_pow_pos _)
    rwa [← Nat.pow_add, show b + (32 * (nd y).length - b) = 32 * (nd y).length by omega] at this
  · rw [hP]
    have : 2 ^ (b - 1) * 2 ^ (32 * (nd y).length - b) ≤ y * 2 ^ (32 * (nd y).length - b) := Nat.mul_le_mul_right _ h4
    rw [← Nat.pow_add] at this
    have e : 2 ^ (32 * (nd y).length) = 2 * 2 ^ (b - 1 + (32 * (nd y).length - b)) := by
      rw [← Nat.pow_succ']
      congr 1
      omega
    omega
theorem shift_len (y : Nat) (hy : y ≠ 0) {s : Nat} (h1 : y * 2 ^ s < 4294967296 ^ (nd y).length) : (nd (y * 2 ^ s)).length = (nd y).length := by
  have a := nd_len_le _ _ h1
  have b := nd_len_mono (show y ≤ y * 2 ^ s from Nat.le_mul_of_pos_right _ (Nat.two_pow_pos _))
  have := hy
  omega
theorem unshift (x y s : Nat) : x * 2 ^ s % (y * 2 ^ s) / 2 ^ s = x % y := by
  rw [Nat.mul_mod_mul_right, Nat.mul_div_cancel _ (Nat.two_pow_pos _)]
end Go.Proofs.YtdmfbcfhfopipaaGreatDoor

/- The document's own numbers (its chapter 5): Div, what is left. -/
namespace Go.Proofs.YtdmfbcfhfopipaaGreatDoor
open Go.RowKit

theorem SlV.low {lo : Nat} {w : World} {v : Value} {l : List W32} (h : SlV lo w v l) {p : Addr} (hp : p.block < lo) (u : Value) : SlV lo (w.setCell p u) v l := by
  obtain ⟨A, c, h1, h2, h3⟩ := h
  exact ⟨A, c, h1, h2, h3.low hp u⟩
set_option maxRecDepth 100000 in
set_option maxHeartbeats 4000000 in
theorem ref_div (x y : Nat) (hy : y ≠ 0) (A B : Option Addr) (c d : Nat) (w : World) (hc : (nd x).length ≤ c) (hd : (nd y).length ≤ d) (hlx : (nd x).length ≤ 9000) (hly : (nd y).length ≤ 9000) (lo lo' : Nat) (hA : DigsAt lo w A (nd x)) (hB : DigsAt lo' w B (nd y)) :
    Calls Tryz.prog 78 #[.slice A (nd x).length c, .slice B (nd y).length d] w fun e w' => Below w.heap.size w w' ∧ ∃ v u, e = .returned (.tuple #[v, u]) ∧ SlV w.heap.size w' u (nd (x % y)) := by
  obtain ⟨b, hb, hb1, hb2, hY1, hY2⟩ := shift_of y hy
  obtain ⟨s, hs, hse⟩ : ∃ s : Nat, 32 * ((nd y).length : Int) - (b : Int) = (s : Int) ∧ s = 32 * (nd y).length - b := ⟨_, by omega, rfl⟩
  rw [← hse] at hb2 hY1 hY2
  have hYl := shift_len y hy hY1
  have hYp : y * 2 ^ s ≠ 0 := Nat.mul_ne_zero hy (by have := Nat.two_pow_pos s; omega)
  have hbi := ref_bits B d (nd y) w hd (by omega) lo' hB
  rw [hb] at hbi
  have hua := ref_up x s A c w hb2 (by omega) lo hA
  have hub := fun W (h : Below w.heap.size w W) => ref_up y s B d W hb2 (by omega) lo' (hB.below h)
  have hfin := unshift x y s
  have hXl : (nd (x * 2 ^ s)).length ≤ (nd x).length + 1 := by
    refine nd_len_le _ _ ?_
    rw [Nat.pow_succ]
    exact Nat.mul_lt_mul_of_lt_of_lt (nd_high x) (two_lt s hb2)
  have hXm : (nd (x * 2 ^ s)).length ≤ 9001 := by omega
  have hnyi : ((nd y).length : Int) ≤ 9000 := by omega
  rw [← hYl] at hly
  generalize x * 2 ^ s = X at *
  generalize y * 2 ^ s = Y at *
  have hbb : (b : Int) ≤ 1000000 := by omega
  have HBI := Lib.hid hbi; have HUA := Lib.hid hua; have HUB := Lib.hid hub; have HFIN := Lib.hid hfin; have HYP := Lib.hid hYp; have HXM := Lib.hid hXm; have HYM := Lib.hid hly
  have HS := Lib.hid hb2
  clear hb hb1 hb2 hY1 hY2 hse hbi hua hub hfin hXl hYl hYp hXm hA hB hc hd hlx hly
  generalize (nd x).length = nx at *
  generalize (nd y).length = ny at *
  go_enter Tryz.func78, Tryz.ntmps78
  repeat (first | (go_at_call 21; refine (Hid.out (p := _) ?_)) | go_values | go_skip | go_guarded | go_step | go_upon | go_back)
  refine Lib.hid ?_
  refine HBI.out.mono ?_
  rintro e w0 ⟨rfl, rfl⟩
  simp only []
  repeat (first | (go_at_call 157; refine (Hid.out (p := _) ?_)) | go_values | go_skip | go_guarded | go_step | go_upon | go_back)
  refine Lib.hid ?_
  refine HUA.out.mono ?_
  rintro e w1 ⟨hB1, v1, rfl, A1, c1, rfl, hc1, hD1⟩
  have HB1 := Lib.hid hB1; have HD1 := Lib.hid hD1; have HC1 := Lib.hid hc1
  clear hB1 hD1 hc1
  simp only []
  repeat (first | (go_at_call 157; refine (Hid.out (p := _) ?_)) | go_values | go_skip | go_guarded | go_step | go_upon | go_back)
  refine Lib.hid ?_
  refine (HUB.out _ HB1.out).mono ?_
  rintro e w2 ⟨hB2, v2, rfl, A2, c2, rfl, hc2, hD2⟩
  have HB2 := Lib.hid (HB1.out.trans (hB2.mono HB1.out.size))
  have HA := Lib.hid (HD1.out.below hB2)
  have HB := Lib.hid hD2
  clear hB2 hD2 hc2 HD1 HBI HUA HUB HC1
  simp only []
  have hmk := run_make_row' 43 64 (.int .u32 0) 4 Tryz.underlying43 info_u32 rfl .i64 .i64 (nd X).length (by have := HXM.out; omega) (by have := HXM.out; omega) w2
  rw [zer_enc] at hmk
  have hXi : ((nd X).length : Int) ≤ 9001 := by have := HXM.out; omega
  have hYi : ((nd Y).length : Int) ≤ 9000 := by have := HYM.out; omega
  repeat (first | (fail) | go_values | go_skip | go_guarded | go_step | go_upon | go_back)
  obtain ⟨g, hg⟩ : ∃ g, g = w2.heap.size := ⟨_, rfl⟩
  have hb3 : Blk (w2.alloc (.cells (encW (List.replicate (nd X).length 0)) 64)) g (encW (List.replicate (nd X).length 0)) 64 := by rw [hg]; exact Blk.new w2 _ _
  have hB3 : Below g w2 (w2.alloc (.cells (encW (List.replicate (nd X).length 0)) 64)) := (Below.refl g w2).alloc (by omega) _
  rw [show (⟨w2.heap.size, 0, none⟩ : Addr) = ⟨g, 0, none⟩ by rw [hg]]
  generalize w2.alloc (.cells (encW (List.replicate (nd X).length 0)) 64) = w3 at hb3 hB3 ⊢
  have HAA : ∀ W, Below g w2 W → DigsAt w.heap.size W A1 (nd X) := fun W h => HA.out.below (by rw [← hg]; exact h)
  have HBB : ∀ W, Below g w2 W → DigsAt w1.heap.size W A2 (nd Y) := fun W h => HB.out.below (by rw [← hg]; exact h)
  have H0 := Lib.hid (And.intro hb3 hB3); have HAA := Lib.hid HAA; have HBB := Lib.hid HBB
  have HG := Lib.hid (show w.heap.size ≤ g by rw [hg]; exact HB2.out.size)
  clear hb3 hB3 hmk hg HA HB hs hnyi hbb HB1
  go_loopw [9, 10] (fun v z wr => ∃ (j : Nat) (zi : Int) (R : Nat) (Q : List W32), j ≤ (nd X).length ∧ z = .int .i64 zi ∧ Hid (zi = (j : Int) - 1) ∧ Hid (R = X / 4294967296 ^ j % Y ∧ Q.length = (nd X).length) ∧ Hid (SlV (g + 1) wr v (nd R) ∧ Blk wr g (encW Q) 64 ∧ Below g w2 wr)) (fun _ z _ => (intOf z + 1).toNat)
  case atStart => exact ⟨(nd X).length, _, 0, _, Nat.le_refl _, rfl, Lib.hid rfl, Lib.hid ⟨by rw [Nat.div_eq_of_lt (nd_high X)]; simp, by simp⟩, Lib.hid ⟨⟨none, 0, by rw [nd_zero]; rfl, by rw [nd_zero]; exact Nat.le_refl _, .inl nd_zero⟩, H0.out⟩⟩
  case round =>
    obtain ⟨j, zi, R, Q, hj, rfl, hz, hR, hT⟩ := hrel
    have hRY : R < Y := by rw [hR.out.1]; exact Nat.mod_lt _ (by have := HYP.out; omega)
    have hRl : (nd R).length ≤ 9000 := Nat.le_trans (nd_len_mono (Nat.le_of_lt hRY)) HYM.out
    obtain ⟨⟨A3, c3, rfl, k1, k2⟩, q1, b1⟩ := hT.out
    have K1 := Lib.hid k1; have K2 := Lib.hid k2; have Q1 := Lib.hid q1; have B1 := Lib.hid b1
    clear k1 k2 q1 b1 hT
    cases j with
    | zero =>
      obtain rfl : zi = -1 := by have := hz.out; omega
      have hdn := ref_down R s A3 c3 wr HS.out (by omega) _ K2.out
      have hR1 := hR.out.1
      rw [Nat.pow_zero, Nat.div_one] at hR1
      rw [hR1, HFIN.out, ← hR1] at hdn
      have htr := ref_trim_va (some ⟨g, 0, none⟩) (nd X).length Q wr (by rw [hR.out.2]; exact Nat.le_refl _) (by rw [hR.out.2]; have := HXM.out; omega) g (blk_digs Q1.out (Nat.le_refl _))
      rw [hR.out.2] at htr
      have HDN := Lib.hid hdn; have HTR := Lib.hid htr
      have HBW := Lib.hid (HB2.out.trans (B1.out.mono HG.out))
      clear hdn htr hR1 hR hz hRY hRl
      repeat (first | (go_at_call 77; refine (Hid.out (p := _) ?_)) | go_values | go_skip | go_guarded | go_step | go_upon | go_back)
      refine Lib.hid ?_
      refine HTR.out.mono ?_
      rintro e w1 ⟨rfl, rfl⟩
      simp only []
      repeat (first | (go_at_call 160; refine (Hid.out (p := _) ?_)) | go_values | go_skip | go_guarded | go_step | go_upon | go_back)
      refine Lib.hid ?_
      refine HDN.out.mono ?_
      rintro e w5 ⟨hB5, v5, rfl, hv5⟩
      have HB5 := Lib.hid (HBW.out.trans (hB5.mono HBW.out.size))
      have HV5 := Lib.hid (hv5.mono HBW.out.size)
      clear hB5 hv5
      simp only []
      repeat (first | (fail) | go_values | go_skip | go_guarded | go_step | go_upon | go_back)
      go_ret2
      exact ⟨HB5.out, _, _, rfl, HV5.out⟩
    | succ k =>
      obtain rfl : zi = (k : Int) := by have := hz.out; omega
      have hkl : k < (nd X).length := hj
      obtain ⟨bX, rfl, _, _, hcX⟩ := (HAA.out _ B1.out).cells (by omega)
      have q1 := hcX k hkl
      have hxk := toNat_lt32 ((nd X).getD k 0)
      have hxv := nd_digN X k
      generalize ((nd X).getD k 0).toNat = xk at q1 hxk hxv
      have hki : (k : Int) < ((nd X).length : Int) := by omega
      have hmv := ref_moved R xk A3 c3 wr hxk (by omega) _ K2.out
      have hR0Y := rest_lt hRY hxk
      have hR0m : (xk + 4294967296 * R) % Y = X / 4294967296 ^ k % Y := by rw [hxv, hR.out.1]; exact rest_step X Y k
      generalize xk + 4294967296 * R = R0 at hmv hR0Y hR0m
      have HMV := Lib.hid hmv; have HR0Y := Lib.hid hR0Y; have HR0M := Lib.hid hR0m; have HQL := Lib.hid hR.out.2; have HKL := Lib.hid hkl
      clear hmv hR0Y hR0m hcX hxv hxk hR hz hRY hRl hkl
      repeat (first | (go_at_call 158; refine (Hid.out (p := _) ?_)) | go_values | go_skip | go_guarded | go_step | go_upon | go_back)
      refine Lib.hid ?_
      clear q1
      refine HMV.out.mono ?_
      rintro e w4 ⟨hB4, v4, rfl, A4, c4, rfl, k1, k2⟩
      have hgw := Q1.out.lt
      have H4 := Lib.hid (And.intro (Q1.out.below hB4 hgw) (B1.out.trans (hB4.mono (by omega))))
      have K4 := Lib.hid (k2.mono (show g + 1 ≤ wr.heap.size from hgw)); have KC := Lib.hid k1
      clear hB4 k1 k2 hgw HMV K1 K2 Q1 B1
      simp only []
      have hR0l : (nd R0).length ≤ 9001 := by
        rcases Nat.lt_or_ge R0 Y with h | h
        · have := nd_len_mono (Nat.le_of_lt h); have := HYM.out; omega
        · rcases guess_len HYP.out h HR0Y.out with h2 | h2 <;> (have := HYM.out; omega)
      have hcm := ref_cmp R0 Y A4 A2 c4 c2 w4 (by omega) _ _ K4.out (HBB.out _ H4.out.2)
      have HCM := Lib.hid hcm; have HRL := Lib.hid hR0l
      clear hcm hR0l
      repeat (first | (go_at_call 44; refine (Hid.out (p := _) ?_)) | go_values | go_skip | go_guarded | go_step | go_upon | go_back)
      refine Lib.hid ?_
      refine HCM.out.mono ?_
      rintro e w5 ⟨rfl, hB5⟩
      have hgw := H4.out.1.lt
      have H5 := Lib.hid (And.intro (H4.out.1.below hB5 hgw) (H4.out.2.trans (hB5.mono (by omega))))
      have K5 := Lib.hid (K4.out.below hB5)
      clear hB5 hgw H4 K4 HCM
      simp only []
      by_cases hlt : R0 < Y
      · rw [cmpI_lt hlt]
        have hnr : Hid (R0 = X / 4294967296 ^ k % Y ∧ Q.length = (nd X).length) := Lib.hid ⟨by rw [← HR0M.out, Nat.mod_eq_of_lt hlt], HQL.out⟩
        clear hlt
        repeat (first | (fail) | go_values | go_skip | go_guarded | go_step | go_upon | go_back)
        go_roundw
        case rel => exact ⟨k, (k : Int) - 1, R0, Q, by have := HKL.out; omega, by go_num, Lib.hid rfl, hnr, Lib.hid ⟨⟨A4, c4, rfl, KC.out, K5.out⟩, H5.out⟩⟩
        case measure => simp [intOf]
      · have hge : ¬ (cmpI R0 Y < 0) := fun h => hlt (cmpI_neg.1 h)
        generalize cmpI R0 Y = cm at hge
        have hYR : Y ≤ R0 := by omega
        have hR00 : R0 ≠ 0 := by have := HYP.out; omega
        have hYn := (nd_last Y HYP.out).1
        obtain ⟨bR, rfl, _, _, hcR⟩ := K5.out.cells (nd_last R0 hR00).1
        obtain ⟨bY, rfl, _, _, hcY⟩ := (HBB.out _ H5.out.2).cells hYn
        have htd := top_digit HYP.out
        have hdle := guess_le R0 Y ((nd Y).length - 1)
        have ht1 := guess_top1 (Y := Y) hR00
        have ht2 := guess_top2 HYP.out hR00
        have hcYn := hcY ((nd Y).length - 1) (by omega)
        have hb1l := toNat_lt32 ((nd Y).getD ((nd Y).length - 1) 0)
        rw [htd] at hcYn hb1l
        generalize Y / 4294967296 ^ ((nd Y).length - 1) = b1v at hdle hcYn hb1l
        generalize R0 / 4294967296 ^ ((nd Y).length - 1) = T at hdle ht1 ht2
        obtain ⟨m1, hm1, hm1e⟩ : ∃ m1 : Nat, ((nd Y).length : Int) - 1 = (m1 : Int) ∧ m1 = (nd Y).length - 1 := ⟨_, by omega, rfl⟩
        rw [← hm1e] at hcYn
        obtain ⟨b2, hb2i, hb2e⟩ : ∃ b2 : Nat, (b1v : Int) + 1 = (b2 : Int) ∧ b2 = b1v + 1 := ⟨_, by push_cast; rfl, rfl⟩
        rw [← hb2e] at hdle
        have hb2p : (0 : Int) < (b2 : Int) := by omega
        have hb1i : (b1v : Int) < 4294967296 := by omega
        obtain ⟨dv, hdv, hdve⟩ : ∃ dv : Nat, (T : Int) / (b2 : Int) = (dv : Int) ∧ dv = T / b2 := ⟨_, by rw [Int.natCast_ediv], rfl⟩
        rw [← hdve] at hdle
        have hsum : (R0 - dv * Y) + dv * Y = R0 := by omega
        have hdB := quot_lt hsum HR0Y.out
        have hdBi : (dv : Int) < 4294967296 := by omega
        have hdm : (dv : Int) % 4294967296 = (dv : Int) := by omega
        have hdq : (dv : Int) / 4294967296 = 0 := by omega
        have hm1l : (m1 : Int) < ((nd Y).length : Int) := by omega
        have hRli : ((nd R0).length : Int) ≤ 9001 := by have := HRL.out; omega
        have hLL := guess_len HYP.out hYR HR0Y.out
        have HDL := Lib.hid hdle; have HSUM := Lib.hid hsum; have HYR := Lib.hid hYR
        have htl1 := toNat_lt32 ((nd R0).getD ((nd R0).length - 1) 0)
        have htl2 := toNat_lt32 ((nd R0).getD ((nd R0).length - 2) 0)
        have hl0 := (nd_last R0 hR00).1
        obtain ⟨i1, hi1, hi1e⟩ : ∃ i1 : Nat, ((nd R0).length : Int) - 1 = (i1 : Int) ∧ i1 = (nd R0).length - 1 := ⟨_, by omega, rfl⟩
        have q1 := hcR i1 (by omega)
        have hi1l : (i1 : Int) < ((nd R0).length : Int) := by omega
        have HB5 := Lib.hid hcYn
        rcases hLL with hL | hL
        · have e1 := ht1 hL
          rw [← hi1e] at e1
          rw [e1] at q1
          have hno : ¬ (((nd Y).length : Int) < ((nd R0).length : Int)) := by omega
          have hTb : (T : Int) < 18446744073709551616 := by rw [← hi1e, e1] at htl1; omega
          clear htl1 htl2 e1 ht1 ht2 hL hcR hcY htd hi1e hm1e hb2e hdve hdle hsum hYR hR00 hYn hl0 hlt hdB hb1l
          repeat (first | (go_at_call 77; refine (Hid.out (p := _) ?_)) | go_values | go_skip | go_guarded | go_step | go_upon | go_back)
          refine Lib.hid ?_
          have h2 : (2 : Nat) ≤ 2 := Nat.le_refl _
          have hcs : encW [BitVec.ofNat 32 dv, 0#32] = #[Value.int .u32 (dv : Int), .int .u32 0] := by simp [encW, vw, wd_lit dv (by omega), show wd 0#32 = 0 from rfl]
          have hbn : Blk (w5.alloc (.cells #[Value.int .u32 (dv : Int), .int .u32 0] 64)) w5.heap.size (encW [BitVec.ofNat 32 dv, 0#32]) 64 := by rw [hcs]; exact Blk.new w5 _ _
          have hD6 := blk_digs hbn (Nat.le_refl _)
          have hva : va [BitVec.ofNat 32 dv, 0#32] = dv := by simp [va]; omega
          have htr := ref_trim_va (some ⟨w5.heap.size, 0, none⟩) 2 [BitVec.ofNat 32 dv, 0#32] _ h2 (by simp) _ hD6
          have hDT := hD6.trim
          have hle6 := len_va_le [BitVec.ofNat 32 dv, 0#32]
          rw [hva] at htr hDT hle6
          have HTR := Lib.hid htr; have HD6 := Lib.hid hDT; have HL6 := Lib.hid hle6
          have hg5 := H5.out.1.lt
          have hw6 : Below g w2 (w5.alloc (.cells #[Value.int .u32 (dv : Int), .int .u32 0] 64)) := H5.out.2.alloc (by omega) _
          have hq6 : Blk (w5.alloc (.cells #[Value.int .u32 (dv : Int), .int .u32 0] 64)) g (encW Q) 64 := H5.out.1.alloc _
          have H6 := Lib.hid (And.intro hq6 hw6)
          have K6 := Lib.hid (K5.out.below ((Below.refl w5.heap.size w5).alloc (Nat.le_refl _) (.cells #[Value.int .u32 (dv : Int), .int .u32 0] 64)))
          clear h2 hcs hbn hD6 hva htr hDT hle6 hg5 hw6 hq6 H5 K5 q1
          generalize w5.alloc (.cells #[Value.int .u32 (dv : Int), .int .u32 0] 64) = w6 at *
          refine HTR.out.mono ?_
          rintro e w7 ⟨rfl, rfl⟩
          simp only []
          have HML := Lib.hid (ref_mul (some ⟨bY, 0, none⟩) (some ⟨w5.heap.size, 0, none⟩) c2 2 (nd Y) (nd dv) w6 (by have := HL6.out; have := HYM.out; simp at *; omega) _ _ (HBB.out _ H6.out.2) HD6.out)
          repeat (first | (go_at_call 79; refine (Hid.out (p := _) ?_)) | go_values | go_skip | go_guarded | go_step | go_upon | go_back)
          refine Lib.hid ?_
          refine HML.out.mono ?_
          rintro e w7 ⟨hB7, v7, rfl, A7, c7, rfl, k1, k2⟩
          rw [va_nd, va_nd, Nat.mul_comm Y dv] at k1 k2
          have hgw := H6.out.1.lt
          have H7 := Lib.hid (And.intro (H6.out.1.below hB7 hgw) (H6.out.2.trans (hB7.mono (by omega))))
          have K7 := Lib.hid (K6.out.below hB7)
          have HSB := Lib.hid (ref_sub R0 (dv * Y) (some ⟨bR, 0, none⟩) A7 c4 c7 w7 HDL.out (by have := HRL.out; omega) _ _ K7.out k2)
          rw [va_nd, va_nd, Nat.mul_comm Y dv]
          clear hgw k1 k2 hB7 H6 K6 HML HTR HD6 HL6
          simp only []
          repeat (first | (go_at_call 159; refine (Hid.out (p := _) ?_)) | go_values | go_skip | go_guarded | go_step | go_upon | go_back)
          refine Lib.hid ?_
          refine HSB.out.mono ?_
          rintro e w8 ⟨hB8, v8, rfl, A8, c8, rfl, k1, k2⟩
          have hgw := H7.out.1.lt
          have H8 := Lib.hid (And.intro (H7.out.1.below hB8 hgw) (H7.out.2.trans (hB8.mono (by omega))))
          have K8 := Lib.hid (SlV.mono (lo' := g + 1) ⟨A8, c8, rfl, k1, k2⟩ hgw)
          clear hgw k1 k2 hB8 H7 K7 HSB
          simp only []
          repeat (first | (fail) | go_values | go_skip | go_guarded | go_step | go_upon | go_back)
          go_loopw [9, 12] (fun v z wr => ∃ (r D : Nat), z = .int .u64 (D : Int) ∧ (D : Int) < 4294967296 ∧ Hid (r + D * Y = R0) ∧ Hid (SlV (g + 1) wr v (nd r) ∧ Blk wr g (encW Q) 64 ∧ Below g w2 wr)) (fun _ z _ => 4294967296 - (intOf z).toNat)
          case atStart => exact ⟨R0 - dv * Y, dv, rfl, hdBi, HSUM, Lib.hid ⟨K8.out, H8.out⟩⟩
          case round =>
            obtain ⟨r, D, rfl, hDB, hrD, hT⟩ := hrel
            obtain ⟨⟨A9, c9, rfl, k1, k2⟩, q9, b9⟩ := hT.out
            have K9 := Lib.hid k1; have KD := Lib.hid k2; have H9 := Lib.hid (And.intro q9 b9)
            clear k1 k2 q9 b9 hT
            have hrl : (nd r).length ≤ 9001 := Nat.le_trans (nd_len_mono (by have := hrD.out; omega)) HRL.out
            have HCM := Lib.hid (ref_cmp r Y A9 (some ⟨bY, 0, none⟩) c9 c2 wr (by omega) _ _ KD.out (HBB.out _ H9.out.2))
            repeat (first | (go_at_call 44; refine (Hid.out (p := _) ?_)) | go_values | go_skip | go_guarded | go_step | go_upon | go_back)
            refine Lib.hid ?_
            refine HCM.out.mono ?_
            rintro e wA ⟨rfl, hBA⟩
            have hgw := H9.out.1.lt
            have HE := Lib.hid (And.intro (H9.out.1.below hBA hgw) (H9.out.2.trans (hBA.mono (by omega))))
            have KE := Lib.hid (KD.out.below hBA)
            clear hBA hgw H9 KD HCM
            simp only []
            by_cases hlt : r < Y
            · rw [cmpI_lt hlt]
              have hrm : Hid (r = X / 4294967296 ^ k % Y) := Lib.hid (by rw [← HR0M.out]; exact rest_mod hrD.out hlt)
              have qk := cell_get HE.out.1 k (by rw [HQL.out]; exact HKL.out)
              have fk := HE.out.1.free k
              have hnb := cell_set HE.out.1 k D (by omega)
              have hnB := HE.out.2.setCell (p := ⟨g, k, none⟩) (Nat.le_refl _) (.int .u32 (D : Int))
              have hnv := SlV.low ⟨A9, c9, rfl, K9.out, KE.out⟩ (p := ⟨g, k, none⟩) (Nat.lt_succ_self g) (.int .u32 (D : Int))
              have HN := Lib.hid (And.intro hnv (And.intro hnb hnB))
              have hkX : (k : Int) < ((nd X).length : Int) := by have := HKL.out; omega
              clear hlt hnb hnB hnv HE KE K9 hrD
              repeat (first | (fail) | go_values | go_skip | go_guarded | go_step | go_upon | go_back)
              go_roundw
              case rel => exact ⟨k, (k : Int) - 1, r, _, by have := HKL.out; omega, by go_num, Lib.hid rfl, Lib.hid ⟨hrm.out, by rw [List.length_set]; exact HQL.out⟩, HN⟩
              case measure => simp [intOf]
            · have hge : (0 : Int) ≤ cmpI r Y := cmpI_nonneg.2 (by omega)
              generalize cmpI r Y = cn at hge
              have HSB := Lib.hid (ref_sub r Y A9 (some ⟨bY, 0, none⟩) c9 c2 wA (by omega) (by omega) _ _ KE.out (HBB.out _ HE.out.2))
              have hsum2 : (r - Y) + (D + 1) * Y = R0 := by rw [Nat.add_mul]; have := hrD.out; omega
              have hDB2 := quot_lt hsum2 HR0Y.out
              have HS2 := Lib.hid hsum2
              clear hlt hsum2 hrD
              repeat (first | (go_at_call 159; refine (Hid.out (p := _) ?_)) | go_values | go_skip | go_guarded | go_step | go_upon | go_back)
              refine Lib.hid ?_
              refine HSB.out.mono ?_
              rintro e wB ⟨hBB, v9, rfl, A0, c0, rfl, k1, k2⟩
              have hgw := HE.out.1.lt
              have HF := Lib.hid (And.intro (SlV.mono (lo' := g + 1) ⟨A0, c0, rfl, k1, k2⟩ hgw) (And.intro (HE.out.1.below hBB hgw) (HE.out.2.trans (hBB.mono (by omega)))))
              clear hgw k1 k2 hBB HE KE HSB
              simp only []
              repeat (first | (fail) | go_values | go_skip | go_guarded | go_step | go_upon | go_back)
              go_roundw
              case rel => exact ⟨r - Y, D + 1, by go_num, by omega, HS2, HF⟩
              case measure => simp [intOf]; omega
        · have hn1 : 2 ≤ (nd R0).length := by omega
          obtain ⟨i0, hi0, hi0e⟩ : ∃ i0 : Nat, ((nd R0).length : Int) - 2 = (i0 : Int) ∧ i0 = (nd R0).length - 2 := ⟨_, by omega, rfl⟩
          have q0 := hcR i0 (by omega)
          have e1 := ht2 hL
          rw [← hi1e, ← hi0e] at e1
          rw [← hi1e] at htl1
          rw [← hi0e] at htl2
          generalize ((nd R0).getD i1 0).toNat = t1 at q1 e1 htl1
          generalize ((nd R0).getD i0 0).toNat = t0 at q0 e1 htl2
          have hTe : (t1 : Int) * 4294967296 + (t0 : Int) = (T : Int) := by omega
          have hTb : (T : Int) < 18446744073709551616 := by omega
          have hyes : ((nd Y).length : Int) < ((nd R0).length : Int) := by omega
          have hi0l : (i0 : Int) < ((nd R0).length : Int) := by omega
          have ht1i : (t1 : Int) < 4294967296 := by omega
          have ht0i : (t0 : Int) < 4294967296 := by omega
          clear htl1 htl2 e1 ht1 ht2 hL hcR hcY htd hi1e hi0e hm1e hb2e hdve hdle hsum hYR hR00 hYn hl0 hlt hdB hb1l hn1
          repeat (first | (go_at_call 77; refine (Hid.out (p := _) ?_)) | go_values | go_skip | go_guarded | go_step | go_upon | go_back)
          refine Lib.hid ?_
          have h2 : (2 : Nat) ≤ 2 := Nat.le_refl _
          have hcs : encW [BitVec.ofNat 32 dv, 0#32] = #[Value.int .u32 (dv : Int), .int .u32 0] := by simp [encW, vw, wd_lit dv (by omega), show wd 0#32 = 0 from rfl]
          have hbn : Blk (w5.alloc (.cells #[Value.int .u32 (dv : Int), .int .u32 0] 64)) w5.heap.size (encW [BitVec.ofNat 32 dv, 0#32]) 64 := by rw [hcs]; exact Blk.new w5 _ _
          have hD6 := blk_digs hbn (Nat.le_refl _)
          have hva : va [BitVec.ofNat 32 dv, 0#32] = dv := by simp [va]; omega
          have htr := ref_trim_va (some ⟨w5.heap.size, 0, none⟩) 2 [BitVec.ofNat 32 dv, 0#32] _ h2 (by simp) _ hD6
          have hDT := hD6.trim
          have hle6 := len_va_le [BitVec.ofNat 32 dv, 0#32]
          rw [hva] at htr hDT hle6
          have HTR := Lib.hid htr; have HD6 := Lib.hid hDT; have HL6 := Lib.hid hle6
          have hg5 := H5.out.1.lt
          have hw6 : Below g w2 (w5.alloc (.cells #[Value.int .u32 (dv : Int), .int .u32 0] 64)) := H5.out.2.alloc (by omega) _
          have hq6 : Blk (w5.alloc (.cells #[Value.int .u32 (dv : Int), .int .u32 0] 64)) g (encW Q) 64 := H5.out.1.alloc _
          have H6 := Lib.hid (And.intro hq6 hw6)
          have K6 := Lib.hid (K5.out.below ((Below.refl w5.heap.size w5).alloc (Nat.le_refl _) (.cells #[Value.int .u32 (dv : Int), .int .u32 0] 64)))
          clear h2 hcs hbn hD6 hva htr hDT hle6 hg5 hw6 hq6 H5 K5 q1
          generalize w5.alloc (.cells #[Value.int .u32 (dv : Int), .int .u32 0] 64) = w6 at *
          refine HTR.out.mono ?_
          rintro e w7 ⟨rfl, rfl⟩
          simp only []
          have HML := Lib.hid (ref_mul (some ⟨bY, 0, none⟩) (some ⟨w5.heap.size, 0, none⟩) c2 2 (nd Y) (nd dv) w6 (by have := HL6.out; have := HYM.out; simp at *; omega) _ _ (HBB.out _ H6.out.2) HD6.out)
          repeat (first | (go_at_call 79; refine (Hid.out (p := _) ?_)) | go_values | go_skip | go_guarded | go_step | go_upon | go_back)
          refine Lib.hid ?_
          refine HML.out.mono ?_
          rintro e w7 ⟨hB7, v7, rfl, A7, c7, rfl, k1, k2⟩
          rw [va_nd, va_nd, Nat.mul_comm Y dv] at k1 k2
          have hgw := H6.out.1.lt
          have H7 := Lib.hid (And.intro (H6.out.1.below hB7 hgw) (H6.out.2.trans (hB7.mono (by omega))))
          have K7 := Lib.hid (K6.out.below hB7)
          have HSB := Lib.hid (ref_sub R0 (dv * Y) (some ⟨bR, 0, none⟩) A7 c4 c7 w7 HDL.out (by have := HRL.out; omega) _ _ K7.out k2)
          rw [va_nd, va_nd, Nat.mul_comm Y dv]
          clear hgw k1 k2 hB7 H6 K6 HML HTR HD6 HL6
          simp only []
          repeat (first | (go_at_call 159; refine (Hid.out (p := _) ?_)) | go_values | go_skip | go_guarded | go_step | go_upon | go_back)
          refine Lib.hid ?_
          refine HSB.out.mono ?_
          rintro e w8 ⟨hB8, v8, rfl, A8, c8, rfl, k1, k2⟩
          have hgw := H7.out.1.lt
          have H8 := Lib.hid (And.intro (H7.out.1.below hB8 hgw) (H7.out.2.trans (hB8.mono (by omega))))
          have K8 := Lib.hid (SlV.mono (lo' := g + 1) ⟨A8, c8, rfl, k1, k2⟩ hgw)
          clear hgw k1 k2 hB8 H7 K7 HSB
          simp only []
          repeat (first | (fail) | go_values | go_skip | go_guarded | go_step | go_upon | go_back)
          go_loopw [9, 12] (fun v z wr => ∃ (r D : Nat), z = .int .u64 (D : Int) ∧ (D : Int) < 4294967296 ∧ Hid (r + D * Y = R0) ∧ Hid (SlV (g + 1) wr v (nd r) ∧ Blk wr g (encW Q) 64 ∧ Below g w2 wr)) (fun _ z _ => 4294967296 - (intOf z).toNat)
          case atStart => exact ⟨R0 - dv * Y, dv, rfl, hdBi, HSUM, Lib.hid ⟨K8.out, H8.out⟩⟩
          case round =>
            obtain ⟨r, D, rfl, hDB, hrD, hT⟩ := hrel
            obtain ⟨⟨A9, c9, rfl, k1, k2⟩, q9, b9⟩ := hT.out
            have K9 := Lib.hid k1; have KD := Lib.hid k2; have H9 := Lib.hid (And.intro q9 b9)
            clear k1 k2 q9 b9 hT
            have hrl : (nd r).length ≤ 9001 := Nat.le_trans (nd_len_mono (by have := hrD.out; omega)) HRL.out
            have HCM := Lib.hid (ref_cmp r Y A9 (some ⟨bY, 0, none⟩) c9 c2 wr (by omega) _ _ KD.out (HBB.out _ H9.out.2))
            repeat (first | (go_at_call 44; refine (Hid.out (p := _) ?_)) | go_values | go_skip | go_guarded | go_step | go_upon | go_back)
            refine Lib.hid ?_
            refine HCM.out.mono ?_
            rintro e wA ⟨rfl, hBA⟩
            have hgw := H9.out.1.lt
            have HE := Lib.hid (And.intro (H9.out.1.below hBA hgw) (H9.out.2.trans (hBA.mono (by omega))))
            have KE := Lib.hid (KD.out.below hBA)
            clear hBA hgw H9 KD HCM
            simp only []
            by_cases hlt : r < Y
            · rw [cmpI_lt hlt]
              have hrm : Hid (r = X / 4294967296 ^ k % Y) := Lib.hid (by rw [← HR0M.out]; exact rest_mod hrD.out hlt)
              have qk := cell_get HE.out.1 k (by rw [HQL.out]; exact HKL.out)
              have fk := HE.out.1.free k
              have hnb := cell_set HE.out.1 k D (by omega)
              have hnB := HE.out.2.setCell (p := ⟨g, k, none⟩) (Nat.le_refl _) (.int .u32 (D : Int))
              have hnv := SlV.low ⟨A9, c9, rfl, K9.out, KE.out⟩ (p := ⟨g, k, none⟩) (Nat.lt_succ_self g) (.int .u32 (D : Int))
              have HN := Lib.hid (And.intro hnv (And.intro hnb hnB))
              have hkX : (k : Int) < ((nd X).length : Int) := by have := HKL.out; omega
              clear hlt hnb hnB hnv HE KE K9 hrD
              repeat (first | (fail) | go_values | go_skip | go_guarded | go_step | go_upon | go_back)
              go_roundw
              case rel => exact ⟨k, (k : Int) - 1, r, _, by have := HKL.out; omega, by go_num, Lib.hid rfl, Lib.hid ⟨hrm.out, by rw [List.length_set]; exact HQL.out⟩, HN⟩
              case measure => simp [intOf]
            · have hge : (0 : Int) ≤ cmpI r Y := cmpI_nonneg.2 (by omega)
              generalize cmpI r Y = cn at hge
              have HSB := Lib.hid (ref_sub r Y A9 (some ⟨bY, 0, none⟩) c9 c2 wA (by omega) (by omega) _ _ KE.out (HBB.out _ HE.out.2))
              have hsum2 : (r - Y) + (D + 1) * Y = R0 := by rw [Nat.add_mul]; have := hrD.out; omega
              have hDB2 := quot_lt hsum2 HR0Y.out
              have HS2 := Lib.hid hsum2
              clear hlt hsum2 hrD
              repeat (first | (go_at_call 159; refine (Hid.out (p := _) ?_)) | go_values | go_skip | go_guarded | go_step | go_upon | go_back)
              refine Lib.hid ?_
              refine HSB.out.mono ?_
              rintro e wB ⟨hBB, v9, rfl, A0, c0, rfl, k1, k2⟩
              have hgw := HE.out.1.lt
              have HF := Lib.hid (And.intro (SlV.mono (lo' := g + 1) ⟨A0, c0, rfl, k1, k2⟩ hgw) (And.intro (HE.out.1.below hBB hgw) (HE.out.2.trans (hBB.mono (by omega)))))
              clear hgw k1 k2 hBB HE KE HSB
              simp only []
              repeat (first | (fail) | go_values | go_skip | go_guarded | go_step | go_upon | go_back)
              go_roundw
              case rel => exact ⟨r - Y, D + 1, by go_num, by omega, HS2, HF⟩
              case measure => simp [intOf]; omega
end Go.Proofs.YtdmfbcfhfopipaaGreatDoor

/- The document's own numbers (its chapter 5): Pow. -/
namespace Go.Proofs.YtdmfbcfhfopipaaGreatDoor
open Go.RowKit

theorem nd_one : nd 1 = [1#32] := by rw [nd_pos (by omega), show 1 / 4294967296 = 0 from rfl, nd_zero]
theorem bits_len (e : Nat) : ∃ b : Nat, bitsL (nd e) = (b : Int) ∧ e < 2 ^ b ∧ b ≤ 32 * (nd e).length := by
  by_cases h : e = 0
  · subst h; exact ⟨0, by rw [nd_zero]; rfl, by simp, by omega⟩
  · obtain ⟨b, h1, h2, _⟩ := shift_of e h
    obtain ⟨b', h3, h4, _⟩ := bits_nd e
    obtain rfl : b = b' := by omega
    exact ⟨b, h1, h4, h2⟩
set_option maxRecDepth 100000 in
set_option maxHeartbeats 4000000 in
theorem ref_pow (s e n : Nat) (hn : n ≠ 0) (A B C : Option Addr) (c d f : Nat) (w : World) (hc : (nd s).length ≤ c) (hd : (nd e).length ≤ d) (hf : (nd n).length ≤ f) (hls : (nd s).length ≤ 3000) (hle : (nd e).length ≤ 3000) (hln : (nd n).length ≤ 3000)
    (lo lo' lo'' : Nat) (hA : DigsAt lo w A (nd s)) (hB : DigsAt lo' w B (nd e)) (hC : DigsAt lo'' w C (nd n)) :
    Calls Tryz.prog 46 #[.slice A (nd s).length c, .slice B (nd e).length d, .slice C (nd n).length f] w fun en w' => Below w.heap.size w w' ∧ ∃ v, en = .returned v ∧ SlV w.heap.size w' v (nd (s ^ e % n)) := by
  obtain ⟨b, hb, hbe, hbl⟩ := bits_len e
  have hb1 : Blk (w.alloc (.cells #[.int .u32 1] 64)) w.heap.size (encW (nd 1)) 64 := by
    rw [nd_one, show encW [1#32] = #[Value.int .u32 1] from rfl]; exact Blk.new w _ _
  have hB1 : Below w.heap.size w (w.alloc (.cells #[.int .u32 1] 64)) := (Below.refl _ w).alloc (Nat.le_refl _) _
  have hd1 := ref_div 1 n hn (some ⟨w.heap.size, 0, none⟩) C 1 f _ (by rw [nd_one]; exact Nat.le_refl _) hf (by rw [nd_one]; simp) (by omega) _ _ (blk_digs hb1 (Nat.le_refl _)) (hC.below hB1)
  have hd2 := fun W (h : Below w.heap.size w W) => ref_div s n hn A C c f W hc hf (by omega) (by omega) _ _ (hA.below h) (hC.below h)
  have hbi := fun W (h : Below w.heap.size w W) => ref_bits B d (nd e) W hd (by omega) _ (hB.below h)
  simp only [hb] at hbi
  rw [show (nd 1).length = 1 by rw [nd_one]; rfl] at hd1
  have HD1 := Lib.hid hd1; have HD2 := Lib.hid hd2; have HBI := Lib.hid hbi; have HB1 := Lib.hid hB1; have HBE := Lib.hid hbe; have HBL := Lib.hid hbl
  have HB := Lib.hid hB; have HC := Lib.hid hC; have HLN := Lib.hid hln; have HLE := Lib.hid hle; have HF := Lib.hid hf; have HN := Lib.hid hn
  have hbb : (b : Int) ≤ 1000000 := by omega
  clear hd1 hd2 hbi hB1 hbe hbl hB hC hln hle hf hn hA hb1 hb hc hd hls
  generalize (nd s).length = ls at *
  go_enter Tryz.func46, Tryz.ntmps46
  repeat (first | (go_at_call 78; refine (Hid.out (p := _) ?_)) | go_values | go_skip | go_guarded | go_step | go_upon | go_back)
  refine Lib.hid ?_
  refine HD1.out.mono ?_
  rintro en w2 ⟨hB2, v0, v1, rfl, hv1⟩
  have HB2 := Lib.hid (HB1.out.trans (hB2.mono (by simp)))
  have HV1 := Lib.hid (hv1.mono (lo' := w.heap.size) (by simp))
  clear hB2 hv1 HD1 HB1
  simp only []
  repeat (first | (go_at_call 78; refine (Hid.out (p := _) ?_)) | go_values | go_skip | go_guarded | go_step | go_upon | go_back)
  refine Lib.hid ?_
  refine (HD2.out _ HB2.out).mono ?_
  rintro en w3 ⟨hB3, v2, v3, rfl, hv3⟩
  have HB3 := Lib.hid (HB2.out.trans (hB3.mono HB2.out.size))
  have HV1' := Lib.hid (HV1.out.below hB3)
  obtain ⟨A3, c3, rfl, k1, k2⟩ := hv3
  have HX := Lib.hid k2
  clear hB3 k1 k2 HD2 HB2 HV1
  simp only []
  repeat (first | (go_at_call 21; refine (Hid.out (p := _) ?_)) | go_values | go_skip | go_guarded | go_step | go_upon | go_back)
  refine Lib.hid ?_
  refine (HBI.out _ HB3.out).mono ?_
  rintro en w4 ⟨rfl, rfl⟩
  simp only []
  have HBW := Lib.hid (HB.out.below HB3.out)
  have HCW := Lib.hid (HC.out.below HB3.out)
  clear HB HC HBI
  repeat (first | (fail) | go_values | go_skip | go_guarded | go_step | go_upon | go_back)
  go_loopw [8, 12] (fun v z wr => ∃ (k : Nat) (zi : Int), k ≤ b ∧ z = .int .i64 zi ∧ Hid (zi = (k : Int) - 1) ∧ Hid (SlV w.heap.size wr v (nd (s ^ (e / 2 ^ k) % n)) ∧ Below w3.heap.size w3 wr)) (fun _ z _ => (intOf z + 1).toNat)
  case atStart => exact ⟨b, _, Nat.le_refl _, rfl, Lib.hid rfl, Lib.hid ⟨by rw [Nat.div_eq_of_lt HBE.out, Nat.pow_zero]; exact HV1'.out, Below.refl _ _⟩⟩
  case round =>
    obtain ⟨k, zi, hk, rfl, hz, hT⟩ := hrel
    cases k with
    | zero =>
      obtain rfl : zi = -1 := by have := hz.out; omega
      have h1 := hT.out.1
      rw [Nat.pow_zero, Nat.div_one] at h1
      have HV := Lib.hid h1
      have HBF := Lib.hid (HB3.out.trans (hT.out.2.mono HB3.out.size))
      clear h1 hT hz
      repeat (first | (fail) | go_values | go_skip | go_guarded | go_step | go_upon | go_back)
      go_ret
      exact ⟨HBF.out, _, rfl, HV.out⟩
    | succ k =>
      obtain rfl : zi = (k : Int) := by have := hz.out; omega
      have hlaw := pow_high s e k n
      generalize s ^ (e / 2 ^ (k + 1)) = sp at hT hlaw
      have hon : sp % n < n := Nat.mod_lt _ (by have := HN.out; omega)
      generalize sp % n = o at hT hlaw hon
      have hol : (nd o).length ≤ 3000 := Nat.le_trans (nd_len_mono (Nat.le_of_lt hon)) HLN.out
      obtain ⟨⟨A4, c4, rfl, k1, k2⟩, hb4⟩ := hT.out
      have hml := ref_mul A4 A4 c4 c4 (nd o) (nd o) wr (by omega) _ _ k2 k2
      rw [va_nd] at hml
      have HML := Lib.hid hml; have HB4 := Lib.hid hb4; have HLAW := Lib.hid hlaw; have HK := Lib.hid hk
      have hool : (nd (o * o)).length ≤ 6000 := by have := nd_len_mul o o; omega
      have HOO := Lib.hid hool
      clear hml hb4 hlaw hk k1 k2 hT hz hon hol hool
      repeat (first | (go_at_call 79; refine (Hid.out (p := _) ?_)) | go_values | go_skip | go_guarded | go_step | go_upon | go_back)
      refine Lib.hid ?_
      refine HML.out.mono ?_
      rintro en w5 ⟨hB5, v5, rfl, A5, c5, rfl, k1, k2⟩
      have HB5 := Lib.hid (HB4.out.trans (hB5.mono HB4.out.size))
      have hdv := ref_div (o * o) n HN.out A5 C c5 f w5 k1 HF.out (by have := HOO.out; omega) (by have := HLN.out; omega) _ _ k2 (HCW.out.below HB5.out)
      have HDV := Lib.hid hdv
      clear hB5 k1 k2 hdv HB4 HML
      simp only []
      repeat (first | (go_at_call 78; refine (Hid.out (p := _) ?_)) | go_values | go_skip | go_guarded | go_step | go_upon | go_back)
      refine Lib.hid ?_
      refine HDV.out.mono ?_
      rintro en w6 ⟨hB6, v6, v7, rfl, A7, c7, rfl, k1, k2⟩
      have HB6 := Lib.hid (HB5.out.trans (hB6.mono HB5.out.size))
      have H67 : w.heap.size ≤ w5.heap.size := by have := HB3.out.size; have := HB5.out.size; omega
      have K1 := Lib.hid k1; have K2 := Lib.hid (k2.mono H67)
      clear hB6 k1 k2 HDV HB5 H67 HOO
      simp only []
      obtain ⟨k32, hk32, hk32e⟩ : ∃ k32 : Nat, (k : Int) / 32 = (k32 : Int) ∧ k32 = k / 32 := ⟨_, by omega, rfl⟩
      obtain ⟨kr, hkr, hkre⟩ : ∃ kr : Nat, (k : Int) % 32 = (kr : Int) ∧ kr = k % 32 := ⟨_, by omega, rfl⟩
      have hklt : k32 < (nd e).length := by have := HBL.out; have := HK.out; omega
      obtain ⟨bE, rfl, _, _, hcE⟩ := (HBW.out.below HB6.out).cells (by omega)
      have q1 := hcE k32 hklt
      have hbd := bit_dig e k
      have hed := nd_digN e k32
      have hel := toNat_lt32 ((nd e).getD k32 0)
      rw [← hk32e, ← hkre, ← hed] at hbd
      generalize ((nd e).getD k32 0).toNat = ed at q1 hbd hed hel
      obtain ⟨z, hzi, hze⟩ : ∃ z : Nat, (ed : Int) / 2 ^ kr = (z : Int) ∧ z = ed / 2 ^ kr := ⟨ed / 2 ^ kr, by rw [Int.natCast_ediv, Int.natCast_pow]; rfl, rfl⟩
      rw [← hze] at hbd
      have hzl : z ≤ ed := by rw [hze]; exact Nat.div_le_self _ _
      have hzb : (z : Int) < 4294967296 := by omega
      have hlaw := HLAW.out
      rw [← hbd] at hlaw
      have hkli : (k32 : Int) < ((nd e).length : Int) := by omega
      have hli : ((nd e).length : Int) ≤ 3000 := by have := HLE.out; omega
      have hkrm : min kr 32 = kr := by omega
      have hkri : (kr : Int) < 32 := by omega
      obtain ⟨m, hmi, hme⟩ : ∃ m : Nat, (z : Int) % 2 = (m : Int) ∧ m = z % 2 := ⟨_, by omega, rfl⟩
      rw [← hme] at hlaw
      have hm2 : m = 0 ∨ m = 1 := by omega
      clear hcE hbd hed hze hk32e hkre hme hel hzl hklt HLAW
      rcases hm2 with rfl | rfl
      · rw [if_neg (by omega)] at hlaw
        have HR := Lib.hid hlaw
        have hmi2 : (z : Int) % 2 = 0 := hmi
        clear hmi hlaw
        repeat (first | (fail) | go_values | go_skip | go_guarded | go_step | go_upon | go_back)
        go_roundw
        case rel => exact ⟨k, (k : Int) - 1, by have := HK.out; omega, by go_num, Lib.hid rfl, Lib.hid ⟨by rw [HR.out]; exact ⟨A7, c7, rfl, K1.out, K2.out⟩, HB6.out⟩⟩
        case measure => simp [intOf]
      · rw [if_pos rfl] at hlaw
        have hmi2 : (z : Int) % 2 = 1 := hmi
        have hr1 : (nd (o * o % n)).length ≤ 3000 := Nat.le_trans (nd_len_mono (Nat.le_of_lt (Nat.mod_lt _ (by have := HN.out; omega)))) HLN.out
        have hr2 : (nd (s % n)).length ≤ 3000 := Nat.le_trans (nd_len_mono (Nat.le_of_lt (Nat.mod_lt _ (by have := HN.out; omega)))) HLN.out
        have hml := ref_mul A7 A3 c7 c3 (nd (o * o % n)) (nd (s % n)) w6 (by omega) _ _ K2.out (HX.out.below HB6.out)
        rw [va_nd, va_nd] at hml
        have hpl := nd_len_mul (o * o % n) (s % n)
        obtain ⟨p, hp⟩ : ∃ p, p = o * o % n * (s % n) := ⟨_, rfl⟩
        rw [← hp] at hml hlaw hpl
        have HML := Lib.hid hml; have HR := Lib.hid hlaw; have HPL := Lib.hid (show (nd p).length ≤ 6000 by omega)
        clear hml hlaw hmi hr1 hr2 hpl hp
        repeat (first | (go_at_call 79; refine (Hid.out (p := _) ?_)) | go_values | go_skip | go_guarded | go_step | go_upon | go_back)
        refine Lib.hid ?_
        refine HML.out.mono ?_
        rintro en w8 ⟨hB8, v8, rfl, A8, c8, rfl, k1, k2⟩
        have HB8 := Lib.hid (HB6.out.trans (hB8.mono HB6.out.size))
        have hdv := ref_div p n HN.out A8 C c8 f w8 k1 HF.out (by have := HPL.out; omega) (by have := HLN.out; omega) _ _ k2 (HCW.out.below HB8.out)
        have HDV := Lib.hid hdv
        clear hB8 k1 k2 hdv HB6 HML
        simp only []
        repeat (first | (go_at_call 78; refine (Hid.out (p := _) ?_)) | go_values | go_skip | go_guarded | go_step | go_upon | go_back)
        refine Lib.hid ?_
        refine HDV.out.mono ?_
        rintro en w9 ⟨hB9, v9, vA, rfl, A9, c9, rfl, k1, k2⟩
        have HB9 := Lib.hid (HB8.out.trans (hB9.mono HB8.out.size))
        have H89 : w.heap.size ≤ w8.heap.size := by have := HB3.out.size; have := HB8.out.size; omega
        have L1 := Lib.hid k1; have L2 := Lib.hid (k2.mono H89)
        clear hB9 k1 k2 HDV HB8 H89 HPL q1
        simp only []
        repeat (first | (fail) | go_values | go_skip | go_guarded | go_step | go_upon | go_back)
        go_roundw
        case rel => exact ⟨k, (k : Int) - 1, by have := HK.out; omega, by go_num, Lib.hid rfl, Lib.hid ⟨by rw [HR.out]; exact ⟨A9, c9, rfl, L1.out, L2.out⟩, HB9.out⟩⟩
        case measure => simp [intOf]
end Go.Proofs.YtdmfbcfhfopipaaGreatDoor

