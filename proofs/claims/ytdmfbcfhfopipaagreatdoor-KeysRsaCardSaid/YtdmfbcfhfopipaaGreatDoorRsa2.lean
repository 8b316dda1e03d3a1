/- keys.Rsa, the exponent's size in two bytes, walked; keys.Rsa whole. -/
import Derived.Test.YtdmfbcfhfopipaaGreatDoorRsa
namespace Go.Proofs.YtdmfbcfhfopipaaGreatDoor
open Go.RowKit

set_option maxRecDepth 100000 in
set_option maxHeartbeats 2000000 in
theorem rsa_two (p : List UInt8) (w : World) (hp : 0 < p.length) (hm : p.length ≤ 9223372036854775807) (h0 : (p.getD 0 0).toNat = 0) : Calls Tryz.prog 18 #[.string (bs p)] w (RsaPost p w) := by
  have hem : (bs p).toList.isEmpty = false := toList_isEmpty (by rw [bs_size]; omega)
  have hg0 : ∀ h, (bs p)[0]'h = p.getD 0 0 := fun h => bs_get _ _ h
  have hdr : (bs p).extract 1 p.length = bs (p.drop 1) := bs_drop p 1
  have hsz := bs_size p
  have hp' : (0 : Int) < (p.length : Int) := by omega
  have hp1 : (1 : Int) ≤ (p.length : Int) := by omega
  have hmix : Tryz.prog.follows .mixedOrders = true := by kernel_rfl
  have hof : rsaOf p = match (if (p.drop 1).length < 2 then none else some (((p.drop 1).getD 0 0).toNat * 256 + ((p.drop 1).getD 1 0).toNat, (p.drop 1).drop 2)) with | none => none | some (sz, r) => if rsaOk sz r then some (r.take sz, r.drop sz) else none := by
    rw [rsaOf, rsaSplit, if_neg (by omega), if_pos h0]
    rfl
  have hql : (p.drop 1).length ≤ 9223372036854775807 := by rw [List.length_drop]; omega
  generalize hb0 : p.getD 0 0 = b0 at *
  generalize p.drop 1 = q at *
  have HOF0 := Lib.hid hof
  have hz0 : wrap64 (b0.toNat : Int) = 0 := by rw [h0]; unfold wrap64; omega
  clear hof hb0 h0
  go_enter Tryz.func18, Tryz.ntmps18
  go_wp2_with fail
  have hv0 := rsa_start w
  generalize ((w.alloc (.cells #[.slice none 0 0] 45)).alloc (.cells #[.slice none 0 0] 45)) = W0 at hv0 ⊢
  go_quiet (fail)
  generalize hW : W0.drewN nq = V1
  have hv1 : RsaVars w V1 (.slice none 0 0) (.slice none 0 0) := by rw [← hW]; exact hv0.drewN nq
  have HV := Lib.hid hv1
  clear hW hv0 hv1 hg0 hdr hsz hp' hp1 hem
  have hqs := bs_size q
  by_cases hl : q.length < 2
  · have e2 : decide ((q.length : Int) < 2) = true := decide_eq_true (by omega)
    have hno : rsaOf p = none := by rw [HOF0.out, if_pos hl]
    have HNO := Lib.hid hno
    clear hno HOF0 hl
    go_wp2_with
      (go_at_call 39; refine (rsa_bad _).mono ?_; rintro e w9 ⟨rfl, hB9⟩; have hv := HV.out.next hB9; have z0 : w9.cell? ⟨w.heap.size, 0, none⟩ = some (.slice none 0 0) := hv.e.cell 0; have z1 : w9.cell? ⟨w.heap.size + 1, 0, none⟩ = some (.slice none 0 0) := hv.n.cell 0; have y0 := hv.e.free 0; have y1 := hv.n.free 0; replace hv := Lib.hid hv; clear hB9)
    have hp := hv.out.put (.slice none 0 0) (.slice none 0 0)
    refine bodyPost_ret (results3 rfl ⟨_, rfl, nat_load hp.e⟩ ⟨_, rfl, nat_load hp.n⟩ rfl) rfl ⟨hp.below, ?_⟩
    rw [HNO.out]
    try rfl
  · have e2 : decide ((q.length : Int) < 2) = false := decide_eq_false (by omega)
    have g0 : ∀ h, (bs q)[0]'h = q.getD 0 0 := fun h => bs_get _ _ h
    have g1 : ∀ h, (bs q)[1]'h = q.getD 1 0 := fun h => bs_get _ _ h
    have hdr : (bs q).extract 2 q.length = bs (q.drop 2) := bs_drop q 2
    have i0 : (0 : Int) < (q.length : Int) := by omega
    have i1 : (1 : Int) < (q.length : Int) := by omega
    have i2 : (2 : Int) ≤ (q.length : Int) := by omega
    have hrl : (q.drop 2).length ≤ 9223372036854775807 := by rw [List.length_drop]; omega
    have hof : rsaOf p = if rsaOk ((q.getD 0 0).toNat * 256 + (q.getD 1 0).toNat) (q.drop 2) then some ((q.drop 2).take ((q.getD 0 0).toNat * 256 + (q.getD 1 0).toNat), (q.drop 2).drop ((q.getD 0 0).toNat * 256 + (q.getD 1 0).toNat)) else none := by
      rw [HOF0.out, if_neg hl]
    have hso := shl8_or (q.getD 0 0).toNat (q.getD 1 0).toNat (by omega) (by have := (q.getD 0 0).toNat_lt; omega) (by omega) (by have := (q.getD 1 0).toNat_lt; omega)
    have hs1 : wrap64 (((q.getD 0 0).toNat : Int) * 256) = ((q.getD 0 0).toNat : Int) * 256 := by have := (q.getD 0 0).toNat_lt; unfold wrap64; omega
    have hs2 : wrap64 ((q.getD 1 0).toNat : Int) = ((q.getD 1 0).toNat : Int) := by have := (q.getD 1 0).toNat_lt; unfold wrap64; omega
    rw [hs1, hs2] at hso
    have hszb : (q.getD 0 0).toNat * 256 + (q.getD 1 0).toNat < 65536 := by have := (q.getD 0 0).toNat_lt; have := (q.getD 1 0).toNat_lt; omega
    have hszc : ((q.getD 0 0).toNat : Int) * 256 + ((q.getD 1 0).toNat : Int) = (((q.getD 0 0).toNat * 256 + (q.getD 1 0).toNat : Nat) : Int) := by push_cast; rfl
    rw [hszc] at hso
    generalize (q.getD 0 0).toNat * 256 + (q.getD 1 0).toNat = sz at hso hof hszb hszc
    generalize hc0 : q.getD 0 0 = c0 at *
    generalize hc1 : q.getD 1 0 = c1 at *
    have hx0 := c0.toNat_lt
    have hx1 := c1.toNat_lt
    generalize q.drop 2 = r at *
    have HOF := Lib.hid hof
    clear hof HOF0 hl hc0 hc1 hszc hs1 hs2
    go_wp2_with fail
    go_quiet (fail)
    generalize hW : V1.drewN nq = W1
    have hv2 : RsaVars w W1 (.slice none 0 0) (.slice none 0 0) := by rw [← hW]; exact HV.out.drewN nq
    replace HV := Lib.hid hv2
    clear hW hv2 g0 g1 hdr i0 i1 i2 hqs
    try rw [hso]
    clear hso hx0 hx1
    have hrs := bs_size r
    by_cases hsz0 : sz = 0
    · subst hsz0
      have hno : rsaOf p = none := by rw [HOF.out, rsaOk_no (.inl rfl)]; rfl
      have HNO := Lib.hid hno
      clear hno HOF
      go_wp2_with
        (go_at_call 39; refine (rsa_bad _).mono ?_; rintro e w9 ⟨rfl, hB9⟩; have hv := HV.out.next hB9; have z0 : w9.cell? ⟨w.heap.size, 0, none⟩ = some (.slice none 0 0) := hv.e.cell 0; have z1 : w9.cell? ⟨w.heap.size + 1, 0, none⟩ = some (.slice none 0 0) := hv.n.cell 0; have y0 := hv.e.free 0; have y1 := hv.n.free 0; replace hv := Lib.hid hv; clear hB9)
      have hp := hv.out.put (.slice none 0 0) (.slice none 0 0)
      refine bodyPost_ret (results3 rfl ⟨_, rfl, nat_load hp.e⟩ ⟨_, rfl, nat_load hp.n⟩ rfl) rfl ⟨hp.below, ?_⟩
      rw [HNO.out]
      try rfl
    have e1 : ((sz : Int) == 0) = false := by rw [beq_eq_false_iff_ne]; omega
    by_cases a2 : r.length ≤ sz
    · have e2 : decide ((r.length : Int) ≤ (sz : Int)) = true := decide_eq_true (by omega)
      have hno : rsaOf p = none := by rw [HOF.out, rsaOk_no (.inr (.inl a2))]; rfl
      have HNO := Lib.hid hno
      clear hno HOF
      go_wp2_with
        (go_at_call 39; refine (rsa_bad _).mono ?_; rintro e w9 ⟨rfl, hB9⟩; have hv := HV.out.next hB9; have z0 : w9.cell? ⟨w.heap.size, 0, none⟩ = some (.slice none 0 0) := hv.e.cell 0; have z1 : w9.cell? ⟨w.heap.size + 1, 0, none⟩ = some (.slice none 0 0) := hv.n.cell 0; have y0 := hv.e.free 0; have y1 := hv.n.free 0; replace hv := Lib.hid hv; clear hB9)
      have hp := hv.out.put (.slice none 0 0) (.slice none 0 0)
      refine bodyPost_ret (results3 rfl ⟨_, rfl, nat_load hp.e⟩ ⟨_, rfl, nat_load hp.n⟩ rfl) rfl ⟨hp.below, ?_⟩
      rw [HNO.out]
      try rfl
    have e2 : decide ((r.length : Int) ≤ (sz : Int)) = false := decide_eq_false (by omega)
    have p0 : (0 : Int) < (r.length : Int) := by omega
    have p1 : (sz : Int) < (r.length : Int) := by omega
    have p2 : (sz : Int) ≤ (r.length : Int) := by omega
    have p3 : sz ≤ r.length := by omega
    have g0 : ∀ h, (bs r)[0]'h = r.getD 0 0 := fun h => bs_get _ _ h
    have g1 : ∀ h, (bs r)[sz]'h = r.getD sz 0 := fun h => bs_get _ _ h
    by_cases a3 : (r.getD 0 0).toNat = 0
    · have e3 : (((r.getD 0 0).toNat : Int) == 0) = true := by rw [a3]; rfl
      have hb : rsaOk sz r = false := rsaOk_no (.inr (.inr (.inl a3)))
      generalize r.getD 0 0 = x0 at g0 e3
      clear a3
      have hno : rsaOf p = none := by rw [HOF.out, hb]; rfl
      have HNO := Lib.hid hno
      clear hno HOF hb
      go_wp2_with
        (go_at_call 39; refine (rsa_bad _).mono ?_; rintro e w9 ⟨rfl, hB9⟩; have hv := HV.out.next hB9; have z0 : w9.cell? ⟨w.heap.size, 0, none⟩ = some (.slice none 0 0) := hv.e.cell 0; have z1 : w9.cell? ⟨w.heap.size + 1, 0, none⟩ = some (.slice none 0 0) := hv.n.cell 0; have y0 := hv.e.free 0; have y1 := hv.n.free 0; replace hv := Lib.hid hv; clear hB9)
      have hp := hv.out.put (.slice none 0 0) (.slice none 0 0)
      refine bodyPost_ret (results3 rfl ⟨_, rfl, nat_load hp.e⟩ ⟨_, rfl, nat_load hp.n⟩ rfl) rfl ⟨hp.below, ?_⟩
      rw [HNO.out]
      try rfl
    have e3 : (((r.getD 0 0).toNat : Int) == 0) = false := by rw [beq_eq_false_iff_ne]; omega
    by_cases a4 : (r.getD sz 0).toNat = 0
    · have e4 : (((r.getD sz 0).toNat : Int) == 0) = true := by rw [a4]; rfl
      have hb : rsaOk sz r = false := rsaOk_no (.inr (.inr (.inr (.inl a4))))
      generalize r.getD 0 0 = x0 at g0 e3
      generalize r.getD sz 0 = x1 at g1 e4
      clear a3 a4
      have hno : rsaOf p = none := by rw [HOF.out, hb]; rfl
      have HNO := Lib.hid hno
      clear hno HOF hb
      go_wp2_with
        (go_at_call 39; refine (rsa_bad _).mono ?_; rintro e w9 ⟨rfl, hB9⟩; have hv := HV.out.next hB9; have z0 : w9.cell? ⟨w.heap.size, 0, none⟩ = some (.slice none 0 0) := hv.e.cell 0; have z1 : w9.cell? ⟨w.heap.size + 1, 0, none⟩ = some (.slice none 0 0) := hv.n.cell 0; have y0 := hv.e.free 0; have y1 := hv.n.free 0; replace hv := Lib.hid hv; clear hB9)
      have hp := hv.out.put (.slice none 0 0) (.slice none 0 0)
      refine bodyPost_ret (results3 rfl ⟨_, rfl, nat_load hp.e⟩ ⟨_, rfl, nat_load hp.n⟩ rfl) rfl ⟨hp.below, ?_⟩
      rw [HNO.out]
      try rfl
    have e4 : (((r.getD sz 0).toNat : Int) == 0) = false := by rw [beq_eq_false_iff_ne]; omega
    by_cases a5 : 256 < sz
    · have e5 : decide ((256 : Int) < (sz : Int)) = true := decide_eq_true (by omega)
      have hb : rsaOk sz r = false := rsaOk_no (.inr (.inr (.inr (.inr (.inl a5)))))
      generalize r.getD 0 0 = x0 at g0 e3
      generalize r.getD sz 0 = x1 at g1 e4
      clear a3 a4 a5
      have hno : rsaOf p = none := by rw [HOF.out, hb]; rfl
      have HNO := Lib.hid hno
      clear hno HOF hb
      go_wp2_with
        (go_at_call 39; refine (rsa_bad _).mono ?_; rintro e w9 ⟨rfl, hB9⟩; have hv := HV.out.next hB9; have z0 : w9.cell? ⟨w.heap.size, 0, none⟩ = some (.slice none 0 0) := hv.e.cell 0; have z1 : w9.cell? ⟨w.heap.size + 1, 0, none⟩ = some (.slice none 0 0) := hv.n.cell 0; have y0 := hv.e.free 0; have y1 := hv.n.free 0; replace hv := Lib.hid hv; clear hB9)
      have hp := hv.out.put (.slice none 0 0) (.slice none 0 0)
      refine bodyPost_ret (results3 rfl ⟨_, rfl, nat_load hp.e⟩ ⟨_, rfl, nat_load hp.n⟩ rfl) rfl ⟨hp.below, ?_⟩
      rw [HNO.out]
      try rfl
    have e5 : decide ((256 : Int) < (sz : Int)) = false := decide_eq_false (by omega)
    by_cases a6 : 256 < r.length - sz
    · have e6 : decide ((256 : Int) < (r.length : Int) - (sz : Int)) = true := decide_eq_true (by omega)
      have hb : rsaOk sz r = false := rsaOk_no (.inr (.inr (.inr (.inr (.inr (.inl a6))))))
      generalize r.getD 0 0 = x0 at g0 e3
      generalize r.getD sz 0 = x1 at g1 e4
      clear a3 a4 a5 a6
      have hno : rsaOf p = none := by rw [HOF.out, hb]; rfl
      have HNO := Lib.hid hno
      clear hno HOF hb
      go_wp2_with
        (go_at_call 39; refine (rsa_bad _).mono ?_; rintro e w9 ⟨rfl, hB9⟩; have hv := HV.out.next hB9; have z0 : w9.cell? ⟨w.heap.size, 0, none⟩ = some (.slice none 0 0) := hv.e.cell 0; have z1 : w9.cell? ⟨w.heap.size + 1, 0, none⟩ = some (.slice none 0 0) := hv.n.cell 0; have y0 := hv.e.free 0; have y1 := hv.n.free 0; replace hv := Lib.hid hv; clear hB9)
      have hp := hv.out.put (.slice none 0 0) (.slice none 0 0)
      refine bodyPost_ret (results3 rfl ⟨_, rfl, nat_load hp.e⟩ ⟨_, rfl, nat_load hp.n⟩ rfl) rfl ⟨hp.below, ?_⟩
      rw [HNO.out]
      try rfl
    have e6 : decide ((256 : Int) < (r.length : Int) - (sz : Int)) = false := decide_eq_false (by omega)
    have ho1 := fun W => of_bytes (r.take sz) W (by rw [List.length_take]; omega)
    have ho2 := fun W => of_bytes (r.drop sz) W (by rw [List.length_drop]; omega)
    have hx1 : (bs r).extract 0 sz = bs (r.take sz) := bs_take r sz
    have hx2 : (bs r).extract sz r.length = bs (r.drop sz) := bs_drop r sz
    have hokk : rsaOk sz r = decide (496 ≤ bitsL (numDigs (r.drop sz))) := by
      simp only [rsaOk, decide_eq_true (show sz ≠ 0 by omega), decide_eq_true (show sz < r.length by omega), decide_eq_true a3, decide_eq_true a4, decide_eq_true (show sz ≤ 256 by omega), decide_eq_true (show r.length - sz ≤ 256 by omega), Bool.true_and]
    rw [hokk] at HOF
    have hnl := numDigs_len (r.drop sz)
    have hnl2 : (numDigs (r.drop sz)).length ≤ 1000000000000 := by rw [List.length_drop] at hnl; omega
    generalize hdn : numDigs (r.drop sz) = dn at ho2 hnl2 HOF
    generalize hde : numDigs (r.take sz) = de at ho1
    have HDN := Lib.hid hdn; have HDE := Lib.hid hde
    clear hdn hde
    generalize r.getD 0 0 = x0 at g0 e3
    generalize r.getD sz 0 = x1 at g1 e4
    generalize bs (r.take sz) = s1 at hx1 ho1
    generalize bs (r.drop sz) = s2 at hx2 ho2
    have HO1 := Lib.hid ho1; have HO2 := Lib.hid ho2
    have hwl : w.heap.size < W1.heap.size := HV.out.e.lt
    have hwl2 : w.heap.size + 1 < W1.heap.size := HV.out.n.lt
    clear a3 a4 a5 a6 ho1 ho2 hokk hnl
    go_wp2_with (go_at_call 25; refine (Hid.out (p := _) ?_))
    refine Lib.hid ?_
    refine (HO1.out _).mono ?_
    rintro e w2 ⟨v2, rfl, hN2, hB2⟩
    obtain ⟨A1, c1, rfl, k1, k2, k3⟩ := hN2
    have hV2 := HV.out.next hB2
    have z0 : w2.cell? ⟨w.heap.size, 0, none⟩ = some (.slice none 0 0) := hV2.e.cell 0
    have y0 := hV2.e.free 0
    have hVs := hV2.put1 (.slice A1 de.length c1)
    have hDs := k3.low (p := ⟨w.heap.size, 0, none⟩) hwl (.slice A1 de.length c1)
    replace hVs := Lib.hid hVs
    replace hDs := Lib.hid hDs
    have hsz2 := hB2.size
    clear hV2 k3 hB2
    simp only []
    go_wp2_with (go_at_call 25; refine (Hid.out (p := _) ?_))
    refine Lib.hid ?_
    refine (HO2.out _).mono ?_
    rintro e w3 ⟨v3, rfl, hN3, hB3⟩
    obtain ⟨A2, c2, rfl, l1, l2, l3⟩ := hN3
    have hV3 := hVs.out.next hB3
    have hD3 := hDs.out.below hB3
    have z1 : w3.cell? ⟨w.heap.size + 1, 0, none⟩ = some (.slice none 0 0) := hV3.n.cell 0
    have y1 := hV3.n.free 0
    have hlo2 : w.heap.size + 1 < (w2.setCell ⟨w.heap.size, 0, none⟩ (.slice A1 de.length c1)).heap.size := by simp; omega
    have hVt := hV3.put2 (.slice A2 dn.length c2)
    have hDt := l3.low (p := ⟨w.heap.size + 1, 0, none⟩) hlo2 (.slice A2 dn.length c2)
    have hDu := hD3.low (p := ⟨w.heap.size + 1, 0, none⟩) hwl2 (.slice A2 dn.length c2)
    have hsz3 := hB3.size
    clear hV3 hD3 l3 hB3 z0 y0 hVs hDs
    replace hVt := Lib.hid hVt
    replace hDt := Lib.hid hDt
    replace hDu := Lib.hid hDu
    simp only []
    go_wp2_with (go_at_call 40; refine (Hid.out (p := _) ?_))
    refine Lib.hid ?_
    refine (nat_bits _ dn _ _ ⟨A2, c2, rfl, l1, l2, hDt.out⟩ hnl2).mono ?_
    rintro e w4 ⟨rfl, hB4⟩
    have hV4 := hVt.out.next hB4
    have hDt4 := hDt.out.below hB4
    have hDu4 := hDu.out.below hB4
    replace hV4 := Lib.hid hV4
    replace hDt4 := Lib.hid hDt4
    replace hDu4 := Lib.hid hDu4
    clear hVt hDt hDu hB4 z1 y1
    simp only []
    generalize bitsL dn = bl at HOF ⊢
    by_cases a7 : bl < 496
    · have e7 : decide (bl < 496) = true := decide_eq_true a7
      have hno : rsaOf p = none := by rw [HOF.out, decide_eq_false (by omega)]; rfl
      have HNO := Lib.hid hno
      clear hno HOF a7
      go_wp2_with (go_at_call 39; refine (rsa_bad _).mono ?_; rintro e w9 ⟨rfl, hB9⟩; have hv := hV4.out.next hB9; have z0 : w9.cell? ⟨w.heap.size, 0, none⟩ = some (.slice A1 de.length c1) := hv.e.cell 0; have z1 : w9.cell? ⟨w.heap.size + 1, 0, none⟩ = some (.slice A2 dn.length c2) := hv.n.cell 0; have y0 := hv.e.free 0; have y1 := hv.n.free 0; replace hv := Lib.hid hv; clear hB9)
      have hp := hv.out.put (.slice none 0 0) (.slice none 0 0)
      refine bodyPost_ret (results3 rfl ⟨_, rfl, nat_load hp.e⟩ ⟨_, rfl, nat_load hp.n⟩ rfl) rfl ⟨hp.below, ?_⟩
      rw [HNO.out]
      try rfl
    have e7 : decide (bl < 496) = false := decide_eq_false a7
    have hyes : rsaOf p = some (r.take sz, r.drop sz) := by rw [HOF.out, decide_eq_true (by omega)]; rfl
    have HYES := Lib.hid hyes
    have q0 : w4.cell? ⟨w.heap.size, 0, none⟩ = some (.slice A1 de.length c1) := hV4.out.e.cell 0
    have q1 : w4.cell? ⟨w.heap.size + 1, 0, none⟩ = some (.slice A2 dn.length c2) := hV4.out.n.cell 0
    have qf0 := hV4.out.e.free 0
    have qf1 := hV4.out.n.free 0
    clear hyes HOF a7
    go_wp2_with fail
    refine wp_region_quiet (C := fun W => ∃ n, W = w4.drewN n) hmix (by kernel_rfl) ⟨1, rfl⟩ ?_
    refine BigFrame.wpQuiet_want rfl fun K hK => quiet_run (.agg #[.slice A1 de.length c1]) (fun W hW => ?run) (hK _ ?_)
    case run => obtain ⟨n, rfl⟩ := hW; simp [go_sem, Act.eval, q0]
    clear hK K
    refine BigFrame.wpQuiet_want rfl fun K hK => quiet_run (.agg #[.slice A2 dn.length c2]) (fun W hW => ?run) (hK _ ?_)
    case run => obtain ⟨n, rfl⟩ := hW; simp [go_sem, Act.put, Act.eval, q1]
    clear hK K
    refine BigFrame.wpQuiet_want rfl fun K hK => quiet_skip (fun W hW => ?run) (hK _ ?_)
    case run =>
      obtain ⟨n, rfl⟩ := hW
      simp [go_sem, Act.put, Act.eval, q0, qf0]
      exact setCell_self (w := w4.drewN n) hV4.out.e
    clear hK K
    refine BigFrame.wpQuiet_want rfl fun K hK => quiet_skip (fun W hW => ?run) (hK _ ?_)
    case run =>
      obtain ⟨n, rfl⟩ := hW
      simp [go_sem, Act.put, Act.eval, q1, qf1]
      exact setCell_self (w := w4.drewN n) hV4.out.n
    clear hK K
    refine BigFrame.wpQuiet_want rfl fun K hK => BigFrame.quiet_assign _ rfl (hK _ ?_)
    clear hK K
    refine wpQuiet_nil ?_
    rintro W ⟨nq, rfl⟩
    have hp := hV4.out.drewN nq
    have hD1 : DigsAt w.heap.size (w4.drewN nq) A1 de := hDu4.out.mono (by omega)
    have hD2 : DigsAt w.heap.size (w4.drewN nq) A2 dn := hDt4.out.mono (by simp; omega)
    have HP := Lib.hid hp; have HD1 := Lib.hid hD1; have HD2 := Lib.hid hD2
    clear hp hD1 hD2
    go_wp2_with fail
    simp only [Act.put]
    refine bodyPost_ret (results3 rfl ⟨_, by simp [Act.eval], nat_load HP.out.e⟩ ⟨_, by simp [Act.eval], nat_load HP.out.n⟩ (v := .agg #[.slice A1 de.length c1]) (u := .agg #[.slice A2 dn.length c2]) (x := .int .i64 0) (by simp [RvOk, Act.eval])) rfl ⟨HP.out.below, ?_⟩
    rw [HYES.out]
    exact ⟨_, _, rfl, by rw [HDE.out]; exact ⟨A1, c1, rfl, k1, k2, HD1.out⟩, by rw [HDN.out]; exact ⟨A2, c2, rfl, l1, l2, HD2.out⟩⟩

theorem rsa_any (p : ByteArray) (w : World) (hm : p.size ≤ 9223372036854775807) : Calls Tryz.prog 18 #[.string p] w (RsaPost p.data.toList w) := by
  have hb : bs p.data.toList = p := bs_toList p
  have hl : p.data.toList.length = p.size := by simp
  generalize p.data.toList = l at hb hl ⊢
  subst hb
  by_cases h : 0 < l.length
  · by_cases h0 : (l.getD 0 0).toNat = 0
    · exact rsa_two l w h (by omega) h0
    · exact rsa_one l w h (by omega) h0
  · obtain rfl : l = [] := List.eq_nil_of_length_eq_zero (by omega)
    exact rsa_empty w
end Go.Proofs.YtdmfbcfhfopipaaGreatDoor
