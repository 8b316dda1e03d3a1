/- The document's own public keys (its chapter 6): Rsa. -/
import Derived.Test.YtdmfbcfhfopipaaGreatDoorRef5Of
import Derived.Test.YtdmfbcfhfopipaaGreatDoorRsa
import Derived.Test.YtdmfbcfhfopipaaGreatDoorDigs
namespace Go.Proofs.YtdmfbcfhfopipaaGreatDoor
open Go.RowKit

/-- What the document's Rsa tells. -/
def RefRsaPost (p : List UInt8) (w : World) (e : Ending) (w' : World) : Prop :=
  Below w.heap.size w w' ∧ match rsaOf p with
    | none => e = .returned (.tuple #[.slice none 0 0, .slice none 0 0, .bool false])
    | some (x, y) => ∃ A c B d, e = .returned (.tuple #[.slice A (numDigs x).length c, .slice B (numDigs y).length d, .bool true]) ∧ (numDigs x).length ≤ c ∧ (numDigs y).length ≤ d ∧ DigsAt w.heap.size w' A (numDigs x) ∧ DigsAt w.heap.size w' B (numDigs y)

theorem post_none {p : List UInt8} {w w' : World} {e : Ending} (h : rsaOf p = none) (hB : Below w.heap.size w w') (he : e = .returned (.tuple #[.slice none 0 0, .slice none 0 0, .bool false])) : RefRsaPost p w e w' := by
  refine ⟨hB, ?_⟩
  rw [h]; exact he
theorem post_some {p x y : List UInt8} {w w' : World} {e : Ending} {A B : Option Addr} {c d : Nat} (h : rsaOf p = some (x, y)) (hB : Below w.heap.size w w') (he : e = .returned (.tuple #[.slice A (numDigs x).length c, .slice B (numDigs y).length d, .bool true]))
    (h1 : (numDigs x).length ≤ c) (h2 : (numDigs y).length ≤ d) (h3 : DigsAt w.heap.size w' A (numDigs x)) (h4 : DigsAt w.heap.size w' B (numDigs y)) : RefRsaPost p w e w' := by
  refine ⟨hB, ?_⟩
  rw [h]; exact ⟨A, c, B, d, he, h1, h2, h3, h4⟩

set_option maxRecDepth 100000 in
set_option maxHeartbeats 2000000 in
theorem ref_rsa_one (p : List UInt8) (w : World) (hp : 0 < p.length) (hm : p.length ≤ 9223372036854775807) (h0 : (p.getD 0 0).toNat ≠ 0) : Calls Tryz.prog 19 #[.string (bs p)] w (RefRsaPost p w) := by
  have hof : rsaOf p = if rsaOk (p.getD 0 0).toNat (p.drop 1) then some ((p.drop 1).take (p.getD 0 0).toNat, (p.drop 1).drop (p.getD 0 0).toNat) else none := by
    rw [rsaOf, rsaSplit, if_neg (by omega), if_neg h0]
  have hg0 : ∀ h, (bs p)[0]'h = p.getD 0 0 := fun h => bs_get _ _ h
  have hsz := bs_size p
  have hp' : (0 : Int) < (p.length : Int) := by omega
  have hp1 : ¬ ((p.length : Int) < 1) := by omega
  have hb0 := (p.getD 0 0).toNat_lt
  have hk0 : (((p.getD 0 0).toNat : Int) == 0) = false := by rw [beq_eq_false_iff_ne]; omega
  generalize p.getD 0 0 = b0 at *
  generalize hs : b0.toNat = sz at *
  have HOF := Lib.hid hof
  have a1 : sz ≠ 0 := h0
  have HB0 := Lib.hid (Below.refl w.heap.size w)
  clear hof h0
  go_enter Tryz.func19, Tryz.ntmps19
  have hrl : (p.drop 1).length = p.length - 1 := by rw [List.length_drop]
  have hat : (1 : Int) ≤ (p.length : Int) := by omega
  have e1 : ((sz : Int) == 0) = false := by rw [beq_eq_false_iff_ne]; omega
  obtain ⟨j, hj, hje⟩ : ∃ j : Nat, (1 : Int) + (sz : Int) = (j : Int) ∧ j = 1 + sz := ⟨1 + sz, by omega, rfl⟩
  by_cases a2 : p.length ≤ j
  · have e2 : (p.length : Int) ≤ (j : Int) := by omega
    have hno : rsaOf p = none := by rw [HOF.out, rsaOk_no (.inr (.inl (by omega)))]; rfl
    clear a1 a2 hje
    have HNO := Lib.hid hno
    clear hno HOF
    repeat (first | go_values | go_skip | go_guarded | go_step | go_upon | go_back)
    go_ret3
    exact post_none HNO.out HB0.out rfl
  have e2 : ¬ ((p.length : Int) ≤ (j : Int)) := by omega
  have p1 : (1 : Int) < (p.length : Int) := by omega
  have p2 : (j : Int) < (p.length : Int) := by omega
  have d0 : (p.drop 1).getD 0 0 = p.getD 1 0 := by simp [List.getD]
  have d1 : (p.drop 1).getD sz 0 = p.getD j 0 := by rw [hje]; simp [List.getD, Nat.add_comm]
  have d2 : (p.drop 1).drop sz = p.drop j := by rw [List.drop_drop, hje]
  have g0 : ∀ h, (bs p)[1]'h = p.getD 1 0 := fun h => bs_get _ _ h
  have g1 : ∀ h, (bs p)[j]'h = p.getD j 0 := fun h => bs_get _ _ h
  by_cases a3 : (p.getD 1 0).toNat = 0
  · have e3 : (((p.getD 1 0).toNat : Int) == 0) = true := by rw [a3]; rfl
    have hno : rsaOf p = none := by rw [HOF.out, rsaOk_no (.inr (.inr (.inl (by rw [d0]; exact a3))))]; rfl
    generalize p.getD 1 0 = x0 at g0 e3
    clear a1 a2 a3 hje d0 d1 d2 g1 hrl
    have HNO := Lib.hid hno
    clear hno HOF
    repeat (first | go_values | go_skip | go_guarded | go_step | go_upon | go_back)
    go_ret3
    exact post_none HNO.out HB0.out rfl
  have e3 : (((p.getD 1 0).toNat : Int) == 0) = false := by rw [beq_eq_false_iff_ne]; omega
  by_cases a4 : (p.getD j 0).toNat = 0
  · have e4 : (((p.getD j 0).toNat : Int) == 0) = true := by rw [a4]; rfl
    have hno : rsaOf p = none := by rw [HOF.out, rsaOk_no (.inr (.inr (.inr (.inl (by rw [d1]; exact a4)))))]; rfl
    generalize p.getD 1 0 = x0 at g0 e3
    generalize p.getD j 0 = x1 at g1 e4
    clear a1 a2 a3 a4 hje d0 d1 d2 hrl
    have HNO := Lib.hid hno
    clear hno HOF
    repeat (first | go_values | go_skip | go_guarded | go_step | go_upon | go_back)
    go_ret3
    exact post_none HNO.out HB0.out rfl
  have e4 : (((p.getD j 0).toNat : Int) == 0) = false := by rw [beq_eq_false_iff_ne]; omega
  by_cases a5 : 256 < sz
  · have e5 : (256 : Int) < (sz : Int) := by omega
    have hno : rsaOf p = none := by rw [HOF.out, rsaOk_no (.inr (.inr (.inr (.inr (.inl a5)))))]; rfl
    generalize p.getD 1 0 = x0 at g0 e3
    generalize p.getD j 0 = x1 at g1 e4
    clear a1 a2 a3 a4 a5 hje d0 d1 d2 hrl
    have HNO := Lib.hid hno
    clear hno HOF
    repeat (first | go_values | go_skip | go_guarded | go_step | go_upon | go_back)
    go_ret3
    exact post_none HNO.out HB0.out rfl
  have e5 : ¬ ((256 : Int) < (sz : Int)) := by omega
  by_cases a6 : 256 < p.length - j
  · have e6 : (256 : Int) < (p.length : Int) - 1 - (sz : Int) := by omega
    have hno : rsaOf p = none := by rw [HOF.out, rsaOk_no (.inr (.inr (.inr (.inr (.inr (.inl (by omega))))))) ]; rfl
    generalize p.getD 1 0 = x0 at g0 e3
    generalize p.getD j 0 = x1 at g1 e4
    clear a1 a2 a3 a4 a5 a6 hje d0 d1 d2 hrl
    have HNO := Lib.hid hno
    clear hno HOF
    repeat (first | go_values | go_skip | go_guarded | go_step | go_upon | go_back)
    go_ret3
    exact post_none HNO.out HB0.out rfl
  have e6 : ¬ ((256 : Int) < (p.length : Int) - 1 - (sz : Int)) := by omega
  have ho1 := fun W => ref_of5 ((p.drop 1).take sz) W (by rw [List.length_take]; omega)
  have ho2 := fun W => ref_of5 (p.drop j) W (by rw [List.length_drop]; omega)
  have hx1 : (bs p).extract 1 j = bs ((p.drop 1).take sz) := by
    apply ByteArray.ext
    simp [bs, ByteArray.data_extract, hje]
  have hx2 : (bs p).extract j p.length = bs (p.drop j) := bs_drop p j
  have hokk : rsaOk sz (p.drop 1) = decide (496 ≤ bitsL (numDigs (p.drop j))) := by
    simp only [rsaOk, d0, d1, d2, decide_eq_true (show sz ≠ 0 by omega), decide_eq_true (show sz < (p.drop 1).length by omega), decide_eq_true a3, decide_eq_true a4, decide_eq_true (show sz ≤ 256 by omega), decide_eq_true (show (p.drop 1).length - sz ≤ 256 by omega), Bool.true_and]
  rw [hokk, d2] at HOF
  have hnl := numDigs_len (p.drop j)
  have hnl2 : (numDigs (p.drop j)).length ≤ 1000000 := by rw [List.length_drop] at hnl; omega
  generalize hdn : numDigs (p.drop j) = dn at ho2 hnl2 HOF
  generalize hde : numDigs ((p.drop 1).take sz) = de at ho1
  have HDN := Lib.hid hdn; have HDE := Lib.hid hde
  clear hdn hde
  generalize p.getD 1 0 = x0 at g0 e3
  generalize p.getD j 0 = x1 at g1 e4
  generalize bs ((p.drop 1).take sz) = s1 at hx1 ho1
  generalize bs (p.drop j) = s2 at hx2 ho2
  have hje1 : (1 : Int) ≤ (j : Int) := by omega
  have hje2 : (j : Int) ≤ (p.length : Int) := by omega
  have HO1 := Lib.hid ho1; have HO2 := Lib.hid ho2; have HL := Lib.hid hnl2
  clear a1 a2 a3 a4 a5 a6 ho1 ho2 hokk hnl hje d0 d1 d2 hrl hnl2
  repeat (first | (go_at_call 41; refine (Hid.out (p := _) ?_)) | go_values | go_skip | go_guarded | go_step | go_upon | go_back)
  refine Lib.hid ?_
  refine (HO1.out _).mono ?_
  rintro e w2 ⟨hB2, A1, c1, rfl, k2, k3⟩
  have HB2 := Lib.hid (HB0.out.trans (hB2.mono HB0.out.size)); have K3 := Lib.hid (k3.mono HB0.out.size); have K2 := Lib.hid k2
  clear hB2 k3 k2
  simp only []
  repeat (first | (go_at_call 41; refine (Hid.out (p := _) ?_)) | go_values | go_skip | go_guarded | go_step | go_upon | go_back)
  refine Lib.hid ?_
  refine (HO2.out _).mono ?_
  rintro e w3 ⟨hB3, A2, c2, rfl, l2, l3⟩
  have hb3 := HB2.out.trans (hB3.mono HB2.out.size)
  have HB3 := Lib.hid hb3; have L2 := Lib.hid l2
  have hD1 := K3.out.below hB3
  have HD1 := Lib.hid hD1
  have hD2 := l3.mono HB2.out.size
  have HD2 := Lib.hid hD2
  clear hb3 l2 hB3 hD1 hD2 l3 K3 HB2
  simp only []
  have HBI := Lib.hid (ref_bits A2 c2 dn w3 L2.out HL.out w.heap.size HD2.out)
  repeat (first | (go_at_call 21; refine (Hid.out (p := _) ?_)) | go_values | go_skip | go_guarded | go_step | go_upon | go_back)
  refine Lib.hid ?_
  refine HBI.out.mono ?_
  rintro e w4 ⟨rfl, rfl⟩
  simp only []
  generalize bitsL dn = bl at HOF ⊢
  by_cases a7 : bl < 496
  · have hno : rsaOf p = none := by rw [HOF.out, decide_eq_false (by omega)]; rfl
    have HNO := Lib.hid hno
    clear hno HOF HBI
    repeat (first | go_values | go_skip | go_guarded | go_step | go_upon | go_back)
    go_ret3
    exact post_none HNO.out HB3.out rfl
  have hyes : rsaOf p = some ((p.drop 1).take sz, p.drop j) := by rw [HOF.out, decide_eq_true (by omega)]; rfl
  have HYES := Lib.hid hyes
  clear hyes HOF HBI
  repeat (first | go_values | go_skip | go_guarded | go_step | go_upon | go_back)
  go_ret3
  exact post_some HYES.out HB3.out (by rw [HDE.out, HDN.out]; rfl) (by rw [HDE.out]; exact K2.out) (by rw [HDN.out]; exact L2.out) (by rw [HDE.out]; exact HD1.out) (by rw [HDN.out]; exact HD2.out)
set_option maxRecDepth 100000 in
set_option maxHeartbeats 2000000 in
theorem ref_rsa_two (p : List UInt8) (w : World) (hp : 3 ≤ p.length) (hm : p.length ≤ 9223372036854775807) (h0 : (p.getD 0 0).toNat = 0) : Calls Tryz.prog 19 #[.string (bs p)] w (RefRsaPost p w) := by
  have hof : rsaOf p = if rsaOk ((p.getD 1 0).toNat * 256 + (p.getD 2 0).toNat) (p.drop 3) then some ((p.drop 3).take ((p.getD 1 0).toNat * 256 + (p.getD 2 0).toNat), (p.drop 3).drop ((p.getD 1 0).toNat * 256 + (p.getD 2 0).toNat)) else none := by
    rw [rsaOf, rsaSplit, if_neg (by omega), if_pos h0, if_neg (by rw [List.length_drop]; omega)]
    simp [List.getD]
  have hg0 : ∀ h, (bs p)[0]'h = p.getD 0 0 := fun h => bs_get _ _ h
  have hg1 : ∀ h, (bs p)[1]'h = p.getD 1 0 := fun h => bs_get _ _ h
  have hg2 : ∀ h, (bs p)[2]'h = p.getD 2 0 := fun h => bs_get _ _ h
  have hsz := bs_size p
  have hp' : (0 : Int) < (p.length : Int) := by omega
  have hp1 : (1 : Int) < (p.length : Int) := by omega
  have hp2 : (2 : Int) < (p.length : Int) := by omega
  have hp3 : ¬ ((p.length : Int) < 1) := by omega
  have hp4 : ¬ ((p.length : Int) < 3) := by omega
  have hb1 := (p.getD 1 0).toNat_lt
  have hb2 := (p.getD 2 0).toNat_lt
  obtain ⟨sz, hse, hsi⟩ : ∃ sz : Nat, sz = (p.getD 1 0).toNat * 256 + (p.getD 2 0).toNat ∧ 256 * ((p.getD 1 0).toNat : Int) + ((p.getD 2 0).toNat : Int) = (sz : Int) := ⟨_, rfl, by push_cast; omega⟩
  rw [← hse] at hof
  have hsl : sz < 65536 := by omega
  generalize p.getD 0 0 = b0 at *
  generalize p.getD 1 0 = b1 at *
  generalize p.getD 2 0 = b2 at *
  have HOF := Lib.hid hof
  clear hof hse
  go_enter Tryz.func19, Tryz.ntmps19
  repeat (first | (fail) | go_values | go_skip | go_guarded | go_step | go_upon | go_back)
  go_quiet (fail)
  generalize hW : w.drewN nq = W1
  have HB0 := Lib.hid (below_drew (Below.refl w.heap.size w) nq)
  rw [hW] at HB0
  clear hW
  by_cases a1 : sz = 0
  · subst a1
    have hno : rsaOf p = none := by rw [HOF.out, rsaOk_no (.inl rfl)]; rfl
    have HNO := Lib.hid hno
    clear hno HOF
    repeat (first | go_values | go_skip | go_guarded | go_step | go_upon | go_back)
    go_ret3
    exact post_none HNO.out HB0.out rfl
  have hrl : (p.drop 3).length = p.length - 3 := by rw [List.length_drop]
  have hat : (3 : Int) ≤ (p.length : Int) := by omega
  have e1 : ((sz : Int) == 0) = false := by rw [beq_eq_false_iff_ne]; omega
  obtain ⟨j, hj, hje⟩ : ∃ j : Nat, (3 : Int) + (sz : Int) = (j : Int) ∧ j = 3 + sz := ⟨3 + sz, by omega, rfl⟩
  by_cases a2 : p.length ≤ j
  · have e2 : (p.length : Int) ≤ (j : Int) := by omega
    have hno : rsaOf p = none := by rw [HOF.out, rsaOk_no (.inr (.inl (by omega)))]; rfl
    clear a1 a2 hje
    have HNO := Lib.hid hno
    clear hno HOF
    repeat (first | go_values | go_skip | go_guarded | go_step | go_upon | go_back)
    go_ret3
    exact post_none HNO.out HB0.out rfl
  have e2 : ¬ ((p.length : Int) ≤ (j : Int)) := by omega
  have p1 : (3 : Int) < (p.length : Int) := by omega
  have p2 : (j : Int) < (p.length : Int) := by omega
  have d0 : (p.drop 3).getD 0 0 = p.getD 3 0 := by simp [List.getD]
  have d1 : (p.drop 3).getD sz 0 = p.getD j 0 := by rw [hje]; simp [List.getD, Nat.add_comm]
  have d2 : (p.drop 3).drop sz = p.drop j := by rw [List.drop_drop, hje]
  have g0 : ∀ h, (bs p)[3]'h = p.getD 3 0 := fun h => bs_get _ _ h
  have g1 : ∀ h, (bs p)[j]'h = p.getD j 0 := fun h => bs_get _ _ h
  by_cases a3 : (p.getD 3 0).toNat = 0
  · have e3 : (((p.getD 3 0).toNat : Int) == 0) = true := by rw [a3]; rfl
    have hno : rsaOf p = none := by rw [HOF.out, rsaOk_no (.inr (.inr (.inl (by rw [d0]; exact a3))))]; rfl
    generalize p.getD 3 0 = x0 at g0 e3
    clear a1 a2 a3 hje d0 d1 d2 g1 hrl
    have HNO := Lib.hid hno
    clear hno HOF
    repeat (first | go_values | go_skip | go_guarded | go_step | go_upon | go_back)
    go_ret3
    exact post_none HNO.out HB0.out rfl
  have e3 : (((p.getD 3 0).toNat : Int) == 0) = false := by rw [beq_eq_false_iff_ne]; omega
  by_cases a4 : (p.getD j 0).toNat = 0
  · have e4 : (((p.getD j 0).toNat : Int) == 0) = true := by rw [a4]; rfl
    have hno : rsaOf p = none := by rw [HOF.out, rsaOk_no (.inr (.inr (.inr (.inl (by rw [d1]; exact a4)))))]; rfl
    generalize p.getD 3 0 = x0 at g0 e3
    generalize p.getD j 0 = x1 at g1 e4
    clear a1 a2 a3 a4 hje d0 d1 d2 hrl
    have HNO := Lib.hid hno
    clear hno HOF
    repeat (first | go_values | go_skip | go_guarded | go_step | go_upon | go_back)
    go_ret3
    exact post_none HNO.out HB0.out rfl
  have e4 : (((p.getD j 0).toNat : Int) == 0) = false := by rw [beq_eq_false_iff_ne]; omega
  by_cases a5 : 256 < sz
  · have e5 : (256 : Int) < (sz : Int) := by omega
    have hno : rsaOf p = none := by rw [HOF.out, rsaOk_no (.inr (.inr (.inr (.inr (.inl a5)))))]; rfl
    generalize p.getD 3 0 = x0 at g0 e3
    generalize p.getD j 0 = x1 at g1 e4
    clear a1 a2 a3 a4 a5 hje d0 d1 d2 hrl
    have HNO := Lib.hid hno
    clear hno HOF
    repeat (first | go_values | go_skip | go_guarded | go_step | go_upon | go_back)
    go_ret3
    exact post_none HNO.out HB0.out rfl
  have e5 : ¬ ((256 : Int) < (sz : Int)) := by omega
  by_cases a6 : 256 < p.length - j
  · have e6 : (256 : Int) < (p.length : Int) - 3 - (sz : Int) := by omega
    have hno : rsaOf p = none := by rw [HOF.out, rsaOk_no (.inr (.inr (.inr (.inr (.inr (.inl (by omega))))))) ]; rfl
    generalize p.getD 3 0 = x0 at g0 e3
    generalize p.getD j 0 = x1 at g1 e4
    clear a1 a2 a3 a4 a5 a6 hje d0 d1 d2 hrl
    have HNO := Lib.hid hno
    clear hno HOF
    repeat (first | go_values | go_skip | go_guarded | go_step | go_upon | go_back)
    go_ret3
    exact post_none HNO.out HB0.out rfl
  have e6 : ¬ ((256 : Int) < (p.length : Int) - 3 - (sz : Int)) := by omega
  have ho1 := fun W => ref_of5 ((p.drop 3).take sz) W (by rw [List.length_take]; omega)
  have ho2 := fun W => ref_of5 (p.drop j) W (by rw [List.length_drop]; omega)
  have hx1 : (bs p).extract 3 j = bs ((p.drop 3).take sz) := by
    apply ByteArray.ext
    simp [bs, ByteArray.data_extract, hje]
  have hx2 : (bs p).extract j p.length = bs (p.drop j) := bs_drop p j
  have hokk : rsaOk sz (p.drop 3) = decide (496 ≤ bitsL (numDigs (p.drop j))) := by
    simp only [rsaOk, d0, d1, d2, decide_eq_true (show sz ≠ 0 by omega), decide_eq_true (show sz < (p.drop 3).length by omega), decide_eq_true a3, decide_eq_true a4, decide_eq_true (show sz ≤ 256 by omega), decide_eq_true (show (p.drop 3).length - sz ≤ 256 by omega), Bool.true_and]
  rw [hokk, d2] at HOF
  have hnl := numDigs_len (p.drop j)
  have hnl2 : (numDigs (p.drop j)).length ≤ 1000000 := by rw [List.length_drop] at hnl; omega
  generalize hdn : numDigs (p.drop j) = dn at ho2 hnl2 HOF
  generalize hde : numDigs ((p.drop 3).take sz) = de at ho1
  have HDN := Lib.hid hdn; have HDE := Lib.hid hde
  clear hdn hde
  generalize p.getD 3 0 = x0 at g0 e3
  generalize p.getD j 0 = x1 at g1 e4
  generalize bs ((p.drop 3).take sz) = s1 at hx1 ho1
  generalize bs (p.drop j) = s2 at hx2 ho2
  have hje1 : (3 : Int) ≤ (j : Int) := by omega
  have hje2 : (j : Int) ≤ (p.length : Int) := by omega
  have HO1 := Lib.hid ho1; have HO2 := Lib.hid ho2; have HL := Lib.hid hnl2
  clear a1 a2 a3 a4 a5 a6 ho1 ho2 hokk hnl hje d0 d1 d2 hrl hnl2
  repeat (first | (go_at_call 41; refine (Hid.out (p := _) ?_)) | go_values | go_skip | go_guarded | go_step | go_upon | go_back)
  refine Lib.hid ?_
  refine (HO1.out _).mono ?_
  rintro e w2 ⟨hB2, A1, c1, rfl, k2, k3⟩
  have HB2 := Lib.hid (HB0.out.trans (hB2.mono HB0.out.size)); have K3 := Lib.hid (k3.mono HB0.out.size); have K2 := Lib.hid k2
  clear hB2 k3 k2
  simp only []
  repeat (first | (go_at_call 41; refine (Hid.out (p := _) ?_)) | go_values | go_skip | go_guarded | go_step | go_upon | go_back)
  refine Lib.hid ?_
  refine (HO2.out _).mono ?_
  rintro e w3 ⟨hB3, A2, c2, rfl, l2, l3⟩
  have hb3 := HB2.out.trans (hB3.mono HB2.out.size)
  have HB3 := Lib.hid hb3; have L2 := Lib.hid l2
  have hD1 := K3.out.below hB3
  have HD1 := Lib.hid hD1
  have hD2 := l3.mono HB2.out.size
  have HD2 := Lib.hid hD2
  clear hb3 l2 hB3 hD1 hD2 l3 K3 HB2
  simp only []
  have HBI := Lib.hid (ref_bits A2 c2 dn w3 L2.out HL.out w.heap.size HD2.out)
  repeat (first | (go_at_call 21; refine (Hid.out (p := _) ?_)) | go_values | go_skip | go_guarded | go_step | go_upon | go_back)
  refine Lib.hid ?_
  refine HBI.out.mono ?_
  rintro e w4 ⟨rfl, rfl⟩
  simp only []
  generalize bitsL dn = bl at HOF ⊢
  by_cases a7 : bl < 496
  · have hno : rsaOf p = none := by rw [HOF.out, decide_eq_false (by omega)]; rfl
    have HNO := Lib.hid hno
    clear hno HOF HBI
    repeat (first | go_values | go_skip | go_guarded | go_step | go_upon | go_back)
    go_ret3
    exact post_none HNO.out HB3.out rfl
  have hyes : rsaOf p = some ((p.drop 3).take sz, p.drop j) := by rw [HOF.out, decide_eq_true (by omega)]; rfl
  have HYES := Lib.hid hyes
  clear hyes HOF HBI
  repeat (first | go_values | go_skip | go_guarded | go_step | go_upon | go_back)
  go_ret3
  exact post_some HYES.out HB3.out (by rw [HDE.out, HDN.out]; rfl) (by rw [HDE.out]; exact K2.out) (by rw [HDN.out]; exact L2.out) (by rw [HDE.out]; exact HD1.out) (by rw [HDN.out]; exact HD2.out)
set_option maxRecDepth 100000 in
theorem ref_rsa_short (p : List UInt8) (w : World) (hp : p.length < 3) (h0 : p.length = 0 ∨ (p.getD 0 0).toNat = 0) : Calls Tryz.prog 19 #[.string (bs p)] w (RefRsaPost p w) := by
  have hsz := bs_size p
  by_cases hl : p.length = 0
  · obtain rfl := List.eq_nil_of_length_eq_zero hl
    have hno : rsaOf [] = none := rfl
    have HNO := Lib.hid hno
    clear hno
    go_enter Tryz.func19, Tryz.ntmps19
    repeat (first | (fail) | go_values | go_skip | go_guarded | go_step | go_upon | go_back)
    go_ret3
    exact post_none HNO.out (Below.refl _ _) rfl
  · have h1 : (p.getD 0 0).toNat = 0 := h0.resolve_left hl
    have hno : rsaOf p = none := by
      rw [rsaOf, rsaSplit, if_neg hl, if_pos h1, if_pos (by rw [List.length_drop]; omega)]
    have hg0 : ∀ h, (bs p)[0]'h = p.getD 0 0 := fun h => bs_get _ _ h
    have hp' : (0 : Int) < (p.length : Int) := by omega
    have hp3 : ¬ ((p.length : Int) < 1) := by omega
    have hp4 : (p.length : Int) < 3 := by omega
    generalize p.getD 0 0 = b0 at *
    have HNO := Lib.hid hno
    clear hno h0
    go_enter Tryz.func19, Tryz.ntmps19
    repeat (first | (fail) | go_values | go_skip | go_guarded | go_step | go_upon | go_back)
    go_ret3
    exact post_none HNO.out (Below.refl _ _) rfl
theorem ref_rsa (p : ByteArray) (w : World) (hm : p.size ≤ 9223372036854775807) : Calls Tryz.prog 19 #[.string p] w (RefRsaPost p.data.toList w) := by
  have hb : bs p.data.toList = p := bs_toList p
  have hl : p.data.toList.length = p.size := by simp
  generalize p.data.toList = l at hb hl ⊢
  subst hb
  by_cases h : 0 < l.length
  · by_cases h0 : (l.getD 0 0).toNat = 0
    · by_cases h3 : 3 ≤ l.length
      · exact ref_rsa_two l w h3 (by omega) h0
      · exact ref_rsa_short l w (by omega) (.inr h0)
    · exact ref_rsa_one l w h (by omega) h0
  · exact ref_rsa_short l w (by omega) (.inl (by omega))
end Go.Proofs.YtdmfbcfhfopipaaGreatDoor
