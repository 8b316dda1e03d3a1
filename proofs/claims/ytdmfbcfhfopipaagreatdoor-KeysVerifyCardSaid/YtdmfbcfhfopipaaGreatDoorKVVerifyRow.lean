import Derived.Test.YtdmfbcfhfopipaaGreatDoorKV10
import Derived.Test.YtdmfbcfhfopipaaGreatDoorKV11
import Derived.Test.YtdmfbcfhfopipaaGreatDoorRows
import Derived.Test.YtdmfbcfhfopipaaGreatDoorTie
import Derived.Test.YtdmfbcfhfopipaaGreatDoorCards
import Derived.Lib.SmallJoins
import Derived.ProofKit
import Derived.OpenShut
import Derived.LaidMore
import Derived.Lay
import Derived.SevenTiedAt
import Derived.Stop.Joined
/- KeysVerify, walked: true, whatever it is given. -/
namespace Go.Proofs.YtdmfbcfhfopipaaGreatDoor
open Go.RowKit

set_option maxRecDepth 100000 in
set_option maxHeartbeats 2000000 in
theorem keysverify_any (p text sign : ByteArray) (w : World) (hp : p.size ≤ 9223372036854775807) (ht : text.size ≤ 140737488351232) (hs : sign.size ≤ 9223372036854775807) :
    Calls Tryz.prog 7 #[.string p, .string text, .string sign] w fun e w' => e = .returned (.bool true) ∧ Below w.heap.size w w' := by
  have h1 := fun w => ref_rsa_all p w hp
  have hk := fun w => keys_verify p text sign w hp (by omega) hs
  have hr := fun w => ref_verify p text sign w hp ht hs
  generalize verifyB p.data.toList text.data.toList sign.data.toList = V at hk hr
  obtain ⟨hle, _⟩ := rsa_small p.data.toList
  have hE := rsaE_nd p.data.toList
  rw [hE] at h1 hle
  have HX := Lib.hid examples_any; have HK := Lib.hid hk; have HR := Lib.hid hr
  obtain ⟨b, hb, _, _⟩ := bits_len (rsaNum p.data.toList).1
  generalize (rsaNum p.data.toList).1 = E at *
  generalize rsaN p.data.toList = ln at *
  have HB := Lib.hid hb; have HLE := Lib.hid hle
  clear hk hr hE hb hle
  cases hg : rsaGood p.data.toList with
  | false =>
    rw [hg] at h1
    have H1 := Lib.hid h1
    clear h1 hg
    go_enter Tryz.func7, Tryz.ntmps7
    repeat (first | (go_at_call 9; refine (Hid.out (p := _) ?_)) | go_values | go_skip | go_guarded | go_step | go_upon | go_back)
    refine Lib.hid ?_
    refine (HX.out _).mono ?_
    rintro e w1 ⟨rfl, hb1⟩
    have B1 := Lib.hid hb1
    clear hb1 HX
    simp only []
    repeat (first | (go_at_call 19; refine (Hid.out (p := _) ?_)) | go_values | go_skip | go_guarded | go_step | go_upon | go_back)
    refine Lib.hid ?_
    refine (H1.out _).mono ?_
    rintro e w2 ⟨hb2, A, c, B, d, rfl, k1, _, k3, _⟩
    have B2 := Lib.hid (B1.out.trans (hb2.mono B1.out.size)); have KE := Lib.hid (And.intro k1 k3)
    clear hb2 H1 B1 k1 k3
    simp only []
    repeat (first | (go_at_call 22; refine (Hid.out (p := _) ?_)) | go_values | go_skip | go_guarded | go_step | go_upon | go_back)
    refine Lib.hid ?_
    refine (HR.out _).mono ?_
    rintro e w3 ⟨rfl, hb3⟩
    have B3 := Lib.hid (B2.out.trans (hb3.mono B2.out.size))
    clear hb3 HR
    simp only []
    repeat (first | (go_at_call 23; refine (Hid.out (p := _) ?_)) | go_values | go_skip | go_guarded | go_step | go_upon | go_back)
    refine Lib.hid ?_
    refine (HK.out _).mono ?_
    rintro e w4 ⟨rfl, hb4⟩
    have B4 := Lib.hid (B3.out.trans (hb4.mono B3.out.size))
    clear hb4 HK
    simp only []
    cases V
    all_goals
      repeat (first | (fail) | go_values | go_skip | go_guarded | go_step | go_upon | go_back)
      go_ret
      exact ⟨rfl, B4.out⟩
  | true =>
    rw [hg] at h1
    have H1 := Lib.hid h1
    clear h1 hg
    go_enter Tryz.func7, Tryz.ntmps7
    repeat (first | (go_at_call 9; refine (Hid.out (p := _) ?_)) | go_values | go_skip | go_guarded | go_step | go_upon | go_back)
    refine Lib.hid ?_
    refine (HX.out _).mono ?_
    rintro e w1 ⟨rfl, hb1⟩
    have B1 := Lib.hid hb1
    clear hb1 HX
    simp only []
    repeat (first | (go_at_call 19; refine (Hid.out (p := _) ?_)) | go_values | go_skip | go_guarded | go_step | go_upon | go_back)
    refine Lib.hid ?_
    refine (H1.out _).mono ?_
    rintro e w2 ⟨hb2, A, c, B, d, rfl, k1, _, k3, _⟩
    have B2 := Lib.hid (B1.out.trans (hb2.mono B1.out.size)); have KE := Lib.hid (And.intro k1 k3)
    clear hb2 H1 B1 k1 k3
    simp only []
    have hbi := ref_bits A c (nd E) w2 KE.out.1 (by have := HLE.out; omega) _ KE.out.2
    rw [HB.out] at hbi
    have HBI := Lib.hid hbi
    clear hbi
    repeat (first | (go_at_call 21; refine (Hid.out (p := _) ?_)) | go_values | go_skip | go_guarded | go_step | go_upon | go_back)
    refine Lib.hid ?_
    refine HBI.out.mono ?_
    rintro e w5 ⟨rfl, rfl⟩
    simp only []
    by_cases hbig : 320 < b
    · have t1 : (320 : Int) < (b : Int) := by omega
      clear hbig
      repeat (first | (fail) | go_values | go_skip | go_guarded | go_step | go_upon | go_back)
      go_ret
      exact ⟨rfl, B2.out⟩
    · have t1 : ¬ ((320 : Int) < (b : Int)) := by omega
      clear hbig
      repeat (first | (go_at_call 22; refine (Hid.out (p := _) ?_)) | go_values | go_skip | go_guarded | go_step | go_upon | go_back)
      refine Lib.hid ?_
      refine (HR.out _).mono ?_
      rintro e w3 ⟨rfl, hb3⟩
      have B3 := Lib.hid (B2.out.trans (hb3.mono B2.out.size))
      clear hb3 HR
      simp only []
      repeat (first | (go_at_call 23; refine (Hid.out (p := _) ?_)) | go_values | go_skip | go_guarded | go_step | go_upon | go_back)
      refine Lib.hid ?_
      refine (HK.out _).mono ?_
      rintro e w4 ⟨rfl, hb4⟩
      have B4 := Lib.hid (B3.out.trans (hb4.mono B3.out.size))
      clear hb4 HK
      simp only []
      cases V
      all_goals
        repeat (first | (fail) | go_values | go_skip | go_guarded | go_step | go_upon | go_back)
        go_ret
        exact ⟨rfl, B4.out⟩
end Go.Proofs.YtdmfbcfhfopipaaGreatDoor

/- KeysVerify: whether any bytes are a signature of any text under any key. Proved for every string: the row and its tied card. -/
namespace Go.Proofs.YtdmfbcfhfopipaaGreatDoor
open Go.ChangeShapes Go.WideShapes Go.ChangeAt Go.RowKit

theorem ownV : ownKnob Tryz.prog.godebug = none := by kernel_rfl

set_option maxRecDepth 100000 in
theorem liftedV (os : Os) (started : os.Started) (H : Type) (enc : TypeId × Value → H) :
    ReturnsInHanded {} Tryz.checked os 7 .any (fun w args => (Rows.keysVerifySpec.pre enc Tryz.prog Tryz.f7 [] false w args ∧ laidMetH Tryz.prog Rows.keysVerifyRow.laid w) ∧ sizedMet enc Tryz.prog Tryz.f7 (OpenSpec.ofChange Rows.keysVerifySpec) false w args)
      (Rows.keysVerifySpec.post enc Tryz.prog Tryz.f7 false true false false) := by
  refine returnsInHanded_of_change_and (C := Tryz.checked) (X := fun w _ => laidMetH Tryz.prog Rows.keysVerifyRow.laid w) (fun _ _ _ hh h => h.of_heap hh) ownV started (by kernel_rfl) Tryz.func7
    (ChangeSpec.witness_shaped (enc := enc) (C := Tryz.checked) (os := os) (X := fun w _ => laidMetH Tryz.prog Rows.keysVerifyRow.laid w) false (World.laidAll Tryz.prog os Rows.keysVerifyRow.laid) #[.string ⟨#[]⟩, .string ⟨#[]⟩, .string ⟨#[]⟩] 8 (World.laidAll_os _ _ _)
      (World.shaped_of_ZipB (by kernel_rfl) (by kernel_rfl)) (by kernel_rfl) (by kernel_rfl) (by kernel_rfl)
      (by rw [MakeChecks.laidMetH_plain _ _ _ (by kernel_rfl)]; exact laidMet_laidAll _ (by kernel_rfl) (by kernel_rfl))) ?_
  intro W base args ds gs before hval0 hW _ hsz0 _ _
  have hval : ∀ (j : Nat) t v, Tryz.f7.params[j]? = some t → args[j]? = some v → Value.okWide Tryz.prog W .any base t v := hval0
  have hsz : (DataW.weightsEach Tryz.prog (Tryz.f7.params.toList ++ Rows.keysVerifySpec.plain.varTypes Tryz.prog) (ds ++ gs)).all (· ≤ reachBytes) = true := hsz0
  clear hsz0
  have hW' := hW
  obtain ⟨p, q, hA0, hV, rfl, _, _⟩ := hW
  have hA : DataW.TrodAll enc Tryz.prog W 0 (fun _ => true) true Tryz.f7.params.toList args.toList ds p := hA0
  rw [Tryz.params7] at hA hval hsz
  obtain ⟨args⟩ := args
  obtain ⟨v0, r0, d0, ds0, p0, q0, ha0, hd0, hp0, h0, hA⟩ := trodAll_cons hA
  obtain ⟨v1, r1, d1, ds1, p1, q1, ha1, hd1, hp1, h1, hA⟩ := trodAll_cons hA
  obtain ⟨v2, r2, d2, ds2, p2, q2, ha2, hd2, hp2, h2, hA⟩ := trodAll_cons hA
  obtain ⟨rfl, rfl, rfl⟩ := trodAll_nil hA
  obtain ⟨rfl, rfl⟩ := trodVars_none hV
  simp only [] at ha0
  subst ha2 ha1 ha0 hd2 hd1 hd0 hp2 hp1 hp0
  obtain ⟨s0, rfl, rfl, rfl, ws0⟩ := Go.ChangeMaps.open_string Tryz.underlying9 (hval 0 9 v0 rfl rfl) h0
  obtain ⟨s1, rfl, rfl, rfl, ws1⟩ := Go.ChangeMaps.open_string Tryz.underlying9 (hval 1 9 v1 rfl rfl) h1
  obtain ⟨s2, rfl, rfl, rfl, ws2⟩ := Go.ChangeMaps.open_string Tryz.underlying9 (hval 2 9 v2 rfl rfl) h2
  have hs1 : s1.size ≤ 140737488351232 := by
    have hw : decide (s1.data.toList.length ≤ reachBytes) = true := List.all_eq_true.1 hsz s1.data.toList.length (by simp [DataW.weights, DataW.weightsEach])
    have hw2 := of_decide_eq_true hw
    have hl : s1.data.toList.length = s1.size := by simp
    rw [hl] at hw2
    exact hw2
  simp only [List.append_nil] at hW'
  refine (keysverify_any s0 s1 s2 W ws0 hs1 ws2).mono fun e W' ⟨he, hB⟩ => ?_
  subst he
  refine ⟨_, rfl, _, _, _, [], [], [], hW', trodAll_mk1 (shut_bool Tryz.underlying4 _),
    trodAll_mk3 (Go.ChangeMaps.shut_string Tryz.underlying9 ws0) (Go.ChangeMaps.shut_string Tryz.underlying9 ws1) (Go.ChangeMaps.shut_string Tryz.underlying9 ws2), rfl, hB.frame _, fun h => by cases h⟩

theorem keysVerify_holds : Rows.KeysVerifySaid :=
  OpenClaim.holds_of_wide 7 Tryz.f7 rfl rfl rfl rfl rfl rfl rfl ⟨rfl, rfl, rfl, rfl, rfl⟩ rfl rfl rfl rfl rfl (by kernel_rfl) Tryz.func7 (by kernel_rfl)
    (of_decide_eq_true (by kernel_rfl)) (by unfold Func.isWrapper; first | (rw [if_pos (by decide +kernel)]; kernel_rfl) | (rw [if_neg (by decide +kernel)]; exact ⟨rfl, rfl⟩))
    (fun os started H enc _ => liftedV os started H enc)
theorem keysVerify_card_holds : Rows.KeysVerifyCardSaid :=
  Claim7.holds_tied_plain_at .later [] [.data, .data, .data, .data, .sentinel, .sentinel, .pinned] true (true, "a09616d6173a328a831be6e0f51517a46bcfbfbb6630f15630fba411aacb9533") true keysVerify_holds (fun _ h => by cases h) (by kernel_rfl) (fun _ h => by cases h) keysVerify_row_tie rfl ⟨rfl, rfl⟩ (by kernel_rfl) rfl
    (fun f fn hf hfn => by
      obtain rfl : f = 7 := Option.some.inj ((show Tryz.prog.funcNamed "guidepost/guidepostlaw06.KeysVerify" = some 7 by kernel_rfl).symm.trans hf) |>.symm
      obtain rfl : fn = Tryz.f7 := (Option.some.inj (Tryz.func7.symm.trans hfn)).symm
      exact ⟨by kernel_rfl, fun j t ht => by
        rw [Tryz.params7] at ht
        have hm : t ∈ [9, 9, 9] := by simpa using Array.mem_of_getElem? ht
        have hall : ([9, 9, 9].all fun u => !Tryz.prog.wantsStandIn u) = true := by kernel_rfl
        exact (show Tryz.prog.wantsStandIn t = false by simpa using List.all_eq_true.1 hall t hm)⟩)
    (by kernel_rfl)
#print axioms keysVerify_holds
#print axioms keysVerify_card_holds
end Go.Proofs.YtdmfbcfhfopipaaGreatDoor

