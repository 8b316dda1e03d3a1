import Derived.Test.YtmkodendjlmijaaGreatDoorSd7
import Derived.Test.YtmkodendjlmijaaGreatDoorSd6
import Derived.Test.YtmkodendjlmijaaGreatDoorRows
import Derived.Test.YtmkodendjlmijaaGreatDoorTie
import Derived.Test.YtmkodendjlmijaaGreatDoorCards
import Derived.ProofKit
import Derived.OpenShut
import Derived.LaidMore
import Derived.Lay
import Derived.SevenTiedAt
import Derived.Stop.Joined
/- DenialSides, walked: true. -/
namespace Go.Proofs.YtmkodendjlmijaaGreatDoor
open Go.RowKit

set_option maxRecDepth 100000 in
set_option maxHeartbeats 2000000 in
theorem sides_any (a n b : ByteArray) (w : World) : Calls Tryz.prog 4 #[.string a, .string n, .string b] w fun e w' => e = .returned (.bool true) ∧ Below w.heap.size w w' := by
  have h1 := fun w => name_right a w
  have h2 := fun w => name_right n w
  have h3 := fun w => name_right b w
  have h4 := fun w => name_equal a b w
  have h5 := fun w => name_equal a n w
  have h6 := fun w => name_equal n b w
  have g1 := fun w => den_between a n b w
  have g2 := fun w => den_between b n a w
  have g3 := fun w => den_between a a b w
  have g4 := fun w => den_between a b b w
  have g5 := fun w => den_between a n a w
  have hs : nameRight a = true → nameRight n = true → nameRight b = true → nameEq a b = false → nameEq a n = false → nameEq n b = false → btwB a n b ≠ btwB b n a ∧ btwB a a b = false ∧ btwB a b b = false ∧ btwB a n a = true := btwB_sides
  generalize nameRight a = p1 at *
  generalize nameRight n = p2 at *
  generalize nameRight b = p3 at *
  generalize nameEq a b = p4 at *
  generalize nameEq a n = p5 at *
  generalize nameEq n b = p6 at *
  generalize btwB a n b = q1 at *
  generalize btwB b n a = q2 at *
  generalize btwB a a b = q3 at *
  generalize btwB a b b = q4 at *
  generalize btwB a n a = q5 at *
  have HX := Lib.hid examples_any
  have H1 := Lib.hid h1; have H2 := Lib.hid h2; have H3 := Lib.hid h3; have H4 := Lib.hid h4; have H5 := Lib.hid h5; have H6 := Lib.hid h6
  have G1 := Lib.hid g1; have G2 := Lib.hid g2; have G3 := Lib.hid g3; have G4 := Lib.hid g4; have G5 := Lib.hid g5
  have bl := Below.refl w.heap.size w
  clear h1 h2 h3 h4 h5 h6 g1 g2 g3 g4 g5
  cases p1 with
  | false =>
    clear hs
    go_enter Tryz.func4, Tryz.ntmps4
    go_wp2_with (go_at_call 7; refine (Hid.out (p := _) ?_))
    refine Lib.hid ?_
    refine (HX.out _).mono ?_
    rintro e w0 ⟨rfl, hb⟩
    replace bl := bl.trans (hb.mono bl.size)
    clear hb
    simp only []
    go_wp2_with (go_at_call 12; refine (Hid.out (p := _) ?_))
    refine Lib.hid ?_
    refine (H1.out _).mono ?_
    rintro e w1 ⟨rfl, hb⟩
    replace bl := bl.trans (hb.mono bl.size)
    clear hb
    simp only []
    go_wp2_with fail
    go_ret
    exact ⟨rfl, bl⟩
  | true =>
  cases p2 with
  | false =>
    clear hs
    go_enter Tryz.func4, Tryz.ntmps4
    go_wp2_with (go_at_call 7; refine (Hid.out (p := _) ?_))
    refine Lib.hid ?_
    refine (HX.out _).mono ?_
    rintro e w0 ⟨rfl, hb⟩
    replace bl := bl.trans (hb.mono bl.size)
    clear hb
    simp only []
    go_wp2_with (go_at_call 12; refine (Hid.out (p := _) ?_))
    refine Lib.hid ?_
    refine (H1.out _).mono ?_
    rintro e w1 ⟨rfl, hb⟩
    replace bl := bl.trans (hb.mono bl.size)
    clear hb
    simp only []
    go_wp2_with (go_at_call 12; refine (Hid.out (p := _) ?_))
    refine Lib.hid ?_
    refine (H2.out _).mono ?_
    rintro e w2 ⟨rfl, hb⟩
    replace bl := bl.trans (hb.mono bl.size)
    clear hb
    simp only []
    go_wp2_with fail
    go_ret
    exact ⟨rfl, bl⟩
  | true =>
  cases p3 with
  | false =>
    clear hs
    go_enter Tryz.func4, Tryz.ntmps4
    go_wp2_with (go_at_call 7; refine (Hid.out (p := _) ?_))
    refine Lib.hid ?_
    refine (HX.out _).mono ?_
    rintro e w0 ⟨rfl, hb⟩
    replace bl := bl.trans (hb.mono bl.size)
    clear hb
    simp only []
    go_wp2_with (go_at_call 12; refine (Hid.out (p := _) ?_))
    refine Lib.hid ?_
    refine (H1.out _).mono ?_
    rintro e w1 ⟨rfl, hb⟩
    replace bl := bl.trans (hb.mono bl.size)
    clear hb
    simp only []
    go_wp2_with (go_at_call 12; refine (Hid.out (p := _) ?_))
    refine Lib.hid ?_
    refine (H2.out _).mono ?_
    rintro e w2 ⟨rfl, hb⟩
    replace bl := bl.trans (hb.mono bl.size)
    clear hb
    simp only []
    go_wp2_with (go_at_call 12; refine (Hid.out (p := _) ?_))
    refine Lib.hid ?_
    refine (H3.out _).mono ?_
    rintro e w3 ⟨rfl, hb⟩
    replace bl := bl.trans (hb.mono bl.size)
    clear hb
    simp only []
    go_wp2_with fail
    go_ret
    exact ⟨rfl, bl⟩
  | true =>
  cases p4 with
  | true =>
    clear hs
    go_enter Tryz.func4, Tryz.ntmps4
    go_wp2_with (go_at_call 7; refine (Hid.out (p := _) ?_))
    refine Lib.hid ?_
    refine (HX.out _).mono ?_
    rintro e w0 ⟨rfl, hb⟩
    replace bl := bl.trans (hb.mono bl.size)
    clear hb
    simp only []
    go_wp2_with (go_at_call 12; refine (Hid.out (p := _) ?_))
    refine Lib.hid ?_
    refine (H1.out _).mono ?_
    rintro e w1 ⟨rfl, hb⟩
    replace bl := bl.trans (hb.mono bl.size)
    clear hb
    simp only []
    go_wp2_with (go_at_call 12; refine (Hid.out (p := _) ?_))
    refine Lib.hid ?_
    refine (H2.out _).mono ?_
    rintro e w2 ⟨rfl, hb⟩
    replace bl := bl.trans (hb.mono bl.size)
    clear hb
    simp only []
    go_wp2_with (go_at_call 12; refine (Hid.out (p := _) ?_))
    refine Lib.hid ?_
    refine (H3.out _).mono ?_
    rintro e w3 ⟨rfl, hb⟩
    replace bl := bl.trans (hb.mono bl.size)
    clear hb
    simp only []
    go_wp2_with (go_at_call 13; refine (Hid.out (p := _) ?_))
    refine Lib.hid ?_
    refine (H4.out _).mono ?_
    rintro e w4 ⟨rfl, hb⟩
    replace bl := bl.trans (hb.mono bl.size)
    clear hb
    simp only []
    go_wp2_with fail
    go_ret
    exact ⟨rfl, bl⟩
  | false =>
  cases p5 with
  | true =>
    clear hs
    go_enter Tryz.func4, Tryz.ntmps4
    go_wp2_with (go_at_call 7; refine (Hid.out (p := _) ?_))
    refine Lib.hid ?_
    refine (HX.out _).mono ?_
    rintro e w0 ⟨rfl, hb⟩
    replace bl := bl.trans (hb.mono bl.size)
    clear hb
    simp only []
    go_wp2_with (go_at_call 12; refine (Hid.out (p := _) ?_))
    refine Lib.hid ?_
    refine (H1.out _).mono ?_
    rintro e w1 ⟨rfl, hb⟩
    replace bl := bl.trans (hb.mono bl.size)
    clear hb
    simp only []
    go_wp2_with (go_at_call 12; refine (Hid.out (p := _) ?_))
    refine Lib.hid ?_
    refine (H2.out _).mono ?_
    rintro e w2 ⟨rfl, hb⟩
    replace bl := bl.trans (hb.mono bl.size)
    clear hb
    simp only []
    go_wp2_with (go_at_call 12; refine (Hid.out (p := _) ?_))
    refine Lib.hid ?_
    refine (H3.out _).mono ?_
    rintro e w3 ⟨rfl, hb⟩
    replace bl := bl.trans (hb.mono bl.size)
    clear hb
    simp only []
    go_wp2_with (go_at_call 13; refine (Hid.out (p := _) ?_))
    refine Lib.hid ?_
    refine (H4.out _).mono ?_
    rintro e w4 ⟨rfl, hb⟩
    replace bl := bl.trans (hb.mono bl.size)
    clear hb
    simp only []
    go_wp2_with (go_at_call 13; refine (Hid.out (p := _) ?_))
    refine Lib.hid ?_
    refine (H5.out _).mono ?_
    rintro e w5 ⟨rfl, hb⟩
    replace bl := bl.trans (hb.mono bl.size)
    clear hb
    simp only []
    go_wp2_with fail
    go_ret
    exact ⟨rfl, bl⟩
  | false =>
  cases p6 with
  | true =>
    clear hs
    go_enter Tryz.func4, Tryz.ntmps4
    go_wp2_with (go_at_call 7; refine (Hid.out (p := _) ?_))
    refine Lib.hid ?_
    refine (HX.out _).mono ?_
    rintro e w0 ⟨rfl, hb⟩
    replace bl := bl.trans (hb.mono bl.size)
    clear hb
    simp only []
    go_wp2_with (go_at_call 12; refine (Hid.out (p := _) ?_))
    refine Lib.hid ?_
    refine (H1.out _).mono ?_
    rintro e w1 ⟨rfl, hb⟩
    replace bl := bl.trans (hb.mono bl.size)
    clear hb
    simp only []
    go_wp2_with (go_at_call 12; refine (Hid.out (p := _) ?_))
    refine Lib.hid ?_
    refine (H2.out _).mono ?_
    rintro e w2 ⟨rfl, hb⟩
    replace bl := bl.trans (hb.mono bl.size)
    clear hb
    simp only []
    go_wp2_with (go_at_call 12; refine (Hid.out (p := _) ?_))
    refine Lib.hid ?_
    refine (H3.out _).mono ?_
    rintro e w3 ⟨rfl, hb⟩
    replace bl := bl.trans (hb.mono bl.size)
    clear hb
    simp only []
    go_wp2_with (go_at_call 13; refine (Hid.out (p := _) ?_))
    refine Lib.hid ?_
    refine (H4.out _).mono ?_
    rintro e w4 ⟨rfl, hb⟩
    replace bl := bl.trans (hb.mono bl.size)
    clear hb
    simp only []
    go_wp2_with (go_at_call 13; refine (Hid.out (p := _) ?_))
    refine Lib.hid ?_
    refine (H5.out _).mono ?_
    rintro e w5 ⟨rfl, hb⟩
    replace bl := bl.trans (hb.mono bl.size)
    clear hb
    simp only []
    go_wp2_with (go_at_call 13; refine (Hid.out (p := _) ?_))
    refine Lib.hid ?_
    refine (H6.out _).mono ?_
    rintro e w6 ⟨rfl, hb⟩
    replace bl := bl.trans (hb.mono bl.size)
    clear hb
    simp only []
    go_wp2_with fail
    go_ret
    exact ⟨rfl, bl⟩
  | false =>
    obtain ⟨d1, rfl, rfl, rfl⟩ := hs rfl rfl rfl rfl rfl rfl
    clear hs
    cases q1 <;> cases q2
    · exact absurd rfl d1
    · clear d1
      go_enter Tryz.func4, Tryz.ntmps4
      go_wp2_with (go_at_call 7; refine (Hid.out (p := _) ?_))
      refine Lib.hid ?_
      refine (HX.out _).mono ?_
      rintro e w0 ⟨rfl, hb⟩
      replace bl := bl.trans (hb.mono bl.size)
      clear hb
      simp only []
      go_wp2_with (go_at_call 12; refine (Hid.out (p := _) ?_))
      refine Lib.hid ?_
      refine (H1.out _).mono ?_
      rintro e w1 ⟨rfl, hb⟩
      replace bl := bl.trans (hb.mono bl.size)
      clear hb
      simp only []
      go_wp2_with (go_at_call 12; refine (Hid.out (p := _) ?_))
      refine Lib.hid ?_
      refine (H2.out _).mono ?_
      rintro e w2 ⟨rfl, hb⟩
      replace bl := bl.trans (hb.mono bl.size)
      clear hb
      simp only []
      go_wp2_with (go_at_call 12; refine (Hid.out (p := _) ?_))
      refine Lib.hid ?_
      refine (H3.out _).mono ?_
      rintro e w3 ⟨rfl, hb⟩
      replace bl := bl.trans (hb.mono bl.size)
      clear hb
      simp only []
      go_wp2_with (go_at_call 13; refine (Hid.out (p := _) ?_))
      refine Lib.hid ?_
      refine (H4.out _).mono ?_
      rintro e w4 ⟨rfl, hb⟩
      replace bl := bl.trans (hb.mono bl.size)
      clear hb
      simp only []
      go_wp2_with (go_at_call 13; refine (Hid.out (p := _) ?_))
      refine Lib.hid ?_
      refine (H5.out _).mono ?_
      rintro e w5 ⟨rfl, hb⟩
      replace bl := bl.trans (hb.mono bl.size)
      clear hb
      simp only []
      go_wp2_with (go_at_call 13; refine (Hid.out (p := _) ?_))
      refine Lib.hid ?_
      refine (H6.out _).mono ?_
      rintro e w6 ⟨rfl, hb⟩
      replace bl := bl.trans (hb.mono bl.size)
      clear hb
      simp only []
      go_wp2_with (go_at_call 11; refine (Hid.out (p := _) ?_))
      refine Lib.hid ?_
      refine (G1.out _).mono ?_
      rintro e w7 ⟨rfl, hb⟩
      replace bl := bl.trans (hb.mono bl.size)
      clear hb
      simp only []
      go_wp2_with (go_at_call 11; refine (Hid.out (p := _) ?_))
      refine Lib.hid ?_
      refine (G2.out _).mono ?_
      rintro e w8 ⟨rfl, hb⟩
      replace bl := bl.trans (hb.mono bl.size)
      clear hb
      simp only []
      go_wp2_with (go_at_call 11; refine (Hid.out (p := _) ?_))
      refine Lib.hid ?_
      refine (G3.out _).mono ?_
      rintro e w9 ⟨rfl, hb⟩
      replace bl := bl.trans (hb.mono bl.size)
      clear hb
      simp only []
      go_wp2_with (go_at_call 11; refine (Hid.out (p := _) ?_))
      refine Lib.hid ?_
      refine (G4.out _).mono ?_
      rintro e w10 ⟨rfl, hb⟩
      replace bl := bl.trans (hb.mono bl.size)
      clear hb
      simp only []
      go_wp2_with (go_at_call 11; refine (Hid.out (p := _) ?_))
      refine Lib.hid ?_
      refine (G5.out _).mono ?_
      rintro e w11 ⟨rfl, hb⟩
      replace bl := bl.trans (hb.mono bl.size)
      clear hb
      simp only []
      go_wp2_with fail
      go_ret
      exact ⟨rfl, bl⟩
    · clear d1
      go_enter Tryz.func4, Tryz.ntmps4
      go_wp2_with (go_at_call 7; refine (Hid.out (p := _) ?_))
      refine Lib.hid ?_
      refine (HX.out _).mono ?_
      rintro e w0 ⟨rfl, hb⟩
      replace bl := bl.trans (hb.mono bl.size)
      clear hb
      simp only []
      go_wp2_with (go_at_call 12; refine (Hid.out (p := _) ?_))
      refine Lib.hid ?_
      refine (H1.out _).mono ?_
      rintro e w1 ⟨rfl, hb⟩
      replace bl := bl.trans (hb.mono bl.size)
      clear hb
      simp only []
      go_wp2_with (go_at_call 12; refine (Hid.out (p := _) ?_))
      refine Lib.hid ?_
      refine (H2.out _).mono ?_
      rintro e w2 ⟨rfl, hb⟩
      replace bl := bl.trans (hb.mono bl.size)
      clear hb
      simp only []
      go_wp2_with (go_at_call 12; refine (Hid.out (p := _) ?_))
      refine Lib.hid ?_
      refine (H3.out _).mono ?_
      rintro e w3 ⟨rfl, hb⟩
      replace bl := bl.trans (hb.mono bl.size)
      clear hb
      simp only []
      go_wp2_with (go_at_call 13; refine (Hid.out (p := _) ?_))
      refine Lib.hid ?_
      refine (H4.out _).mono ?_
      rintro e w4 ⟨rfl, hb⟩
      replace bl := bl.trans (hb.mono bl.size)
      clear hb
      simp only []
      go_wp2_with (go_at_call 13; refine (Hid.out (p := _) ?_))
      refine Lib.hid ?_
      refine (H5.out _).mono ?_
      rintro e w5 ⟨rfl, hb⟩
      replace bl := bl.trans (hb.mono bl.size)
      clear hb
      simp only []
      go_wp2_with (go_at_call 13; refine (Hid.out (p := _) ?_))
      refine Lib.hid ?_
      refine (H6.out _).mono ?_
      rintro e w6 ⟨rfl, hb⟩
      replace bl := bl.trans (hb.mono bl.size)
      clear hb
      simp only []
      go_wp2_with (go_at_call 11; refine (Hid.out (p := _) ?_))
      refine Lib.hid ?_
      refine (G1.out _).mono ?_
      rintro e w7 ⟨rfl, hb⟩
      replace bl := bl.trans (hb.mono bl.size)
      clear hb
      simp only []
      go_wp2_with (go_at_call 11; refine (Hid.out (p := _) ?_))
      refine Lib.hid ?_
      refine (G2.out _).mono ?_
      rintro e w8 ⟨rfl, hb⟩
      replace bl := bl.trans (hb.mono bl.size)
      clear hb
      simp only []
      go_wp2_with (go_at_call 11; refine (Hid.out (p := _) ?_))
      refine Lib.hid ?_
      refine (G3.out _).mono ?_
      rintro e w9 ⟨rfl, hb⟩
      replace bl := bl.trans (hb.mono bl.size)
      clear hb
      simp only []
      go_wp2_with (go_at_call 11; refine (Hid.out (p := _) ?_))
      refine Lib.hid ?_
      refine (G4.out _).mono ?_
      rintro e w10 ⟨rfl, hb⟩
      replace bl := bl.trans (hb.mono bl.size)
      clear hb
      simp only []
      go_wp2_with (go_at_call 11; refine (Hid.out (p := _) ?_))
      refine Lib.hid ?_
      refine (G5.out _).mono ?_
      rintro e w11 ⟨rfl, hb⟩
      replace bl := bl.trans (hb.mono bl.size)
      clear hb
      simp only []
      go_wp2_with fail
      go_ret
      exact ⟨rfl, bl⟩
    · exact absurd rfl d1
end Go.Proofs.YtmkodendjlmijaaGreatDoor

/- DenialSides: of two different names each third one is between them one way round, and not the other. Proved for every three texts: the row and its tied card. -/
namespace Go.Proofs.YtmkodendjlmijaaGreatDoor
open Go.ChangeShapes Go.WideShapes Go.ChangeAt Go.RowKit

theorem ownDenialSides : ownKnob Tryz.prog.godebug = none := by kernel_rfl
set_option maxRecDepth 100000 in
theorem liftedDenialSides (os : Os) (started : os.Started) (H : Type) (enc : TypeId × Value → H) :
    ReturnsInHanded {} Tryz.checked os 4 .any (fun w args => (Rows.denialSidesSpec.pre enc Tryz.prog Tryz.f4 [] false w args ∧ laidMetH Tryz.prog Rows.denialSidesRow.laid w) ∧ sizedMet enc Tryz.prog Tryz.f4 (OpenSpec.ofChange Rows.denialSidesSpec) false w args)
      (Rows.denialSidesSpec.post enc Tryz.prog Tryz.f4 false true false false) := by
  refine returnsInHanded_of_change_and (C := Tryz.checked) (X := fun w _ => laidMetH Tryz.prog Rows.denialSidesRow.laid w) (fun _ _ _ hh h => h.of_heap hh) ownDenialSides started (by kernel_rfl) Tryz.func4
    (ChangeSpec.witness_shaped (enc := enc) (C := Tryz.checked) (os := os) (X := fun w _ => laidMetH Tryz.prog Rows.denialSidesRow.laid w) false (World.laidAll Tryz.prog os Rows.denialSidesRow.laid) #[.string ⟨#[]⟩, .string ⟨#[]⟩, .string ⟨#[]⟩] 8 (World.laidAll_os _ _ _)
      (World.shaped_of_ZipB (by kernel_rfl) (by kernel_rfl)) (by kernel_rfl) (by kernel_rfl) (by kernel_rfl)
      (by rw [MakeChecks.laidMetH_plain _ _ _ (by kernel_rfl)]; exact laidMet_laidAll _ (by kernel_rfl) (by kernel_rfl))) ?_
  intro W base args ds gs before hval0 hW _ _ _ _
  have hval : ∀ (j : Nat) t v, Tryz.f4.params[j]? = some t → args[j]? = some v → Value.okWide Tryz.prog W .any base t v := hval0
  have hW' := hW
  obtain ⟨p, q, hA0, hV, rfl, _, _⟩ := hW
  have hA : DataW.TrodAll enc Tryz.prog W 0 (fun _ => true) true Tryz.f4.params.toList args.toList ds p := hA0
  rw [Tryz.params4] at hA hval
  obtain ⟨args⟩ := args
  obtain ⟨v0, r0, d0, ds0, p0, q0, ha0, hd0, hp0, h0, hA⟩ := trodAll_cons hA
  obtain ⟨v1, r1, d1, ds1, p1, q1, ha1, hd1, hp1, h1, hA⟩ := trodAll_cons hA
  obtain ⟨v2, r2, d2, ds2, p2, q2, ha2, hd2, hp2, h2, hA⟩ := trodAll_cons hA
  obtain ⟨rfl, rfl, rfl⟩ := trodAll_nil hA
  obtain ⟨rfl, rfl⟩ := trodVars_none hV
  simp only [] at ha0
  subst ha2 ha1 ha0 hd2 hd1 hd0 hp2 hp1 hp0
  obtain ⟨s0, rfl, rfl, rfl, ws0⟩ := Go.ChangeMaps.open_string Tryz.underlying9 (hval 0 9 v0 rfl rfl) h0
  obtain ⟨s1, rfl, rfl, rfl, ws1⟩ := Go.ChangeMaps.open_string Tryz.underlying9 (hval 1 9 v1 rfl rfl) h1
  obtain ⟨s2, rfl, rfl, rfl, ws2⟩ := Go.ChangeMaps.open_string Tryz.underlying9 (hval 2 9 v2 rfl rfl) h2
  simp only [List.append_nil] at hW'
  refine (sides_any s0 s1 s2 W).mono fun e W' ⟨he, hB⟩ => ?_
  subst he
  refine ⟨_, rfl, _, _, _, [], [], [], hW', trodAll_mk1 (shut_bool Tryz.underlying4 _),
    trodAll_mk3 (Go.ChangeMaps.shut_string Tryz.underlying9 ws0) (Go.ChangeMaps.shut_string Tryz.underlying9 ws1) (Go.ChangeMaps.shut_string Tryz.underlying9 ws2), rfl, hB.frame _, fun h => by cases h⟩

theorem denialSides_holds : Rows.DenialSidesSaid :=
  OpenClaim.holds_of_wide 4 Tryz.f4 rfl rfl rfl rfl rfl rfl rfl ⟨rfl, rfl, rfl, rfl, rfl⟩ rfl rfl rfl rfl rfl (by kernel_rfl) Tryz.func4 (by kernel_rfl)
    (of_decide_eq_true (by kernel_rfl)) (by unfold Func.isWrapper; first | (rw [if_pos (by decide +kernel)]; kernel_rfl) | (rw [if_neg (by decide +kernel)]; exact ⟨rfl, rfl⟩))
    (fun os started H enc _ => liftedDenialSides os started H enc)
theorem denialSides_card_holds : Rows.DenialSidesCardSaid :=
  Claim7.holds_tied_plain_at .later [] [.data, .data, .data, .data, .sentinel, .sentinel, .pinned] true (true, "78a266fe9d0711a0d9dab8bcb82e2238974444689a2fe5e8145701f4dd61ff3b") true denialSides_holds (fun _ h => by cases h) (by kernel_rfl) (fun _ h => by cases h) denialSides_row_tie rfl ⟨rfl, rfl⟩ (by kernel_rfl) rfl
    (fun f fn hf hfn => by
      obtain rfl : f = 4 := Option.some.inj ((show Tryz.prog.funcNamed "guidepost/guidepostlaw09.DenialSides" = some 4 by kernel_rfl).symm.trans hf) |>.symm
      obtain rfl : fn = Tryz.f4 := (Option.some.inj (Tryz.func4.symm.trans hfn)).symm
      exact ⟨by kernel_rfl, fun j t ht => by
        rw [Tryz.params4] at ht
        have hm : t ∈ [9, 9, 9] := by simpa using Array.mem_of_getElem? ht
        have hall : ([9, 9, 9].all fun u => !Tryz.prog.wantsStandIn u) = true := by kernel_rfl
        exact (show Tryz.prog.wantsStandIn t = false by simpa using List.all_eq_true.1 hall t hm)⟩)
    (by kernel_rfl)
#print axioms denialSides_holds
#print axioms denialSides_card_holds
end Go.Proofs.YtmkodendjlmijaaGreatDoor

