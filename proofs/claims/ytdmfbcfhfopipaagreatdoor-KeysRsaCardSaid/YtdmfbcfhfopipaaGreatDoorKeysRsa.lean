/- KeysRsa, walked: true, whatever it is given. -/
import Derived.Test.YtdmfbcfhfopipaaGreatDoorRsaAll
import Derived.Test.YtdmfbcfhfopipaaGreatDoorRsaIs
import Derived.Test.YtdmfbcfhfopipaaGreatDoorExamples
namespace Go.Proofs.YtdmfbcfhfopipaaGreatDoor
open Go.RowKit

set_option maxRecDepth 100000 in
set_option maxHeartbeats 1000000 in
theorem keysrsa_any (p : ByteArray) (w : World) (hm : p.size ≤ 9223372036854775807) :
    Calls Tryz.prog 6 #[.string p] w fun e w' => e = .returned (.bool true) ∧ Below w.heap.size w w' := by
  have h1 := fun w => rsa_all p w hm
  have h2 := fun w => ref_rsa_all p w hm
  obtain ⟨hle, hln⟩ := rsa_small p.data.toList
  generalize p.data.toList = l at h1 h2 hle hln
  have HL := Lib.hid (And.intro hle hln)
  clear hle hln
  have HX := Lib.hid examples_any
  cases hg : rsaGood l <;> rw [hg] at h1 h2 <;> clear hg <;> generalize rsaE l = le at h1 h2 HL <;> generalize rsaN l = ln at h1 h2 HL <;> have H1 := Lib.hid h1 <;> have H2 := Lib.hid h2 <;> clear h1 h2
  all_goals
    go_enter Tryz.func6, Tryz.ntmps6
    go_wp2_with (first
      | (go_at_call 9; refine (HX.out _).mono ?_; rintro e w1 ⟨rfl, b1⟩; replace b1 := Lib.hid b1)
      | (go_at_call 18; refine (Hid.out (p := _) ?_)))
    refine Lib.hid ?_
    refine (H1.out _).mono ?_
    rintro e w2 ⟨hB2, v, u, rfl, hv, hu⟩
    obtain ⟨A, c, rfl, k1, k2, k3⟩ := hv
    obtain ⟨B, d, rfl, l1, l2, l3⟩ := hu
    have b2 := b1.out.trans (hB2.mono b1.out.size)
    have b3 := b2.alloc b2.size (.cells #[.slice A le.length c] 45)
    have b4 := b3.alloc b3.size (.cells #[.slice B ln.length d] 45)
    have s2 := b2.size
    have x4 := (Blk.new w2 #[.slice A le.length c] 45).alloc (.cells #[.slice B ln.length d] 45)
    have y4 : Blk ((w2.alloc (.cells #[.slice A le.length c] 45)).alloc (.cells #[.slice B ln.length d] 45)) (w2.heap.size + 1) #[.slice B ln.length d] 45 := by
      have := Blk.new (w2.alloc (.cells #[.slice A le.length c] 45)) #[.slice B ln.length d] 45
      simpa using this
    have n1 : NatV w1.heap.size w2 (.agg #[.slice A le.length c]) le := ⟨A, c, rfl, k1, k2, k3⟩
    have n2 : NatV w1.heap.size w2 (.agg #[.slice B ln.length d]) ln := ⟨B, d, rfl, l1, l2, l3⟩
    have q4 : Below w2.heap.size w2 ((w2.alloc (.cells #[.slice A le.length c] 45)).alloc (.cells #[.slice B ln.length d] 45)) := ((Below.refl _ w2).alloc (Nat.le_refl _) _).alloc (by simp) _
    have H4 := Lib.hid (And.intro b4 (And.intro x4 (And.intro y4 (And.intro (n1.below q4) (n2.below q4)))))
    clear b2 b3 b4 x4 y4 n1 n2 q4 k1 k2 k3 l1 l2 l3 hB2 b1 s2 HX
    simp only []
    go_wp2_with (go_at_call 19; refine (Hid.out (p := _) ?_))
    refine Lib.hid ?_
    refine (H2.out _).mono ?_
    rintro e w3 ⟨hB3, A', c', B', d', rfl, j1, j2, j3, j4⟩
    obtain ⟨b4, x4, y4, n1, n2⟩ := H4.out
    have b5 := b4.trans (hB3.mono b4.size)
    have x5 := x4.below hB3 x4.lt
    have y5 := y4.below hB3 y4.lt
    have H5 := Lib.hid (And.intro b5 (And.intro (n1.below hB3) (And.intro (n2.below hB3) (And.intro x5 y5))))
    have c0 := x5.cell 0
    have c1 := y5.cell 0
    have J1 := Lib.hid (And.intro j1 j3)
    have J2 := Lib.hid (And.intro j2 j4)
    clear b4 x4 y4 n1 n2 hB3 b5 x5 y5 j1 j2 j3 j4 H4
    simp only []
    go_wp2_with (go_at_call 20; refine (Hid.out (p := _) ?_))
    refine Lib.hid ?_
    clear c0 c1
    refine (is_same _ le A' c' w3 _ _ H5.out.2.1 (Nat.le_trans HL.out.1 (by omega)) J1.out.1 J1.out.2).mono ?_
    rintro e w6 ⟨rfl, hB6⟩
    have y6 := H5.out.2.2.2.2.below hB6 H5.out.2.2.2.2.lt
    have c1 := y6.cell 0
    have H6 := Lib.hid (And.intro (H5.out.1.trans (hB6.mono H5.out.1.size)) (And.intro (H5.out.2.2.1.below hB6) (J2.out.2.below hB6)))
    clear y6 hB6 H5
    simp only []
    go_wp2_with (go_at_call 20; refine (Hid.out (p := _) ?_))
    refine Lib.hid ?_
    clear c1
    refine (is_same _ ln B' d' w6 _ _ H6.out.2.1 (Nat.le_trans HL.out.2 (by omega)) J2.out.1 H6.out.2.2).mono ?_
    rintro e w7 ⟨rfl, hB7⟩
    have H7 := Lib.hid (H6.out.1.trans (hB7.mono H6.out.1.size))
    clear hB7 H6
    simp only []
    go_wp2_with fail
    go_ret
    exact ⟨rfl, H7.out⟩
end Go.Proofs.YtdmfbcfhfopipaaGreatDoor
