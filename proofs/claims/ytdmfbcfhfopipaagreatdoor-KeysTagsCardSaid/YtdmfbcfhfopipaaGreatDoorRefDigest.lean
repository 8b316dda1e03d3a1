/- A key's digest and its Ds by the document's chapter 6: they are the program's. -/
import Derived.Test.YtdmfbcfhfopipaaGreatDoorRefSum1
import Derived.Test.YtdmfbcfhfopipaaGreatDoorRefSum2
import Derived.Test.YtdmfbcfhfopipaaGreatDoorRefLower
import Derived.Test.YtdmfbcfhfopipaaGreatDoorRefTag
import Derived.Test.YtdmfbcfhfopipaaGreatDoorFitsLaw
namespace Go.Proofs.YtdmfbcfhfopipaaGreatDoor
open Go.RowKit

set_option maxRecDepth 100000 in
set_option maxHeartbeats 1000000 in
theorem ref_digest (kind : Int) (owner d : ByteArray) (w : World) :
    Calls Tryz.prog 13 #[.int .i64 kind, .string owner, .string d] w fun e w' => e = .returned (.tuple #[.string (keysDigest kind owner d).1, .int .i64 (keysDigest kind owner d).2]) ∧ Below w.heap.size w w' := by
  have hk := fun w => ref_key d w
  have hrt := fun w => ref_right owner w
  have hlo := fun w => ref_lower owner w
  obtain ⟨f, p, a, q, hv⟩ : ∃ f p a q, (if keyRight d then keyOf d else KeyD.none).v = .agg #[.int .i64 f, .int .i64 p, .int .i64 a, .string q] := ⟨_, _, _, _, rfl⟩
  rw [hv] at hk
  clear hv
  by_cases hA : kind < 1 ∨ 2 < kind
  · have e : keysDigest kind owner d = (⟨#[]⟩, 1) := by rw [keysDigest, if_pos hA]
    rw [e]
    have q1 : (kind != 1) = true := by simp; omega
    have q2 : (kind != 2) = true := by simp; omega
    generalize keyRight d = R at hk
    generalize nameRight owner = R2 at hrt
    have HK := Lib.hid hk; have HRt := Lib.hid hrt
    clear hk hrt hlo hA e
    go_enter Tryz.func13, Tryz.ntmps13
    go_wp2_with (first
      | (go_at_call 30; refine (HK.out _).mono ?_; rintro e w1 ⟨rfl, b1⟩; replace b1 := Lib.hid b1)
      | (go_at_call 34; refine (HRt.out _).mono ?_; rintro e w2 ⟨rfl, b2⟩; replace b2 := Lib.hid b2))
    go_ret2
    have h1 := b1.out.alloc b1.out.size (.cells #[.int .i64 f, .int .i64 p, .int .i64 a, .string q] 67)
    exact ⟨rfl, h1.trans (b2.out.mono h1.size)⟩
  · have hkk : kind = 1 ∨ kind = 2 := by omega
    by_cases hR : nameRight owner = true
    · have hlow : nameLower owner = lowS owner := by rw [nameLower, hR]; rfl
      rw [hR] at hrt
      rw [hlow] at hlo
      have h255 : owner.size ≤ 255 := by simp only [nameRight, Bool.and_eq_true, decide_eq_true_eq] at hR; exact hR.1.1.2
      by_cases hD : keyRight d = true
      · have h2000 : d.size ≤ 2000 := by simp [keyRight] at hD; omega
        rw [hD] at hk
        have hsz : (lowS owner ++ d).size ≤ 1000000 := by rw [ByteArray.size_append, size_lowS]; omega
        have hn : ¬ 9223372036854775807 < (lowS owner).size + d.size := by rw [size_lowS]; omega
        have hs1 := fun w => ref_sum160 (lowS owner ++ d) hsz w
        have hs2 := fun w => ref_sum256 (lowS owner ++ d) hsz w
        have HK := Lib.hid hk; have HRt := Lib.hid hrt; have HLo := Lib.hid hlo; have HS1 := Lib.hid hs1; have HS2 := Lib.hid hs2
        have e1 : keysDigest 1 owner d = (bs (sum160 (lowS owner ++ d).data.toList), 0) := by rw [keysDigest, if_neg (by omega), if_neg (by rw [hR]; simp), if_neg (by rw [hD]; simp), if_pos rfl]
        have e2 : keysDigest 2 owner d = (bs (sum256 (lowS owner ++ d).data.toList), 0) := by rw [keysDigest, if_neg (by omega), if_neg (by rw [hR]; simp), if_neg (by rw [hD]; simp), if_neg (by omega)]
        rcases hkk with rfl | rfl
        · rw [e1]
          generalize bs (sum160 (lowS owner ++ d).data.toList) = R1 at HS1
          clear hk hrt hlo hs1 hs2 hA hR hD e1 e2 h255 h2000 hsz hlow HS2
          go_enter Tryz.func13, Tryz.ntmps13
          go_wp2_with (first
            | (go_at_call 30; refine (HK.out _).mono ?_; rintro e w1 ⟨rfl, b1⟩; replace b1 := Lib.hid b1)
            | (go_at_call 34; refine (HRt.out _).mono ?_; rintro e w2 ⟨rfl, b2⟩; replace b2 := Lib.hid b2)
            | (go_at_call 36; refine (HLo.out _).mono ?_; rintro e w3 ⟨rfl, b3⟩; replace b3 := Lib.hid b3)
            | (go_at_call 35; refine (HS1.out _).mono ?_; rintro e w4 ⟨rfl, b4⟩; replace b4 := Lib.hid b4))
          go_ret2
          have h1 := b1.out.alloc b1.out.size (.cells #[.int .i64 f, .int .i64 p, .int .i64 a, .string q] 67)
          have h2 := h1.trans (b2.out.mono h1.size)
          have h3 := h2.trans (b3.out.mono h2.size)
          exact ⟨rfl, h3.trans (b4.out.mono h3.size)⟩
        · rw [e2]
          generalize bs (sum256 (lowS owner ++ d).data.toList) = R1 at HS2
          clear hk hrt hlo hs1 hs2 hA hR hD e1 e2 h255 h2000 hsz hlow HS1
          go_enter Tryz.func13, Tryz.ntmps13
          go_wp2_with (first
            | (go_at_call 30; refine (HK.out _).mono ?_; rintro e w1 ⟨rfl, b1⟩; replace b1 := Lib.hid b1)
            | (go_at_call 34; refine (HRt.out _).mono ?_; rintro e w2 ⟨rfl, b2⟩; replace b2 := Lib.hid b2)
            | (go_at_call 36; refine (HLo.out _).mono ?_; rintro e w3 ⟨rfl, b3⟩; replace b3 := Lib.hid b3)
            | (go_at_call 37; refine (HS2.out _).mono ?_; rintro e w4 ⟨rfl, b4⟩; replace b4 := Lib.hid b4))
          go_ret2
          have h1 := b1.out.alloc b1.out.size (.cells #[.int .i64 f, .int .i64 p, .int .i64 a, .string q] 67)
          have h2 := h1.trans (b2.out.mono h1.size)
          have h3 := h2.trans (b3.out.mono h2.size)
          exact ⟨rfl, h3.trans (b4.out.mono h3.size)⟩
      · have hD0 : keyRight d = false := by simpa using hD
        have e : keysDigest kind owner d = (⟨#[]⟩, 6) := by rw [keysDigest, if_neg hA, if_neg (by rw [hR]; simp), if_pos hD0]
        rw [e]
        rw [hD0] at hk
        have HK := Lib.hid hk; have HRt := Lib.hid hrt
        clear hk hrt hlo hA e hR hD hD0 h255 hlow
        rcases hkk with rfl | rfl
        all_goals
          go_enter Tryz.func13, Tryz.ntmps13
          go_wp2_with (first
            | (go_at_call 30; refine (HK.out _).mono ?_; rintro e w1 ⟨rfl, b1⟩; replace b1 := Lib.hid b1)
            | (go_at_call 34; refine (HRt.out _).mono ?_; rintro e w2 ⟨rfl, b2⟩; replace b2 := Lib.hid b2))
          go_ret2
          have h1 := b1.out.alloc b1.out.size (.cells #[.int .i64 f, .int .i64 p, .int .i64 a, .string q] 67)
          exact ⟨rfl, h1.trans (b2.out.mono h1.size)⟩
    · have hR0 : nameRight owner = false := by simpa using hR
      have e : keysDigest kind owner d = (⟨#[]⟩, 2) := by rw [keysDigest, if_neg hA, if_pos hR0]
      rw [e]
      rw [hR0] at hrt
      generalize keyRight d = R at hk
      have HK := Lib.hid hk; have HRt := Lib.hid hrt
      clear hk hrt hlo hA e hR hR0
      rcases hkk with rfl | rfl
      all_goals
        go_enter Tryz.func13, Tryz.ntmps13
        go_wp2_with (first
          | (go_at_call 30; refine (HK.out _).mono ?_; rintro e w1 ⟨rfl, b1⟩; replace b1 := Lib.hid b1)
          | (go_at_call 34; refine (HRt.out _).mono ?_; rintro e w2 ⟨rfl, b2⟩; replace b2 := Lib.hid b2))
        go_ret2
        have h1 := b1.out.alloc b1.out.size (.cells #[.int .i64 f, .int .i64 p, .int .i64 a, .string q] 67)
        exact ⟨rfl, h1.trans (b2.out.mono h1.size)⟩
end Go.Proofs.YtdmfbcfhfopipaaGreatDoor
