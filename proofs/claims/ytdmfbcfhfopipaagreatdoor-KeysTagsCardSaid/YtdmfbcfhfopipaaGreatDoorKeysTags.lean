/- KeysTags, walked: true, whatever it is given. -/
import Derived.Test.YtdmfbcfhfopipaaGreatDoorRefOf
import Derived.Test.YtdmfbcfhfopipaaGreatDoorFits
namespace Go.Proofs.YtdmfbcfhfopipaaGreatDoor
open Go.RowKit

set_option maxRecDepth 100000 in
set_option maxHeartbeats 2000000 in
theorem keystags_any (kind : Int) (owner d : ByteArray) (x : DsD) (w : World) :
    Calls Tryz.prog 3 #[.int .i64 kind, .string owner, .string d, x.v] w fun e w' => e = .returned (.bool true) ∧ Below w.heap.size w w' := by
  have ht := fun w => key_tag d w
  have hrt := fun w => ref_tag d w
  have hd := fun w => keys_digest kind owner d w
  have hrd := fun w => ref_digest kind owner d w
  have ho := fun w => keys_of owner d kind w
  have hro := fun w => ref_of owner d kind w
  have hf := fun w => keys_fits owner d x w
  have hrf := fun w => ref_fits owner d x w
  generalize fitsB owner d x = fb at hf hrf
  generalize (keysDigest kind owner d).1 = dg at hd hrd
  generalize (keysDigest kind owner d).2 = de at hd hrd
  generalize (keysOf owner d kind).2 = oe at ho hro
  generalize (keysOf owner d kind).1 = y at ho hro
  obtain ⟨xt, xa, xk, xd⟩ := x
  obtain ⟨yt, ya, yk, yd⟩ := y
  simp only [DsD.v, DsD.cells] at ho hro hf hrf ⊢
  have HD := Lib.hid hd; have HRD := Lib.hid hrd; have HO := Lib.hid ho; have HRO := Lib.hid hro; have HF := Lib.hid hf; have HRF := Lib.hid hrf; have HX := Lib.hid examples_any
  clear hd hrd ho hro hf hrf
  cases hR : keyRight d
  · rw [hR] at ht hrt
    simp only [Bool.false_eq_true, if_false] at ht hrt
    have HT := Lib.hid ht; have HRT := Lib.hid hrt
    clear ht hrt hR
    go_enter Tryz.func3, Tryz.ntmps3
    go_wp2_with (first
      | (go_at_call 9; refine (HX.out _).mono ?_; rintro e w1 ⟨rfl, b1⟩; replace b1 := Lib.hid b1)
      | (go_at_call 10; refine (HT.out _).mono ?_; rintro e w2 ⟨rfl, b2⟩; replace b2 := Lib.hid b2)
      | (go_at_call 11; refine (HRT.out _).mono ?_; rintro e w3 ⟨rfl, b3⟩; replace b3 := Lib.hid b3)
      | (go_at_call 12; refine (HD.out _).mono ?_; rintro e w4 ⟨rfl, b4⟩; replace b4 := Lib.hid b4)
      | (go_at_call 13; refine (HRD.out _).mono ?_; rintro e w5 ⟨rfl, b5⟩; replace b5 := Lib.hid b5)
      | (go_at_call 14; refine (Hid.out (p := _) ?_)))
    refine Lib.hid ?_
    have hb0 : Below w.heap.size w (w.alloc (.cells #[.int .i64 xt, .int .i64 xa, .int .i64 xk, .string xd] 23)) := (Below.refl _ w).alloc (Nat.le_refl _) _
    have hx0 : Blk (w.alloc (.cells #[.int .i64 xt, .int .i64 xa, .int .i64 xk, .string xd] 23)) w.heap.size #[.int .i64 xt, .int .i64 xa, .int .i64 xk, .string xd] 23 := Blk.new w _ _
    have h1 := hb0.trans (b1.out.mono hb0.size)
    have x1 := hx0.below b1.out hx0.lt
    have h2 := h1.trans (b2.out.mono h1.size)
    have x2 := x1.below b2.out x1.lt
    have h3 := h2.trans (b3.out.mono h2.size)
    have x3 := x2.below b3.out x2.lt
    have h4 := h3.trans (b4.out.mono h3.size)
    have x4 := x3.below b4.out x3.lt
    have h5 := h4.trans (b5.out.mono h4.size)
    have x5 := x4.below b5.out x4.lt
    have H5 := Lib.hid (And.intro h5 x5)
    clear hb0 hx0 h1 x1 h2 x2 h3 x3 h4 x4 h5 x5 b1 b2 b3 b4 b5
    refine (HO.out _).mono ?_
    rintro e w6 ⟨rfl, hB⟩
    have h6 := H5.out.1.trans (hB.mono H5.out.1.size)
    have x6 := H5.out.2.below hB H5.out.2.lt
    have h7 := h6.alloc h6.size (.cells #[.int .i64 yt, .int .i64 ya, .int .i64 yk, .string yd] 23)
    have x7 := x6.alloc (.cells #[.int .i64 yt, .int .i64 ya, .int .i64 yk, .string yd] 23)
    have y7 := Blk.new w6 #[.int .i64 yt, .int .i64 ya, .int .i64 yk, .string yd] 23
    have H7 := Lib.hid (And.intro h7 (And.intro x7 y7))
    clear h6 x6 h7 x7 y7 hB H5
    simp only []
    go_wp2_with (go_at_call 15; refine (Hid.out (p := _) ?_))
    refine Lib.hid ?_
    refine (HRO.out _).mono ?_
    rintro e w8 ⟨rfl, hB⟩
    have h8 := H7.out.1.trans (hB.mono H7.out.1.size)
    have x8 := (H7.out.2.1.below hB H7.out.2.1.lt).alloc (.cells #[.int .i64 yt, .int .i64 ya, .int .i64 yk, .string yd] 23)
    have y8 := (H7.out.2.2.below hB H7.out.2.2.lt).alloc (.cells #[.int .i64 yt, .int .i64 ya, .int .i64 yk, .string yd] 23)
    have z8 := Blk.new w8 #[.int .i64 yt, .int .i64 ya, .int .i64 yk, .string yd] 23
    have h9 := h8.alloc h8.size (.cells #[.int .i64 yt, .int .i64 ya, .int .i64 yk, .string yd] 23)
    have c0 := x8.cell 0
    have c1 := x8.cell 1
    have c2 := x8.cell 2
    have c3 := x8.cell 3
    have H9 := Lib.hid (And.intro h9 (And.intro x8 (And.intro y8 z8)))
    clear h8 x8 y8 z8 h9 hB H7
    simp only []
    go_wp2_with (go_at_call 16; refine (Hid.out (p := _) ?_))
    refine Lib.hid ?_
    clear c0 c1 c2 c3
    refine (HRF.out _).mono ?_
    rintro e wA ⟨rfl, hB⟩
    have hA := H9.out.1.trans (hB.mono H9.out.1.size)
    have xA := H9.out.2.1.below hB H9.out.2.1.lt
    have yA := H9.out.2.2.1.below hB H9.out.2.2.1.lt
    have zA := H9.out.2.2.2.below hB H9.out.2.2.2.lt
    have c0 := xA.cell 0
    have c1 := xA.cell 1
    have c2 := xA.cell 2
    have c3 := xA.cell 3
    have d0 := yA.cell 0
    have d1 := yA.cell 1
    have d2 := yA.cell 2
    have d3 := yA.cell 3
    have e0 := zA.cell 0
    have e1 := zA.cell 1
    have e2 := zA.cell 2
    have e3 := zA.cell 3
    have HA := Lib.hid hA
    clear hA xA yA zA hB H9
    simp only []
    go_wp2_with (go_at_call 17; refine (Hid.out (p := _) ?_))
    refine Lib.hid ?_
    refine (HF.out _).mono ?_
    rintro e wB ⟨rfl, hB⟩
    have HB := Lib.hid (HA.out.trans (hB.mono HA.out.size))
    clear hB c0 c1 c2 c3 d0 d1 d2 d3 e0 e1 e2 e3
    simp only []
    go_wp2_with fail
    go_ret
    exact ⟨rfl, HB.out⟩
  · rw [hR] at ht hrt
    simp only [if_true] at ht hrt
    generalize tagOf d = tg at ht hrt
    have HT := Lib.hid ht; have HRT := Lib.hid hrt
    clear ht hrt hR
    go_enter Tryz.func3, Tryz.ntmps3
    go_wp2_with (first
      | (go_at_call 9; refine (HX.out _).mono ?_; rintro e w1 ⟨rfl, b1⟩; replace b1 := Lib.hid b1)
      | (go_at_call 10; refine (HT.out _).mono ?_; rintro e w2 ⟨rfl, b2⟩; replace b2 := Lib.hid b2)
      | (go_at_call 11; refine (HRT.out _).mono ?_; rintro e w3 ⟨rfl, b3⟩; replace b3 := Lib.hid b3)
      | (go_at_call 12; refine (HD.out _).mono ?_; rintro e w4 ⟨rfl, b4⟩; replace b4 := Lib.hid b4)
      | (go_at_call 13; refine (HRD.out _).mono ?_; rintro e w5 ⟨rfl, b5⟩; replace b5 := Lib.hid b5)
      | (go_at_call 14; refine (Hid.out (p := _) ?_)))
    refine Lib.hid ?_
    have hb0 : Below w.heap.size w (w.alloc (.cells #[.int .i64 xt, .int .i64 xa, .int .i64 xk, .string xd] 23)) := (Below.refl _ w).alloc (Nat.le_refl _) _
    have hx0 : Blk (w.alloc (.cells #[.int .i64 xt, .int .i64 xa, .int .i64 xk, .string xd] 23)) w.heap.size #[.int .i64 xt, .int .i64 xa, .int .i64 xk, .string xd] 23 := Blk.new w _ _
    have h1 := hb0.trans (b1.out.mono hb0.size)
    have x1 := hx0.below b1.out hx0.lt
    have h2 := h1.trans (b2.out.mono h1.size)
    have x2 := x1.below b2.out x1.lt
    have h3 := h2.trans (b3.out.mono h2.size)
    have x3 := x2.below b3.out x2.lt
    have h4 := h3.trans (b4.out.mono h3.size)
    have x4 := x3.below b4.out x3.lt
    have h5 := h4.trans (b5.out.mono h4.size)
    have x5 := x4.below b5.out x4.lt
    have H5 := Lib.hid (And.intro h5 x5)
    clear hb0 hx0 h1 x1 h2 x2 h3 x3 h4 x4 h5 x5 b1 b2 b3 b4 b5
    refine (HO.out _).mono ?_
    rintro e w6 ⟨rfl, hB⟩
    have h6 := H5.out.1.trans (hB.mono H5.out.1.size)
    have x6 := H5.out.2.below hB H5.out.2.lt
    have h7 := h6.alloc h6.size (.cells #[.int .i64 yt, .int .i64 ya, .int .i64 yk, .string yd] 23)
    have x7 := x6.alloc (.cells #[.int .i64 yt, .int .i64 ya, .int .i64 yk, .string yd] 23)
    have y7 := Blk.new w6 #[.int .i64 yt, .int .i64 ya, .int .i64 yk, .string yd] 23
    have H7 := Lib.hid (And.intro h7 (And.intro x7 y7))
    clear h6 x6 h7 x7 y7 hB H5
    simp only []
    go_wp2_with (go_at_call 15; refine (Hid.out (p := _) ?_))
    refine Lib.hid ?_
    refine (HRO.out _).mono ?_
    rintro e w8 ⟨rfl, hB⟩
    have h8 := H7.out.1.trans (hB.mono H7.out.1.size)
    have x8 := (H7.out.2.1.below hB H7.out.2.1.lt).alloc (.cells #[.int .i64 yt, .int .i64 ya, .int .i64 yk, .string yd] 23)
    have y8 := (H7.out.2.2.below hB H7.out.2.2.lt).alloc (.cells #[.int .i64 yt, .int .i64 ya, .int .i64 yk, .string yd] 23)
    have z8 := Blk.new w8 #[.int .i64 yt, .int .i64 ya, .int .i64 yk, .string yd] 23
    have h9 := h8.alloc h8.size (.cells #[.int .i64 yt, .int .i64 ya, .int .i64 yk, .string yd] 23)
    have c0 := x8.cell 0
    have c1 := x8.cell 1
    have c2 := x8.cell 2
    have c3 := x8.cell 3
    have H9 := Lib.hid (And.intro h9 (And.intro x8 (And.intro y8 z8)))
    clear h8 x8 y8 z8 h9 hB H7
    simp only []
    go_wp2_with (go_at_call 16; refine (Hid.out (p := _) ?_))
    refine Lib.hid ?_
    clear c0 c1 c2 c3
    refine (HRF.out _).mono ?_
    rintro e wA ⟨rfl, hB⟩
    have hA := H9.out.1.trans (hB.mono H9.out.1.size)
    have xA := H9.out.2.1.below hB H9.out.2.1.lt
    have yA := H9.out.2.2.1.below hB H9.out.2.2.1.lt
    have zA := H9.out.2.2.2.below hB H9.out.2.2.2.lt
    have c0 := xA.cell 0
    have c1 := xA.cell 1
    have c2 := xA.cell 2
    have c3 := xA.cell 3
    have d0 := yA.cell 0
    have d1 := yA.cell 1
    have d2 := yA.cell 2
    have d3 := yA.cell 3
    have e0 := zA.cell 0
    have e1 := zA.cell 1
    have e2 := zA.cell 2
    have e3 := zA.cell 3
    have HA := Lib.hid hA
    clear hA xA yA zA hB H9
    simp only []
    go_wp2_with (go_at_call 17; refine (Hid.out (p := _) ?_))
    refine Lib.hid ?_
    refine (HF.out _).mono ?_
    rintro e wB ⟨rfl, hB⟩
    have HB := Lib.hid (HA.out.trans (hB.mono HA.out.size))
    clear hB c0 c1 c2 c3 d0 d1 d2 d3 e0 e1 e2 e3
    simp only []
    go_wp2_with fail
    go_ret
    exact ⟨rfl, HB.out⟩
end Go.Proofs.YtdmfbcfhfopipaaGreatDoor
