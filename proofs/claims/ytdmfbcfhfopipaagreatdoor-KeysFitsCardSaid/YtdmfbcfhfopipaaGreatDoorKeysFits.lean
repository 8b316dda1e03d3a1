/- KeysFits, walked: true. -/
import Derived.Test.YtdmfbcfhfopipaaGreatDoorFitsLaw
namespace Go.Proofs.YtdmfbcfhfopipaaGreatDoor
open Go.RowKit

set_option maxRecDepth 100000 in
set_option maxHeartbeats 1000000 in
theorem keysfits_err (owner d : ByteArray) (kind : Int) (w : World) (h : (keysOf owner d kind).2 ≠ 0) :
    Calls Tryz.prog 4 #[.string owner, .string d, .int .i64 kind] w fun e w' => e = .returned (.bool true) ∧ Below w.heap.size w w' := by
  have hof := fun w => keys_of owner d kind w
  rw [keysOf_err h] at hof
  have hfit := fun w => keys_fits owner d ⟨0, 0, kind, ⟨#[]⟩⟩ w
  rw [fits_err ⟨0, 0, kind, ⟨#[]⟩⟩ rfl h] at hfit
  have hex := examples_any
  generalize (keysOf owner d kind).2 = err at hof h
  simp only [DsD.v, DsD.cells, DsD.none] at hof hfit
  have q1 : (err != 0) = true := by simpa using h
  have HO := Lib.hid hof; have HF := Lib.hid hfit; have HX := Lib.hid hex
  clear hof hfit hex h
  go_enter Tryz.func4, Tryz.ntmps4
  go_wp2_with (first
    | (go_at_call 9; refine (HX.out _).mono ?_; rintro e w1 ⟨rfl, hB1⟩; replace hB1 := Lib.hid hB1)
    | (go_at_call 14; refine (HO.out _).mono ?_; rintro e w2 ⟨rfl, hB2⟩; replace hB2 := Lib.hid hB2)
    | (go_at_call 17; refine (HF.out _).mono ?_; rintro e w3 ⟨rfl, hB3⟩; replace hB3 := Lib.hid hB3))
  go_ret
  have b1 := hB1.out
  have b2 := b1.trans (hB2.out.mono b1.size)
  have b3 := b2.alloc b2.size (.cells #[.int .i64 0, .int .i64 0, .int .i64 0, .string ⟨#[]⟩] 23)
  exact ⟨rfl, b3.trans (hB3.out.mono b3.size)⟩

structure FourDs (w W : World) (n : Nat) (cx cy cz cu : Array Value) : Prop where
  x : Blk W n cx 23
  y : Blk W (n + 1) cy 23
  z : Blk W (n + 1 + 1) cz 23
  u : Blk W (n + 1 + 1 + 1) cu 23
  below : Below w.heap.size w W
theorem FourDs.next {w W W' : World} {n : Nat} {cx cy cz cu : Array Value} (h : FourDs w W n cx cy cz cu) (hb : Below W.heap.size W W') : FourDs w W' n cx cy cz cu :=
  ⟨h.x.below hb h.x.lt, h.y.below hb h.y.lt, h.z.below hb h.z.lt, h.u.below hb h.u.lt, h.below.trans (hb.mono h.below.size)⟩
theorem fourDs {w : World} (w2 : World) (x y z u : DsD) (hb : Below w.heap.size w w2) :
    FourDs w ((((w2.alloc (.cells x.cells 23)).alloc (.cells y.cells 23)).alloc (.cells z.cells 23)).alloc (.cells u.cells 23)) w2.heap.size x.cells y.cells z.cells u.cells := by
  refine ⟨(((Blk.new w2 _ _).alloc _).alloc _).alloc _, ?_, ?_, ?_, ?_⟩
  · have := ((Blk.new (w2.alloc (.cells x.cells 23)) y.cells 23).alloc (.cells z.cells 23)).alloc (.cells u.cells 23)
    simpa using this
  · have := (Blk.new ((w2.alloc (.cells x.cells 23)).alloc (.cells y.cells 23)) z.cells 23).alloc (.cells u.cells 23)
    simpa using this
  · have := Blk.new (((w2.alloc (.cells x.cells 23)).alloc (.cells y.cells 23)).alloc (.cells z.cells 23)) u.cells 23
    simpa using this
  · have a1 := hb.alloc hb.size (.cells x.cells 23)
    have a2 := a1.alloc a1.size (.cells y.cells 23)
    have a3 := a2.alloc a2.size (.cells z.cells 23)
    exact a3.alloc a3.size _

set_option maxRecDepth 100000 in
set_option maxHeartbeats 2000000 in
theorem keysfits_ok (owner d : ByteArray) (kind : Int) (w : World) (h : (keysOf owner d kind).2 = 0) :
    Calls Tryz.prog 4 #[.string owner, .string d, .int .i64 kind] w fun e w' => e = .returned (.bool true) ∧ Below w.heap.size w w' := by
  have hof := fun w => keys_of owner d kind w
  obtain ⟨k1, k2, k3, k4, k5⟩ := keysOf_ok h
  have hr := (keysDigest_ok k5).1
  have hkk := (keysDigest_ok k5).2.2
  have htb := tagOf_bd d
  have hab := alg_bd d hr
  rw [← k1] at htb
  rw [← k2] at hab
  have f0 := fits_same h
  have f1 := fun y => fits_tag (y := y) h
  have f2 := fits_kind h
  rw [h] at hof
  generalize (keysOf owner d kind).1 = x at *
  obtain ⟨t, a, k, dg⟩ := x
  simp only [] at k3 htb hab
  subst k3
  have ht := xor1_ne t htb.1 (by omega)
  have ha := xor1_ne a hab.1 (by omega)
  generalize hty : bits .xor .i64 t 1 = ty at ht
  generalize hay : bits .xor .i64 a 1 = ay at ha
  have g0 := fun w => keys_fits owner d ⟨t, a, k, dg⟩ w
  rw [f0] at g0
  have g1 := fun w => keys_fits owner d ⟨ty, a, k, dg⟩ w
  rw [f1 ⟨ty, a, k, dg⟩ rfl (.inl ht)] at g1
  have g2 := fun w => keys_fits owner d ⟨t, ay, k, dg⟩ w
  rw [f1 ⟨t, ay, k, dg⟩ rfl (.inr ha)] at g2
  have g3 := fun w => keys_fits owner d ⟨t, a, 3 - k, dg⟩ w
  rw [f2 ⟨t, a, 3 - k, dg⟩ rfl rfl] at g3
  have hk3 : ∃ k', 3 - k = k' := ⟨_, rfl⟩
  obtain ⟨k', hk'⟩ := hk3
  rw [hk'] at g3
  have hb0 : decide ((0 : Int) ≤ t) = true := decide_eq_true htb.1
  have hb1 : decide (t < 65536) = true := decide_eq_true htb.2
  have hwr : IntKind.i64.wrap (3 - k) = k' := by rw [IntWalk.i64_in _ (by omega), hk']
  simp only [DsD.v, DsD.cells] at hof g0 g1 g2 g3
  have HO := Lib.hid hof; have G0 := Lib.hid g0; have G1 := Lib.hid g1; have G2 := Lib.hid g2; have G3 := Lib.hid g3; have HX := Lib.hid examples_any
  clear hof g0 g1 g2 g3 f0 f1 f2 k1 k2 k4 k5 hr htb hab ht ha h
  go_enter Tryz.func4, Tryz.ntmps4
  go_wp2_with (first
    | (go_at_call 9; refine (HX.out _).mono ?_; rintro e w1 ⟨rfl, hB1⟩; replace hB1 := Lib.hid hB1)
    | (go_at_call 14; refine (HO.out _).mono ?_; rintro e w2 ⟨rfl, hB2⟩; replace hB2 := Lib.hid hB2)
    | (go_at_call 17; refine (Hid.out (p := _) ?_)))
  refine Lib.hid ?_
  have b1 := hB1.out
  have b2 := b1.trans (hB2.out.mono b1.size)
  have hF := fourDs w2 ⟨t, a, k, dg⟩ ⟨ty, a, k, dg⟩ ⟨t, ay, k, dg⟩ ⟨t, a, k', dg⟩ b2
  simp only [DsD.cells] at hF
  generalize ((((w2.alloc (.cells #[.int .i64 t, .int .i64 a, .int .i64 k, .string dg] 23)).alloc (.cells #[.int .i64 ty, .int .i64 a, .int .i64 k, .string dg] 23)).alloc (.cells #[.int .i64 t, .int .i64 ay, .int .i64 k, .string dg] 23)).alloc (.cells #[.int .i64 t, .int .i64 a, .int .i64 k', .string dg] 23)) = W0 at hF ⊢
  have HF := Lib.hid hF
  clear hF b1 b2 hB1 hB2
  refine (G0.out _).mono ?_
  rintro e W3 ⟨rfl, hB⟩
  have hF := HF.out.next hB
  have HF3 := Lib.hid hF
  clear hF hB HF
  simp only []
  have c0 : W3.cell? ⟨w2.heap.size + 1, 0, none⟩ = some (.int .i64 ty) := HF3.out.y.cell 0
  have c1 : W3.cell? ⟨w2.heap.size + 1, 1, none⟩ = some (.int .i64 a) := HF3.out.y.cell 1
  have c2 : W3.cell? ⟨w2.heap.size + 1, 2, none⟩ = some (.int .i64 k) := HF3.out.y.cell 2
  have c3 : W3.cell? ⟨w2.heap.size + 1, 3, none⟩ = some (.string dg) := HF3.out.y.cell 3
  go_wp2_with (go_at_call 17; refine (Hid.out (p := _) ?_))
  refine Lib.hid ?_
  clear c0 c1 c2 c3
  refine (G1.out _).mono ?_
  rintro e W4 ⟨rfl, hB⟩
  have hF := HF3.out.next hB
  have HF4 := Lib.hid hF
  clear hF hB HF3
  simp only []
  have c0 : W4.cell? ⟨w2.heap.size + 1 + 1, 0, none⟩ = some (.int .i64 t) := HF4.out.z.cell 0
  have c1 : W4.cell? ⟨w2.heap.size + 1 + 1, 1, none⟩ = some (.int .i64 ay) := HF4.out.z.cell 1
  have c2 : W4.cell? ⟨w2.heap.size + 1 + 1, 2, none⟩ = some (.int .i64 k) := HF4.out.z.cell 2
  have c3 : W4.cell? ⟨w2.heap.size + 1 + 1, 3, none⟩ = some (.string dg) := HF4.out.z.cell 3
  go_wp2_with (go_at_call 17; refine (Hid.out (p := _) ?_))
  refine Lib.hid ?_
  clear c0 c1 c2 c3
  refine (G2.out _).mono ?_
  rintro e W5 ⟨rfl, hB⟩
  have hF := HF4.out.next hB
  have HF5 := Lib.hid hF
  clear hF hB HF4
  simp only []
  have c0 : W5.cell? ⟨w2.heap.size + 1 + 1 + 1, 0, none⟩ = some (.int .i64 t) := HF5.out.u.cell 0
  have c1 : W5.cell? ⟨w2.heap.size + 1 + 1 + 1, 1, none⟩ = some (.int .i64 a) := HF5.out.u.cell 1
  have c2 : W5.cell? ⟨w2.heap.size + 1 + 1 + 1, 2, none⟩ = some (.int .i64 k') := HF5.out.u.cell 2
  have c3 : W5.cell? ⟨w2.heap.size + 1 + 1 + 1, 3, none⟩ = some (.string dg) := HF5.out.u.cell 3
  go_wp2_with (go_at_call 17; refine (Hid.out (p := _) ?_))
  refine Lib.hid ?_
  clear c0 c1 c2 c3
  refine (G3.out _).mono ?_
  rintro e W6 ⟨rfl, hB⟩
  have hF := HF5.out.next hB
  have HF6 := Lib.hid hF
  clear hF hB HF5
  simp only []
  have c0 : W6.cell? ⟨w2.heap.size, 0, none⟩ = some (.int .i64 t) := HF6.out.x.cell 0
  go_wp2_with fail
  go_ret
  exact ⟨rfl, HF6.out.below⟩
end Go.Proofs.YtdmfbcfhfopipaaGreatDoor
