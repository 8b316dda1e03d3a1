/- KeysSwaps, walked: true. -/
import Derived.Test.YtdmfbcfhfopipaaGreatDoorSwapsLaw
import Derived.Test.YtdmfbcfhfopipaaGreatDoorRows8
namespace Go.Proofs.YtdmfbcfhfopipaaGreatDoor
open Go.RowKit

theorem many_int (d : ByteArray) (h : 5 ≤ d.size ∧ d.size ≤ 2000) : ((d.size : Int) - 4) / 2 = (((d.size - 4) / 2 : Nat) : Int) := by omega

set_option maxRecDepth 100000 in
/-- No key, or less than two pairs behind the fourth byte. -/
theorem keysswaps_few (d owner : ByteArray) (i j : Int) (w : World) (h : keyRight d = false ∨ (d.size - 4) / 2 < 2) :
    Calls Tryz.prog 5 #[.string d, .int .i64 i, .int .i64 j, .string owner] w fun e w' => e = .returned (.bool true) ∧ Below w.heap.size w w' := by
  have ht := fun w => key_tag d w
  by_cases hk : keyRight d = true
  · have h5 : 5 ≤ d.size ∧ d.size ≤ 2000 := by simpa [keyRight] using hk
    have hq := many_int d h5
    rw [hk] at h ht
    have h2 : (d.size - 4) / 2 < 2 := by simpa using h
    generalize (d.size - 4) / 2 = m at hq h2
    have q2 : decide ((m : Int) < 2) = true := decide_eq_true (by omega)
    simp only [if_true] at ht
    generalize tagOf d = t at ht
    have HT := Lib.hid ht; have HX := Lib.hid examples_any
    clear ht h h2 hk
    go_enter Tryz.func5, Tryz.ntmps5
    go_wp2_with (first
      | (go_at_call 9; refine (HX.out _).mono ?_; rintro e w1 ⟨rfl, hB1⟩; replace hB1 := Lib.hid hB1)
      | (go_at_call 10; refine (HT.out _).mono ?_; rintro e w2 ⟨rfl, hB2⟩; replace hB2 := Lib.hid hB2))
    go_ret
    exact ⟨rfl, hB1.out.trans (hB2.out.mono hB1.out.size)⟩
  · have hk' : keyRight d = false := by simpa using hk
    rw [hk'] at ht
    simp only [Bool.false_eq_true, if_false] at ht
    have HT := Lib.hid ht; have HX := Lib.hid examples_any
    clear ht h hk hk'
    go_enter Tryz.func5, Tryz.ntmps5
    go_wp2_with (first
      | (go_at_call 9; refine (HX.out _).mono ?_; rintro e w1 ⟨rfl, hB1⟩; replace hB1 := Lib.hid hB1)
      | (go_at_call 10; refine (HT.out _).mono ?_; rintro e w2 ⟨rfl, hB2⟩; replace hB2 := Lib.hid hB2))
    go_ret
    exact ⟨rfl, hB1.out.trans (hB2.out.mono hB1.out.size)⟩
theorem swap_bytes (d : ByteArray) (a b : Nat) (la : a + 1 < d.size) (lb : b + 1 < d.size) :
    (bset (bset (bset (bset d a d[b]) (a + 1) d[b + 1]) b d[a]) (b + 1) d[a + 1]).data.toList = swapL d.data.toList a b := by
  have e : ∀ k (h : k < d.size), d.data.toList.getD k 0 = d[k] := by
    intro k h
    simp [List.getD, List.getElem?_eq_getElem (show k < d.data.toList.length by simpa using h)]; rfl
  rw [swapL, e a (by omega), e (a + 1) la, e b (by omega), e (b + 1) lb]
  simp only [bset, Array.toList_setIfInBounds]
theorem swap_facts (d c : ByteArray) (a b a1 b1 : Nat) (la : a1 < d.size) (lb : b1 < d.size) (ha : a < d.size) (hb : b < d.size) (hA1 : (a : Int) + 1 = (a1 : Int)) (hB1 : (b : Int) + 1 = (b1 : Int))
    (hc : c = bset (bset (bset (bset d a d[b]) a1 d[b1]) b d[a]) b1 d[a1]) : c.data.toList = swapL d.data.toList a b ∧ c.size = d.size := by
  obtain rfl : a1 = a + 1 := by omega
  obtain rfl : b1 = b + 1 := by omega
  exact ⟨by rw [hc]; exact swap_bytes d a b la lb, by rw [hc]; simp only [size_bset]⟩
theorem pair_lt (d : ByteArray) (r m : Nat) (hm : (d.size - 4) / 2 = m) (hr : r < m) : 4 + 2 * r + 1 < d.size := by omega

/-- The world behind the first Ds. -/
structure SwX (w W : World) (n g : Nat) (c : ByteArray) (x : Array Value) : Prop where
  below : Below w.heap.size w W
  s : BytesAt W g c
  lt : g < W.heap.size
  x : Blk W n x 23
theorem BytesAt.alloc {w : World} {b : Nat} {t : ByteArray} (h : BytesAt w b t) (hlt : b < w.heap.size) (o : Obj) : BytesAt (w.alloc o) b t := h.below ((Below.refl _ w).alloc (Nat.le_refl _) o) hlt
theorem SwX.new {w W : World} {g : Nat} {c : ByteArray} {x : Array Value} (h1 : Below w.heap.size w W) (h2 : BytesAt W g c) (h3 : g < W.heap.size) : SwX w (W.alloc (.cells x 23)) W.heap.size g c x :=
  ⟨h1.alloc h1.size _, h2.alloc h3 _, by simp; omega, Blk.new _ _ _⟩
theorem SwX.next {w W W' : World} {n g : Nat} {c : ByteArray} {x : Array Value} (h : SwX w W n g c x) (hb : Below W.heap.size W W') : SwX w W' n g c x :=
  ⟨h.below.trans (hb.mono h.below.size), h.s.below hb h.lt, Nat.lt_of_lt_of_le h.lt hb.size, h.x.below hb h.x.lt⟩
theorem SwX.alloc {w W : World} {n g : Nat} {c : ByteArray} {x : Array Value} (h : SwX w W n g c x) (o : Obj) : SwX w (W.alloc o) n g c x := h.next ((Below.refl _ W).alloc (Nat.le_refl _) o)

set_option maxRecDepth 100000 in
set_option maxHeartbeats 2000000 in
theorem keysswaps_at (d owner : ByteArray) (i j i' j' : Int) (a b a1 b1 : Nat) (w : World) (hk : keyRight d = true) (hm : 2 ≤ (d.size - 4) / 2) (wi : -9223372036854775808 ≤ i ∧ i ≤ 9223372036854775807) (wj : -9223372036854775808 ≤ j ∧ j ≤ 9223372036854775807)
    (hi : (i < 0 ∧ i' = -(i + 1)) ∨ (0 ≤ i ∧ i' = i)) (hj : (j < 0 ∧ j' = -(j + 1)) ∨ (0 ≤ j ∧ j' = j))
    (hA : wrap64 (4 + wrap64 (2 * i'.tmod (((d.size - 4) / 2 : Nat) : Int))) = (a : Int)) (hB : wrap64 (4 + wrap64 (2 * j'.tmod (((d.size - 4) / 2 : Nat) : Int))) = (b : Int))
    (hA1 : (a : Int) + 1 = (a1 : Int)) (hB1 : (b : Int) + 1 = (b1 : Int)) (ea : a % 2 = 0) (eb : b % 2 = 0) (la : a1 < d.size) (lb : b1 < d.size) :
    Calls Tryz.prog 5 #[.string d, .int .i64 i, .int .i64 j, .string owner] w fun e w' => e = .returned (.bool true) ∧ Below w.heap.size w w' := by
  have h5 : 5 ≤ d.size ∧ d.size ≤ 2000 := by simpa [keyRight] using hk
  have hq := many_int d h5
  have ht := fun w => key_tag d w
  rw [hk] at ht
  simp only [if_true] at ht
  generalize (d.size - 4) / 2 = m at hq hm hA hB
  have q2 : decide ((m : Int) < 2) = false := decide_eq_false (by omega)
  have ha : a < d.size := by omega
  have hb : b < d.size := by omega
  obtain ⟨c, hc⟩ : ∃ c, c = bset (bset (bset (bset d a d[b]) a1 d[b1]) b d[a]) b1 d[a1] := ⟨_, rfl⟩
  obtain ⟨hcl, hcs⟩ := swap_facts d c a b a1 b1 la lb ha hb hA1 hB1 hc
  have hcr : keyRight c = true := by rw [keyRight_same hcs, hk]
  have hct : tagOf c = tagOf d := swap_tag hcl ea eb (by omega) (by omega)
  have htc := fun w => key_tag c w
  rw [hcr, hct] at htc
  simp only [if_true] at htc
  have hod := fun w => keys_of owner d 2 w
  have hoc := fun w => keys_of owner c 2 w
  have he : (keysOf owner c 2).2 = (keysOf owner d 2).2 := by rw [keysOf_2, keysOf_2, digest_err_size 2 owner hcs]
  have htt : (keysOf owner c 2).1.tag = (keysOf owner d 2).1.tag := by rw [keysOf_tag, keysOf_tag, digest_err_size 2 owner hcs, hct]
  have hxy : c = d → (keysOf owner c 2).1 = (keysOf owner d 2).1 := fun h => by rw [h]
  rw [he] at hoc
  generalize (keysOf owner d 2).2 = err at hod hoc
  generalize (keysOf owner d 2).1 = x at hod htt hxy
  generalize (keysOf owner c 2).1 = y at hoc htt hxy
  generalize tagOf d = t at ht htc
  obtain ⟨x1, x2, x3, x4⟩ := x
  obtain ⟨y1, y2, y3, y4⟩ := y
  simp only [] at htt
  subst htt
  simp only [DsD.v, DsD.cells] at hod hoc
  have HT := Lib.hid ht; have HTC := Lib.hid htc; have HOD := Lib.hid hod; have HOC := Lib.hid hoc; have HXY := Lib.hid hxy; have HX := Lib.hid examples_any
  have HC := Lib.hid hc; have hcz := Lib.hid hcs.symm; have HI := Lib.hid hi; have HJ := Lib.hid hj
  clear ht htc hod hoc hxy hk hcl hcr hct he hc hcs hi hj
  rcases HI.out with ⟨hi, rfl⟩ | ⟨hi, rfl⟩ <;> rcases HJ.out with ⟨hj, rfl⟩ | ⟨hj, rfl⟩
  all_goals
    clear HI HJ
    first | simp only [Int.neg_tmod] at hA | rw [Int.tmod_eq_emod_of_nonneg (by assumption)] at hA
    first | simp only [Int.neg_tmod] at hB | rw [Int.tmod_eq_emod_of_nonneg (by assumption)] at hB
    go_enter Tryz.func5, Tryz.ntmps5
    go_wp2_with (first
      | (go_at_call 9; refine (HX.out _).mono ?_; rintro e w1 ⟨rfl, bw1⟩; replace bw1 := Lib.hid bw1)
      | (go_at_call 10; refine (HT.out _).mono ?_; rintro e w2 ⟨rfl, bw2⟩; replace bw2 := Lib.hid bw2))
    have s0 : w.heap.size ≤ w2.heap.size := Nat.le_trans bw1.out.size bw2.out.size
    have hcv := conv_string_bytes w2 d
    have hA0 := BytesAt.new w2 d
    have bw3 : Below w.heap.size w (Lib.bytesWorld w2 5 d) := (bw1.out.trans (bw2.out.mono bw1.out.size)).trans ((below_bytesWorld w2 5 d).mono s0)
    have z3 := Lib.bytesWorld_size w2 5 d
    generalize grownCap w2 d.size 0 5 = cap at hcv
    generalize Lib.bytesWorld w2 5 d = W0 at hcv hA0 bw3 z3
    generalize w2.heap.size = g at hcv hA0 z3 s0
    have hA2 := hA0.set a d[b] ha
    have hA3 := hA2.set a1 d[b1] (by rw [size_bset]; exact la)
    have hA4 := hA3.set b d[a] (by rw [size_bset, size_bset]; exact hb)
    have hA5 := hA4.set b1 d[a1] (by rw [size_bset, size_bset, size_bset]; exact lb)
    rw [← HC.out] at hA5
    have c0 := hA0 a ha
    have c1 := hA2 a1 (by rw [size_bset]; exact la)
    have c2 := hA3 b (by rw [size_bset, size_bset]; exact hb)
    have c3 := hA4 b1 (by rw [size_bset, size_bset, size_bset]; exact lb)
    simp only [World.frozen?_setCell] at c1 c2 c3
    obtain ⟨c0, f0⟩ := c0
    obtain ⟨c1, f1⟩ := c1
    obtain ⟨c2, f2⟩ := c2
    obtain ⟨c3, f3⟩ := c3
    have S := Lib.hid (And.intro (((((bw3.setCell (p := ⟨g, a, none⟩) s0 (.int .u8 (d[b].toNat : Int))).setCell (p := ⟨g, a1, none⟩) s0 (.int .u8 (d[b1].toNat : Int))).setCell (p := ⟨g, b, none⟩) s0 (.int .u8 (d[a].toNat : Int))).setCell (p := ⟨g, b1, none⟩) s0 (.int .u8 (d[a1].toNat : Int)))) (And.intro hA5 (show g < ((((W0.setCell ⟨g, a, none⟩ (.int .u8 (d[b].toNat : Int))).setCell ⟨g, a1, none⟩ (.int .u8 (d[b1].toNat : Int))).setCell ⟨g, b, none⟩ (.int .u8 (d[a].toNat : Int))).setCell ⟨g, b1, none⟩ (.int .u8 (d[a1].toNat : Int))).heap.size by simp; omega)))
    have hcs := S.out.2.1.string d.size cap hcz.out
    clear hA0 hA2 hA3 hA4 hA5 bw3 z3 bw1 bw2 s0
    rw [hcv]
    go_wp2_with (go_at_call 10; refine (Hid.out (p := _) ?_))
    refine Lib.hid ?_
    clear hcs c0 c1 c2 c3 f0 f1 f2 f3 hcv
    refine (HTC.out _).mono ?_
    rintro e w3 ⟨rfl, hB⟩
    have hn := And.intro (S.out.1.trans (hB.mono S.out.1.size)) (S.out.2.1.below hB S.out.2.2)
    have S3 := Lib.hid (And.intro hn.1 (And.intro hn.2 (Nat.lt_of_lt_of_le S.out.2.2 hB.size)))
    clear hn hB S
    simp only []
    go_wp2_with (go_at_call 14; refine (Hid.out (p := _) ?_))
    refine Lib.hid ?_
    refine (HOD.out _).mono ?_
    rintro e w4 ⟨rfl, hB⟩
    have hn := And.intro (S3.out.1.trans (hB.mono S3.out.1.size)) (S3.out.2.1.below hB S3.out.2.2)
    have S4 := Lib.hid (And.intro hn.1 (And.intro hn.2 (Nat.lt_of_lt_of_le S3.out.2.2 hB.size)))
    clear hn hB S3
    simp only []
    have nx := SwX.new (x := #[.int .i64 y1, .int .i64 x2, .int .i64 x3, .string x4]) S4.out.1 S4.out.2.1 S4.out.2.2
    have hcs := nx.s.string d.size cap hcz.out
    have NX := Lib.hid nx
    clear nx S4
    go_wp2_with (go_at_call 14; refine (Hid.out (p := _) ?_))
    refine Lib.hid ?_
    clear hcs
    refine (HOC.out _).mono ?_
    rintro e w5 ⟨rfl, hB⟩
    have ny := (NX.out.next hB).alloc (.cells #[.int .i64 y1, .int .i64 y2, .int .i64 y3, .string y4] 23)
    have hyb := Blk.new w5 #[.int .i64 y1, .int .i64 y2, .int .i64 y3, .string y4] 23
    have hcs := ny.s.string d.size cap hcz.out
    have NY := Lib.hid ny
    have x0 := ny.x.cell 0
    have x1' := ny.x.cell 1
    have x2' := ny.x.cell 2
    have x3' := ny.x.cell 3
    have yy0 := hyb.cell 0
    have yy1 := hyb.cell 1
    have yy2 := hyb.cell 2
    have yy3 := hyb.cell 3
    clear ny hyb hB NX
    simp only []
    by_cases hcd : c = d
    · have e := HXY.out hcd
      simp only [DsD.mk.injEq] at e
      obtain ⟨_, rfl, rfl, rfl⟩ := e
      have htl : c.toList = d.toList := by rw [hcd]
      clear HXY
      go_wp2_with fail
      go_ret
      exact ⟨rfl, NY.out.below⟩
    · have htl : ¬ c.toList = d.toList := fun h => hcd ((toList_iff c d).1 h)
      clear HXY hcd
      go_wp2_with fail
      go_ret
      exact ⟨rfl, NY.out.below⟩

end Go.Proofs.YtdmfbcfhfopipaaGreatDoor
