/- The document's own reader of a key's data (its chapter 2), and a key's tag by its chapter 6. -/
import Derived.Test.YtdmfbcfhfopipaaGreatDoorRight
namespace Go.Proofs.YtdmfbcfhfopipaaGreatDoor
open Go.RowKit

def RdAt (b : Nat) (r : ByteArray) (bad : Bool) (w : World) : Prop := Blk w b #[.string r, .bool bad] 103
def tkS (r : ByteArray) (n : Nat) : ByteArray := if n ≤ r.size then r.extract 0 n else ⟨#[]⟩
def tkR (r : ByteArray) (n : Nat) : ByteArray := if n ≤ r.size then r.extract n r.size else ⟨#[]⟩

theorem ref_take (b : Nat) (r : ByteArray) (bad : Bool) (n : Nat) (w : World) (hB : RdAt b r bad w) :
    Calls Tryz.prog 150 #[.pointer (some ⟨b, 0, none⟩), .int .i64 n] w fun e w' => e = .returned (.string (tkS r n)) ∧ RdAt b (tkR r n) (bad || decide (r.size < n)) w' ∧ Only b w w' := by
  have c0 : w.cell? ⟨b, 0, none⟩ = some (.string r) := hB.cell 0
  have c1 : w.cell? ⟨b, 1, none⟩ = some (.bool bad) := hB.cell 1
  have f0 := hB.free 0
  have f1 := hB.free 1
  by_cases h : n ≤ r.size
  · have e1 : tkS r n = r.extract 0 n := if_pos h
    have e2 : tkR r n = r.extract n r.size := if_pos h
    have e3 : (bad || decide (r.size < n)) = bad := by simp; omega
    rw [e1, e2, e3]
    have hq : RdAt b (r.extract n r.size) bad (w.setCell ⟨b, 0, none⟩ (.string (r.extract n r.size))) := by
      have := hB.set 0 (.string (r.extract n r.size)); simpa [RdAt] using this
    have HQ := Lib.hid hq
    have q : (n : Int) ≤ (r.size : Int) := by omega
    clear e1 e2 e3 hq hB h
    go_enter Tryz.func150, Tryz.ntmps150
    go_wp2
    go_ret
    exact ⟨rfl, HQ.out, Only.setCell ⟨b, 0, none⟩ rfl _⟩
  · have e1 : tkS r n = ⟨#[]⟩ := if_neg h
    have e2 : tkR r n = ⟨#[]⟩ := if_neg h
    have e3 : (bad || decide (r.size < n)) = true := by simp; omega
    rw [e1, e2, e3]
    have hq : RdAt b ⟨#[]⟩ true ((w.setCell ⟨b, 1, none⟩ (.bool true)).setCell ⟨b, 0, none⟩ (.string ⟨#[]⟩)) := by
      have := (hB.set 1 (.bool true)).set 0 (.string ⟨#[]⟩); simpa [RdAt] using this
    have HQ := Lib.hid hq
    have q : (r.size : Int) < (n : Int) := by omega
    clear e1 e2 e3 hq hB h
    go_enter Tryz.func150, Tryz.ntmps150
    go_wp2
    go_ret
    exact ⟨rfl, HQ.out, (Only.setCell ⟨b, 1, none⟩ rfl _).trans (Only.setCell ⟨b, 0, none⟩ rfl _)⟩

theorem tkS_size (r : ByteArray) (n : Nat) : (tkS r n).size ≤ n := by
  unfold tkS
  split
  · simp only [ByteArray.size_extract]; omega
  · exact Nat.zero_le _
set_option maxRecDepth 100000 in
theorem ref_num (b : Nat) (r : ByteArray) (bad : Bool) (n : Nat) (w : World) (hB : RdAt b r bad w) (h7 : n ≤ 7) :
    Calls Tryz.prog 59 #[.pointer (some ⟨b, 0, none⟩), .int .i64 n] w fun e w' => e = .returned (.int .i64 (numOf (tkS r n))) ∧ RdAt b (tkR r n) (bad || decide (r.size < n)) w' ∧ Only b w w' := by
  have hct := ref_take b r bad n w hB
  have hts : (tkS r n).size ≤ 7 := Nat.le_trans (tkS_size r n) h7
  generalize tkS r n = t at hct hts ⊢
  generalize tkR r n = r' at hct ⊢
  generalize (bad || decide (r.size < n)) = bad' at hct ⊢
  clear hB h7
  go_enter Tryz.func59, Tryz.ntmps59
  go_wp2_with (go_at_call 150; refine hct.mono ?_; clear hct; rintro e w1 ⟨rfl, hS1, hB1⟩)
  go_loop [6, 7] (fun v i => ∃ k : Nat, k ≤ t.size ∧ i = .int .i64 k ∧ v = .int .i64 (numL (t.data.toList.take k))) (fun _ i => t.size - (intOf i).toNat)
  case atStart => exact ⟨0, Nat.zero_le _, rfl, rfl⟩
  case round =>
    obtain ⟨k, hk, rfl, rfl⟩ := hrel
    have hbd := numFold_bd (t.data.toList.take k)
    have hlen : (t.data.toList.take k).length ≤ 6 ∨ k = t.size := by rw [List.length_take]; simp; omega
    by_cases hlt : k < t.size
    · have hs : numL (t.data.toList.take k) < 281474976710656 := by
        have h6 : (t.data.toList.take k).length ≤ 6 := by omega
        have : (256 : Int) ^ (t.data.toList.take k).length ≤ 256 ^ 6 := by
          have := Nat.pow_le_pow_right (show 256 > 0 by omega) h6
          exact_mod_cast this
        omega
      have ho := numOf_take t k hlt
      have hbb := (t.data.toList.getD k 0).toNat_lt
      have hgb : (t.data.toList.getD k 0) = t[k] := by simp [List.getD, List.getElem?_eq_getElem (show k < t.data.toList.length by simpa using hlt)]; rfl
      rw [hgb] at ho hbb
      have hsum : wrap64 (wrap64 (256 * numL (t.data.toList.take k)) + wrap64 ((t[k]).toNat : Int)) = numL (t.data.toList.take (k + 1)) := by
        rw [ho]; unfold wrap64; omega
      have HS := Lib.hid hsum; clear hsum hbd hs hlen ho hgb hbb
      go_wp2
      go_round
      case rel =>
        refine ⟨k + 1, by omega, by go_num, ?_⟩
        rw [← HS.out]
      case measure => simp [intOf]; omega
    · obtain rfl : k = t.size := by omega
      clear hbd hlen
      go_wp2
      go_ret
      refine ⟨ret_int ?_, hS1, hB1⟩
      rw [List.take_of_length_le (by simp)]; rfl

theorem ref_all (b : Nat) (r : ByteArray) (bad : Bool) (n : Nat) (w : World) (hB : RdAt b r bad w) :
    Calls Tryz.prog 60 #[.pointer (some ⟨b, 0, none⟩), .int .i64 n] w fun e w' => e = .returned (.string r) ∧ RdAt b ⟨#[]⟩ (bad || decide (r.size < n)) w' ∧ Only b w w' := by
  have c0 : w.cell? ⟨b, 0, none⟩ = some (.string r) := hB.cell 0
  have c1 : w.cell? ⟨b, 1, none⟩ = some (.bool bad) := hB.cell 1
  have f0 := hB.free 0
  have f1 := hB.free 1
  have hq : RdAt b ⟨#[]⟩ (bad || decide (r.size < n)) ((w.setCell ⟨b, 1, none⟩ (.bool (bad || decide (r.size < n)))).setCell ⟨b, 0, none⟩ (.string ⟨#[]⟩)) := by
    have := (hB.set 1 (.bool (bad || decide (r.size < n)))).set 0 (.string ⟨#[]⟩); simpa [RdAt] using this
  have hd : decide ((r.size : Int) < (n : Int)) = decide (r.size < n) := by simp only [Int.ofNat_lt]
  cases bad
  · simp only [Bool.false_or] at hq ⊢
    have HQ := Lib.hid hq
    clear hq hB hd
    go_enter Tryz.func60, Tryz.ntmps60
    go_wp2
    go_ret
    exact ⟨rfl, HQ.out, (Only.setCell ⟨b, 1, none⟩ rfl _).trans (Only.setCell ⟨b, 0, none⟩ rfl _)⟩
  · simp only [Bool.true_or] at hq ⊢
    have HQ := Lib.hid hq
    clear hq hB hd
    go_enter Tryz.func60, Tryz.ntmps60
    go_wp2
    go_ret
    exact ⟨rfl, HQ.out, (Only.setCell ⟨b, 1, none⟩ rfl _).trans (Only.setCell ⟨b, 0, none⟩ rfl _)⟩
def keyZ : Array Value := #[.int .i64 0, .int .i64 0, .int .i64 0, .string ⟨#[]⟩]
structure KRd (w W : World) (r : ByteArray) (bad : Bool) : Prop where
  out : Blk W w.heap.size keyZ 67
  rd : RdAt (w.heap.size + 1) r bad W
  below : Below w.heap.size w W
theorem KRd.start (w : World) (d : ByteArray) : KRd w ((w.alloc (.cells keyZ 67)).alloc (.cells #[.string d, .bool false] 103)) d false := by
  refine ⟨(Blk.new w _ _).alloc _, ?_, ?_⟩
  · have := Blk.new (w.alloc (.cells keyZ 67)) #[.string d, .bool false] 103
    simpa [RdAt] using this
  · exact ((Below.refl _ w).alloc (Nat.le_refl _) _).alloc (by simp) _
theorem KRd.next {w W W' : World} {r r' : ByteArray} {bad bad' : Bool} (h : KRd w W r bad) (hr : RdAt (w.heap.size + 1) r' bad' W') (ho : Only (w.heap.size + 1) W W') : KRd w W' r' bad' :=
  ⟨h.out.only ho (by omega), hr, h.below.trans (ho.belowOf (by omega) h.below.size)⟩
structure KRk (w W : World) (g : Nat) (r : ByteArray) (bad : Bool) (cs : Array Value) : Prop where
  k : KRd w W r bad
  key : Blk W g cs 67
  g : w.heap.size + 1 < g
theorem KRk.start {w W : World} {r : ByteArray} {bad : Bool} (h : KRd w W r bad) (cs : Array Value) : KRk w (W.alloc (.cells cs 67)) W.heap.size r bad cs :=
  ⟨⟨h.out.alloc _, Blk.alloc (h := h.rd) _, h.below.alloc h.below.size _⟩, Blk.new _ _ _, Blk.lt h.rd⟩
theorem KRk.next {w W W' : World} {g : Nat} {r r' : ByteArray} {bad bad' : Bool} {cs : Array Value} (h : KRk w W g r bad cs) (hr : RdAt (w.heap.size + 1) r' bad' W') (ho : Only (w.heap.size + 1) W W') : KRk w W' g r' bad' cs :=
  ⟨h.k.next hr ho, h.key.only ho (by have := h.g; omega), h.g⟩
theorem KRk.set {w W : World} {g : Nat} {r : ByteArray} {bad : Bool} {cs : Array Value} (h : KRk w W g r bad cs) (j : Nat) (v : Value) : KRk w (W.setCell ⟨g, j, none⟩ v) g r bad (cs.setIfInBounds j v) := by
  have hg := h.g
  exact ⟨⟨h.k.out.other (by show w.heap.size ≠ g; omega) v, Blk.other (h := h.k.rd) (by show w.heap.size + 1 ≠ g; omega) v, h.k.below.setCell (by show w.heap.size ≤ g; omega) v⟩, h.key.set j v, h.g⟩
theorem below_put4k {w0 w : World} {B b : Nat} (h : Below B w0 w) (hb : B ≤ b) (v0 v1 v2 v3 : Value) : Below B w0 ((((w.setCell ⟨b, 0, none⟩ v0).setCell ⟨b, 1, none⟩ v1).setCell ⟨b, 2, none⟩ v2).setCell ⟨b, 3, none⟩ v3) :=
  (((h.setCell (p := ⟨b, 0, none⟩) hb _).setCell (p := ⟨b, 1, none⟩) hb _).setCell (p := ⟨b, 2, none⟩) hb _).setCell (p := ⟨b, 3, none⟩) hb _
theorem key_put {w : World} {b : Nat} {x : Array Value} {t : TypeId} (h : Blk w b x t) (hx : x.size = 4) (v0 v1 v2 v3 : Value) :
    Blk ((((w.setCell ⟨b, 0, none⟩ v0).setCell ⟨b, 1, none⟩ v1).setCell ⟨b, 2, none⟩ v2).setCell ⟨b, 3, none⟩ v3) b #[v0, v1, v2, v3] t := by
  have := (((h.set 0 v0).set 1 v1).set 2 v2).set 3 v3
  obtain ⟨l⟩ := x
  match l, hx with
  | [_, _, _, _], _ => simpa using this

/-- The flag that is left, behind all four. -/
def keyBad (d : ByteArray) : Bool := (((false || decide (d.size < 2)) || decide ((tkR d 2).size < 1)) || decide ((tkR (tkR d 2) 1).size < 1)) || decide ((tkR (tkR (tkR d 2) 1) 1).size < 1)
theorem tkR_size (r : ByteArray) (n : Nat) : (tkR r n).size = r.size - n := by
  unfold tkR; split
  · simp only [ByteArray.size_extract]; omega
  · show 0 = _; omega
theorem keyBad_eq (d : ByteArray) : keyBad d = decide (d.size < 5) := by
  simp only [keyBad, tkR_size, Bool.false_or]
  by_cases h : d.size < 5
  · rw [decide_eq_true h]
    simp only [Bool.or_eq_true, decide_eq_true_eq]; omega
  · rw [decide_eq_false h]
    simp only [Bool.or_eq_false_iff, decide_eq_false_iff_not]; omega
theorem keyBad_right (d : ByteArray) : keyRight d = (!keyBad d && decide (d.size ≤ 2000)) := by
  rw [keyBad_eq, keyRight]
  by_cases h : d.size < 5
  · rw [decide_eq_true h, decide_eq_false (by omega)]; rfl
  · rw [decide_eq_false h, decide_eq_true (by omega)]; rfl
theorem ext_cong (d : ByteArray) {a b a' b' : Nat} (h1 : a = a') (h2 : b = b') : d.extract a b = d.extract a' b' := by rw [h1, h2]
theorem key_parts {d : ByteArray} (h : keyBad d = false) : numOf (tkS d 2) = (keyOf d).flags ∧ numOf (tkS (tkR d 2) 1) = (keyOf d).protocol ∧ numOf (tkS (tkR (tkR d 2) 1) 1) = (keyOf d).alg ∧ tkR (tkR (tkR d 2) 1) 1 = (keyOf d).pub := by
  have h5 : 5 ≤ d.size := by rw [keyBad_eq, decide_eq_false_iff_not] at h; omega
  have e1 : tkR d 2 = d.extract 2 d.size := if_pos (by omega)
  have z1 : (d.extract 2 d.size).size = d.size - 2 := by simp
  have e2 : tkR (d.extract 2 d.size) 1 = d.extract 3 d.size := by
    rw [tkR, if_pos (by omega), ByteArray.extract_extract]; exact ext_cong d (by omega) (by omega)
  have z2 : (d.extract 3 d.size).size = d.size - 3 := by simp
  have e3 : tkR (d.extract 3 d.size) 1 = d.extract 4 d.size := by
    rw [tkR, if_pos (by omega), ByteArray.extract_extract]; exact ext_cong d (by omega) (by omega)
  rw [e1, e2, e3]
  have t1 : tkS d 2 = d.extract 0 2 := if_pos (by omega)
  have t2 : tkS (d.extract 2 d.size) 1 = d.extract 2 3 := by
    rw [tkS, if_pos (by omega), ByteArray.extract_extract]; exact ext_cong d (by omega) (by omega)
  have t3 : tkS (d.extract 3 d.size) 1 = d.extract 3 4 := by
    rw [tkS, if_pos (by omega), ByteArray.extract_extract]; exact ext_cong d (by omega) (by omega)
  rw [t1, t2, t3]
  exact ⟨rfl, rfl, rfl, rfl⟩

set_option maxRecDepth 100000 in
set_option maxHeartbeats 1000000 in
theorem ref_key (d : ByteArray) (w : World) : Calls Tryz.prog 30 #[.string d] w fun e w' => e = .returned (.tuple #[(if keyRight d then keyOf d else KeyD.none).v, .bool (keyRight d)]) ∧ Below w.heap.size w w' := by
  have hN1 := fun W h => ref_num (w.heap.size + 1) d false 2 W h (by omega)
  have hN2 := fun W h => ref_num (w.heap.size + 1) (tkR d 2) (false || decide (d.size < 2)) 1 W h (by omega)
  have hN3 := fun W h => ref_num (w.heap.size + 1) (tkR (tkR d 2) 1) ((false || decide (d.size < 2)) || decide ((tkR d 2).size < 1)) 1 W h (by omega)
  have hN4 := fun W h => ref_all (w.heap.size + 1) (tkR (tkR (tkR d 2) 1) 1) (((false || decide (d.size < 2)) || decide ((tkR d 2).size < 1)) || decide ((tkR (tkR d 2) 1).size < 1)) 1 W h
  have hbad : ((((false || decide (d.size < 2)) || decide ((tkR d 2).size < 1)) || decide ((tkR (tkR d 2) 1).size < 1)) || decide ((tkR (tkR (tkR d 2) 1) 1).size < 1)) = keyBad d := rfl
  have hkr := keyBad_right d
  have hkp : keyBad d = false → (keyOf d).v = .agg #[.int .i64 (numOf (tkS d 2)), .int .i64 (numOf (tkS (tkR d 2) 1)), .int .i64 (numOf (tkS (tkR (tkR d 2) 1) 1)), .string (tkR (tkR (tkR d 2) 1) 1)] := by
    intro h
    obtain ⟨a1, a2, a3, a4⟩ := key_parts h
    rw [a1, a2, a3, a4]; rfl
  have hz : KeyD.none.v = .agg keyZ := rfl
  rw [hbad] at hN4
  generalize numOf (tkS d 2) = x1 at *
  generalize numOf (tkS (tkR d 2) 1) = x2 at *
  generalize numOf (tkS (tkR (tkR d 2) 1) 1) = x3 at *
  generalize tkR (tkR (tkR d 2) 1) 1 = x4 at *
  generalize tkR (tkR d 2) 1 = r2 at *
  generalize tkR d 2 = r1 at *
  generalize (((false || decide (d.size < 2)) || decide (r1.size < 1)) || decide (r2.size < 1)) = B3 at *
  generalize ((false || decide (d.size < 2)) || decide (r1.size < 1)) = B2 at *
  generalize (false || decide (d.size < 2)) = B1 at *
  generalize keyBad d = B at *
  have hV1 : B = false → d.size ≤ 2000 → (if keyRight d then keyOf d else KeyD.none).v = .agg #[.int .i64 x1, .int .i64 x2, .int .i64 x3, .string x4] := by
    intro h1 h2
    rw [hkr, h1, decide_eq_true h2]; exact hkp h1
  have hV0 : keyRight d = false → (if keyRight d then keyOf d else KeyD.none).v = .agg keyZ := by
    intro h; rw [h]; rfl
  generalize (if keyRight d then keyOf d else KeyD.none).v = V at hV1 hV0 ⊢
  generalize keyRight d = R at hkr hV0 ⊢
  have hst := KRd.start w d
  simp only [keyZ] at hst
  have CA := Lib.hid hN1; have CB := Lib.hid hN2; have CC := Lib.hid hN3; have CE := Lib.hid hN4; have HV1 := Lib.hid hV1; have HV0 := Lib.hid hV0; have HKR := Lib.hid hkr; have HS := Lib.hid hst
  clear hN1 hN2 hN3 hN4 hkp hkr hst hbad hV1 hV0 hz
  go_enter Tryz.func30, Tryz.ntmps30
  go_wp2_with (go_at_call 59; refine (Hid.out (p := _) ?_))
  refine Lib.hid ?_
  refine (CA.out _ HS.out.rd).mono ?_
  rintro e w1 ⟨rfl, hR, hO⟩
  have hn := HS.out.next hR hO
  have J1 := Lib.hid hn
  clear hn hR hO HS
  simp only []
  go_wp2_with (go_at_call 59; refine (Hid.out (p := _) ?_))
  refine Lib.hid ?_
  have hk := KRk.start J1.out #[.int .i64 x1, .int .i64 0, .int .i64 0, .string ⟨#[]⟩]
  have JA := Lib.hid hk
  clear hk J1
  refine (CB.out _ JA.out.k.rd).mono ?_
  rintro e w2 ⟨rfl, hR, hO⟩
  have hn := JA.out.next hR hO
  have JB := Lib.hid hn
  clear hn hR hO JA
  simp only []
  have f1 := JB.out.key.free 1
  have c1 : w2.cell? ⟨w1.heap.size, 1, none⟩ = some (.int .i64 0) := JB.out.key.cell 1
  go_wp2_with (go_at_call 59; refine (Hid.out (p := _) ?_))
  refine Lib.hid ?_
  clear f1 c1
  have hk := JB.out.set 1 (.int .i64 x2)
  have JC := Lib.hid hk
  clear hk JB
  refine (CC.out _ JC.out.k.rd).mono ?_
  rintro e w3 ⟨rfl, hR, hO⟩
  have hn := JC.out.next hR hO
  have JD := Lib.hid hn
  clear hn hR hO JC
  simp only []
  have f1 := JD.out.key.free 2
  have c1 : w3.cell? ⟨w1.heap.size, 2, none⟩ = some (.int .i64 0) := JD.out.key.cell 2
  go_wp2_with (go_at_call 60; refine (Hid.out (p := _) ?_))
  refine Lib.hid ?_
  clear f1 c1
  have hk := JD.out.set 2 (.int .i64 x3)
  have JE := Lib.hid hk
  clear hk JD
  refine (CE.out _ JE.out.k.rd).mono ?_
  rintro e w4 ⟨rfl, hR, hO⟩
  have hn := JE.out.next hR hO
  have JF := Lib.hid hn
  clear hn hR hO JE
  simp only []
  have f1 := JF.out.key.free 3
  have c1 : w4.cell? ⟨w1.heap.size, 3, none⟩ = some (.string ⟨#[]⟩) := JF.out.key.cell 3
  have hk := JF.out.set 3 (.string x4)
  have r1 : (w4.setCell ⟨w1.heap.size, 3, none⟩ (.string x4)).cell? ⟨w.heap.size + 1, 1, none⟩ = some (.bool B) := Blk.cell hk.k.rd 1
  have o0 := hk.k.out
  have k0 : (w4.setCell ⟨w1.heap.size, 3, none⟩ (.string x4)).cell? ⟨w1.heap.size, 0, none⟩ = some (.int .i64 x1) := hk.key.cell 0
  have k1 : (w4.setCell ⟨w1.heap.size, 3, none⟩ (.string x4)).cell? ⟨w1.heap.size, 1, none⟩ = some (.int .i64 x2) := hk.key.cell 1
  have k2 : (w4.setCell ⟨w1.heap.size, 3, none⟩ (.string x4)).cell? ⟨w1.heap.size, 2, none⟩ = some (.int .i64 x3) := hk.key.cell 2
  have k3 : (w4.setCell ⟨w1.heap.size, 3, none⟩ (.string x4)).cell? ⟨w1.heap.size, 3, none⟩ = some (.string x4) := hk.key.cell 3
  have z0 : (w4.setCell ⟨w1.heap.size, 3, none⟩ (.string x4)).cell? ⟨w.heap.size, 0, none⟩ = some (.int .i64 0) := o0.cell 0
  have z1 : (w4.setCell ⟨w1.heap.size, 3, none⟩ (.string x4)).cell? ⟨w.heap.size, 1, none⟩ = some (.int .i64 0) := o0.cell 1
  have z2 : (w4.setCell ⟨w1.heap.size, 3, none⟩ (.string x4)).cell? ⟨w.heap.size, 2, none⟩ = some (.int .i64 0) := o0.cell 2
  have z3 : (w4.setCell ⟨w1.heap.size, 3, none⟩ (.string x4)).cell? ⟨w.heap.size, 3, none⟩ = some (.string ⟨#[]⟩) := o0.cell 3
  have y0 := o0.free 0
  have y1 := o0.free 1
  have y2 := o0.free 2
  have y3 := o0.free 3
  simp only [World.frozen?_setCell] at y0 y1 y2 y3
  have hbl := hk.k.below
  have HO := Lib.hid o0
  have HBL := Lib.hid hbl
  clear hk o0 hbl JF
  cases B
  · by_cases h2 : d.size ≤ 2000
    · have hr : R = true := by rw [HKR.out]; simp [h2]
      have q : decide ((2000 : Int) < (d.size : Int)) = false := decide_eq_false (by omega)
      have e : .tuple #[.agg #[.int .i64 x1, .int .i64 x2, .int .i64 x3, .string x4], .bool true] = (.tuple #[V, .bool R] : Value) := by rw [HV1.out rfl h2, hr]
      have HE := Lib.hid e
      clear h2 hr HKR HV1 HV0 e
      go_wp2_with fail
      refine bodyPost_ret (v := .tuple #[.agg #[.int .i64 x1, .int .i64 x2, .int .i64 x3, .string x4], .bool true]) (results2 rfl ⟨_, rfl, loadVar_blk (key_put HO.out rfl _ _ _ _) Tryz.underlying67 rfl info_Key⟩ rfl) rfl ⟨by rw [HE.out], ?_⟩
      exact below_put4k HBL.out (Nat.le_refl _) _ _ _ _
    · have hr : R = false := by rw [HKR.out]; simp [h2]
      have q : decide ((2000 : Int) < (d.size : Int)) = true := decide_eq_true (by omega)
      have e : .tuple #[.agg keyZ, .bool false] = (.tuple #[V, .bool R] : Value) := by rw [HV0.out hr, hr]
      have HE := Lib.hid e
      clear h2 hr HKR HV1 HV0 e
      go_wp2_with fail
      refine bodyPost_ret (v := .tuple #[.agg keyZ, .bool false]) (results2 rfl ⟨_, rfl, loadVar_blk (key_put HO.out rfl _ _ _ _) Tryz.underlying67 rfl info_Key⟩ rfl) rfl ⟨by rw [HE.out], ?_⟩
      exact below_put4k HBL.out (Nat.le_refl _) _ _ _ _
  · have hr : R = false := by rw [HKR.out]; simp
    have e : .tuple #[.agg keyZ, .bool false] = (.tuple #[V, .bool R] : Value) := by rw [HV0.out hr, hr]
    have HE := Lib.hid e
    clear hr HKR HV1 HV0 e
    go_wp2_with fail
    refine bodyPost_ret (v := .tuple #[.agg keyZ, .bool false]) (results2 rfl ⟨_, rfl, loadVar_blk (key_put HO.out rfl _ _ _ _) Tryz.underlying67 rfl info_Key⟩ rfl) rfl ⟨by rw [HE.out], ?_⟩
    exact below_put4k HBL.out (Nat.le_refl _) _ _ _ _
end Go.Proofs.YtdmfbcfhfopipaaGreatDoor
