import Derived.Test.YtkhpcagoggglcaaGreatDoorVe7
import Derived.Test.YtkhpcagoggglcaaGreatDoorRep
import Derived.Sort.OwnSorted
import Derived.Test.YtkhpcagoggglcaaGreatDoorVe4
import Derived.Test.YtkhpcagoggglcaaGreatDoorProg
import Derived.BigQuiet
import Derived.WalkKit
import Derived.Deep.RegionHeld3
import Derived.Below
import Derived.Maps.OwnSet
import Derived.Maps.Views
/- rrset.plain: the data of a set as they are held against each other, in order. -/
namespace Go.Proofs.YtkhpcagoggglcaaGreatDoor
open Go.RowKit

/-- Texts in order. -/
def sortB (l : List ByteArray) : List ByteArray := ((l.map fun x => x.data.toList).mergeSort fun x y => decide (x ≤ y)).map bsOf
theorem sortB_len (l : List ByteArray) : (sortB l).length = l.length := by simp [sortB]
theorem bsOf_toList (x : ByteArray) : bsOf x.data.toList = x := by cases x; simp [bsOf]
theorem own_sort (base : Nat) (v : Value) (l : List ByteArray) (w : World) (h : OwnS base v l w) (hb : base ≤ w.heap.size) (hl : l.length ≤ 1000000) :
    Calls Tryz.prog 36 #[v] w fun e w' => e = .returned (.tuple #[]) ∧ OwnS base v (sortB l) w' ∧ Below base w w' := by
  rcases h.2 with ⟨rfl, h0⟩ | ⟨g, cap, cur, rfl, hbase, hg, h1, h2, h3, h4⟩
  · obtain rfl : l = [] := List.eq_nil_of_length_eq_zero (by simpa using h0)
    refine (Tryz.slices_Sort_string_none none 0 w).mono ?_
    rintro e w' ⟨rfl, rfl⟩
    exact ⟨rfl, by simpa [sortB] using h, Below.refl _ _⟩
  · have e1 : ∀ m : List ByteArray, (m.map fun x => x.data.toList).map encStr = m.map Value.string := by
      intro m
      rw [List.map_map]
      apply List.map_congr_left
      intro x _
      show Value.string ⟨x.data.toList.toArray⟩ = .string x
      cases x; simp
    have hlen : (l.map fun x => x.data.toList).length = l.length := by simp
    have hH := holds_of_block (ss := l.map fun x => x.data.toList) hg (by rw [hlen, e1]; simpa using h4)
    have hc := Tryz.slices_Sort_string g 0 cap (l.map fun x => x.data.toList) w hH (lt_of_block hg) (by rw [hlen]; omega)
    rw [hlen] at hc
    refine hc.mono ?_
    rintro e w' ⟨rfl, n, os, rfl⟩
    refine ⟨rfl, ?_, ?_⟩
    · have := ownsRow_sorted (w := w) (base := base) (n := n) (os := os) (ss := l.map fun x => x.data.toList) (ts := (l.map fun x => x.data.toList).mergeSort fun x y => decide (x ≤ y)) (by simp) hbase hg (by rw [hlen]; exact h1) h2 h3
      rw [hlen] at this
      unfold OwnS
      rw [sortB_len]
      have e2 : (sortB l).map Value.string = ((l.map fun x => x.data.toList).mergeSort fun x y => decide (x ≤ y)).map encStr := by
        unfold sortB
        rw [List.map_map]
        rfl
      rw [e2]
      exact this
    · exact (Below.refl base w).grown (grownBy_sorted _) hb (fun k hk => by injection hk with hk; omega)

def StrsP (l : List ByteArray) (w : World) (e : Ending) (w' : World) : Prop := Below w.heap.size w w' ∧ ∃ v, e = .returned v ∧ OwnS w.heap.size v l w'
set_option maxRecDepth 100000 in
set_option maxHeartbeats 1000000 in
theorem plain_any (s : SetD) (dv sv : Value) (w : World) (hd : StrsAt dv s.data w) (hs : StrsAt sv s.sigs w) (hl : s.data.length ≤ 200) :
    Calls Tryz.prog 25 #[s.v dv sv] w (StrsP (sortB (s.data.map (dataLower s.kind))) w) := by
  obtain ⟨A, c1, rfl, hd'⟩ := hd
  obtain ⟨B, c2, rfl, _⟩ := hs
  have HD := Lib.hid hd'
  clear hd'
  obtain ⟨xn, xk, xc, xt, xd, xs⟩ := s
  simp only [SetD.v, SetD.cells] at *
  go_enter Tryz.func25, Tryz.ntmps25
  go_wp2_with fail
  have hk := Blk.new w #[.string xn, .int .i64 xk, .int .i64 xc, .int .i64 xt, (.slice A xd.length c1), (.slice B xs.length c2)] 30
  have HK := Lib.hid hk
  have H0 : Hid (OwnS (w.heap.size + 1) (.slice none 0 0) [] (w.alloc (.cells #[.string xn, .int .i64 xk, .int .i64 xc, .int .i64 xt, (.slice A xd.length c1), (.slice B xs.length c2)] 30)) ∧ Below (w.heap.size + 1) (w.alloc (.cells #[.string xn, .int .i64 xk, .int .i64 xc, .int .i64 xt, (.slice A xd.length c1), (.slice B xs.length c2)] 30)) (w.alloc (.cells #[.string xn, .int .i64 xk, .int .i64 xc, .int .i64 xt, (.slice A xd.length c1), (.slice B xs.length c2)] 30)) ∧ w.heap.size + 1 ≤ (w.alloc (.cells #[.string xn, .int .i64 xk, .int .i64 xc, .int .i64 xt, (.slice A xd.length c1), (.slice B xs.length c2)] 30)).heap.size) :=
    Lib.hid ⟨OwnS.nil _ _, Below.refl _ _, by simp⟩
  have hbw : Below w.heap.size w (w.alloc (.cells #[.string xn, .int .i64 xk, .int .i64 xc, .int .i64 xt, (.slice A xd.length c1), (.slice B xs.length c2)] 30)) := (Below.refl _ w).alloc (Nat.le_refl _) _
  have HBW := Lib.hid hbw
  clear hk hbw
  generalize w.alloc (.cells #[.string xn, .int .i64 xk, .int .i64 xc, .int .i64 xt, (.slice A xd.length c1), (.slice B xs.length c2)] 30) = W0 at *
  go_loopw [3, 9] (fun v i wr => ∃ q : Nat, q ≤ xd.length ∧ i = .int .i64 q ∧ Hid (OwnS (w.heap.size + 1) v ((xd.take q).map (dataLower xk)) wr ∧ Below (w.heap.size + 1) W0 wr ∧ w.heap.size + 1 ≤ wr.heap.size)) (fun _ i _ => xd.length - (intOf i).toNat)
  case atStart => exact ⟨0, Nat.zero_le _, rfl, H0⟩
  case round =>
    obtain ⟨q, hq, rfl, HW⟩ := hrel
    have hk := HK.out.below HW.out.2.1 (by omega)
    by_cases hlt : q < xd.length
    · obtain ⟨g, o, rfl, hg, hc⟩ := HD.out (by omega)
      have hbb : Below w.heap.size w wr := HBW.out.trans (HW.out.2.1.mono (by omega))
      have hcq := hbb.cell (p := ⟨g, o + q, none⟩) hg
      rw [hc q hlt] at hcq
      have hlq := fun w => lower_data xk xd[q] w
      have htk : (xd.take (q + 1)).map (dataLower xk) = (xd.take q).map (dataLower xk) ++ [dataLower xk xd[q]] := by rw [List.take_succ_eq_append_getElem hlt, List.map_append]; rfl
      generalize dataLower xk xd[q] = y at hlq htk
      generalize xd[q] = x at hcq hlq
      have hln : ((xd.take q).map (dataLower xk)).length + 1 ≤ 1000000 := by rw [List.length_map, List.length_take]; omega
      generalize (xd.take q).map (dataLower xk) = acc at *
      have HLQ := Lib.hid hlq; have HTK := Lib.hid htk; have HLN := Lib.hid hln
      clear hln
      have d1 := hk.cell 1
      clear hlq htk hc hg hbb hk
      go_wp2_with (go_at_call 29; refine (Hid.out (p := _) ?_))
      refine Lib.hid ?_
      refine (HLQ.out _).mono ?_
      rintro e w2 ⟨rfl, hb2⟩
      obtain ⟨A2, c3, rfl⟩ := OwnS.len HW.out.1
      have HW2 := Lib.hid (show OwnS (w.heap.size + 1) (.slice A2 acc.length c3) acc w2 ∧ Below (w.heap.size + 1) W0 w2 ∧ w.heap.size + 1 ≤ w2.heap.size from
        ⟨OwnS.below HW.out.1 hb2, HW.out.2.1.trans (hb2.mono HW.out.2.2), Nat.le_trans HW.out.2.2 hb2.size⟩)
      clear hb2 hcq d1
      have info := info_str
      simp only []
      go_wp2_with (at_builtin; go_loud (refine ownS_append (base := w.heap.size + 1) (v := .slice A2 acc.length c3) (l := acc) (W := w2) (w0 := W0) HW2.out.1 HW2.out.2.1 HW2.out.2.2 y HLN.out rfl _ _ rfl _ 1 1 rfl rfl rfl rfl ?_))
      intro v3 w3 a1 a2 a3
      have HA := Lib.hid (show OwnS (w.heap.size + 1) v3 ((xd.take (q + 1)).map (dataLower xk)) w3 ∧ Below (w.heap.size + 1) W0 w3 ∧ w.heap.size + 1 ≤ w3.heap.size from ⟨by rw [HTK.out]; exact a1, a2, a3⟩)
      clear a1 a2 a3 info
      go_wp2
      go_roundw
      case rel => exact ⟨q + 1, by omega, by go_num, HA⟩
      case measure => simp [intOf]; omega
    · obtain rfl : q = xd.length := by omega
      have hW : OwnS (w.heap.size + 1) u3 (xd.map (dataLower xk)) wr := by have := HW.out.1; rwa [List.take_length] at this
      have hml : (xd.map (dataLower xk)).length ≤ 1000000 := by simp; omega
      have HB := Lib.hid (HBW.out.trans (HW.out.2.1.mono (by omega)))
      have HSZ := Lib.hid HW.out.2.2
      clear HW
      generalize hls : xd.map (dataLower xk) = ls at hW hml
      have HLS := Lib.hid hls
      clear hls
      have hso := own_sort (w.heap.size + 1) u3 ls wr hW HSZ.out hml
      have HSO := Lib.hid hso
      obtain ⟨A2, c3, rfl⟩ := OwnS.len hW
      clear hW hso hk hml
      go_wp2_with (go_at_call 36; refine HSO.out.mono ?_; rintro e w4 ⟨rfl, ho4, hb4⟩)
      go_ret
      rw [HLS.out]
      exact ⟨HB.out.trans (hb4.mono (by omega)), _, rfl, OwnS.lift ho4 (by omega)⟩
end Go.Proofs.YtkhpcagoggglcaaGreatDoor

/- name.Equal. -/
namespace Go.Proofs.YtkhpcagoggglcaaGreatDoor
open Go.RowKit

theorem toList_ne {x y : ByteArray} (h : x ≠ y) : ¬ x.toList = y.toList := by
  rw [ByteArray.toList_eq, ByteArray.toList_eq]
  exact fun e => h (bytes_toList_ext e)
def nameEq (a b : ByteArray) : Bool := nameRight a && nameRight b && decide (nameLower a = nameLower b)
theorem name_equal (a b : ByteArray) (w : World) : Calls Tryz.prog 10 #[.string a, .string b] w fun e w' => e = .returned (.bool (nameEq a b)) ∧ Below w.heap.size w w' := by
  have h1 := fun w => name_right a w
  have h2 := fun w => name_right b w
  have h3 := fun w => name_lower a w
  have h4 := fun w => name_lower b w
  have hr : nameEq a b = (nameRight a && nameRight b && decide (nameLower a = nameLower b)) := rfl
  have HE := Lib.hid hr
  clear hr
  generalize nameLower a = x at *
  generalize nameLower b = y at *
  generalize nameRight a = p at *
  generalize nameRight b = q at *
  have H1 := Lib.hid h1; have H2 := Lib.hid h2; have H3 := Lib.hid h3; have H4 := Lib.hid h4
  clear h1 h2 h3 h4
  cases p with
  | false =>
    go_enter Tryz.func10, Tryz.ntmps10
    go_wp2_with (go_at_call 24; refine (H1.out _).mono ?_; rintro e w1 ⟨rfl, hb1⟩)
    go_ret
    exact ⟨by rw [HE.out]; rfl, hb1⟩
  | true =>
    go_enter Tryz.func10, Tryz.ntmps10
    go_wp2_with (go_at_call 24; refine (Hid.out (p := _) ?_))
    refine Lib.hid ?_
    refine (H1.out _).mono ?_
    rintro e w1 ⟨rfl, hb1⟩
    simp only []
    go_wp2_with (go_at_call 24; refine (Hid.out (p := _) ?_))
    refine Lib.hid ?_
    refine (H2.out _).mono ?_
    rintro e w2 ⟨rfl, hb2⟩
    have HB2 := Lib.hid (hb1.trans (hb2.mono hb1.size))
    clear hb1 hb2
    simp only []
    cases q with
    | false =>
      go_wp2_with fail
      go_ret
      exact ⟨by rw [HE.out]; rfl, HB2.out⟩
    | true =>
      go_wp2_with (go_at_call 17; refine (Hid.out (p := _) ?_))
      refine Lib.hid ?_
      refine (H3.out _).mono ?_
      rintro e w3 ⟨rfl, hb3⟩
      simp only []
      go_wp2_with (go_at_call 17; refine (Hid.out (p := _) ?_))
      refine Lib.hid ?_
      refine (H4.out _).mono ?_
      rintro e w4 ⟨rfl, hb4⟩
      have HB3 := Lib.hid (HB2.out.trans (hb3.mono HB2.out.size))
      have HB4 := Lib.hid (HB3.out.trans (hb4.mono HB3.out.size))
      clear hb3 hb4
      simp only []
      by_cases hxy : x = y
      · have HX := Lib.hid hxy
        subst hxy
        go_wp2_with fail
        go_ret
        exact ⟨by rw [HE.out]; simp, HB4.out⟩
      · have hne := toList_ne hxy
        go_wp2_with fail
        go_ret
        exact ⟨by rw [HE.out]; simp [hxy, hne], HB4.out⟩
end Go.Proofs.YtkhpcagoggglcaaGreatDoor

/- Quiet steps over a class of worlds of one's own: an operation with a value, a call, a load of a whole variable. -/
namespace Go.Proofs.YtkhpcagoggglcaaGreatDoor
open Go.RowKit Go.BigFrame

section
variable {P : Program} {C : World → Prop} {o : Oper} {a : Act} {K : Act → Prop}
theorem qs_run (v : Value) (h : ∀ w, C w → (execOp a.eval o).run P w = .ok (.value v) w) (hk : K (a.put o.dst v)) : o.quiet P a C K :=
  ⟨v, fun w hw => by unfold Oper.quietAt; rw [h w hw]; exact ⟨rfl, rfl⟩, hk⟩
theorem qs_call (f : FuncId) (args : Array Value) (v : Value) (h : ∀ w, C w → (execOp a.eval o).run P w = .ok (.enter f args) w) (hc : ∀ w, C w → Calls P f args w (fun e w'' => e = .returned v ∧ C w'')) (hk : K (a.put o.dst v)) : o.quiet P a C K :=
  ⟨v, fun w hw => by unfold Oper.quietAt; rw [h w hw]; exact ⟨rfl, hc w hw⟩, hk⟩
theorem qs_load (ty : TypeId) (x : Operand) (ho : o.op = .load ty x) (p : Addr) (v : Value) (hx : a.eval x = .pointer (some p)) (hl : ∀ w, C w → (loadVar ty p).run P w = .ok v w) (hk : K (a.put o.dst v)) : o.quiet P a C K :=
  qs_run v (fun w hw => by
    unfold execOp
    simp only [ho, hx, Instr.loadAt, Instr.sureAddr, Sem.run_bind, Sem.run_pure, Result.andThen_ok, hl w hw]) hk
end
end Go.Proofs.YtkhpcagoggglcaaGreatDoor

/- rrset.Same: whether two sets are the same. -/
namespace Go.Proofs.YtkhpcagoggglcaaGreatDoor
open Go.RowKit Go.BigFrame

theorem info_Set : (Tryz.prog.info? 30).map (·.size) = some 6 := by kernel_rfl
theorem set_load {w : World} {b : Nat} {x0 x1 x2 x3 x4 x5 : Value} {t : TypeId} (h : Blk w b #[x0, x1, x2, x3, x4, x5] t) : (loadVar 30 ⟨b, 0, none⟩).run Tryz.prog w = .ok (.agg #[x0, x1, x2, x3, x4, x5]) w := loadVar_blk h Tryz.underlying30 rfl info_Set

def plainL (s : SetD) : List ByteArray := sortB (s.data.map (dataLower s.kind))
def sameS (a b : SetD) : Bool := rightS a && rightS b && nameEq a.name b.name && decide (a.kind = b.kind) && decide (a.cls = b.cls) && decide (plainL a = plainL b)
theorem rightS_len {s : SetD} (h : rightS s = true) : s.data.length ≤ 200 ∧ 1 ≤ s.data.length ∧ s.sigs.length ≤ 200 := by
  simp only [rightS, Bool.and_eq_true, decide_eq_true_eq] at h
  have h1 := h.1.1.1.1.2
  have h2 := h.1.1.1.2
  simp only [btw, Bool.and_eq_true, decide_eq_true_eq] at h1
  omega
theorem getD_map (l : List ByteArray) (j : Nat) (h : j < l.length) : l.getD j ByteArray.empty = l[j] := by simp [List.getD, List.getElem?_eq_getElem h]
theorem strs_equal (v u : Value) (l m : List ByteArray) (w : World) (hv : StrsAt v l w) (hu : StrsAt u m w) (h1 : l.length ≤ 1000000) (h2 : m.length ≤ 1000000) :
    Calls Tryz.prog 20 #[v, u] w fun e w' => e = .returned (.bool (decide (l = m))) ∧ Below w.heap.size w w' := by
  obtain ⟨A, c, rfl, hA⟩ := hv
  obtain ⟨B, d, rfl, hB⟩ := hu
  by_cases hn : l.length = m.length
  · by_cases h0 : l.length = 0
    · have hl := List.eq_nil_of_length_eq_zero h0
      have hm := List.eq_nil_of_length_eq_zero (hn ▸ h0)
      subst hl hm
      refine (Tryz.slices_Equal_string_empty A B c 0 d w (by omega)).mono ?_
      rintro e w' ⟨rfl, rfl⟩
      exact ⟨rfl, Below.refl _ _⟩
    · obtain ⟨g, o, rfl, _, hc⟩ := hA (by omega)
      obtain ⟨g2, o2, rfl, _, hc2⟩ := hB (by omega)
      refine (Tryz.slices_Equal_string g o l.length c g2 o2 m.length d l m w (Nat.le_refl _) (Nat.le_refl _) (by omega) (by omega) (fun j hj => by rw [getD_map l j hj]; exact hc j hj) (fun j hj => by rw [getD_map m j hj]; exact hc2 j hj)).mono ?_
      rintro e w' ⟨rfl, q, rfl⟩
      rw [List.take_length, List.take_length]
      exact ⟨rfl, ⟨rfl, rfl, rfl, Nat.le_refl _, fun _ _ => rfl⟩⟩
  · refine (Tryz.slices_Equal_string_lens A B l.length c m.length d w hn).mono ?_
    rintro e w' ⟨rfl, rfl⟩
    exact ⟨by rw [decide_eq_false (fun h => hn (by rw [h]))], Below.refl _ _⟩

/-- The world inside of the comparison. -/
structure TwoSt (w : World) (ca cb : Array Value) (W : World) : Prop where
  a : Blk W w.heap.size ca 30
  b : Blk W (w.heap.size + 1) cb 30
  below : Below w.heap.size w W
theorem TwoSt.next {w : World} {ca cb : Array Value} {W W' : World} (h : TwoSt w ca cb W) (hb : Below W.heap.size W W') : TwoSt w ca cb W' :=
  ⟨h.a.below hb h.a.lt, h.b.below hb h.b.lt, h.below.trans (hb.mono h.below.size)⟩
def TwoS (w : World) (a0 a1 a2 a3 a4 a5 b0 b1 b2 b3 b4 b5 : Value) (W : World) : Prop :=
  W.cell? ⟨w.heap.size, 0, none⟩ = some a0 ∧ W.cell? ⟨w.heap.size, 1, none⟩ = some a1 ∧ W.cell? ⟨w.heap.size, 2, none⟩ = some a2 ∧ W.cell? ⟨w.heap.size, 3, none⟩ = some a3 ∧ W.cell? ⟨w.heap.size, 4, none⟩ = some a4 ∧ W.cell? ⟨w.heap.size, 5, none⟩ = some a5 ∧
  W.cell? ⟨w.heap.size + 1, 0, none⟩ = some b0 ∧ W.cell? ⟨w.heap.size + 1, 1, none⟩ = some b1 ∧ W.cell? ⟨w.heap.size + 1, 2, none⟩ = some b2 ∧ W.cell? ⟨w.heap.size + 1, 3, none⟩ = some b3 ∧ W.cell? ⟨w.heap.size + 1, 4, none⟩ = some b4 ∧ W.cell? ⟨w.heap.size + 1, 5, none⟩ = some b5 ∧
  TwoSt w #[a0, a1, a2, a3, a4, a5] #[b0, b1, b2, b3, b4, b5] W
theorem TwoSt.s {w W : World} {a0 a1 a2 a3 a4 a5 b0 b1 b2 b3 b4 b5 : Value} (h : TwoSt w #[a0, a1, a2, a3, a4, a5] #[b0, b1, b2, b3, b4, b5] W) : TwoS w a0 a1 a2 a3 a4 a5 b0 b1 b2 b3 b4 b5 W :=
  ⟨h.a.cell 0, h.a.cell 1, h.a.cell 2, h.a.cell 3, h.a.cell 4, h.a.cell 5, h.b.cell 0, h.b.cell 1, h.b.cell 2, h.b.cell 3, h.b.cell 4, h.b.cell 5, h⟩
theorem TwoSt.keep {w W W1 : World} {a0 a1 a2 a3 a4 a5 b0 b1 b2 b3 b4 b5 : Value} (h : TwoSt w #[a0, a1, a2, a3, a4, a5] #[b0, b1, b2, b3, b4, b5] W) (hb : Below W.heap.size W W1) : TwoS w a0 a1 a2 a3 a4 a5 b0 b1 b2 b3 b4 b5 W1 := (h.next hb).s
set_option maxRecDepth 100000 in
set_option maxHeartbeats 4000000 in
theorem same_full (a b : SetD) (da sa db sb : Value) (w : World) (hda : StrsAt da a.data w) (hsa : StrsAt sa a.sigs w) (hdb : StrsAt db b.data w) (hsb : StrsAt sb b.sigs w) (hra : rightS a = true) (hrb : rightS b = true) (hn : nameEq a.name b.name = true) (hk : a.kind = b.kind) (hcl : a.cls = b.cls) :
    Calls Tryz.prog 11 #[a.v da sa, b.v db sb] w (BoolB (sameS a b) w) := by
  have h1 := fun W (h : Below w.heap.size w W) => rrset_right a da sa W (hda.below h) (hsa.below h)
  have h2 := fun W (h : Below w.heap.size w W) => rrset_right b db sb W (hdb.below h) (hsb.below h)
  have h3 := fun W => name_equal a.name b.name W
  have h4 := fun W (h : Below w.heap.size w W) => plain_any a da sa W (hda.below h) (hsa.below h) (rightS_len hra).1
  have h5 := fun W (h : Below w.heap.size w W) => plain_any b db sb W (hdb.below h) (hsb.below h) (rightS_len hrb).1
  have hl4 : (plainL a).length ≤ 1000000 := by rw [plainL, sortB_len, List.length_map]; have := (rightS_len hra).1; omega
  have hl5 : (plainL b).length ≤ 1000000 := by rw [plainL, sortB_len, List.length_map]; have := (rightS_len hrb).1; omega
  rw [hra] at h1; rw [hrb] at h2; rw [hn] at h3
  have HF := Lib.hid (show sameS a b = decide (plainL a = plainL b) by rw [sameS, hra, hrb, hn, decide_eq_true hk, decide_eq_true hcl]; rfl)
  change ∀ W, Below w.heap.size w W → Calls Tryz.prog 25 _ W (StrsP (plainL a) W) at h4
  change ∀ W, Below w.heap.size w W → Calls Tryz.prog 25 _ W (StrsP (plainL b) W) at h5
  have hk1 : (a.kind == b.kind) = true := by rw [beq_iff_eq]; exact hk
  have hk2 : (a.cls == b.cls) = true := by rw [beq_iff_eq]; exact hcl
  generalize plainL a = la at *
  generalize plainL b = lb at *
  have HRA := Lib.hid h1; have HRB := Lib.hid h2; have HEQ := Lib.hid h3; have HPA := Lib.hid h4; have HPB := Lib.hid h5; have HL4 := Lib.hid hl4; have HL5 := Lib.hid hl5
  clear h1 h2 h3 h4 h5 hl4 hl5 hra hrb hn hk hcl
  obtain ⟨A, c1, rfl, _⟩ := hda
  obtain ⟨B, c2, rfl, _⟩ := hsa
  obtain ⟨C, c3, rfl, _⟩ := hdb
  obtain ⟨D, c4, rfl, _⟩ := hsb
  obtain ⟨xn, xk, xc, xt, xd, xs⟩ := a
  obtain ⟨yn, yk, yc, yt, yd, ys⟩ := b
  simp only [SetD.v, SetD.cells] at *
  go_enter Tryz.func11, Tryz.ntmps11
  go_wp2_with fail
  have H0 : Hid (TwoSt w #[.string xn, .int .i64 xk, .int .i64 xc, .int .i64 xt, (.slice A xd.length c1), (.slice B xs.length c2)] #[.string yn, .int .i64 yk, .int .i64 yc, .int .i64 yt, (.slice C yd.length c3), (.slice D ys.length c4)] ((w.alloc (.cells #[.string xn, .int .i64 xk, .int .i64 xc, .int .i64 xt, (.slice A xd.length c1), (.slice B xs.length c2)] 30)).alloc (.cells #[.string yn, .int .i64 yk, .int .i64 yc, .int .i64 yt, (.slice C yd.length c3), (.slice D ys.length c4)] 30)).drew) :=
    Lib.hid ⟨(Blk.new w _ _).alloc _, by simpa using (Blk.new (w.alloc (.cells #[.string xn, .int .i64 xk, .int .i64 xc, .int .i64 xt, (.slice A xd.length c1), (.slice B xs.length c2)] 30)) #[.string yn, .int .i64 yk, .int .i64 yc, .int .i64 yt, (.slice C yd.length c3), (.slice D ys.length c4)] 30).drew, (((Below.refl _ w).alloc (Nat.le_refl _) _).alloc (by simp) _).drew⟩
  have hs0 := H0.out.s
  unfold TwoS at hs0
  obtain ⟨x0, x1, x2, x3, x4, x5, y0, y1, y2, y3, y4, y5, hT⟩ := hs0
  go_region_held3 (fun W => W.cell? ⟨w.heap.size, 0, none⟩ = some (.string xn) ∧ W.cell? ⟨w.heap.size, 1, none⟩ = some (.int .i64 xk) ∧ W.cell? ⟨w.heap.size, 2, none⟩ = some (.int .i64 xc) ∧ W.cell? ⟨w.heap.size, 3, none⟩ = some (.int .i64 xt) ∧ W.cell? ⟨w.heap.size, 4, none⟩ = some (.slice A xd.length c1) ∧ W.cell? ⟨w.heap.size, 5, none⟩ = some (.slice B xs.length c2) ∧
    W.cell? ⟨w.heap.size + 1, 0, none⟩ = some (.string yn) ∧ W.cell? ⟨w.heap.size + 1, 1, none⟩ = some (.int .i64 yk) ∧ W.cell? ⟨w.heap.size + 1, 2, none⟩ = some (.int .i64 yc) ∧ W.cell? ⟨w.heap.size + 1, 3, none⟩ = some (.int .i64 yt) ∧ W.cell? ⟨w.heap.size + 1, 4, none⟩ = some (.slice C yd.length c3) ∧ W.cell? ⟨w.heap.size + 1, 5, none⟩ = some (.slice D ys.length c4) ∧
    TwoSt w #[.string xn, .int .i64 xk, .int .i64 xc, .int .i64 xt, (.slice A xd.length c1), (.slice B xs.length c2)] #[.string yn, .int .i64 yk, .int .i64 yc, .int .i64 yt, (.slice C yd.length c3), (.slice D ys.length c4)] W)
    (first | exact TwoSt.keep (by assumption) (by assumption) | exact TwoSt.s (by assumption) | go_keep)
    (first
      | (go_at_call 15; ((with_reducible refine (HRA.out _ hT.below).mono ?_); rintro e W1 ⟨rfl, hb1⟩; have t1 := hT.next hb1))
      | (go_at_call 15; ((with_reducible refine (HRB.out _ t1.below).mono ?_); rintro e W2 ⟨rfl, hb2⟩; have t2 := t1.next hb2))
      | (go_at_call 10; ((with_reducible refine (HEQ.out _).mono ?_); rintro e W3 ⟨rfl, hb3⟩; have t3 := t2.next hb3))
      | (go_at_call 25; ((with_reducible refine (HPA.out _ t3.below).mono ?_); rintro e W4 ⟨hb4, v4, rfl, ho4⟩; have t4 := t3.next hb4))
      | (go_at_call 25; ((with_reducible refine (HPB.out _ t4.below).mono ?_); rintro e W5 ⟨hb5, v5, rfl, ho5⟩; have t5 := t4.next hb5))
      | (go_at_call 20; ((with_reducible refine (strs_equal _ _ la lb _ ((OwnS.strs ho4).below hb5) (OwnS.strs ho5) HL4.out HL5.out).mono ?_); rintro e W6 ⟨rfl, hb6⟩)))
  go_wp2_with fail
  go_ret
  exact ⟨by rw [HF.out]; rfl, t5.below.trans (hb6.mono t5.below.size)⟩

set_option maxRecDepth 100000 in
set_option maxHeartbeats 2000000 in
theorem same_no (a b : SetD) (da sa db sb : Value) (w : World) (hda : StrsAt da a.data w) (hsa : StrsAt sa a.sigs w) (hdb : StrsAt db b.data w) (hsb : StrsAt sb b.sigs w) (h : ¬ (rightS a = true ∧ rightS b = true ∧ nameEq a.name b.name = true ∧ a.kind = b.kind ∧ a.cls = b.cls)) :
    Calls Tryz.prog 11 #[a.v da sa, b.v db sb] w (BoolB (sameS a b) w) := by
  have h1 := fun W (h : Below w.heap.size w W) => rrset_right a da sa W (hda.below h) (hsa.below h)
  have h2 := fun W (h : Below w.heap.size w W) => rrset_right b db sb W (hdb.below h) (hsb.below h)
  have h3 := fun W => name_equal a.name b.name W
  have HF := Lib.hid (show sameS a b = false by
    simp only [sameS, Bool.and_eq_false_iff, decide_eq_false_iff_not]
    by_cases c1 : rightS a = true <;> by_cases c2 : rightS b = true <;> by_cases c3 : nameEq a.name b.name = true <;> by_cases c4 : a.kind = b.kind <;> by_cases c5 : a.cls = b.cls <;> simp_all)
  have hmix : Tryz.prog.follows .mixedOrders = true := by kernel_rfl
  generalize rightS a = ra at *
  generalize rightS b = rb at *
  generalize nameEq a.name b.name = ne at *
  cases ra
  · have HRA := Lib.hid h1; have HRB := Lib.hid h2; have HEQ := Lib.hid h3
    clear h1 h2 h3 h
    obtain ⟨A, c1, rfl, _⟩ := hda
    obtain ⟨B, c2, rfl, _⟩ := hsa
    obtain ⟨C, c3, rfl, _⟩ := hdb
    obtain ⟨D, c4, rfl, _⟩ := hsb
    obtain ⟨xn, xk, xc, xt, xd, xs⟩ := a
    obtain ⟨yn, yk, yc, yt, yd, ys⟩ := b
    simp only [SetD.v, SetD.cells] at *
    go_enter Tryz.func11, Tryz.ntmps11
    go_wp2_with fail
    have H0 : Hid (TwoSt w #[.string xn, .int .i64 xk, .int .i64 xc, .int .i64 xt, (.slice A xd.length c1), (.slice B xs.length c2)] #[.string yn, .int .i64 yk, .int .i64 yc, .int .i64 yt, (.slice C yd.length c3), (.slice D ys.length c4)] ((w.alloc (.cells #[.string xn, .int .i64 xk, .int .i64 xc, .int .i64 xt, (.slice A xd.length c1), (.slice B xs.length c2)] 30)).alloc (.cells #[.string yn, .int .i64 yk, .int .i64 yc, .int .i64 yt, (.slice C yd.length c3), (.slice D ys.length c4)] 30)).drew) :=
      Lib.hid ⟨(Blk.new w _ _).alloc _, by simpa using (Blk.new (w.alloc (.cells #[.string xn, .int .i64 xk, .int .i64 xc, .int .i64 xt, (.slice A xd.length c1), (.slice B xs.length c2)] 30)) #[.string yn, .int .i64 yk, .int .i64 yc, .int .i64 yt, (.slice C yd.length c3), (.slice D ys.length c4)] 30).drew, (((Below.refl _ w).alloc (Nat.le_refl _) _).alloc (by simp) _).drew⟩
    refine wp_region_quiet (C := TwoSt w #[.string xn, .int .i64 xk, .int .i64 xc, .int .i64 xt, (.slice A xd.length c1), (.slice B xs.length c2)] #[.string yn, .int .i64 yk, .int .i64 yc, .int .i64 yt, (.slice C yd.length c3), (.slice D ys.length c4)]) hmix (by kernel_rfl) H0.out ?_
    simp only []
    go_big_quiet_want
    refine qs_load _ _ rfl ⟨w.heap.size, 0, none⟩ _ rfl (fun W hW => set_load hW.a) ?_
    simp (maxSteps := 1000000) only [Act.put, List.setIfInBounds_toArray, List.set_cons_succ, List.set_cons_zero]
    go_big_quiet_on
    go_big_quiet_want
    refine qs_call 15 _ _ (fun W hW => ?run) (fun W hW => (HRA.out W hW.below).mono fun e w' h => ⟨h.1, hW.next h.2⟩) ?_
    case run => simp [go_sem, Act.eval]
    simp (maxSteps := 1000000) only [Act.put, List.setIfInBounds_toArray, List.set_cons_succ, List.set_cons_zero]
    go_big_quiet_on
    repeat (first
      | go_big_quiet_skip
      | (go_big_quiet_want
         refine qs_run (.bool false) (fun W hW => ?run) ?_
         case run => simp [go_sem, Act.eval]
         simp (maxSteps := 1000000) only [Act.put, List.setIfInBounds_toArray, List.set_cons_succ, List.set_cons_zero]
         go_big_quiet_on))
    refine wpQuiet_nil ?_
    intro W hW
    replace hW := Lib.hid hW
    go_wp2_with fail
    go_ret
    exact ⟨by rw [HF.out]; rfl, hW.out.below⟩
  cases rb
  · have HRA := Lib.hid h1; have HRB := Lib.hid h2; have HEQ := Lib.hid h3
    clear h1 h2 h3 h
    obtain ⟨A, c1, rfl, _⟩ := hda
    obtain ⟨B, c2, rfl, _⟩ := hsa
    obtain ⟨C, c3, rfl, _⟩ := hdb
    obtain ⟨D, c4, rfl, _⟩ := hsb
    obtain ⟨xn, xk, xc, xt, xd, xs⟩ := a
    obtain ⟨yn, yk, yc, yt, yd, ys⟩ := b
    simp only [SetD.v, SetD.cells] at *
    go_enter Tryz.func11, Tryz.ntmps11
    go_wp2_with fail
    have H0 : Hid (TwoSt w #[.string xn, .int .i64 xk, .int .i64 xc, .int .i64 xt, (.slice A xd.length c1), (.slice B xs.length c2)] #[.string yn, .int .i64 yk, .int .i64 yc, .int .i64 yt, (.slice C yd.length c3), (.slice D ys.length c4)] ((w.alloc (.cells #[.string xn, .int .i64 xk, .int .i64 xc, .int .i64 xt, (.slice A xd.length c1), (.slice B xs.length c2)] 30)).alloc (.cells #[.string yn, .int .i64 yk, .int .i64 yc, .int .i64 yt, (.slice C yd.length c3), (.slice D ys.length c4)] 30)).drew) :=
      Lib.hid ⟨(Blk.new w _ _).alloc _, by simpa using (Blk.new (w.alloc (.cells #[.string xn, .int .i64 xk, .int .i64 xc, .int .i64 xt, (.slice A xd.length c1), (.slice B xs.length c2)] 30)) #[.string yn, .int .i64 yk, .int .i64 yc, .int .i64 yt, (.slice C yd.length c3), (.slice D ys.length c4)] 30).drew, (((Below.refl _ w).alloc (Nat.le_refl _) _).alloc (by simp) _).drew⟩
    refine wp_region_quiet (C := TwoSt w #[.string xn, .int .i64 xk, .int .i64 xc, .int .i64 xt, (.slice A xd.length c1), (.slice B xs.length c2)] #[.string yn, .int .i64 yk, .int .i64 yc, .int .i64 yt, (.slice C yd.length c3), (.slice D ys.length c4)]) hmix (by kernel_rfl) H0.out ?_
    simp only []
    go_big_quiet_want
    refine qs_load _ _ rfl ⟨w.heap.size, 0, none⟩ _ rfl (fun W hW => set_load hW.a) ?_
    simp (maxSteps := 1000000) only [Act.put, List.setIfInBounds_toArray, List.set_cons_succ, List.set_cons_zero]
    go_big_quiet_on
    go_big_quiet_want
    refine qs_call 15 _ _ (fun W hW => ?run) (fun W hW => (HRA.out W hW.below).mono fun e w' h => ⟨h.1, hW.next h.2⟩) ?_
    case run => simp [go_sem, Act.eval]
    simp (maxSteps := 1000000) only [Act.put, List.setIfInBounds_toArray, List.set_cons_succ, List.set_cons_zero]
    go_big_quiet_on
    go_big_quiet_want
    refine qs_run (.bool true) (fun W hW => ?run) ?_
    case run => simp [go_sem, Act.eval]
    simp (maxSteps := 1000000) only [Act.put, List.setIfInBounds_toArray, List.set_cons_succ, List.set_cons_zero]
    go_big_quiet_on
    go_big_quiet_want
    refine qs_load _ _ rfl ⟨w.heap.size + 1, 0, none⟩ _ rfl (fun W hW => set_load hW.b) ?_
    simp (maxSteps := 1000000) only [Act.put, List.setIfInBounds_toArray, List.set_cons_succ, List.set_cons_zero]
    go_big_quiet_on
    go_big_quiet_want
    refine qs_call 15 _ _ (fun W hW => ?run) (fun W hW => (HRB.out W hW.below).mono fun e w' h => ⟨h.1, hW.next h.2⟩) ?_
    case run => simp [go_sem, Act.eval]
    simp (maxSteps := 1000000) only [Act.put, List.setIfInBounds_toArray, List.set_cons_succ, List.set_cons_zero]
    go_big_quiet_on
    repeat (first
      | go_big_quiet_skip
      | (go_big_quiet_want
         refine qs_run (.bool false) (fun W hW => ?run) ?_
         case run => simp [go_sem, Act.eval]
         simp (maxSteps := 1000000) only [Act.put, List.setIfInBounds_toArray, List.set_cons_succ, List.set_cons_zero]
         go_big_quiet_on))
    refine wpQuiet_nil ?_
    intro W hW
    replace hW := Lib.hid hW
    go_wp2_with fail
    go_ret
    exact ⟨by rw [HF.out]; rfl, hW.out.below⟩
  cases ne
  · have HRA := Lib.hid h1; have HRB := Lib.hid h2; have HEQ := Lib.hid h3
    clear h1 h2 h3 h
    obtain ⟨A, c1, rfl, _⟩ := hda
    obtain ⟨B, c2, rfl, _⟩ := hsa
    obtain ⟨C, c3, rfl, _⟩ := hdb
    obtain ⟨D, c4, rfl, _⟩ := hsb
    obtain ⟨xn, xk, xc, xt, xd, xs⟩ := a
    obtain ⟨yn, yk, yc, yt, yd, ys⟩ := b
    simp only [SetD.v, SetD.cells] at *
    go_enter Tryz.func11, Tryz.ntmps11
    go_wp2_with fail
    have H0 : Hid (TwoSt w #[.string xn, .int .i64 xk, .int .i64 xc, .int .i64 xt, (.slice A xd.length c1), (.slice B xs.length c2)] #[.string yn, .int .i64 yk, .int .i64 yc, .int .i64 yt, (.slice C yd.length c3), (.slice D ys.length c4)] ((w.alloc (.cells #[.string xn, .int .i64 xk, .int .i64 xc, .int .i64 xt, (.slice A xd.length c1), (.slice B xs.length c2)] 30)).alloc (.cells #[.string yn, .int .i64 yk, .int .i64 yc, .int .i64 yt, (.slice C yd.length c3), (.slice D ys.length c4)] 30)).drew) :=
      Lib.hid ⟨(Blk.new w _ _).alloc _, by simpa using (Blk.new (w.alloc (.cells #[.string xn, .int .i64 xk, .int .i64 xc, .int .i64 xt, (.slice A xd.length c1), (.slice B xs.length c2)] 30)) #[.string yn, .int .i64 yk, .int .i64 yc, .int .i64 yt, (.slice C yd.length c3), (.slice D ys.length c4)] 30).drew, (((Below.refl _ w).alloc (Nat.le_refl _) _).alloc (by simp) _).drew⟩
    refine wp_region_quiet (C := TwoSt w #[.string xn, .int .i64 xk, .int .i64 xc, .int .i64 xt, (.slice A xd.length c1), (.slice B xs.length c2)] #[.string yn, .int .i64 yk, .int .i64 yc, .int .i64 yt, (.slice C yd.length c3), (.slice D ys.length c4)]) hmix (by kernel_rfl) H0.out ?_
    simp only []
    go_big_quiet_want
    refine qs_load _ _ rfl ⟨w.heap.size, 0, none⟩ _ rfl (fun W hW => set_load hW.a) ?_
    simp (maxSteps := 1000000) only [Act.put, List.setIfInBounds_toArray, List.set_cons_succ, List.set_cons_zero]
    go_big_quiet_on
    go_big_quiet_want
    refine qs_call 15 _ _ (fun W hW => ?run) (fun W hW => (HRA.out W hW.below).mono fun e w' h => ⟨h.1, hW.next h.2⟩) ?_
    case run => simp [go_sem, Act.eval]
    simp (maxSteps := 1000000) only [Act.put, List.setIfInBounds_toArray, List.set_cons_succ, List.set_cons_zero]
    go_big_quiet_on
    go_big_quiet_want
    refine qs_run (.bool true) (fun W hW => ?run) ?_
    case run => simp [go_sem, Act.eval]
    simp (maxSteps := 1000000) only [Act.put, List.setIfInBounds_toArray, List.set_cons_succ, List.set_cons_zero]
    go_big_quiet_on
    go_big_quiet_want
    refine qs_load _ _ rfl ⟨w.heap.size + 1, 0, none⟩ _ rfl (fun W hW => set_load hW.b) ?_
    simp (maxSteps := 1000000) only [Act.put, List.setIfInBounds_toArray, List.set_cons_succ, List.set_cons_zero]
    go_big_quiet_on
    go_big_quiet_want
    refine qs_call 15 _ _ (fun W hW => ?run) (fun W hW => (HRB.out W hW.below).mono fun e w' h => ⟨h.1, hW.next h.2⟩) ?_
    case run => simp [go_sem, Act.eval]
    simp (maxSteps := 1000000) only [Act.put, List.setIfInBounds_toArray, List.set_cons_succ, List.set_cons_zero]
    go_big_quiet_on
    go_big_quiet_want
    refine qs_run (.bool true) (fun W hW => ?run) ?_
    case run => simp [go_sem, Act.eval]
    simp (maxSteps := 1000000) only [Act.put, List.setIfInBounds_toArray, List.set_cons_succ, List.set_cons_zero]
    go_big_quiet_on
    go_big_quiet_want
    refine qs_run (.bool true) (fun W hW => ?run) ?_
    case run => simp [go_sem, Act.eval]
    simp (maxSteps := 1000000) only [Act.put, List.setIfInBounds_toArray, List.set_cons_succ, List.set_cons_zero]
    go_big_quiet_on
    go_big_quiet_want
    refine qs_run (.pointer (some ⟨w.heap.size, 0, none⟩)) (fun W hW => ?run) ?_
    case run => simp [go_sem, Act.eval]
    simp (maxSteps := 1000000) only [Act.put, List.setIfInBounds_toArray, List.set_cons_succ, List.set_cons_zero]
    go_big_quiet_on
    go_big_quiet_want
    refine qs_run (.string xn) (fun W hW => ?run) ?_
    case run =>
      have c := hW.a.cell 0
      simp at c
      simp [go_sem, Act.eval, c]
    simp (maxSteps := 1000000) only [Act.put, List.setIfInBounds_toArray, List.set_cons_succ, List.set_cons_zero]
    go_big_quiet_on
    go_big_quiet_want
    refine qs_run (.pointer (some ⟨w.heap.size + 1, 0, none⟩)) (fun W hW => ?run) ?_
    case run => simp [go_sem, Act.eval]
    simp (maxSteps := 1000000) only [Act.put, List.setIfInBounds_toArray, List.set_cons_succ, List.set_cons_zero]
    go_big_quiet_on
    go_big_quiet_want
    refine qs_run (.string yn) (fun W hW => ?run) ?_
    case run =>
      have c := hW.b.cell 0
      simp at c
      simp [go_sem, Act.eval, c]
    simp (maxSteps := 1000000) only [Act.put, List.setIfInBounds_toArray, List.set_cons_succ, List.set_cons_zero]
    go_big_quiet_on
    go_big_quiet_want
    refine qs_call 10 _ _ (fun W hW => ?run) (fun W hW => (HEQ.out W).mono fun e w' h => ⟨h.1, hW.next h.2⟩) ?_
    case run => simp [go_sem, Act.eval]
    simp (maxSteps := 1000000) only [Act.put, List.setIfInBounds_toArray, List.set_cons_succ, List.set_cons_zero]
    go_big_quiet_on
    repeat (first
      | go_big_quiet_skip
      | (go_big_quiet_want
         refine qs_run (.bool false) (fun W hW => ?run) ?_
         case run => simp [go_sem, Act.eval]
         simp (maxSteps := 1000000) only [Act.put, List.setIfInBounds_toArray, List.set_cons_succ, List.set_cons_zero]
         go_big_quiet_on))
    refine wpQuiet_nil ?_
    intro W hW
    replace hW := Lib.hid hW
    go_wp2_with fail
    go_ret
    exact ⟨by rw [HF.out]; rfl, hW.out.below⟩
  by_cases hk : a.kind = b.kind
  · have hc : a.cls ≠ b.cls := fun hc => h ⟨rfl, rfl, rfl, hk, hc⟩
    replace hk := Lib.hid hk
    replace hc := Lib.hid hc
    have HRA := Lib.hid h1; have HRB := Lib.hid h2; have HEQ := Lib.hid h3
    clear h1 h2 h3 h
    obtain ⟨A, c1, rfl, _⟩ := hda
    obtain ⟨B, c2, rfl, _⟩ := hsa
    obtain ⟨C, c3, rfl, _⟩ := hdb
    obtain ⟨D, c4, rfl, _⟩ := hsb
    obtain ⟨xn, xk, xc, xt, xd, xs⟩ := a
    obtain ⟨yn, yk, yc, yt, yd, ys⟩ := b
    simp only [SetD.v, SetD.cells] at *
    go_enter Tryz.func11, Tryz.ntmps11
    go_wp2_with fail
    have H0 : Hid (TwoSt w #[.string xn, .int .i64 xk, .int .i64 xc, .int .i64 xt, (.slice A xd.length c1), (.slice B xs.length c2)] #[.string yn, .int .i64 yk, .int .i64 yc, .int .i64 yt, (.slice C yd.length c3), (.slice D ys.length c4)] ((w.alloc (.cells #[.string xn, .int .i64 xk, .int .i64 xc, .int .i64 xt, (.slice A xd.length c1), (.slice B xs.length c2)] 30)).alloc (.cells #[.string yn, .int .i64 yk, .int .i64 yc, .int .i64 yt, (.slice C yd.length c3), (.slice D ys.length c4)] 30)).drew) :=
      Lib.hid ⟨(Blk.new w _ _).alloc _, by simpa using (Blk.new (w.alloc (.cells #[.string xn, .int .i64 xk, .int .i64 xc, .int .i64 xt, (.slice A xd.length c1), (.slice B xs.length c2)] 30)) #[.string yn, .int .i64 yk, .int .i64 yc, .int .i64 yt, (.slice C yd.length c3), (.slice D ys.length c4)] 30).drew, (((Below.refl _ w).alloc (Nat.le_refl _) _).alloc (by simp) _).drew⟩
    refine wp_region_quiet (C := TwoSt w #[.string xn, .int .i64 xk, .int .i64 xc, .int .i64 xt, (.slice A xd.length c1), (.slice B xs.length c2)] #[.string yn, .int .i64 yk, .int .i64 yc, .int .i64 yt, (.slice C yd.length c3), (.slice D ys.length c4)]) hmix (by kernel_rfl) H0.out ?_
    simp only []
    go_big_quiet_want
    refine qs_load _ _ rfl ⟨w.heap.size, 0, none⟩ _ rfl (fun W hW => set_load hW.a) ?_
    simp (maxSteps := 1000000) only [Act.put, List.setIfInBounds_toArray, List.set_cons_succ, List.set_cons_zero]
    go_big_quiet_on
    go_big_quiet_want
    refine qs_call 15 _ _ (fun W hW => ?run) (fun W hW => (HRA.out W hW.below).mono fun e w' h => ⟨h.1, hW.next h.2⟩) ?_
    case run => simp [go_sem, Act.eval]
    simp (maxSteps := 1000000) only [Act.put, List.setIfInBounds_toArray, List.set_cons_succ, List.set_cons_zero]
    go_big_quiet_on
    go_big_quiet_want
    refine qs_run (.bool true) (fun W hW => ?run) ?_
    case run => simp [go_sem, Act.eval]
    simp (maxSteps := 1000000) only [Act.put, List.setIfInBounds_toArray, List.set_cons_succ, List.set_cons_zero]
    go_big_quiet_on
    go_big_quiet_want
    refine qs_load _ _ rfl ⟨w.heap.size + 1, 0, none⟩ _ rfl (fun W hW => set_load hW.b) ?_
    simp (maxSteps := 1000000) only [Act.put, List.setIfInBounds_toArray, List.set_cons_succ, List.set_cons_zero]
    go_big_quiet_on
    go_big_quiet_want
    refine qs_call 15 _ _ (fun W hW => ?run) (fun W hW => (HRB.out W hW.below).mono fun e w' h => ⟨h.1, hW.next h.2⟩) ?_
    case run => simp [go_sem, Act.eval]
    simp (maxSteps := 1000000) only [Act.put, List.setIfInBounds_toArray, List.set_cons_succ, List.set_cons_zero]
    go_big_quiet_on
    go_big_quiet_want
    refine qs_run (.bool true) (fun W hW => ?run) ?_
    case run => simp [go_sem, Act.eval]
    simp (maxSteps := 1000000) only [Act.put, List.setIfInBounds_toArray, List.set_cons_succ, List.set_cons_zero]
    go_big_quiet_on
    go_big_quiet_want
    refine qs_run (.bool true) (fun W hW => ?run) ?_
    case run => simp [go_sem, Act.eval]
    simp (maxSteps := 1000000) only [Act.put, List.setIfInBounds_toArray, List.set_cons_succ, List.set_cons_zero]
    go_big_quiet_on
    go_big_quiet_want
    refine qs_run (.pointer (some ⟨w.heap.size, 0, none⟩)) (fun W hW => ?run) ?_
    case run => simp [go_sem, Act.eval]
    simp (maxSteps := 1000000) only [Act.put, List.setIfInBounds_toArray, List.set_cons_succ, List.set_cons_zero]
    go_big_quiet_on
    go_big_quiet_want
    refine qs_run (.string xn) (fun W hW => ?run) ?_
    case run =>
      have c := hW.a.cell 0
      simp at c
      simp [go_sem, Act.eval, c]
    simp (maxSteps := 1000000) only [Act.put, List.setIfInBounds_toArray, List.set_cons_succ, List.set_cons_zero]
    go_big_quiet_on
    go_big_quiet_want
    refine qs_run (.pointer (some ⟨w.heap.size + 1, 0, none⟩)) (fun W hW => ?run) ?_
    case run => simp [go_sem, Act.eval]
    simp (maxSteps := 1000000) only [Act.put, List.setIfInBounds_toArray, List.set_cons_succ, List.set_cons_zero]
    go_big_quiet_on
    go_big_quiet_want
    refine qs_run (.string yn) (fun W hW => ?run) ?_
    case run =>
      have c := hW.b.cell 0
      simp at c
      simp [go_sem, Act.eval, c]
    simp (maxSteps := 1000000) only [Act.put, List.setIfInBounds_toArray, List.set_cons_succ, List.set_cons_zero]
    go_big_quiet_on
    go_big_quiet_want
    refine qs_call 10 _ _ (fun W hW => ?run) (fun W hW => (HEQ.out W).mono fun e w' h => ⟨h.1, hW.next h.2⟩) ?_
    case run => simp [go_sem, Act.eval]
    simp (maxSteps := 1000000) only [Act.put, List.setIfInBounds_toArray, List.set_cons_succ, List.set_cons_zero]
    go_big_quiet_on
    go_big_quiet_want
    refine qs_run (.bool true) (fun W hW => ?run) ?_
    case run => simp [go_sem, Act.eval]
    simp (maxSteps := 1000000) only [Act.put, List.setIfInBounds_toArray, List.set_cons_succ, List.set_cons_zero]
    go_big_quiet_on
    go_big_quiet_want
    refine qs_run (.bool true) (fun W hW => ?run) ?_
    case run => simp [go_sem, Act.eval]
    simp (maxSteps := 1000000) only [Act.put, List.setIfInBounds_toArray, List.set_cons_succ, List.set_cons_zero]
    go_big_quiet_on
    go_big_quiet_want
    refine qs_run (.pointer (some ⟨w.heap.size, 1, none⟩)) (fun W hW => ?run) ?_
    case run => simp [go_sem, Act.eval]
    simp (maxSteps := 1000000) only [Act.put, List.setIfInBounds_toArray, List.set_cons_succ, List.set_cons_zero]
    go_big_quiet_on
    go_big_quiet_want
    refine qs_run (.int .i64 xk) (fun W hW => ?run) ?_
    case run =>
      have c := hW.a.cell 1
      simp at c
      simp [go_sem, Act.eval, c]
    simp (maxSteps := 1000000) only [Act.put, List.setIfInBounds_toArray, List.set_cons_succ, List.set_cons_zero]
    go_big_quiet_on
    go_big_quiet_want
    refine qs_run (.pointer (some ⟨w.heap.size + 1, 1, none⟩)) (fun W hW => ?run) ?_
    case run => simp [go_sem, Act.eval]
    simp (maxSteps := 1000000) only [Act.put, List.setIfInBounds_toArray, List.set_cons_succ, List.set_cons_zero]
    go_big_quiet_on
    go_big_quiet_want
    refine qs_run (.int .i64 yk) (fun W hW => ?run) ?_
    case run =>
      have c := hW.b.cell 1
      simp at c
      simp [go_sem, Act.eval, c]
    simp (maxSteps := 1000000) only [Act.put, List.setIfInBounds_toArray, List.set_cons_succ, List.set_cons_zero]
    go_big_quiet_on
    go_big_quiet_want
    refine qs_run (.bool true) (fun W hW => ?run) ?_
    case run => simp [go_sem, Act.eval, hk.out]
    simp (maxSteps := 1000000) only [Act.put, List.setIfInBounds_toArray, List.set_cons_succ, List.set_cons_zero]
    go_big_quiet_on
    go_big_quiet_want
    refine qs_run (.bool true) (fun W hW => ?run) ?_
    case run => simp [go_sem, Act.eval]
    simp (maxSteps := 1000000) only [Act.put, List.setIfInBounds_toArray, List.set_cons_succ, List.set_cons_zero]
    go_big_quiet_on
    go_big_quiet_want
    refine qs_run (.bool true) (fun W hW => ?run) ?_
    case run => simp [go_sem, Act.eval]
    simp (maxSteps := 1000000) only [Act.put, List.setIfInBounds_toArray, List.set_cons_succ, List.set_cons_zero]
    go_big_quiet_on
    go_big_quiet_want
    refine qs_run (.pointer (some ⟨w.heap.size, 2, none⟩)) (fun W hW => ?run) ?_
    case run => simp [go_sem, Act.eval]
    simp (maxSteps := 1000000) only [Act.put, List.setIfInBounds_toArray, List.set_cons_succ, List.set_cons_zero]
    go_big_quiet_on
    go_big_quiet_want
    refine qs_run (.int .i64 xc) (fun W hW => ?run) ?_
    case run =>
      have c := hW.a.cell 2
      simp at c
      simp [go_sem, Act.eval, c]
    simp (maxSteps := 1000000) only [Act.put, List.setIfInBounds_toArray, List.set_cons_succ, List.set_cons_zero]
    go_big_quiet_on
    go_big_quiet_want
    refine qs_run (.pointer (some ⟨w.heap.size + 1, 2, none⟩)) (fun W hW => ?run) ?_
    case run => simp [go_sem, Act.eval]
    simp (maxSteps := 1000000) only [Act.put, List.setIfInBounds_toArray, List.set_cons_succ, List.set_cons_zero]
    go_big_quiet_on
    go_big_quiet_want
    refine qs_run (.int .i64 yc) (fun W hW => ?run) ?_
    case run =>
      have c := hW.b.cell 2
      simp at c
      simp [go_sem, Act.eval, c]
    simp (maxSteps := 1000000) only [Act.put, List.setIfInBounds_toArray, List.set_cons_succ, List.set_cons_zero]
    go_big_quiet_on
    go_big_quiet_want
    refine qs_run (.bool false) (fun W hW => ?run) ?_
    case run => simp [go_sem, Act.eval, hc.out]
    simp (maxSteps := 1000000) only [Act.put, List.setIfInBounds_toArray, List.set_cons_succ, List.set_cons_zero]
    go_big_quiet_on
    repeat (first
      | go_big_quiet_skip
      | (go_big_quiet_want
         refine qs_run (.bool false) (fun W hW => ?run) ?_
         case run => simp [go_sem, Act.eval]
         simp (maxSteps := 1000000) only [Act.put, List.setIfInBounds_toArray, List.set_cons_succ, List.set_cons_zero]
         go_big_quiet_on))
    refine wpQuiet_nil ?_
    intro W hW
    replace hW := Lib.hid hW
    go_wp2_with fail
    go_ret
    exact ⟨by rw [HF.out]; rfl, hW.out.below⟩
  · replace hk := Lib.hid hk
    have HRA := Lib.hid h1; have HRB := Lib.hid h2; have HEQ := Lib.hid h3
    clear h1 h2 h3 h
    obtain ⟨A, c1, rfl, _⟩ := hda
    obtain ⟨B, c2, rfl, _⟩ := hsa
    obtain ⟨C, c3, rfl, _⟩ := hdb
    obtain ⟨D, c4, rfl, _⟩ := hsb
    obtain ⟨xn, xk, xc, xt, xd, xs⟩ := a
    obtain ⟨yn, yk, yc, yt, yd, ys⟩ := b
    simp only [SetD.v, SetD.cells] at *
    go_enter Tryz.func11, Tryz.ntmps11
    go_wp2_with fail
    have H0 : Hid (TwoSt w #[.string xn, .int .i64 xk, .int .i64 xc, .int .i64 xt, (.slice A xd.length c1), (.slice B xs.length c2)] #[.string yn, .int .i64 yk, .int .i64 yc, .int .i64 yt, (.slice C yd.length c3), (.slice D ys.length c4)] ((w.alloc (.cells #[.string xn, .int .i64 xk, .int .i64 xc, .int .i64 xt, (.slice A xd.length c1), (.slice B xs.length c2)] 30)).alloc (.cells #[.string yn, .int .i64 yk, .int .i64 yc, .int .i64 yt, (.slice C yd.length c3), (.slice D ys.length c4)] 30)).drew) :=
      Lib.hid ⟨(Blk.new w _ _).alloc _, by simpa using (Blk.new (w.alloc (.cells #[.string xn, .int .i64 xk, .int .i64 xc, .int .i64 xt, (.slice A xd.length c1), (.slice B xs.length c2)] 30)) #[.string yn, .int .i64 yk, .int .i64 yc, .int .i64 yt, (.slice C yd.length c3), (.slice D ys.length c4)] 30).drew, (((Below.refl _ w).alloc (Nat.le_refl _) _).alloc (by simp) _).drew⟩
    refine wp_region_quiet (C := TwoSt w #[.string xn, .int .i64 xk, .int .i64 xc, .int .i64 xt, (.slice A xd.length c1), (.slice B xs.length c2)] #[.string yn, .int .i64 yk, .int .i64 yc, .int .i64 yt, (.slice C yd.length c3), (.slice D ys.length c4)]) hmix (by kernel_rfl) H0.out ?_
    simp only []
    go_big_quiet_want
    refine qs_load _ _ rfl ⟨w.heap.size, 0, none⟩ _ rfl (fun W hW => set_load hW.a) ?_
    simp (maxSteps := 1000000) only [Act.put, List.setIfInBounds_toArray, List.set_cons_succ, List.set_cons_zero]
    go_big_quiet_on
    go_big_quiet_want
    refine qs_call 15 _ _ (fun W hW => ?run) (fun W hW => (HRA.out W hW.below).mono fun e w' h => ⟨h.1, hW.next h.2⟩) ?_
    case run => simp [go_sem, Act.eval]
    simp (maxSteps := 1000000) only [Act.put, List.setIfInBounds_toArray, List.set_cons_succ, List.set_cons_zero]
    go_big_quiet_on
    go_big_quiet_want
    refine qs_run (.bool true) (fun W hW => ?run) ?_
    case run => simp [go_sem, Act.eval]
    simp (maxSteps := 1000000) only [Act.put, List.setIfInBounds_toArray, List.set_cons_succ, List.set_cons_zero]
    go_big_quiet_on
    go_big_quiet_want
    refine qs_load _ _ rfl ⟨w.heap.size + 1, 0, none⟩ _ rfl (fun W hW => set_load hW.b) ?_
    simp (maxSteps := 1000000) only [Act.put, List.setIfInBounds_toArray, List.set_cons_succ, List.set_cons_zero]
    go_big_quiet_on
    go_big_quiet_want
    refine qs_call 15 _ _ (fun W hW => ?run) (fun W hW => (HRB.out W hW.below).mono fun e w' h => ⟨h.1, hW.next h.2⟩) ?_
    case run => simp [go_sem, Act.eval]
    simp (maxSteps := 1000000) only [Act.put, List.setIfInBounds_toArray, List.set_cons_succ, List.set_cons_zero]
    go_big_quiet_on
    go_big_quiet_want
    refine qs_run (.bool true) (fun W hW => ?run) ?_
    case run => simp [go_sem, Act.eval]
    simp (maxSteps := 1000000) only [Act.put, List.setIfInBounds_toArray, List.set_cons_succ, List.set_cons_zero]
    go_big_quiet_on
    go_big_quiet_want
    refine qs_run (.bool true) (fun W hW => ?run) ?_
    case run => simp [go_sem, Act.eval]
    simp (maxSteps := 1000000) only [Act.put, List.setIfInBounds_toArray, List.set_cons_succ, List.set_cons_zero]
    go_big_quiet_on
    go_big_quiet_want
    refine qs_run (.pointer (some ⟨w.heap.size, 0, none⟩)) (fun W hW => ?run) ?_
    case run => simp [go_sem, Act.eval]
    simp (maxSteps := 1000000) only [Act.put, List.setIfInBounds_toArray, List.set_cons_succ, List.set_cons_zero]
    go_big_quiet_on
    go_big_quiet_want
    refine qs_run (.string xn) (fun W hW => ?run) ?_
    case run =>
      have c := hW.a.cell 0
      simp at c
      simp [go_sem, Act.eval, c]
    simp (maxSteps := 1000000) only [Act.put, List.setIfInBounds_toArray, List.set_cons_succ, List.set_cons_zero]
    go_big_quiet_on
    go_big_quiet_want
    refine qs_run (.pointer (some ⟨w.heap.size + 1, 0, none⟩)) (fun W hW => ?run) ?_
    case run => simp [go_sem, Act.eval]
    simp (maxSteps := 1000000) only [Act.put, List.setIfInBounds_toArray, List.set_cons_succ, List.set_cons_zero]
    go_big_quiet_on
    go_big_quiet_want
    refine qs_run (.string yn) (fun W hW => ?run) ?_
    case run =>
      have c := hW.b.cell 0
      simp at c
      simp [go_sem, Act.eval, c]
    simp (maxSteps := 1000000) only [Act.put, List.setIfInBounds_toArray, List.set_cons_succ, List.set_cons_zero]
    go_big_quiet_on
    go_big_quiet_want
    refine qs_call 10 _ _ (fun W hW => ?run) (fun W hW => (HEQ.out W).mono fun e w' h => ⟨h.1, hW.next h.2⟩) ?_
    case run => simp [go_sem, Act.eval]
    simp (maxSteps := 1000000) only [Act.put, List.setIfInBounds_toArray, List.set_cons_succ, List.set_cons_zero]
    go_big_quiet_on
    go_big_quiet_want
    refine qs_run (.bool true) (fun W hW => ?run) ?_
    case run => simp [go_sem, Act.eval]
    simp (maxSteps := 1000000) only [Act.put, List.setIfInBounds_toArray, List.set_cons_succ, List.set_cons_zero]
    go_big_quiet_on
    go_big_quiet_want
    refine qs_run (.bool true) (fun W hW => ?run) ?_
    case run => simp [go_sem, Act.eval]
    simp (maxSteps := 1000000) only [Act.put, List.setIfInBounds_toArray, List.set_cons_succ, List.set_cons_zero]
    go_big_quiet_on
    go_big_quiet_want
    refine qs_run (.pointer (some ⟨w.heap.size, 1, none⟩)) (fun W hW => ?run) ?_
    case run => simp [go_sem, Act.eval]
    simp (maxSteps := 1000000) only [Act.put, List.setIfInBounds_toArray, List.set_cons_succ, List.set_cons_zero]
    go_big_quiet_on
    go_big_quiet_want
    refine qs_run (.int .i64 xk) (fun W hW => ?run) ?_
    case run =>
      have c := hW.a.cell 1
      simp at c
      simp [go_sem, Act.eval, c]
    simp (maxSteps := 1000000) only [Act.put, List.setIfInBounds_toArray, List.set_cons_succ, List.set_cons_zero]
    go_big_quiet_on
    go_big_quiet_want
    refine qs_run (.pointer (some ⟨w.heap.size + 1, 1, none⟩)) (fun W hW => ?run) ?_
    case run => simp [go_sem, Act.eval]
    simp (maxSteps := 1000000) only [Act.put, List.setIfInBounds_toArray, List.set_cons_succ, List.set_cons_zero]
    go_big_quiet_on
    go_big_quiet_want
    refine qs_run (.int .i64 yk) (fun W hW => ?run) ?_
    case run =>
      have c := hW.b.cell 1
      simp at c
      simp [go_sem, Act.eval, c]
    simp (maxSteps := 1000000) only [Act.put, List.setIfInBounds_toArray, List.set_cons_succ, List.set_cons_zero]
    go_big_quiet_on
    go_big_quiet_want
    refine qs_run (.bool false) (fun W hW => ?run) ?_
    case run => simp [go_sem, Act.eval, hk.out]
    simp (maxSteps := 1000000) only [Act.put, List.setIfInBounds_toArray, List.set_cons_succ, List.set_cons_zero]
    go_big_quiet_on
    repeat (first
      | go_big_quiet_skip
      | (go_big_quiet_want
         refine qs_run (.bool false) (fun W hW => ?run) ?_
         case run => simp [go_sem, Act.eval]
         simp (maxSteps := 1000000) only [Act.put, List.setIfInBounds_toArray, List.set_cons_succ, List.set_cons_zero]
         go_big_quiet_on))
    refine wpQuiet_nil ?_
    intro W hW
    replace hW := Lib.hid hW
    go_wp2_with fail
    go_ret
    exact ⟨by rw [HF.out]; rfl, hW.out.below⟩
/-- rrset.Same. -/
theorem same_any (a b : SetD) (da sa db sb : Value) (w : World) (hda : StrsAt da a.data w) (hsa : StrsAt sa a.sigs w) (hdb : StrsAt db b.data w) (hsb : StrsAt sb b.sigs w) :
    Calls Tryz.prog 11 #[a.v da sa, b.v db sb] w (BoolB (sameS a b) w) := by
  by_cases h : rightS a = true ∧ rightS b = true ∧ nameEq a.name b.name = true ∧ a.kind = b.kind ∧ a.cls = b.cls
  · exact same_full a b da sa db sb w hda hsa hdb hsb h.1 h.2.1 h.2.2.1 h.2.2.2.1 h.2.2.2.2
  · exact same_no a b da sa db sb w hda hsa hdb hsb h
theorem nameEq_iff {a b : ByteArray} : nameEq a b = true ↔ nameRight a = true ∧ nameRight b = true ∧ nameLower a = nameLower b := by simp [nameEq, and_assoc]
theorem sameS_iff {a b : SetD} : sameS a b = true ↔ rightS a = true ∧ rightS b = true ∧ nameEq a.name b.name = true ∧ a.kind = b.kind ∧ a.cls = b.cls ∧ plainL a = plainL b := by simp [sameS, and_assoc]
theorem sameS_symm {a b : SetD} (h : sameS a b = true) : sameS b a = true := by
  rw [sameS_iff, nameEq_iff] at h ⊢
  obtain ⟨h1, h2, ⟨h3, h4, h5⟩, h6, h7, h8⟩ := h
  exact ⟨h2, h1, ⟨h4, h3, h5.symm⟩, h6.symm, h7.symm, h8.symm⟩
end Go.Proofs.YtkhpcagoggglcaaGreatDoor

/- A ring of nodes in memory, linked both ways: a plain law. Places are pairs of a block and an offset; at L behind a place its last, at L + 1 its next. -/
namespace Go.Proofs.YtkhpcagoggglcaaGreatDoor
open Go.RowKit

theorem sc_other {w : World} {a b : Addr} {v : Value} (h : a ≠ b) : (w.setCell a v).cell? b = w.cell? b := World.cell?_setCell_other _ _ _ _ h
theorem sc_same {w : World} {a : Addr} {v u : Value} (h : w.cell? a = some u) : (w.setCell a v).cell? a = some v := World.cell?_setCell_same _ _ _ h
abbrev Pt := Nat × Nat
def ptV (p : Pt) : Value := .pointer (some ⟨p.1, p.2, none⟩)
def lC (L : Nat) (p : Pt) : Addr := ⟨p.1, p.2 + L, none⟩
def nC (L : Nat) (p : Pt) : Addr := ⟨p.1, p.2 + (L + 1), none⟩
theorem ptV_inj {p q : Pt} (h : ptV p = ptV q) : p = q := by
  obtain ⟨a, b⟩ := p; obtain ⟨c, d⟩ := q
  simp [ptV] at h
  simp [h.1, h.2]
def Link (L : Nat) (w : World) (a b : Pt) : Prop := w.cell? (nC L a) = some (ptV b) ∧ w.cell? (lC L b) = some (ptV a)
def Links (L : Nat) (w : World) : List Pt → Prop
  | a :: b :: l => Link L w a b ∧ Links L w (b :: l)
  | _ => True
theorem Links.tail {L : Nat} {w : World} {a : Pt} {l : List Pt} (h : Links L w (a :: l)) : Links L w l := by
  cases l with
  | nil => trivial
  | cons b l => exact h.2
theorem links_app {L : Nat} {w : World} (a : Pt) (r : List Pt) : ∀ l : List Pt, Links L w (l ++ a :: r) ↔ Links L w (l ++ [a]) ∧ Links L w (a :: r)
  | [] => by simp [Links]
  | [b] => by simp [Links]
  | b :: c :: l => by
    have := links_app (L := L) (w := w) a r (c :: l)
    simp only [List.cons_append] at this ⊢
    simp only [Links]
    rw [this, and_assoc]
theorem Links.set {L : Nat} {w : World} (c : Addr) (v : Value) : ∀ {l : List Pt}, Links L w l → (∀ x ∈ l.dropLast, nC L x ≠ c) → (∀ x ∈ l.tail, lC L x ≠ c) → Links L (w.setCell c v) l
  | [], _, _, _ => trivial
  | [_], _, _, _ => trivial
  | a :: b :: l, h, h1, h2 => by
    refine ⟨⟨?_, ?_⟩, Links.set c v h.2 (fun x hx => h1 x (by simp [hx])) (fun x hx => h2 x (by simp at hx ⊢; exact .inr hx))⟩
    · have := h1 a (by simp)
      rw [sc_other (Ne.symm this)]; exact h.1.1
    · have := h2 b (by simp)
      rw [sc_other (Ne.symm this)]; exact h.1.2
theorem Links.same {L : Nat} {w w' : World} : ∀ {l : List Pt}, Links L w l → (∀ x ∈ l, ∀ o, w'.cell? ⟨x.1, o, none⟩ = w.cell? ⟨x.1, o, none⟩) → Links L w' l
  | [], _, _ => trivial
  | [_], _, _ => trivial
  | a :: b :: l, h, hs => ⟨⟨by rw [nC, hs a (by simp)]; exact h.1.1, by rw [lC, hs b (by simp)]; exact h.1.2⟩, Links.same h.2 fun x hx => hs x (by simp at hx ⊢; exact .inr hx)⟩
theorem n_ne_l {L : Nat} {a b : Pt} (h : a.1 = b.1 → a = b) : nC L a ≠ lC L b := by
  intro e
  simp only [nC, lC, Addr.mk.injEq] at e
  have := h e.1
  subst this
  omega
theorem n_ne_n {L : Nat} {a b : Pt} (h : a.1 ≠ b.1) : nC L a ≠ nC L b := by
  intro e; simp only [nC, Addr.mk.injEq] at e; exact h e.1
theorem l_ne_l {L : Nat} {a b : Pt} (h : a.1 ≠ b.1) : lC L a ≠ lC L b := by
  intro e; simp only [lC, Addr.mk.injEq] at e; exact h e.1
/-- Places of which no two different ones lie in one block. -/
def Apart (l : List Pt) : Prop := (l.map (·.1)).Nodup
theorem Apart.inj {l : List Pt} (h : Apart l) {a b : Pt} (ha : a ∈ l) (hb : b ∈ l) (e : a.1 = b.1) : a = b := by
  induction l with
  | nil => simp at ha
  | cons x l ih =>
    rw [Apart, List.map_cons, List.nodup_cons] at h
    rcases List.mem_cons.1 ha with h1 | h1
    · rcases List.mem_cons.1 hb with h2 | h2
      · rw [h1, h2]
      · exact (h.1 (List.mem_map.2 ⟨b, h2, by rw [← e, h1]⟩)).elim
    · rcases List.mem_cons.1 hb with h2 | h2
      · exact (h.1 (List.mem_map.2 ⟨a, h1, by rw [e, h2]⟩)).elim
      · exact ih h.2 h1 h2
theorem Apart.perm {l l' : List Pt} (h : Apart l) (p : l.Perm l') : Apart l' := (p.map _).nodup_iff.1 h
theorem Apart.sub {l l' : List Pt} (h : Apart l) (p : l'.Sublist l) : Apart l' := List.Nodup.sublist (p.map _) h
theorem Apart.nodup {l : List Pt} (h : Apart l) : l.Nodup := by
  induction l with
  | nil => simp
  | cons x l ih =>
    rw [Apart, List.map_cons, List.nodup_cons] at h
    exact List.nodup_cons.2 ⟨fun hm => h.1 (List.mem_map.2 ⟨x, hm, rfl⟩), ih h.2⟩
/-- Every place of a ring has a place ahead and one behind. -/
theorem links_mid {L : Nat} {w : World} {x y : List Pt} {p n q : Pt} (h : Links L w (x ++ p :: n :: q :: y)) : Links L w (x ++ [p]) ∧ Link L w p n ∧ Link L w n q ∧ Links L w (q :: y) := by
  rw [links_app] at h
  exact ⟨h.1, h.2.1, h.2.2.1, h.2.2.2⟩
/-- n.last.next, n.next.last = n.next, n.last: n stands in the ring no longer. -/
theorem ring_out {L : Nat} {w : World} {e n : Pt} {l1 l2 : List Pt} (hA : Apart (e :: (l1 ++ n :: l2))) (h : Links L w (e :: (l1 ++ n :: l2) ++ [e])) :
    ∃ p q : Pt, w.cell? (lC L n) = some (ptV p) ∧ w.cell? (nC L n) = some (ptV q) ∧ p ∈ e :: (l1 ++ l2) ∧ q ∈ e :: (l1 ++ l2) ∧ w.cell? (nC L p) = some (ptV n) ∧ w.cell? (lC L q) = some (ptV n) ∧
      Links L ((w.setCell (nC L p) (ptV q)).setCell (lC L q) (ptV p)) (e :: (l1 ++ l2) ++ [e]) := by
  obtain ⟨x, p, hx⟩ : ∃ x p, e :: l1 = x ++ [p] := ⟨(e :: l1).dropLast, (e :: l1).getLast (by simp), (List.dropLast_concat_getLast (by simp)).symm⟩
  obtain ⟨q, y, hy⟩ : ∃ q y, l2 ++ [e] = q :: y := by cases l2 with
    | nil => exact ⟨e, [], rfl⟩
    | cons q l => exact ⟨q, l ++ [e], rfl⟩
  have e1 : e :: (l1 ++ n :: l2) ++ [e] = x ++ p :: n :: q :: y := by
    rw [List.cons_append, List.append_assoc, List.cons_append, ← List.cons_append, hx, hy]; simp
  have e2 : e :: (l1 ++ l2) ++ [e] = x ++ p :: q :: y := by
    rw [List.cons_append, List.append_assoc, ← List.cons_append, hx, hy]; simp
  rw [e1] at h
  obtain ⟨h1, h2, h3, h4⟩ := links_mid h
  have hpm : p ∈ e :: l1 := by rw [hx]; simp
  have hqm : q ∈ l2 ++ [e] := by rw [hy]; simp
  have hp : p ∈ e :: (l1 ++ l2) := by
    rcases List.mem_cons.1 hpm with h | h
    · simp [h]
    · simp [h]
  have hq : q ∈ e :: (l1 ++ l2) := by
    rcases List.mem_append.1 hqm with h | h
    · simp [h]
    · simp at h; simp [h]
  have hsub : ∀ z, z ∈ e :: (l1 ++ l2) → z ∈ e :: (l1 ++ n :: l2) := fun z hz => by
    simp only [List.mem_cons, List.mem_append] at hz ⊢
    rcases hz with h | h | h
    · exact .inl h
    · exact .inr (.inl h)
    · exact .inr (.inr (.inr h))
  have inj := fun {a b : Pt} (ha : a ∈ e :: (l1 ++ l2)) (hb : b ∈ e :: (l1 ++ l2)) (h : a.1 = b.1) => hA.inj (hsub a ha) (hsub b hb) h
  have hA1 : Apart (x ++ [p]) := by rw [← hx]; exact hA.sub (List.Sublist.cons_cons e (List.sublist_append_left l1 _))
  have hA2 : Apart (q :: y) := by
    rw [← hy]
    have : Apart (e :: l2) := hA.sub (List.Sublist.cons_cons e ((List.sublist_cons_self n l2).trans (List.sublist_append_right l1 _)))
    exact this.perm (List.perm_append_singleton e l2).symm
  have mem1 : ∀ z ∈ x ++ [p], z ∈ e :: (l1 ++ l2) := fun z hz => by
    rw [← hx] at hz
    rcases List.mem_cons.1 hz with h | h <;> simp [h]
  have mem2 : ∀ z ∈ q :: y, z ∈ e :: (l1 ++ l2) := fun z hz => by
    rw [← hy] at hz
    rcases List.mem_append.1 hz with h | h
    · simp [h]
    · simp at h; simp [h]
  refine ⟨p, q, h2.2, h3.1, hp, hq, h2.1, h3.2, ?_⟩
  have k1 : Links L ((w.setCell (nC L p) (ptV q)).setCell (lC L q) (ptV p)) (x ++ [p]) := by
    refine Links.set _ _ (Links.set _ _ h1 ?_ ?_) ?_ ?_
    · intro z hz
      rw [List.dropLast_concat] at hz
      refine n_ne_n fun e => ?_
      have := hA1.inj (by simp [hz]) (by simp) e
      subst this
      have := hA1.nodup
      rw [List.nodup_append] at this
      exact this.2.2 z hz z (by simp) rfl
    · intro z hz
      exact Ne.symm (n_ne_l fun e => inj hp (mem1 z (List.mem_of_mem_tail hz)) e)
    · intro z hz
      rw [List.dropLast_concat] at hz
      exact n_ne_l fun e => inj (mem1 z (by simp [hz])) hq e
    · intro z hz
      refine l_ne_l fun e' => ?_
      have hz1 : z ∈ l1 := by rw [← hx] at hz; simpa using hz
      have hzq := inj (mem1 z (List.mem_of_mem_tail hz)) hq e'
      subst hzq
      have hn := hA.nodup
      rw [List.nodup_cons, List.nodup_append] at hn
      rcases List.mem_append.1 hqm with h | h
      · exact hn.2.2.2 z hz1 z (by simp [h]) rfl
      · simp only [List.mem_singleton] at h
        subst h
        exact hn.1 (by simp [hz1])
  have k2 : Links L ((w.setCell (nC L p) (ptV q)).setCell (lC L q) (ptV p)) (q :: y) := by
    refine Links.set _ _ (Links.set _ _ h4 ?_ ?_) ?_ ?_
    · intro z hz
      refine n_ne_n fun e' => ?_
      have hz2 : z ∈ l2 := by
        have : (q :: y).dropLast = l2 := by rw [← hy, List.dropLast_concat]
        rw [this] at hz; exact hz
      have hzp := inj (mem2 z (List.dropLast_subset _ hz)) hp e'
      subst hzp
      have hn := hA.nodup
      rw [List.nodup_cons, List.nodup_append] at hn
      rcases List.mem_cons.1 hpm with h | h
      · subst h; exact hn.1 (by simp [hz2])
      · exact hn.2.2.2 z h z (by simp [hz2]) rfl
    · intro z hz
      exact Ne.symm (n_ne_l fun e => inj hp (mem2 z (List.mem_of_mem_tail hz)) e)
    · intro z hz
      exact n_ne_l fun e => inj (mem2 z (List.dropLast_subset _ hz)) hq e
    · intro z hz
      refine l_ne_l fun e' => ?_
      have hzq := inj (mem2 z (List.mem_of_mem_tail hz)) hq e'
      subst hzq
      have := hA2.nodup
      rw [List.nodup_cons] at this
      exact this.1 (by simpa using hz)
  have kl : Link L ((w.setCell (nC L p) (ptV q)).setCell (lC L q) (ptV p)) p q := by
    refine ⟨?_, ?_⟩
    · rw [sc_other (Ne.symm (n_ne_l fun e => inj hp hq e))]
      exact sc_same h2.1
    · exact sc_same (u := ptV n) (by rw [sc_other (n_ne_l fun e => inj hp hq e)]; exact h3.2)
  rw [e2, links_app]
  exact ⟨k1, kl, k2⟩
/-- n.last, n.next = e, e.next; n.next.last, e.next = n, n: n stands first. -/
theorem ring_front {L : Nat} {w : World} {e n : Pt} {l : List Pt} (hA : Apart (n :: e :: l)) (h : Links L w (e :: l ++ [e])) {x y : Value} (hl : w.cell? (lC L n) = some x) (hn : w.cell? (nC L n) = some y) :
    ∃ f : Pt, w.cell? (nC L e) = some (ptV f) ∧ f ∈ e :: l ∧ w.cell? (lC L f) = some (ptV e) ∧
      Links L ((((w.setCell (lC L n) (ptV e)).setCell (nC L n) (ptV f)).setCell (lC L f) (ptV n)).setCell (nC L e) (ptV n)) (e :: n :: l ++ [e]) := by
  obtain ⟨f, z, hz⟩ : ∃ f z, l ++ [e] = f :: z := by cases l with
    | nil => exact ⟨e, [], rfl⟩
    | cons q l => exact ⟨q, l ++ [e], rfl⟩
  rw [List.cons_append, hz] at h
  have hfm : f ∈ l ++ [e] := by rw [hz]; simp
  have hf : f ∈ e :: l := by
    rcases List.mem_append.1 hfm with h | h
    · simp [h]
    · simp at h; simp [h]
  have hmem : ∀ u ∈ f :: z, u ∈ e :: l := fun u hu => by
    rw [← hz] at hu
    rcases List.mem_append.1 hu with h | h
    · simp [h]
    · simp at h; simp [h]
  have hA1 : Apart (e :: l) := hA.sub (List.sublist_cons_self _ _)
  have hA2 : Apart (f :: z) := by rw [← hz]; exact hA1.perm (List.perm_append_singleton e l).symm
  have hnb : ∀ u ∈ e :: l, u.1 ≠ n.1 := fun u hu e' => by
    rw [Apart, List.map_cons, List.nodup_cons] at hA
    exact hA.1 (List.mem_map.2 ⟨u, hu, e'⟩)
  have hne : e.1 ≠ n.1 := hnb e (by simp)
  have hnf : f.1 ≠ n.1 := hnb f hf
  refine ⟨f, h.1.1, hf, h.1.2, ?_⟩
  have k2 : Links L ((((w.setCell (lC L n) (ptV e)).setCell (nC L n) (ptV f)).setCell (lC L f) (ptV n)).setCell (nC L e) (ptV n)) (f :: z) := by
    refine Links.set _ _ (Links.set _ _ (Links.set _ _ (Links.set _ _ h.2 ?_ ?_) ?_ ?_) ?_ ?_) ?_ ?_
    · intro u hu; exact n_ne_l fun e' => absurd e' (hnb u (hmem u (List.dropLast_subset _ hu)))
    · intro u hu; exact l_ne_l (hnb u (hmem u (List.mem_of_mem_tail hu)))
    · intro u hu; exact n_ne_n (hnb u (hmem u (List.dropLast_subset _ hu)))
    · intro u hu; exact Ne.symm (n_ne_l fun e' => absurd e'.symm (hnb u (hmem u (List.mem_of_mem_tail hu))))
    · intro u hu; exact n_ne_l fun e' => hA1.inj (hmem u (List.dropLast_subset _ hu)) hf e'
    · intro u hu
      refine l_ne_l fun e' => ?_
      have := hA1.inj (hmem u (List.mem_of_mem_tail hu)) hf e'
      subst this
      have := hA2.nodup
      rw [List.nodup_cons] at this
      exact this.1 (by simpa using hu)
    · intro u hu
      refine n_ne_n fun e' => ?_
      have hu2 : u ∈ l := by
        have : (f :: z).dropLast = l := by rw [← hz, List.dropLast_concat]
        rw [this] at hu; exact hu
      have := hA1.inj (hmem u (List.dropLast_subset _ hu)) (by simp) e'
      subst this
      have := hA1.nodup
      rw [List.nodup_cons] at this
      exact this.1 hu2
    · intro u hu; exact Ne.symm (n_ne_l fun e' => hA1.inj (by simp) (hmem u (List.mem_of_mem_tail hu)) e')
  have kn : Link L ((((w.setCell (lC L n) (ptV e)).setCell (nC L n) (ptV f)).setCell (lC L f) (ptV n)).setCell (nC L e) (ptV n)) n f := by
    refine ⟨?_, ?_⟩
    · rw [sc_other (n_ne_n hne), sc_other (Ne.symm (n_ne_l fun e' => absurd e'.symm hnf))]
      exact sc_same (u := y) (by rw [sc_other (Ne.symm (n_ne_l fun _ => rfl))]; exact hn)
    · rw [sc_other (n_ne_l fun e' => hA1.inj (by simp) hf e')]
      exact sc_same (u := ptV e) (by
        rw [sc_other (n_ne_l fun e' => absurd e'.symm hnf), sc_other (l_ne_l hnf.symm)]; exact h.1.2)
  have ke : Link L ((((w.setCell (lC L n) (ptV e)).setCell (nC L n) (ptV f)).setCell (lC L f) (ptV n)).setCell (nC L e) (ptV n)) e n := by
    refine ⟨?_, ?_⟩
    · exact sc_same (u := ptV f) (by
        rw [sc_other (Ne.symm (n_ne_l fun e' => hA1.inj (by simp) hf e')), sc_other (n_ne_n hne.symm), sc_other (Ne.symm (n_ne_l fun e' => absurd e' hne))]; exact h.1.1)
    · rw [sc_other (n_ne_l fun e' => absurd e' hne), sc_other (l_ne_l hnf), sc_other (n_ne_l fun _ => rfl)]
      exact sc_same hl
  rw [List.cons_append, List.cons_append, hz]
  exact ⟨ke, kn, k2⟩
end Go.Proofs.YtkhpcagoggglcaaGreatDoor

/- A map, told by a list of its keys and of what they have: a plain law over the kit's ownsMap. -/
namespace Go.Proofs.YtkhpcagoggglcaaGreatDoor
open Go.RowKit Go.Maps

abbrev DU := DataW Unit
def ptD (b : Nat) : DU := .lit (.int .i64 (b : Int))
/-- How an element that is a pointer to a block's head (or nil) reads. -/
def ptrR : Value → Option (DU × List MemPlace)
  | .pointer none => some (.lit .nil, [])
  | .pointer (some ⟨b, 0, none⟩) => some (ptD b, [])
  | _ => none
theorem ptrR_nil {v : Value} {z : List MemPlace} (h : ptrR v = some (.lit .nil, z)) : v = .pointer none := by
  unfold ptrR at h
  split at h
  · rfl
  · simp [ptD] at h
  · cases h
theorem ptrR_at {v : Value} {n : Nat} {z : List MemPlace} (h : ptrR v = some (ptD n, z)) : v = .pointer (some ⟨n, 0, none⟩) := by
  unfold ptrR at h
  split at h
  · simp [ptD] at h
  · rename_i b
    simp [ptD] at h
    obtain ⟨h, _⟩ := h
    have : b = n := by omega
    rw [this]
  · cases h
/-- Block b of w is a map that has these keys, and of each this datum. -/
def MapV (P : Program) (k : TypeId) (R : Value → Option (DU × List MemPlace)) (w : World) (b : Nat) (l : List (Lit × DU)) : Prop :=
  ∃ D : DU, w.ownsMap P k R b l.length D ∧ size D = l.length ∧ (∀ q, KeysOf P k q → (has D q = true ↔ q ∈ l.map (·.1))) ∧ (∀ p ∈ l, ∀ z, D.atKey p.1 z = p.2) ∧ (∀ p ∈ l, KeysOf P k p.1) ∧ (l.map (·.1)).Nodup
section
variable {P : Program} {k : TypeId} {R : Value → Option (DU × List MemPlace)} {w : World} {b : Nat} {l : List (Lit × DU)}
theorem MapV.made (w : World) (P : Program) (k : TypeId) (R : Value → Option (DU × List MemPlace)) : MapV P k R (w.alloc (.map #[] 0)) w.heap.size [] :=
  ⟨.map [], World.ownsMap_made w P k R, rfl, fun q _ => by simp [has], by simp, by simp, by simp⟩
theorem MapV.perm {l' : List (Lit × DU)} (h : MapV P k R w b l) (p : l.Perm l') : MapV P k R w b l' := by
  obtain ⟨D, h1, h2, h3, h4, h5, h6⟩ := h
  exact ⟨D, by rw [← p.length_eq]; exact h1, by rw [← p.length_eq]; exact h2, fun q hq => by rw [h3 q hq]; exact (p.map _).mem_iff, fun x hx => h4 x (p.mem_iff.2 hx), fun x hx => h5 x (p.mem_iff.2 hx), (p.map _).nodup_iff.1 h6⟩
theorem MapV.lt (h : MapV P k R w b l) : b < w.heap.size := by obtain ⟨D, h1, _⟩ := h; exact h1.lt
theorem MapV.keys (h : MapV P k R w b l) : (l.map (·.1)).Nodup := by obtain ⟨D, _, _, _, _, _, h6⟩ := h; exact h6
theorem MapV.block {w' : World} (h : MapV P k R w b l) (hb : w'.heap[b]? = w.heap[b]?) : MapV P k R w' b l := by
  obtain ⟨D, ⟨es, clock, hh, r⟩, r2⟩ := h
  exact ⟨D, ⟨es, clock, by rw [hb]; exact hh, r⟩, r2⟩
theorem MapV.setCell (h : MapV P k R w b l) {a : Addr} (ha : b ≠ a.block) (u : Value) : MapV P k R (w.setCell a u) b l := h.block (Below.heap_setCell _ _ _ _ ha)
theorem MapV.look_in {t e : TypeId} (h : MapV P k R w b l) (K : Keyed P k) (ht : P.underlying t = some (.map k e)) {z : Value} (hz : (zeroValue e).run P w = .ok z w) {zd : DU} {zp : List MemPlace} (hzd : R z = some (zd, zp))
    {key : Value} {p : Lit × DU} (hp : p ∈ l) (hkey : keyOf P k key = some p.1) : ∃ v ps, (Instr.lookup t (.map (some b)) key true).run P w = .ok (.tuple #[v, .bool true]) w ∧ R v = some (p.2, ps) := by
  obtain ⟨D, h1, h2, h3, h4, h5, h6⟩ := h
  obtain ⟨v, ps, a1, a2⟩ := h1.look_ok K ht hz hzd hkey
  rw [(h3 p.1 (h5 p hp)).2 (List.mem_map.2 ⟨p, hp, rfl⟩)] at a1
  rw [h4 p hp] at a2
  exact ⟨v, ps, a1, a2⟩
theorem MapV.look_out {t e : TypeId} (h : MapV P k R w b l) (K : Keyed P k) (ht : P.underlying t = some (.map k e)) {z : Value} (hz : (zeroValue e).run P w = .ok z w) {zd : DU} {zp : List MemPlace} (hzd : R z = some (zd, zp))
    {key : Value} {kl : Lit} (hkey : keyOf P k key = some kl) (hn : kl ∉ l.map (·.1)) : ∃ v ps, (Instr.lookup t (.map (some b)) key true).run P w = .ok (.tuple #[v, .bool false]) w ∧ R v = some (zd, ps) := by
  obtain ⟨D, h1, h2, h3, h4, h5, h6⟩ := h
  obtain ⟨v, ps, a1, a2⟩ := h1.look_ok K ht hz hzd hkey
  have hf : has D kl = false := by
    rw [Bool.eq_false_iff]; intro e
    exact hn ((h3 kl ⟨key, hkey⟩).1 e)
  rw [hf] at a1
  rw [atKey_of_not_has hf] at a2
  exact ⟨v, ps, a1, a2⟩
theorem MapV.put {t e : TypeId} (h : MapV P k R w b l) (K : Keyed P k) (ht : P.underlying t = some (.map k e)) (hroom : l.length < maxLen) {key val : Value} {kl : Lit} {d : DU} {ps : List MemPlace} (hkey : keyOf P k key = some kl) (hv : R val = some (d, ps)) (hn : kl ∉ l.map (·.1)) :
    ∃ w', (Instr.mapUpdate t (.map (some b)) key val).run P w = .ok () w' ∧ MapV P k R w' b ((kl, d) :: l) ∧ w.mapTurned w' b := by
  obtain ⟨D, h1, h2, h3, h4, h5, h6⟩ := h
  obtain ⟨w', a1, a2, a3⟩ := h1.store K ht hroom hkey hv
  have hk : WideAt.IsKeyLit kl := K.key hkey
  have hf : has D kl = false := by
    rw [Bool.eq_false_iff]; intro e
    exact hn ((h3 kl ⟨key, hkey⟩).1 e)
  refine ⟨w', a1, ⟨D.put kl d, a2, ?_, fun q hq => ?_, fun p hp z => ?_, fun p hp => ?_, ?_⟩, a3⟩
  · rw [size_put (h1.tidy K), hf, h2]; rfl
  · by_cases hqk : q = kl
    · subst hqk
      simp [has_put_same h1.isMap hk]
    · rw [has_put_other hqk, h3 q hq]
      simp [hqk]
  · rcases List.mem_cons.1 hp with rfl | hp
    · exact atKey_put_same h1.isMap hk d z
    · have hne : p.1 ≠ kl := fun e => hn (List.mem_map.2 ⟨p, hp, e⟩)
      rw [atKey_put_other hne]; exact h4 p hp z
  · rcases List.mem_cons.1 hp with rfl | hp
    · exact ⟨key, hkey⟩
    · exact h5 p hp
  · rw [List.map_cons, List.nodup_cons]; exact ⟨hn, h6⟩
theorem MapV.del {t e : TypeId} {l1 l2 : List (Lit × DU)} {p : Lit × DU} (h : MapV P k R w b (l1 ++ p :: l2)) (K : Keyed P k) (ht : P.underlying t = some (.map k e)) {key : Value} (hkey : keyOf P k key = some p.1) (ty : TypeId) :
    ∃ w', (Builtin.delete_ #[t, k] ty #[.map (some b), key]).run P w = .ok (.tuple #[]) w' ∧ MapV P k R w' b (l1 ++ l2) ∧ w.mapTurned w' b := by
  obtain ⟨D, h1, h2, h3, h4, h5, h6⟩ := h.perm (List.perm_middle)
  obtain ⟨w', a1, a2, a3⟩ := h1.drop K ht hkey ty
  rw [List.map_cons, List.nodup_cons] at h6
  have hh : has D p.1 = true := (h3 p.1 ⟨key, hkey⟩).2 (by simp)
  have hs := size_del (k := p.1) (h1.tidy K)
  rw [hh, h2] at hs
  simp only [if_true, List.length_cons] at hs
  have hsz : size (D.del p.1) = (l1 ++ l2).length := by omega
  have hown : w'.ownsMap P k R b (l1 ++ l2).length (D.del p.1) := by
    obtain ⟨es, clock, q1, q2, q3, q4⟩ := a2
    refine ⟨es, clock, q1, q2, ?_, q4⟩
    have : size (D.del p.1) = es.size := by rw [q4]; simp [size, length_sorted]
    omega
  refine ⟨w', a1, ⟨D.del p.1, hown, hsz, fun q hq => ?_, fun x hx z => ?_, fun x hx => h5 x (by simp [hx]), h6.2⟩, a3⟩
  · by_cases hqk : q = p.1
    · subst hqk
      rw [has_del_same]
      simp only [Bool.false_eq_true, false_iff]
      exact h6.1
    · rw [has_del_other hqk, h3 q hq]
      simp [hqk]
  · have hne : x.1 ≠ p.1 := fun e => h6.1 (by rw [← e]; exact List.mem_map.2 ⟨x, hx, rfl⟩)
    rw [atKey_del_other hne]; exact h4 x (by simp [hx]) z
theorem MapV.len {t e : TypeId} (h : MapV P k R w b l) (ht : P.underlying t = some (.map k e)) (ty : TypeId) : (Builtin.len_ #[t] ty #[.map (some b)]).run P w = .ok (.int .i64 l.length) w := by
  obtain ⟨D, h1, h2, _⟩ := h
  rw [h1.len ht ty, h2]
theorem wpList_mapV_del {l1 l2 : List (Lit × DU)} {p : Lit × DU} {ops : Array Oper} {rest : List Oper} {o : Oper} {a : Act} {Q : Exit → Act → World → Prop} (hg : o.guard = none) (m x : Operand) (t : TypeId) (hop : o.op = Op.call { callee := Callee.builtin Builtin.delete, args := #[m, x], argTypes := #[t, k] })
    (e : TypeId) (K : Keyed P k) (ht : P.underlying t = some (.map k e)) (hm : a.eval m = .map (some b)) (hown : MapV P k R w b (l1 ++ p :: l2)) (key : Value) (hx : a.eval x = key) (hkey : keyOf P k key = some p.1)
    (hK : ∀ w', MapV P k R w' b (l1 ++ l2) → w.mapTurned w' b → wpList P ops Q rest (a.put o.dst (.tuple #[])) w') : wpList P ops Q (o :: rest) a w := by
  refine wpList_plain hg fun K' hK' => ?_
  obtain ⟨w', hrun, r1, r2⟩ := hown.del K ht hkey o.type
  unfold Oper.wp
  simp [execOp, hop, resolve, invoke, builtin, hm, hx, hrun, Result.andThen]
  exact hK' _ _ (hK w' r1 r2)
theorem wpList_mapV_put {ops : Array Oper} {rest : List Oper} {o : Oper} {a : Act} {Q : Exit → Act → World → Prop} (hg : o.guard = none) (m x v : Operand) (t : TypeId) (hop : o.op = Op.mapUpdate t m x v)
    (e : TypeId) (K : Keyed P k) (ht : P.underlying t = some (.map k e)) (hm : a.eval m = .map (some b)) (hown : MapV P k R w b l) (hroom : l.length < maxLen) (key val : Value) (kl : Lit) (hx : a.eval x = key) (hv : a.eval v = val) (hkey : keyOf P k key = some kl)
    (d : DU) (ps : List MemPlace) (hval : R val = some (d, ps)) (hn : kl ∉ l.map (·.1))
    (hK : ∀ w', MapV P k R w' b ((kl, d) :: l) → w.mapTurned w' b → wpList P ops Q rest (a.put o.dst undef) w') : wpList P ops Q (o :: rest) a w := by
  refine wpList_plain hg fun K' hK' => ?_
  obtain ⟨w', hrun, r1, r2⟩ := hown.put K ht hroom hkey hval hn
  unfold Oper.wp
  simp [execOp, hop, hm, hx, hv, hrun, Result.andThen]
  exact hK' _ _ (hK w' r1 r2)
end
end Go.Proofs.YtkhpcagoggglcaaGreatDoor

