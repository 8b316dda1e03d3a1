import Derived.Test.YtdflhnbpcnmpfaaGreatDoorSo2
import Derived.Test.YtdflhnbpcnmpfaaGreatDoorSo3
import Derived.Test.YtdflhnbpcnmpfaaGreatDoorSo4
import Derived.Test.YtdflhnbpcnmpfaaGreatDoorSo5
import Derived.Laws.IdiomCopy
import Derived.Lib.SlBuf
import Derived.ArgAppend
import Derived.StillTailTactics
import Derived.OwnWalk
import Derived.Deep.RegionLaw
import Derived.Lib.AppendStr
/- data.is, data.formOf, data.Right: at every kind of data. Lines printed by wip/tools/rights.py. -/
namespace Go.Proofs.YtdflhnbpcnmpfaaGreatDoor
open Go.RowKit

theorem is_soa (g : Nat) (w : World) : Calls Tryz.prog 110 #[.func (.func g) #[] #[]] w fun e w' => e = .returned (.func (.func 165) #[] #[.pointer (some ⟨w.heap.size, 0, none⟩)]) ∧ w' = w.alloc (.cells #[.func (.func g) #[] #[]] 159) := by
  have hmf := makeFunc_run
  go_enter Tryz.func110, Tryz.ntmps110
  go_wp2
  go_ret
  exact ⟨rfl, rfl⟩
set_option maxRecDepth 100000 in
theorem is_soa1 (d : ByteArray) (c : Nat) (w : World) (hc : Blk w c #[.func (.func 111) #[] #[]] 159) :
    Calls Tryz.prog 165 #[.string d, .pointer (some ⟨c, 0, none⟩)] w fun e w' => e = .returned (.bool (takeR soaT d).isSome) ∧ Below w.heap.size w w' := by
  have c0 : w.cell? ⟨c, 0, none⟩ = some (.func (.func 111) #[] #[]) := hc.cell 0
  clear hc
  go_enter Tryz.func165, Tryz.ntmps165
  go_wp2_with fail
  refine (data_soa d _).mono ?_
  rintro e w1 ⟨hb, h⟩
  rcases h1 : takeR soaT d with _ | x
  · rw [h1] at h
    obtain rfl := h
    have H1 := Lib.hid h1; clear h1
    go_wp2
    go_ret
    rw [H1.out]
    exact ⟨rfl, hb.alloc hb.size _⟩
  · rw [h1] at h
    obtain ⟨v, hv, rfl⟩ := h
    have H1 := Lib.hid h1; clear h1
    obtain rfl : v = x.v := hv
    simp only [SoaR.v]
    go_wp2
    go_ret
    rw [H1.out]
    exact ⟨rfl, hb.alloc hb.size _⟩

set_option maxRecDepth 100000 in
theorem form_soa (w : World) : Calls Tryz.prog 81 #[.int .i64 6] w fun e w' =>
    ∃ c, e = .returned (.agg #[.func (.func 165) #[] #[.pointer (some ⟨c, 0, none⟩)], .func (.func 112) #[] #[], .func (.func 113) #[] #[], .func (.func 114) #[] #[]]) ∧ Blk w' c #[.func (.func 111) #[] #[]] 159 ∧ Below w.heap.size w w' := by
  go_enter Tryz.func81, Tryz.ntmps81
  go_wp2_with (go_at_call 110; refine (is_soa _ _).mono ?_; rintro e w' ⟨rfl, rfl⟩)
  refine bodyPost_ret (results1 rfl ⟨_, rfl, loadVar_blk (cs := #[.func (.func 165) #[] #[.pointer (some ⟨w.heap.size + 1 + 1, 0, none⟩)], .func (.func 112) #[] #[], .func (.func 113) #[] #[], .func (.func 114) #[] #[]]) (t := 127) ?_ Tryz.underlying127 rfl info_form⟩) rfl ⟨w.heap.size + 1 + 1, rfl, ?_, ?_⟩
  · exact ((Blk.new w _ _).alloc _).alloc _
  · have := Blk.new ((w.alloc (.cells #[.func (.func 165) #[] #[.pointer (some ⟨w.heap.size + 1 + 1, 0, none⟩)], .func (.func 112) #[] #[], .func (.func 113) #[] #[], .func (.func 114) #[] #[]] 127)).alloc (.cells #[.func (.func 19) #[] #[], .func (.func 98) #[] #[], .func (.func 100) #[] #[], .func (.func 103) #[] #[]] 127)) #[.func (.func 111) #[] #[]] 159
    simpa using this
  · exact (((Below.refl _ w).alloc (Nat.le_refl _) _).alloc (by simp) _).alloc (by simp; omega) _

set_option maxRecDepth 100000 in
theorem right_soa (d : ByteArray) (w : World) : Calls Tryz.prog 64 #[.int .i64 6, .string d] w fun e w' => e = .returned (.bool (decide (d.size ≤ 2000) && (takeR soaT d).isSome)) ∧ Below w.heap.size w w' := by
  by_cases hd : d.size ≤ 2000
  · have hd' : decide ((d.size : Int) ≤ 2000) = true := by simp; omega
    rw [decide_eq_true hd, Bool.true_and]
    clear hd
    have hfl := form_field0
    go_enter Tryz.func64, Tryz.ntmps64
    go_wp2_with (first | (go_at_call 59; refine (isType_any _ _).mono ?_; rintro e w' ⟨rfl, rfl⟩) | (go_at_call 81; refine (form_soa _).mono ?_; rintro e w1 ⟨c, rfl, hc, hb⟩; have HC := Lib.hid hc; clear hc) | (go_at_call 165; refine (is_soa1 _ _ _ HC.out).mono ?_; rintro e w2 ⟨rfl, hb2⟩))
    go_ret
    exact ⟨rfl, hb.trans (hb2.mono hb.size)⟩
  · have hd' : decide ((d.size : Int) ≤ 2000) = false := by simp; omega
    rw [decide_eq_false hd, Bool.false_and]
    clear hd
    go_enter Tryz.func64, Tryz.ntmps64
    go_wp2_with (go_at_call 59; refine (isType_any _ _).mono ?_; rintro e w' ⟨rfl, rfl⟩)
    go_ret
    exact ⟨rfl, Below.refl _ _⟩

theorem is_mail (g : Nat) (w : World) : Calls Tryz.prog 115 #[.func (.func g) #[] #[]] w fun e w' => e = .returned (.func (.func 170) #[] #[.pointer (some ⟨w.heap.size, 0, none⟩)]) ∧ w' = w.alloc (.cells #[.func (.func g) #[] #[]] 164) := by
  have hmf := makeFunc_run
  go_enter Tryz.func115, Tryz.ntmps115
  go_wp2
  go_ret
  exact ⟨rfl, rfl⟩
set_option maxRecDepth 100000 in
theorem is_mail1 (d : ByteArray) (c : Nat) (w : World) (hc : Blk w c #[.func (.func 116) #[] #[]] 164) :
    Calls Tryz.prog 170 #[.string d, .pointer (some ⟨c, 0, none⟩)] w fun e w' => e = .returned (.bool (takeR mailT d).isSome) ∧ Below w.heap.size w w' := by
  have c0 : w.cell? ⟨c, 0, none⟩ = some (.func (.func 116) #[] #[]) := hc.cell 0
  clear hc
  go_enter Tryz.func170, Tryz.ntmps170
  go_wp2_with fail
  refine (data_mail d _).mono ?_
  rintro e w1 ⟨hb, h⟩
  rcases h1 : takeR mailT d with _ | x
  · rw [h1] at h
    obtain rfl := h
    have H1 := Lib.hid h1; clear h1
    go_wp2
    go_ret
    rw [H1.out]
    exact ⟨rfl, hb.alloc hb.size _⟩
  · rw [h1] at h
    obtain ⟨v, hv, rfl⟩ := h
    have H1 := Lib.hid h1; clear h1
    obtain rfl : v = x.v := hv
    simp only [mailR.v]
    go_wp2
    go_ret
    rw [H1.out]
    exact ⟨rfl, hb.alloc hb.size _⟩

set_option maxRecDepth 100000 in
theorem form_mail (w : World) : Calls Tryz.prog 81 #[.int .i64 15] w fun e w' =>
    ∃ c, e = .returned (.agg #[.func (.func 170) #[] #[.pointer (some ⟨c, 0, none⟩)], .func (.func 117) #[] #[], .func (.func 119) #[] #[], .func (.func 120) #[] #[]]) ∧ Blk w' c #[.func (.func 116) #[] #[]] 164 ∧ Below w.heap.size w w' := by
  go_enter Tryz.func81, Tryz.ntmps81
  go_wp2_with (go_at_call 115; refine (is_mail _ _).mono ?_; rintro e w' ⟨rfl, rfl⟩)
  refine bodyPost_ret (results1 rfl ⟨_, rfl, loadVar_blk (cs := #[.func (.func 170) #[] #[.pointer (some ⟨w.heap.size + 1 + 1, 0, none⟩)], .func (.func 117) #[] #[], .func (.func 119) #[] #[], .func (.func 120) #[] #[]]) (t := 127) ?_ Tryz.underlying127 rfl info_form⟩) rfl ⟨w.heap.size + 1 + 1, rfl, ?_, ?_⟩
  · exact ((Blk.new w _ _).alloc _).alloc _
  · have := Blk.new ((w.alloc (.cells #[.func (.func 170) #[] #[.pointer (some ⟨w.heap.size + 1 + 1, 0, none⟩)], .func (.func 117) #[] #[], .func (.func 119) #[] #[], .func (.func 120) #[] #[]] 127)).alloc (.cells #[.func (.func 19) #[] #[], .func (.func 98) #[] #[], .func (.func 100) #[] #[], .func (.func 103) #[] #[]] 127)) #[.func (.func 116) #[] #[]] 164
    simpa using this
  · exact (((Below.refl _ w).alloc (Nat.le_refl _) _).alloc (by simp) _).alloc (by simp; omega) _

set_option maxRecDepth 100000 in
theorem right_mail (d : ByteArray) (w : World) : Calls Tryz.prog 64 #[.int .i64 15, .string d] w fun e w' => e = .returned (.bool (decide (d.size ≤ 2000) && (takeR mailT d).isSome)) ∧ Below w.heap.size w w' := by
  by_cases hd : d.size ≤ 2000
  · have hd' : decide ((d.size : Int) ≤ 2000) = true := by simp; omega
    rw [decide_eq_true hd, Bool.true_and]
    clear hd
    have hfl := form_field0
    go_enter Tryz.func64, Tryz.ntmps64
    go_wp2_with (first | (go_at_call 59; refine (isType_any _ _).mono ?_; rintro e w' ⟨rfl, rfl⟩) | (go_at_call 81; refine (form_mail _).mono ?_; rintro e w1 ⟨c, rfl, hc, hb⟩; have HC := Lib.hid hc; clear hc) | (go_at_call 170; refine (is_mail1 _ _ _ HC.out).mono ?_; rintro e w2 ⟨rfl, hb2⟩))
    go_ret
    exact ⟨rfl, hb.trans (hb2.mono hb.size)⟩
  · have hd' : decide ((d.size : Int) ≤ 2000) = false := by simp; omega
    rw [decide_eq_false hd, Bool.false_and]
    clear hd
    go_enter Tryz.func64, Tryz.ntmps64
    go_wp2_with (go_at_call 59; refine (isType_any _ _).mono ?_; rintro e w' ⟨rfl, rfl⟩)
    go_ret
    exact ⟨rfl, Below.refl _ _⟩

theorem is_texts (g : Nat) (w : World) : Calls Tryz.prog 121 #[.func (.func g) #[] #[]] w fun e w' => e = .returned (.func (.func 174) #[] #[.pointer (some ⟨w.heap.size, 0, none⟩)]) ∧ w' = w.alloc (.cells #[.func (.func g) #[] #[]] 167) := by
  have hmf := makeFunc_run
  go_enter Tryz.func121, Tryz.ntmps121
  go_wp2
  go_ret
  exact ⟨rfl, rfl⟩
set_option maxRecDepth 100000 in
theorem is_texts1 (d : ByteArray) (c : Nat) (w : World) (hc : Blk w c #[.func (.func 122) #[] #[]] 167) :
    Calls Tryz.prog 174 #[.string d, .pointer (some ⟨c, 0, none⟩)] w fun e w' => e = .returned (.bool (takeR textsT d).isSome) ∧ Below w.heap.size w w' := by
  have c0 : w.cell? ⟨c, 0, none⟩ = some (.func (.func 122) #[] #[]) := hc.cell 0
  clear hc
  go_enter Tryz.func174, Tryz.ntmps174
  go_wp2_with fail
  refine (data_texts d _).mono ?_
  rintro e w1 ⟨hb, h⟩
  rcases h1 : takeR textsT d with _ | x
  · rw [h1] at h
    obtain rfl := h
    have H1 := Lib.hid h1; clear h1
    go_wp2
    go_ret
    rw [H1.out]
    exact ⟨rfl, hb⟩
  · rw [h1] at h
    obtain ⟨v, hv, rfl⟩ := h
    have H1 := Lib.hid h1; clear h1
    obtain ⟨uA, uc, rfl⟩ := OwnS.len hv
    clear hv
    go_wp2
    go_ret
    rw [H1.out]
    exact ⟨rfl, hb⟩

set_option maxRecDepth 100000 in
theorem form_texts (w : World) : Calls Tryz.prog 81 #[.int .i64 16] w fun e w' =>
    ∃ c, e = .returned (.agg #[.func (.func 174) #[] #[.pointer (some ⟨c, 0, none⟩)], .func (.func 123) #[] #[], .nilFunc, .nilFunc]) ∧ Blk w' c #[.func (.func 122) #[] #[]] 167 ∧ Below w.heap.size w w' := by
  go_enter Tryz.func81, Tryz.ntmps81
  go_wp2_with (go_at_call 121; refine (is_texts _ _).mono ?_; rintro e w' ⟨rfl, rfl⟩)
  refine bodyPost_ret (results1 rfl ⟨_, rfl, loadVar_blk (cs := #[.func (.func 174) #[] #[.pointer (some ⟨w.heap.size + 1 + 1, 0, none⟩)], .func (.func 123) #[] #[], .nilFunc, .nilFunc]) (t := 127) ?_ Tryz.underlying127 rfl info_form⟩) rfl ⟨w.heap.size + 1 + 1, rfl, ?_, ?_⟩
  · exact ((Blk.new w _ _).alloc _).alloc _
  · have := Blk.new ((w.alloc (.cells #[.func (.func 174) #[] #[.pointer (some ⟨w.heap.size + 1 + 1, 0, none⟩)], .func (.func 123) #[] #[], .nilFunc, .nilFunc] 127)).alloc (.cells #[.func (.func 19) #[] #[], .func (.func 98) #[] #[], .func (.func 100) #[] #[], .func (.func 103) #[] #[]] 127)) #[.func (.func 122) #[] #[]] 167
    simpa using this
  · exact (((Below.refl _ w).alloc (Nat.le_refl _) _).alloc (by simp) _).alloc (by simp; omega) _

set_option maxRecDepth 100000 in
theorem right_texts (d : ByteArray) (w : World) : Calls Tryz.prog 64 #[.int .i64 16, .string d] w fun e w' => e = .returned (.bool (decide (d.size ≤ 2000) && (takeR textsT d).isSome)) ∧ Below w.heap.size w w' := by
  by_cases hd : d.size ≤ 2000
  · have hd' : decide ((d.size : Int) ≤ 2000) = true := by simp; omega
    rw [decide_eq_true hd, Bool.true_and]
    clear hd
    have hfl := form_field0
    go_enter Tryz.func64, Tryz.ntmps64
    go_wp2_with (first | (go_at_call 59; refine (isType_any _ _).mono ?_; rintro e w' ⟨rfl, rfl⟩) | (go_at_call 81; refine (form_texts _).mono ?_; rintro e w1 ⟨c, rfl, hc, hb⟩; have HC := Lib.hid hc; clear hc) | (go_at_call 174; refine (is_texts1 _ _ _ HC.out).mono ?_; rintro e w2 ⟨rfl, hb2⟩))
    go_ret
    exact ⟨rfl, hb.trans (hb2.mono hb.size)⟩
  · have hd' : decide ((d.size : Int) ≤ 2000) = false := by simp; omega
    rw [decide_eq_false hd, Bool.false_and]
    clear hd
    go_enter Tryz.func64, Tryz.ntmps64
    go_wp2_with (go_at_call 59; refine (isType_any _ _).mono ?_; rintro e w' ⟨rfl, rfl⟩)
    go_ret
    exact ⟨rfl, Below.refl _ _⟩

theorem is_ds (g : Nat) (w : World) : Calls Tryz.prog 124 #[.func (.func g) #[] #[]] w fun e w' => e = .returned (.func (.func 179) #[] #[.pointer (some ⟨w.heap.size, 0, none⟩)]) ∧ w' = w.alloc (.cells #[.func (.func g) #[] #[]] 171) := by
  have hmf := makeFunc_run
  go_enter Tryz.func124, Tryz.ntmps124
  go_wp2
  go_ret
  exact ⟨rfl, rfl⟩
set_option maxRecDepth 100000 in
theorem is_ds1 (d : ByteArray) (c : Nat) (w : World) (hc : Blk w c #[.func (.func 125) #[] #[]] 171) :
    Calls Tryz.prog 179 #[.string d, .pointer (some ⟨c, 0, none⟩)] w fun e w' => e = .returned (.bool (takeR dsT d).isSome) ∧ Below w.heap.size w w' := by
  have c0 : w.cell? ⟨c, 0, none⟩ = some (.func (.func 125) #[] #[]) := hc.cell 0
  clear hc
  go_enter Tryz.func179, Tryz.ntmps179
  go_wp2_with fail
  refine (data_ds d _).mono ?_
  rintro e w1 ⟨hb, h⟩
  rcases h1 : takeR dsT d with _ | x
  · rw [h1] at h
    obtain rfl := h
    have H1 := Lib.hid h1; clear h1
    go_wp2
    go_ret
    rw [H1.out]
    exact ⟨rfl, hb.alloc hb.size _⟩
  · rw [h1] at h
    obtain ⟨v, hv, rfl⟩ := h
    have H1 := Lib.hid h1; clear h1
    obtain rfl : v = x.v := hv
    simp only [DsR.v]
    go_wp2
    go_ret
    rw [H1.out]
    exact ⟨rfl, hb.alloc hb.size _⟩

set_option maxRecDepth 100000 in
theorem form_ds (w : World) : Calls Tryz.prog 81 #[.int .i64 43] w fun e w' =>
    ∃ c, e = .returned (.agg #[.func (.func 179) #[] #[.pointer (some ⟨c, 0, none⟩)], .func (.func 126) #[] #[], .func (.func 128) #[] #[], .nilFunc]) ∧ Blk w' c #[.func (.func 125) #[] #[]] 171 ∧ Below w.heap.size w w' := by
  go_enter Tryz.func81, Tryz.ntmps81
  go_wp2_with (go_at_call 124; refine (is_ds _ _).mono ?_; rintro e w' ⟨rfl, rfl⟩)
  refine bodyPost_ret (results1 rfl ⟨_, rfl, loadVar_blk (cs := #[.func (.func 179) #[] #[.pointer (some ⟨w.heap.size + 1 + 1, 0, none⟩)], .func (.func 126) #[] #[], .func (.func 128) #[] #[], .nilFunc]) (t := 127) ?_ Tryz.underlying127 rfl info_form⟩) rfl ⟨w.heap.size + 1 + 1, rfl, ?_, ?_⟩
  · exact ((Blk.new w _ _).alloc _).alloc _
  · have := Blk.new ((w.alloc (.cells #[.func (.func 179) #[] #[.pointer (some ⟨w.heap.size + 1 + 1, 0, none⟩)], .func (.func 126) #[] #[], .func (.func 128) #[] #[], .nilFunc] 127)).alloc (.cells #[.func (.func 19) #[] #[], .func (.func 98) #[] #[], .func (.func 100) #[] #[], .func (.func 103) #[] #[]] 127)) #[.func (.func 125) #[] #[]] 171
    simpa using this
  · exact (((Below.refl _ w).alloc (Nat.le_refl _) _).alloc (by simp) _).alloc (by simp; omega) _

set_option maxRecDepth 100000 in
theorem right_ds (d : ByteArray) (w : World) : Calls Tryz.prog 64 #[.int .i64 43, .string d] w fun e w' => e = .returned (.bool (decide (d.size ≤ 2000) && (takeR dsT d).isSome)) ∧ Below w.heap.size w w' := by
  by_cases hd : d.size ≤ 2000
  · have hd' : decide ((d.size : Int) ≤ 2000) = true := by simp; omega
    rw [decide_eq_true hd, Bool.true_and]
    clear hd
    have hfl := form_field0
    go_enter Tryz.func64, Tryz.ntmps64
    go_wp2_with (first | (go_at_call 59; refine (isType_any _ _).mono ?_; rintro e w' ⟨rfl, rfl⟩) | (go_at_call 81; refine (form_ds _).mono ?_; rintro e w1 ⟨c, rfl, hc, hb⟩; have HC := Lib.hid hc; clear hc) | (go_at_call 179; refine (is_ds1 _ _ _ HC.out).mono ?_; rintro e w2 ⟨rfl, hb2⟩))
    go_ret
    exact ⟨rfl, hb.trans (hb2.mono hb.size)⟩
  · have hd' : decide ((d.size : Int) ≤ 2000) = false := by simp; omega
    rw [decide_eq_false hd, Bool.false_and]
    clear hd
    go_enter Tryz.func64, Tryz.ntmps64
    go_wp2_with (go_at_call 59; refine (isType_any _ _).mono ?_; rintro e w' ⟨rfl, rfl⟩)
    go_ret
    exact ⟨rfl, Below.refl _ _⟩

theorem is_sig (g : Nat) (w : World) : Calls Tryz.prog 129 #[.func (.func g) #[] #[]] w fun e w' => e = .returned (.func (.func 185) #[] #[.pointer (some ⟨w.heap.size, 0, none⟩)]) ∧ w' = w.alloc (.cells #[.func (.func g) #[] #[]] 112) := by
  have hmf := makeFunc_run
  go_enter Tryz.func129, Tryz.ntmps129
  go_wp2
  go_ret
  exact ⟨rfl, rfl⟩
set_option maxRecDepth 100000 in
theorem is_sig1 (d : ByteArray) (c : Nat) (w : World) (hc : Blk w c #[.func (.func 66) #[] #[]] 112) :
    Calls Tryz.prog 185 #[.string d, .pointer (some ⟨c, 0, none⟩)] w fun e w' => e = .returned (.bool (takeR sigT d).isSome) ∧ Below w.heap.size w w' := by
  have c0 : w.cell? ⟨c, 0, none⟩ = some (.func (.func 66) #[] #[]) := hc.cell 0
  clear hc
  go_enter Tryz.func185, Tryz.ntmps185
  go_wp2_with fail
  refine (data_sig d _).mono ?_
  rintro e w1 ⟨hb, h⟩
  rcases h1 : takeR sigT d with _ | x
  · rw [h1] at h
    obtain rfl := h
    have H1 := Lib.hid h1; clear h1
    go_wp2
    go_ret
    rw [H1.out]
    exact ⟨rfl, hb.alloc hb.size _⟩
  · rw [h1] at h
    obtain ⟨v, hv, rfl⟩ := h
    have H1 := Lib.hid h1; clear h1
    obtain rfl : v = x.v := hv
    simp only [SigR.v]
    go_wp2
    go_ret
    rw [H1.out]
    exact ⟨rfl, hb.alloc hb.size _⟩

set_option maxRecDepth 100000 in
theorem form_sig (w : World) : Calls Tryz.prog 81 #[.int .i64 46] w fun e w' =>
    ∃ c, e = .returned (.agg #[.func (.func 185) #[] #[.pointer (some ⟨c, 0, none⟩)], .func (.func 130) #[] #[], .func (.func 131) #[] #[], .nilFunc]) ∧ Blk w' c #[.func (.func 66) #[] #[]] 112 ∧ Below w.heap.size w w' := by
  go_enter Tryz.func81, Tryz.ntmps81
  go_wp2_with (go_at_call 129; refine (is_sig _ _).mono ?_; rintro e w' ⟨rfl, rfl⟩)
  refine bodyPost_ret (results1 rfl ⟨_, rfl, loadVar_blk (cs := #[.func (.func 185) #[] #[.pointer (some ⟨w.heap.size + 1 + 1, 0, none⟩)], .func (.func 130) #[] #[], .func (.func 131) #[] #[], .nilFunc]) (t := 127) ?_ Tryz.underlying127 rfl info_form⟩) rfl ⟨w.heap.size + 1 + 1, rfl, ?_, ?_⟩
  · exact ((Blk.new w _ _).alloc _).alloc _
  · have := Blk.new ((w.alloc (.cells #[.func (.func 185) #[] #[.pointer (some ⟨w.heap.size + 1 + 1, 0, none⟩)], .func (.func 130) #[] #[], .func (.func 131) #[] #[], .nilFunc] 127)).alloc (.cells #[.func (.func 19) #[] #[], .func (.func 98) #[] #[], .func (.func 100) #[] #[], .func (.func 103) #[] #[]] 127)) #[.func (.func 66) #[] #[]] 112
    simpa using this
  · exact (((Below.refl _ w).alloc (Nat.le_refl _) _).alloc (by simp) _).alloc (by simp; omega) _

set_option maxRecDepth 100000 in
theorem right_sig (d : ByteArray) (w : World) : Calls Tryz.prog 64 #[.int .i64 46, .string d] w fun e w' => e = .returned (.bool (decide (d.size ≤ 2000) && (takeR sigT d).isSome)) ∧ Below w.heap.size w w' := by
  by_cases hd : d.size ≤ 2000
  · have hd' : decide ((d.size : Int) ≤ 2000) = true := by simp; omega
    rw [decide_eq_true hd, Bool.true_and]
    clear hd
    have hfl := form_field0
    go_enter Tryz.func64, Tryz.ntmps64
    go_wp2_with (first | (go_at_call 59; refine (isType_any _ _).mono ?_; rintro e w' ⟨rfl, rfl⟩) | (go_at_call 81; refine (form_sig _).mono ?_; rintro e w1 ⟨c, rfl, hc, hb⟩; have HC := Lib.hid hc; clear hc) | (go_at_call 185; refine (is_sig1 _ _ _ HC.out).mono ?_; rintro e w2 ⟨rfl, hb2⟩))
    go_ret
    exact ⟨rfl, hb.trans (hb2.mono hb.size)⟩
  · have hd' : decide ((d.size : Int) ≤ 2000) = false := by simp; omega
    rw [decide_eq_false hd, Bool.false_and]
    clear hd
    go_enter Tryz.func64, Tryz.ntmps64
    go_wp2_with (go_at_call 59; refine (isType_any _ _).mono ?_; rintro e w' ⟨rfl, rfl⟩)
    go_ret
    exact ⟨rfl, Below.refl _ _⟩

theorem is_nsec (g : Nat) (w : World) : Calls Tryz.prog 132 #[.func (.func g) #[] #[]] w fun e w' => e = .returned (.func (.func 188) #[] #[.pointer (some ⟨w.heap.size, 0, none⟩)]) ∧ w' = w.alloc (.cells #[.func (.func g) #[] #[]] 84) := by
  have hmf := makeFunc_run
  go_enter Tryz.func132, Tryz.ntmps132
  go_wp2
  go_ret
  exact ⟨rfl, rfl⟩
set_option maxRecDepth 100000 in
theorem is_nsec1 (d : ByteArray) (c : Nat) (w : World) (hc : Blk w c #[.func (.func 42) #[] #[]] 84) :
    Calls Tryz.prog 188 #[.string d, .pointer (some ⟨c, 0, none⟩)] w fun e w' => e = .returned (.bool (takeR nsecT d).isSome) ∧ Below w.heap.size w w' := by
  have c0 : w.cell? ⟨c, 0, none⟩ = some (.func (.func 42) #[] #[]) := hc.cell 0
  clear hc
  go_enter Tryz.func188, Tryz.ntmps188
  go_wp2_with fail
  refine (data_nsec d _).mono ?_
  rintro e w1 ⟨hb, h⟩
  rcases h1 : takeR nsecT d with _ | x
  · rw [h1] at h
    obtain rfl := h
    have H1 := Lib.hid h1; clear h1
    go_wp2
    go_ret
    rw [H1.out]
    exact ⟨rfl, hb.alloc hb.size _⟩
  · rw [h1] at h
    obtain ⟨v, hv, rfl⟩ := h
    have H1 := Lib.hid h1; clear h1
    obtain ⟨u, rfl, hu⟩ := hv
    obtain ⟨uA, uc, rfl⟩ := OwnI.len hu
    clear hu
    simp only [NsecR.v]
    go_wp2
    go_ret
    rw [H1.out]
    exact ⟨rfl, hb.alloc hb.size _⟩

set_option maxRecDepth 100000 in
theorem form_nsec (w : World) : Calls Tryz.prog 81 #[.int .i64 47] w fun e w' =>
    ∃ c, e = .returned (.agg #[.func (.func 188) #[] #[.pointer (some ⟨c, 0, none⟩)], .func (.func 133) #[] #[], .func (.func 135) #[] #[], .nilFunc]) ∧ Blk w' c #[.func (.func 42) #[] #[]] 84 ∧ Below w.heap.size w w' := by
  go_enter Tryz.func81, Tryz.ntmps81
  go_wp2_with (go_at_call 132; refine (is_nsec _ _).mono ?_; rintro e w' ⟨rfl, rfl⟩)
  refine bodyPost_ret (results1 rfl ⟨_, rfl, loadVar_blk (cs := #[.func (.func 188) #[] #[.pointer (some ⟨w.heap.size + 1 + 1, 0, none⟩)], .func (.func 133) #[] #[], .func (.func 135) #[] #[], .nilFunc]) (t := 127) ?_ Tryz.underlying127 rfl info_form⟩) rfl ⟨w.heap.size + 1 + 1, rfl, ?_, ?_⟩
  · exact ((Blk.new w _ _).alloc _).alloc _
  · have := Blk.new ((w.alloc (.cells #[.func (.func 188) #[] #[.pointer (some ⟨w.heap.size + 1 + 1, 0, none⟩)], .func (.func 133) #[] #[], .func (.func 135) #[] #[], .nilFunc] 127)).alloc (.cells #[.func (.func 19) #[] #[], .func (.func 98) #[] #[], .func (.func 100) #[] #[], .func (.func 103) #[] #[]] 127)) #[.func (.func 42) #[] #[]] 84
    simpa using this
  · exact (((Below.refl _ w).alloc (Nat.le_refl _) _).alloc (by simp) _).alloc (by simp; omega) _

set_option maxRecDepth 100000 in
theorem right_nsec (d : ByteArray) (w : World) : Calls Tryz.prog 64 #[.int .i64 47, .string d] w fun e w' => e = .returned (.bool (decide (d.size ≤ 2000) && (takeR nsecT d).isSome)) ∧ Below w.heap.size w w' := by
  by_cases hd : d.size ≤ 2000
  · have hd' : decide ((d.size : Int) ≤ 2000) = true := by simp; omega
    rw [decide_eq_true hd, Bool.true_and]
    clear hd
    have hfl := form_field0
    go_enter Tryz.func64, Tryz.ntmps64
    go_wp2_with (first | (go_at_call 59; refine (isType_any _ _).mono ?_; rintro e w' ⟨rfl, rfl⟩) | (go_at_call 81; refine (form_nsec _).mono ?_; rintro e w1 ⟨c, rfl, hc, hb⟩; have HC := Lib.hid hc; clear hc) | (go_at_call 188; refine (is_nsec1 _ _ _ HC.out).mono ?_; rintro e w2 ⟨rfl, hb2⟩))
    go_ret
    exact ⟨rfl, hb.trans (hb2.mono hb.size)⟩
  · have hd' : decide ((d.size : Int) ≤ 2000) = false := by simp; omega
    rw [decide_eq_false hd, Bool.false_and]
    clear hd
    go_enter Tryz.func64, Tryz.ntmps64
    go_wp2_with (go_at_call 59; refine (isType_any _ _).mono ?_; rintro e w' ⟨rfl, rfl⟩)
    go_ret
    exact ⟨rfl, Below.refl _ _⟩

theorem is_nsec3 (g : Nat) (w : World) : Calls Tryz.prog 141 #[.func (.func g) #[] #[]] w fun e w' => e = .returned (.func (.func 193) #[] #[.pointer (some ⟨w.heap.size, 0, none⟩)]) ∧ w' = w.alloc (.cells #[.func (.func g) #[] #[]] 88) := by
  have hmf := makeFunc_run
  go_enter Tryz.func141, Tryz.ntmps141
  go_wp2
  go_ret
  exact ⟨rfl, rfl⟩
set_option maxRecDepth 100000 in
theorem is_nsec31 (d : ByteArray) (c : Nat) (w : World) (hc : Blk w c #[.func (.func 43) #[] #[]] 88) :
    Calls Tryz.prog 193 #[.string d, .pointer (some ⟨c, 0, none⟩)] w fun e w' => e = .returned (.bool (takeR nsec3T d).isSome) ∧ Below w.heap.size w w' := by
  have c0 : w.cell? ⟨c, 0, none⟩ = some (.func (.func 43) #[] #[]) := hc.cell 0
  clear hc
  go_enter Tryz.func193, Tryz.ntmps193
  go_wp2_with fail
  refine (data_nsec3 d _).mono ?_
  rintro e w1 ⟨hb, h⟩
  rcases h1 : takeR nsec3T d with _ | x
  · rw [h1] at h
    obtain rfl := h
    have H1 := Lib.hid h1; clear h1
    go_wp2
    go_ret
    rw [H1.out]
    exact ⟨rfl, hb.alloc hb.size _⟩
  · rw [h1] at h
    obtain ⟨v, hv, rfl⟩ := h
    have H1 := Lib.hid h1; clear h1
    obtain ⟨u, rfl, hu⟩ := hv
    obtain ⟨uA, uc, rfl⟩ := OwnI.len hu
    clear hu
    simp only [Nsec3R.v]
    go_wp2
    go_ret
    rw [H1.out]
    exact ⟨rfl, hb.alloc hb.size _⟩

set_option maxRecDepth 100000 in
theorem form_nsec3 (w : World) : Calls Tryz.prog 81 #[.int .i64 50] w fun e w' =>
    ∃ c, e = .returned (.agg #[.func (.func 193) #[] #[.pointer (some ⟨c, 0, none⟩)], .func (.func 142) #[] #[], .func (.func 143) #[] #[], .nilFunc]) ∧ Blk w' c #[.func (.func 43) #[] #[]] 88 ∧ Below w.heap.size w w' := by
  go_enter Tryz.func81, Tryz.ntmps81
  go_wp2_with (go_at_call 141; refine (is_nsec3 _ _).mono ?_; rintro e w' ⟨rfl, rfl⟩)
  refine bodyPost_ret (results1 rfl ⟨_, rfl, loadVar_blk (cs := #[.func (.func 193) #[] #[.pointer (some ⟨w.heap.size + 1 + 1, 0, none⟩)], .func (.func 142) #[] #[], .func (.func 143) #[] #[], .nilFunc]) (t := 127) ?_ Tryz.underlying127 rfl info_form⟩) rfl ⟨w.heap.size + 1 + 1, rfl, ?_, ?_⟩
  · exact ((Blk.new w _ _).alloc _).alloc _
  · have := Blk.new ((w.alloc (.cells #[.func (.func 193) #[] #[.pointer (some ⟨w.heap.size + 1 + 1, 0, none⟩)], .func (.func 142) #[] #[], .func (.func 143) #[] #[], .nilFunc] 127)).alloc (.cells #[.func (.func 19) #[] #[], .func (.func 98) #[] #[], .func (.func 100) #[] #[], .func (.func 103) #[] #[]] 127)) #[.func (.func 43) #[] #[]] 88
    simpa using this
  · exact (((Below.refl _ w).alloc (Nat.le_refl _) _).alloc (by simp) _).alloc (by simp; omega) _

set_option maxRecDepth 100000 in
theorem right_nsec3 (d : ByteArray) (w : World) : Calls Tryz.prog 64 #[.int .i64 50, .string d] w fun e w' => e = .returned (.bool (decide (d.size ≤ 2000) && (takeR nsec3T d).isSome)) ∧ Below w.heap.size w w' := by
  by_cases hd : d.size ≤ 2000
  · have hd' : decide ((d.size : Int) ≤ 2000) = true := by simp; omega
    rw [decide_eq_true hd, Bool.true_and]
    clear hd
    have hfl := form_field0
    go_enter Tryz.func64, Tryz.ntmps64
    go_wp2_with (first | (go_at_call 59; refine (isType_any _ _).mono ?_; rintro e w' ⟨rfl, rfl⟩) | (go_at_call 81; refine (form_nsec3 _).mono ?_; rintro e w1 ⟨c, rfl, hc, hb⟩; have HC := Lib.hid hc; clear hc) | (go_at_call 193; refine (is_nsec31 _ _ _ HC.out).mono ?_; rintro e w2 ⟨rfl, hb2⟩))
    go_ret
    exact ⟨rfl, hb.trans (hb2.mono hb.size)⟩
  · have hd' : decide ((d.size : Int) ≤ 2000) = false := by simp; omega
    rw [decide_eq_false hd, Bool.false_and]
    clear hd
    go_enter Tryz.func64, Tryz.ntmps64
    go_wp2_with (go_at_call 59; refine (isType_any _ _).mono ?_; rintro e w' ⟨rfl, rfl⟩)
    go_ret
    exact ⟨rfl, Below.refl _ _⟩

theorem fn_four (d : ByteArray) (w : World) : Calls Tryz.prog 104 #[.string d] w fun e w' => e = .returned (.bool (decide (d.size = 4))) ∧ w = w' := by
  by_cases h : d.size = 4
  · have t1 : ((d.size : Int) == 4) = true := by rw [beq_iff_eq]; omega
    rw [decide_eq_true h]; clear h
    go_enter Tryz.func104, Tryz.ntmps104
    go_wp2
    go_ret
    exact ⟨rfl, rfl⟩
  · have t1 : ((d.size : Int) == 4) = false := by rw [beq_eq_false_iff_ne]; omega
    rw [decide_eq_false h]; clear h
    go_enter Tryz.func104, Tryz.ntmps104
    go_wp2
    go_ret
    exact ⟨rfl, rfl⟩

theorem fn_sixteen (d : ByteArray) (w : World) : Calls Tryz.prog 107 #[.string d] w fun e w' => e = .returned (.bool (decide (d.size = 16))) ∧ w = w' := by
  by_cases h : d.size = 16
  · have t1 : ((d.size : Int) == 16) = true := by rw [beq_iff_eq]; omega
    rw [decide_eq_true h]; clear h
    go_enter Tryz.func107, Tryz.ntmps107
    go_wp2
    go_ret
    exact ⟨rfl, rfl⟩
  · have t1 : ((d.size : Int) == 16) = false := by rw [beq_eq_false_iff_ne]; omega
    rw [decide_eq_false h]; clear h
    go_enter Tryz.func107, Tryz.ntmps107
    go_wp2
    go_ret
    exact ⟨rfl, rfl⟩

theorem fn_any (d : ByteArray) (w : World) : Calls Tryz.prog 144 #[.string d] w fun e w' => e = .returned (.bool true) ∧ w = w' := by
  go_enter Tryz.func144, Tryz.ntmps144
  go_wp2
  go_ret
  exact ⟨rfl, rfl⟩

set_option maxRecDepth 100000 in
theorem form_four (w : World) : Calls Tryz.prog 81 #[.int .i64 1] w fun e w' => e = .returned (.agg #[.func (.func 104) #[] #[], .func (.func 105) #[] #[], .func (.func 106) #[] #[], .nilFunc]) ∧ Below w.heap.size w w' := by
  go_enter Tryz.func81, Tryz.ntmps81
  go_wp2_with fail
  refine bodyPost_ret (results1 rfl ⟨_, rfl, loadVar_blk (cs := #[.func (.func 104) #[] #[], .func (.func 105) #[] #[], .func (.func 106) #[] #[], .nilFunc]) (t := 127) ?_ Tryz.underlying127 rfl info_form⟩) rfl ⟨rfl, ?_⟩
  · exact (Blk.new w _ _).alloc _
  · exact ((Below.refl _ w).alloc (Nat.le_refl _) _).alloc (by simp) _

set_option maxRecDepth 100000 in
theorem form_sixteen (w : World) : Calls Tryz.prog 81 #[.int .i64 28] w fun e w' => e = .returned (.agg #[.func (.func 107) #[] #[], .func (.func 108) #[] #[], .func (.func 109) #[] #[], .nilFunc]) ∧ Below w.heap.size w w' := by
  go_enter Tryz.func81, Tryz.ntmps81
  go_wp2_with fail
  refine bodyPost_ret (results1 rfl ⟨_, rfl, loadVar_blk (cs := #[.func (.func 107) #[] #[], .func (.func 108) #[] #[], .func (.func 109) #[] #[], .nilFunc]) (t := 127) ?_ Tryz.underlying127 rfl info_form⟩) rfl ⟨rfl, ?_⟩
  · exact (Blk.new w _ _).alloc _
  · exact ((Below.refl _ w).alloc (Nat.le_refl _) _).alloc (by simp) _

set_option maxRecDepth 100000 in
theorem form_ns (w : World) : Calls Tryz.prog 81 #[.int .i64 2] w fun e w' => e = .returned (.agg #[.func (.func 19) #[] #[], .func (.func 98) #[] #[], .func (.func 100) #[] #[], .func (.func 103) #[] #[]]) ∧ Below w.heap.size w w' := by
  go_enter Tryz.func81, Tryz.ntmps81
  go_wp2_with fail
  refine bodyPost_ret (results1 rfl ⟨_, rfl, loadVar_blk (cs := #[.func (.func 19) #[] #[], .func (.func 98) #[] #[], .func (.func 100) #[] #[], .func (.func 103) #[] #[]]) (t := 127) ?_ Tryz.underlying127 rfl info_form⟩) rfl ⟨rfl, ?_⟩
  · exact (Blk.new w _ _).alloc _
  · exact ((Below.refl _ w).alloc (Nat.le_refl _) _).alloc (by simp) _

set_option maxRecDepth 100000 in
theorem form_cname (w : World) : Calls Tryz.prog 81 #[.int .i64 5] w fun e w' => e = .returned (.agg #[.func (.func 19) #[] #[], .func (.func 98) #[] #[], .func (.func 100) #[] #[], .func (.func 103) #[] #[]]) ∧ Below w.heap.size w w' := by
  go_enter Tryz.func81, Tryz.ntmps81
  go_wp2_with fail
  refine bodyPost_ret (results1 rfl ⟨_, rfl, loadVar_blk (cs := #[.func (.func 19) #[] #[], .func (.func 98) #[] #[], .func (.func 100) #[] #[], .func (.func 103) #[] #[]]) (t := 127) ?_ Tryz.underlying127 rfl info_form⟩) rfl ⟨rfl, ?_⟩
  · exact (Blk.new w _ _).alloc _
  · exact ((Below.refl _ w).alloc (Nat.le_refl _) _).alloc (by simp) _

set_option maxRecDepth 100000 in
theorem form_dname (w : World) : Calls Tryz.prog 81 #[.int .i64 39] w fun e w' => e = .returned (.agg #[.func (.func 19) #[] #[], .func (.func 98) #[] #[], .func (.func 100) #[] #[], .func (.func 103) #[] #[]]) ∧ Below w.heap.size w w' := by
  go_enter Tryz.func81, Tryz.ntmps81
  go_wp2_with fail
  refine bodyPost_ret (results1 rfl ⟨_, rfl, loadVar_blk (cs := #[.func (.func 19) #[] #[], .func (.func 98) #[] #[], .func (.func 100) #[] #[], .func (.func 103) #[] #[]]) (t := 127) ?_ Tryz.underlying127 rfl info_form⟩) rfl ⟨rfl, ?_⟩
  · exact (Blk.new w _ _).alloc _
  · exact ((Below.refl _ w).alloc (Nat.le_refl _) _).alloc (by simp) _

def otherKind (k : Int) : Prop := k ≠ 1 ∧ k ≠ 28 ∧ k ≠ 2 ∧ k ≠ 5 ∧ k ≠ 39 ∧ k ≠ 6 ∧ k ≠ 15 ∧ k ≠ 16 ∧ k ≠ 43 ∧ k ≠ 46 ∧ k ≠ 47 ∧ k ≠ 48 ∧ k ≠ 50
set_option maxRecDepth 100000 in
theorem form_other (k : Int) (w : World) (hk : otherKind k) : Calls Tryz.prog 81 #[.int .i64 k] w fun e w' => e = .returned (.agg #[.func (.func 144) #[] #[], .func (.func 145) #[] #[], .func (.func 146) #[] #[], .nilFunc]) ∧ Below w.heap.size w w' := by
  obtain ⟨n1, n28, n2, n5, n39, n6, n15, n16, n43, n46, n47, n48, n50⟩ := hk
  have t1 : (k == 1) = false := by rw [beq_eq_false_iff_ne]; omega
  have t28 : (k == 28) = false := by rw [beq_eq_false_iff_ne]; omega
  have t2 : (k == 2) = false := by rw [beq_eq_false_iff_ne]; omega
  have t5 : (k == 5) = false := by rw [beq_eq_false_iff_ne]; omega
  have t39 : (k == 39) = false := by rw [beq_eq_false_iff_ne]; omega
  have t6 : (k == 6) = false := by rw [beq_eq_false_iff_ne]; omega
  have t15 : (k == 15) = false := by rw [beq_eq_false_iff_ne]; omega
  have t16 : (k == 16) = false := by rw [beq_eq_false_iff_ne]; omega
  have t43 : (k == 43) = false := by rw [beq_eq_false_iff_ne]; omega
  have t46 : (k == 46) = false := by rw [beq_eq_false_iff_ne]; omega
  have t47 : (k == 47) = false := by rw [beq_eq_false_iff_ne]; omega
  have t48 : (k == 48) = false := by rw [beq_eq_false_iff_ne]; omega
  have t50 : (k == 50) = false := by rw [beq_eq_false_iff_ne]; omega
  clear n1 n28 n2 n5 n39 n6 n15 n16 n43 n46 n47 n48 n50
  go_enter Tryz.func81, Tryz.ntmps81
  go_wp2_with fail
  refine bodyPost_ret (results1 rfl ⟨_, rfl, loadVar_blk (cs := #[.func (.func 144) #[] #[], .func (.func 145) #[] #[], .func (.func 146) #[] #[], .nilFunc]) (t := 127) ?_ Tryz.underlying127 rfl info_form⟩) rfl ⟨rfl, ?_⟩
  · exact (Blk.new w _ _).alloc _
  · exact ((Below.refl _ w).alloc (Nat.le_refl _) _).alloc (by simp) _

set_option maxRecDepth 100000 in
theorem right_four (d : ByteArray) (w : World) : Calls Tryz.prog 64 #[.int .i64 1, .string d] w fun e w' => e = .returned (.bool (decide (d.size ≤ 2000) && decide (d.size = 4))) ∧ Below w.heap.size w w' := by
  by_cases hd : d.size ≤ 2000
  · have hd' : decide ((d.size : Int) ≤ 2000) = true := by simp; omega
    rw [decide_eq_true hd, Bool.true_and]
    clear hd
    have hfl := form_field0
    go_enter Tryz.func64, Tryz.ntmps64
    go_wp2_with (first | (go_at_call 59; refine (isType_any _ _).mono ?_; rintro e w' ⟨rfl, rfl⟩) | (go_at_call 81; refine (form_four _).mono ?_; rintro e w1 ⟨rfl, hb⟩) | (go_at_call 104; refine (fn_four _ _).mono ?_; rintro e w2 ⟨rfl, rfl⟩))
    go_ret
    exact ⟨rfl, hb⟩
  · have hd' : decide ((d.size : Int) ≤ 2000) = false := by simp; omega
    rw [decide_eq_false hd, Bool.false_and]
    clear hd
    go_enter Tryz.func64, Tryz.ntmps64
    go_wp2_with (go_at_call 59; refine (isType_any _ _).mono ?_; rintro e w' ⟨rfl, rfl⟩)
    go_ret
    exact ⟨rfl, Below.refl _ _⟩

set_option maxRecDepth 100000 in
theorem right_sixteen (d : ByteArray) (w : World) : Calls Tryz.prog 64 #[.int .i64 28, .string d] w fun e w' => e = .returned (.bool (decide (d.size ≤ 2000) && decide (d.size = 16))) ∧ Below w.heap.size w w' := by
  by_cases hd : d.size ≤ 2000
  · have hd' : decide ((d.size : Int) ≤ 2000) = true := by simp; omega
    rw [decide_eq_true hd, Bool.true_and]
    clear hd
    have hfl := form_field0
    go_enter Tryz.func64, Tryz.ntmps64
    go_wp2_with (first | (go_at_call 59; refine (isType_any _ _).mono ?_; rintro e w' ⟨rfl, rfl⟩) | (go_at_call 81; refine (form_sixteen _).mono ?_; rintro e w1 ⟨rfl, hb⟩) | (go_at_call 107; refine (fn_sixteen _ _).mono ?_; rintro e w2 ⟨rfl, rfl⟩))
    go_ret
    exact ⟨rfl, hb⟩
  · have hd' : decide ((d.size : Int) ≤ 2000) = false := by simp; omega
    rw [decide_eq_false hd, Bool.false_and]
    clear hd
    go_enter Tryz.func64, Tryz.ntmps64
    go_wp2_with (go_at_call 59; refine (isType_any _ _).mono ?_; rintro e w' ⟨rfl, rfl⟩)
    go_ret
    exact ⟨rfl, Below.refl _ _⟩

set_option maxRecDepth 100000 in
theorem right_ns (d : ByteArray) (w : World) : Calls Tryz.prog 64 #[.int .i64 2, .string d] w fun e w' => e = .returned (.bool (decide (d.size ≤ 2000) && nameRight d)) ∧ Below w.heap.size w w' := by
  by_cases hd : d.size ≤ 2000
  · have hd' : decide ((d.size : Int) ≤ 2000) = true := by simp; omega
    rw [decide_eq_true hd, Bool.true_and]
    clear hd
    have hfl := form_field0
    go_enter Tryz.func64, Tryz.ntmps64
    go_wp2_with (first | (go_at_call 59; refine (isType_any _ _).mono ?_; rintro e w' ⟨rfl, rfl⟩) | (go_at_call 81; refine (form_ns _).mono ?_; rintro e w1 ⟨rfl, hb⟩) | (go_at_call 19; refine (name_right _ _).mono ?_; rintro e w2 ⟨rfl, hb2⟩))
    go_ret
    exact ⟨rfl, hb.trans (hb2.mono hb.size)⟩
  · have hd' : decide ((d.size : Int) ≤ 2000) = false := by simp; omega
    rw [decide_eq_false hd, Bool.false_and]
    clear hd
    go_enter Tryz.func64, Tryz.ntmps64
    go_wp2_with (go_at_call 59; refine (isType_any _ _).mono ?_; rintro e w' ⟨rfl, rfl⟩)
    go_ret
    exact ⟨rfl, Below.refl _ _⟩

set_option maxRecDepth 100000 in
theorem right_cname (d : ByteArray) (w : World) : Calls Tryz.prog 64 #[.int .i64 5, .string d] w fun e w' => e = .returned (.bool (decide (d.size ≤ 2000) && nameRight d)) ∧ Below w.heap.size w w' := by
  by_cases hd : d.size ≤ 2000
  · have hd' : decide ((d.size : Int) ≤ 2000) = true := by simp; omega
    rw [decide_eq_true hd, Bool.true_and]
    clear hd
    have hfl := form_field0
    go_enter Tryz.func64, Tryz.ntmps64
    go_wp2_with (first | (go_at_call 59; refine (isType_any _ _).mono ?_; rintro e w' ⟨rfl, rfl⟩) | (go_at_call 81; refine (form_cname _).mono ?_; rintro e w1 ⟨rfl, hb⟩) | (go_at_call 19; refine (name_right _ _).mono ?_; rintro e w2 ⟨rfl, hb2⟩))
    go_ret
    exact ⟨rfl, hb.trans (hb2.mono hb.size)⟩
  · have hd' : decide ((d.size : Int) ≤ 2000) = false := by simp; omega
    rw [decide_eq_false hd, Bool.false_and]
    clear hd
    go_enter Tryz.func64, Tryz.ntmps64
    go_wp2_with (go_at_call 59; refine (isType_any _ _).mono ?_; rintro e w' ⟨rfl, rfl⟩)
    go_ret
    exact ⟨rfl, Below.refl _ _⟩

set_option maxRecDepth 100000 in
theorem right_dname (d : ByteArray) (w : World) : Calls Tryz.prog 64 #[.int .i64 39, .string d] w fun e w' => e = .returned (.bool (decide (d.size ≤ 2000) && nameRight d)) ∧ Below w.heap.size w w' := by
  by_cases hd : d.size ≤ 2000
  · have hd' : decide ((d.size : Int) ≤ 2000) = true := by simp; omega
    rw [decide_eq_true hd, Bool.true_and]
    clear hd
    have hfl := form_field0
    go_enter Tryz.func64, Tryz.ntmps64
    go_wp2_with (first | (go_at_call 59; refine (isType_any _ _).mono ?_; rintro e w' ⟨rfl, rfl⟩) | (go_at_call 81; refine (form_dname _).mono ?_; rintro e w1 ⟨rfl, hb⟩) | (go_at_call 19; refine (name_right _ _).mono ?_; rintro e w2 ⟨rfl, hb2⟩))
    go_ret
    exact ⟨rfl, hb.trans (hb2.mono hb.size)⟩
  · have hd' : decide ((d.size : Int) ≤ 2000) = false := by simp; omega
    rw [decide_eq_false hd, Bool.false_and]
    clear hd
    go_enter Tryz.func64, Tryz.ntmps64
    go_wp2_with (go_at_call 59; refine (isType_any _ _).mono ?_; rintro e w' ⟨rfl, rfl⟩)
    go_ret
    exact ⟨rfl, Below.refl _ _⟩

set_option maxRecDepth 100000 in
theorem right_other (k : Int) (d : ByteArray) (w : World) (hk : otherKind k) (h0 : 0 ≤ k) (h1 : k < 65536) : Calls Tryz.prog 64 #[.int .i64 k, .string d] w fun e w' => e = .returned (.bool (decide (d.size ≤ 2000) && true)) ∧ Below w.heap.size w w' := by
  have HK := Lib.hid hk; clear hk
  have t0 : decide (0 ≤ k) = true := by simpa using h0
  have t1 : decide (k < 65536) = true := by simpa using h1
  by_cases hd : d.size ≤ 2000
  · have hd' : decide ((d.size : Int) ≤ 2000) = true := by simp; omega
    rw [decide_eq_true hd, Bool.true_and]
    clear hd
    have hfl := form_field0
    go_enter Tryz.func64, Tryz.ntmps64
    go_wp2_with (first | (go_at_call 59; refine (isType_any _ _).mono ?_; rintro e w' ⟨rfl, rfl⟩) | (go_at_call 81; refine (form_other _ _ HK.out).mono ?_; rintro e w1 ⟨rfl, hb⟩) | (go_at_call 144; refine (fn_any _ _).mono ?_; rintro e w2 ⟨rfl, rfl⟩))
    go_ret
    exact ⟨rfl, hb⟩
  · have hd' : decide ((d.size : Int) ≤ 2000) = false := by simp; omega
    rw [decide_eq_false hd, Bool.false_and]
    clear hd
    go_enter Tryz.func64, Tryz.ntmps64
    go_wp2_with (go_at_call 59; refine (isType_any _ _).mono ?_; rintro e w' ⟨rfl, rfl⟩)
    go_ret
    exact ⟨rfl, Below.refl _ _⟩

theorem right_out (k : Int) (d : ByteArray) (w : World) (h : ¬ (0 ≤ k ∧ k < 65536)) : Calls Tryz.prog 64 #[.int .i64 k, .string d] w fun e w' => e = .returned (.bool false) ∧ Below w.heap.size w w' := by
  by_cases h0 : 0 ≤ k
  · have t0 : decide (0 ≤ k) = true := by simpa using h0
    have t1 : decide (k < 65536) = false := by simp; omega
    clear h
    go_enter Tryz.func64, Tryz.ntmps64
    go_wp2_with (go_at_call 59; refine (isType_any _ _).mono ?_; rintro e w' ⟨rfl, rfl⟩)
    go_ret
    exact ⟨rfl, Below.refl _ _⟩
  · have t0 : decide (0 ≤ k) = false := by simpa using h0
    clear h
    go_enter Tryz.func64, Tryz.ntmps64
    go_wp2_with (go_at_call 59; refine (isType_any _ _).mono ?_; rintro e w' ⟨rfl, rfl⟩)
    go_ret
    exact ⟨rfl, Below.refl _ _⟩

/-- Whether data are of their kind. -/
def formRight (k : Int) (d : ByteArray) : Bool :=
  if k = 1 then decide (d.size = 4) else if k = 28 then decide (d.size = 16) else if k = 2 then nameRight d else if k = 5 then nameRight d else if k = 39 then nameRight d else
  if k = 6 then (takeR soaT d).isSome else if k = 15 then (takeR mailT d).isSome else if k = 16 then (takeR textsT d).isSome else if k = 43 then (takeR dsT d).isSome else if k = 46 then (takeR sigT d).isSome else
  if k = 47 then (takeR nsecT d).isSome else if k = 48 then keyRight d else if k = 50 then (takeR nsec3T d).isSome else true
def dataRight (k : Int) (d : ByteArray) : Bool := decide (0 ≤ k) && decide (k < 65536) && decide (d.size ≤ 2000) && formRight k d
theorem right_any (k : Int) (d : ByteArray) (w : World) : Calls Tryz.prog 64 #[.int .i64 k, .string d] w fun e w' => e = .returned (.bool (dataRight k d)) ∧ Below w.heap.size w w' := by
  by_cases hr : 0 ≤ k ∧ k < 65536
  case neg =>
    have e : dataRight k d = false := by rw [dataRight]; simp; omega
    rw [e]; exact right_out k d w hr
  have e : dataRight k d = (decide (d.size ≤ 2000) && formRight k d) := by rw [dataRight, decide_eq_true hr.1, decide_eq_true hr.2]; rfl
  rw [e]
  by_cases h1 : k = 1
  · subst h1
    exact right_four d w
  by_cases h28 : k = 28
  · subst h28
    exact right_sixteen d w
  by_cases h2 : k = 2
  · subst h2
    exact right_ns d w
  by_cases h5 : k = 5
  · subst h5
    exact right_cname d w
  by_cases h39 : k = 39
  · subst h39
    exact right_dname d w
  by_cases h6 : k = 6
  · subst h6
    exact right_soa d w
  by_cases h15 : k = 15
  · subst h15
    exact right_mail d w
  by_cases h16 : k = 16
  · subst h16
    exact right_texts d w
  by_cases h43 : k = 43
  · subst h43
    exact right_ds d w
  by_cases h46 : k = 46
  · subst h46
    exact right_sig d w
  by_cases h47 : k = 47
  · subst h47
    exact right_nsec d w
  by_cases h48 : k = 48
  · subst h48
    have e2 : (decide (d.size ≤ 2000) && formRight 48 d) = keyRight d := by
      show (decide (d.size ≤ 2000) && keyRight d) = keyRight d
      rw [keyRight]; by_cases h : d.size ≤ 2000 <;> simp [h]
    rw [e2]; exact right_key d w
  by_cases h50 : k = 50
  · subst h50
    exact right_nsec3 d w
  have e3 : formRight k d = true := by rw [formRight, if_neg h1, if_neg h28, if_neg h2, if_neg h5, if_neg h39, if_neg h6, if_neg h15, if_neg h16, if_neg h43, if_neg h46, if_neg h47, if_neg h48, if_neg h50]
  rw [e3]
  exact right_other k d w ⟨h1, h28, h2, h5, h39, h6, h15, h16, h43, h46, h47, h48, h50⟩ hr.1 hr.2
end Go.Proofs.YtdflhnbpcnmpfaaGreatDoor

/- slices.Replace at []byte, where what comes is as long as what goes. -/
namespace Go.Proofs.YtdflhnbpcnmpfaaGreatDoor
open Go.RowKit

/-- Block g holds these bytes at its beginning, and they may be written. -/
def RowAt (g : Nat) (l : List UInt8) (w : World) : Prop := g < w.heap.size ∧ ∀ k, k < l.length → w.cell? ⟨g, k, none⟩ = some (bv (l.getD k 0)) ∧ w.frozen? ⟨g, k, none⟩ = false
def splice (l : List UInt8) (i : Nat) (x : List UInt8) : List UInt8 := l.take i ++ x ++ l.drop (i + x.length)
theorem splice_len {l : List UInt8} {i : Nat} {x : List UInt8} (h : i + x.length ≤ l.length) : (splice l i x).length = l.length := by simp [splice]; omega
theorem splice_get {l : List UInt8} {i : Nat} {x : List UInt8} (h : i + x.length ≤ l.length) (k : Nat) : (splice l i x).getD k 0 = if i ≤ k ∧ k < i + x.length then x.getD (k - i) 0 else l.getD k 0 := by
  simp only [splice, List.getD]
  by_cases h1 : k < i
  · rw [if_neg (by omega), List.append_assoc, List.getElem?_append_left (by simp; omega), List.getElem?_take, if_pos h1]
  · by_cases h2 : k < i + x.length
    · rw [if_pos ⟨by omega, h2⟩, List.getElem?_append_left (by simp; omega), List.getElem?_append_right (by simp; omega)]
      congr 2; simp; omega
    · rw [if_neg (by omega), List.getElem?_append_right (by simp; omega), List.getElem?_drop]
      congr 2; simp; omega
theorem Only.setCells (g : Nat) : ∀ (vs : List Value) (o : Nat) (w : World), Only g w (w.setCells g o vs)
  | [], _, w => Only.refl g w
  | v :: vs, o, w => (Only.setCell ⟨g, o, none⟩ rfl v).trans (Only.setCells g vs (o + 1) (w.setCell ⟨g, o, none⟩ v))
theorem Only.drewN {g : Nat} {w w' : World} (n : Nat) (h : Only g w w') : Only g w (w'.drewN n) := ⟨h.os, h.tape, h.output, h.size, h.block⟩
theorem RowAt.put {g : Nat} {l : List UInt8} {w : World} (h : RowAt g l w) {i : Nat} {x : List UInt8} (hx : i + x.length ≤ l.length) : RowAt g (splice l i x) (w.setCells g i (x.map bv)) := by
  refine ⟨Nat.lt_of_lt_of_le h.1 (Only.setCells g _ _ w).size, fun k hk => ⟨?_, ?_⟩⟩
  · rw [splice_len hx] at hk
    rw [splice_get hx]
    by_cases hin : i ≤ k ∧ k < i + x.length
    · rw [if_pos hin]
      have := World.cell?_setCells_in g (x.map bv) i w (fun j hj => by rw [(h.2 (i + j) (by simp at hj; omega)).1]; rfl) (k - i) (by simp; omega)
      rw [show i + (k - i) = k by omega] at this
      rw [this]
      simp [List.getD, List.getElem?_eq_getElem (show k - i < x.length by omega)]
    · rw [if_neg hin, World.cell?_setCells_out g _ i w ⟨g, k, none⟩ (fun _ _ => by simp only [List.length_map]; show k < i ∨ i + x.length ≤ k; omega)]
      exact (h.2 k hk).1
  · rw [World.frozen?_setCells]
    rw [splice_len hx] at hk
    exact (h.2 k hk).2
theorem splice_self (l : List UInt8) (j : Nat) (h : j ≤ l.length) : splice l j (l.drop j) = l := by
  unfold splice
  rw [List.take_append_drop, List.length_drop, List.drop_of_length_le (by omega), List.append_nil]
theorem RowAt.srcAt {g : Nat} {l : List UInt8} {w : World} (H : RowAt g l w) (j : Nat) : ∀ k u, ((l.drop j).map bv)[k]? = some u → w.cell? ((⟨g, j, none⟩ : Addr).add k) = some u := by
  intro k u hu
  rw [List.getElem?_map, Option.map_eq_some_iff] at hu
  obtain ⟨b, hb, rfl⟩ := hu
  rw [List.getElem?_drop] at hb
  have hk : j + k < l.length := by
    rcases Nat.lt_or_ge (j + k) l.length with h | h
    · exact h
    · rw [List.getElem?_eq_none h] at hb; cases hb
  have e : (⟨g, j, none⟩ : Addr).add k = ⟨g, j + k, none⟩ := by unfold Addr.add; split <;> simp_all
  rw [e, (H.2 (j + k) hk).1, List.getD, hb]; rfl
theorem zero_u8 (w : World) : (zeroValue 5).run Tryz.prog w = .ok (.int .u8 0) w := by kernel_rfl
theorem clear_none (A : Option Addr) (c : Nat) (ty : TypeId) (w : World) : (Builtin.clear_ #[69] ty #[.slice A 0 c]).run Tryz.prog w = .ok (.tuple #[]) w := by
  have hz := zero_u8
  cases A <;> simp [Builtin.clear_, run_underlying Tryz.underlying69, hz, storeCells]
theorem info_u8s : (Tryz.prog.info? 5).map (·.size) = some 1 := by kernel_rfl
theorem bv_one (x : List UInt8) : ∀ v ∈ x.map bv, v.oneCell' = true := by
  intro v hv
  simp at hv
  obtain ⟨b, _, rfl⟩ := hv
  rfl
theorem add_at (h k : Nat) : (⟨h, 0, none⟩ : Addr).add k = ⟨h, k, none⟩ := by unfold Addr.add; split <;> simp_all
theorem RowAt.src {h : Nat} {x : List UInt8} {w : World} (H : RowAt h x w) : ∀ j u, (x.map bv)[j]? = some u → w.cell? ((⟨h, 0, none⟩ : Addr).add j) = some u := by
  intro j u hu
  rw [List.getElem?_map, Option.map_eq_some_iff] at hu
  obtain ⟨b, hb, rfl⟩ := hu
  have hj : j < x.length := by
    rcases Nat.lt_or_ge j x.length with h | h
    · exact h
    · rw [List.getElem?_eq_none h] at hb; cases hb
  rw [add_at, (H.2 j hj).1, List.getD, hb]; rfl
theorem RowAt.only {g h : Nat} {x : List UInt8} {w w' : World} (H : RowAt h x w) (hb : Only g w w') (hne : h ≠ g) : RowAt h x w' := by
  refine ⟨Nat.lt_of_lt_of_le H.1 hb.size, fun k hk => ?_⟩
  have e := hb.block h H.1 hne
  rw [World.cell?_of_block (w := w) (a := ⟨h, k, none⟩) e, World.frozen?_of_block (w := w) (a := ⟨h, k, none⟩) e]
  exact H.2 k hk

theorem wpList_append_run {P : Program} (w : World) {ops : Array Oper} {rest : List Oper} {o : Oper} {a : Act} {Q : Exit → Act → World → Prop} (hgd : o.guard = none) (d s : Operand) (t t' : TypeId)
    (ho : o.op = .call { callee := .builtin .append, args := #[d, s], argTypes := #[t, t'] }) (v u : Value) (hd : a.eval d = v) (hs : a.eval s = u) {v' : Value} {w' : World}
    (hr : (Builtin.append_ #[t, t'] o.type #[v, u]).run P w = .ok v' w') (h : wpList P ops Q rest (a.put o.dst v') w') : wpList P ops Q (o :: rest) a w := by
  refine wpList_plain hgd fun K hK => ?_
  unfold Oper.wp execOp
  simp only [ho, resolve, invoke, builtin, Sem.run_bind, Sem.run_pure, Result.andThen_ok, List.map_toArray, List.map_cons, List.map_nil, hd, hs, hr]
  exact hK _ _ h

def ReplaceP (g : Nat) (n cap : Nat) (l : List UInt8) (w : World) (e : Ending) (w' : World) : Prop :=
  e = .returned (.slice (some ⟨g, 0, none⟩) n cap) ∧ RowAt g l w' ∧ Only g w w'

set_option maxRecDepth 100000 in
set_option maxHeartbeats 1000000 in
theorem replace_end (g h cap c i : Nat) (l x : List UInt8) (w : World) (hl : RowAt g l w) (hx : RowAt h x w) (hne : h ≠ g) (hi : i + x.length = l.length) (h0 : 0 < x.length) (hcap : l.length ≤ cap) (hm : cap ≤ maxLen) :
    Calls Tryz.prog 84 #[.slice (some ⟨g, 0, none⟩) l.length cap, .int .i64 (i : Int), .int .i64 (l.length : Int), .slice (some ⟨h, 0, none⟩) x.length c] w (ReplaceP g l.length cap (splice l i x) w) := by
  obtain ⟨i0, hi0, hzz⟩ := Option.map_eq_some_iff.1 info_u8b
  simp only [Prod.mk.injEq] at hzz
  obtain ⟨hz0, hz1, hz2⟩ := hzz
  have hrun := run_append_room_cells (P := Tryz.prog) w 69 69 5 i0 Tryz.underlying69 hi0 g 0 i cap ⟨h, 0, none⟩ x.length c (x.map bv) (by simp [hz1]) hx.src (bv_one x) (by omega)
    (fun j hj => by rw [hz1, Nat.mul_one, Nat.zero_add, (hl.2 (i + j) (by simp at hj; omega)).1]; rfl) (fun j hj => by rw [hz1, Nat.mul_one, Nat.zero_add]; exact (hl.2 (i + j) (by simp at hj; omega)).2)
  rw [hz1, Nat.mul_one, Nat.zero_add, show i + x.length = l.length by omega] at hrun
  have hP : ReplaceP g l.length cap (splice l i x) w (.returned (.slice (some ⟨g, 0, none⟩) l.length cap)) (w.setCells g i (x.map bv)) := ⟨rfl, hl.put (by omega), Only.setCells g _ _ w⟩
  have HP := Lib.hid hP; have HR := Lib.hid hrun
  have q1 : (i : Int) ≤ (l.length : Int) := by omega
  have q2 : (l.length : Int) ≤ (cap : Int) := by omega
  have q3 : ((i : Int) == (l.length : Int)) = false := by rw [beq_eq_false_iff_ne]; omega
  have q4 : (i : Int) ≤ (cap : Int) := by omega
  have q5 : ((l.length : Int) == (l.length : Int)) = true := by simp
  have q6 : ¬ cap = i := by omega
  clear hP hrun hl hx hi hz0 hz1 hz2 hi0 h0
  go_enter Tryz.func84, Tryz.ntmps84
  go_wp2_with (at_builtin; go_loud (refine wpList_append_run _ rfl (.tmp 32) (.tmp 33) _ _ rfl _ _ rfl rfl HR.out ?_))
  go_ret
  exact HP.out

set_option maxRecDepth 100000 in
set_option maxHeartbeats 1000000 in
theorem replace_mid (g h cap c i j : Nat) (l x : List UInt8) (w : World) (hl : RowAt g l w) (hx : RowAt h x w) (hne : h ≠ g) (hj : j = i + x.length) (hi : j < l.length) (h0 : 0 < x.length) (hcap : l.length ≤ cap) (hm : cap ≤ maxLen) :
    Calls Tryz.prog 84 #[.slice (some ⟨g, 0, none⟩) l.length cap, .int .i64 (i : Int), .int .i64 (j : Int), .slice (some ⟨h, 0, none⟩) x.length c] w (ReplaceP g l.length cap (splice l i x) w) := by
  unfold maxLen at hm
  have q1 : (i : Int) ≤ (j : Int) := by omega
  have q2 : (j : Int) ≤ (cap : Int) := by omega
  have q3 : ((i : Int) == (j : Int)) = false := by rw [beq_eq_false_iff_ne]; omega
  have q4 : (i : Int) ≤ (cap : Int) := by omega
  have q5 : ((j : Int) == (l.length : Int)) = false := by rw [beq_eq_false_iff_ne]; omega
  have q6 : ¬ cap = i := by omega
  have q7 : ¬ cap = j := by omega
  have q8 : (j : Int) ≤ (l.length : Int) := by omega
  have r1 : IntKind.i64.wrap ((i : Int) + (x.length : Int)) = (j : Int) := by rw [hj]; exact IntWalk.i64_in _ (by omega)
  have r2 : IntKind.i64.wrap ((j : Int) + ((l.length - j : Nat) : Int)) = (l.length : Int) := by rw [show (j : Int) + ((l.length - j : Nat) : Int) = (l.length : Int) by omega]; exact IntWalk.i64_in _ (by omega)
  have q9 : decide ((cap : Int) < (l.length : Int)) = false := decide_eq_false (by omega)
  have qa : ((l.length : Nat) : Int) ≤ (cap : Int) := by omega
  have e3 : ((j : Int)).toNat = j := by omega
  have HL := Lib.hid hl; have HX := Lib.hid hx; have HJ := Lib.hid hj; have H0 := Lib.hid (And.intro hi (And.intro h0 hcap))
  clear hl hx hj h0 hcap
  go_enter Tryz.func84, Tryz.ntmps84
  go_wp2_with fail
  go_quiet (fail)
  have HL1 : Hid (RowAt g l (w.drewN nq)) := HL
  have HX1 : Hid (RowAt h x (w.drewN nq)) := HX
  have HO1 : Hid (Only g w (w.drewN nq)) := Lib.hid (Only.drewN nq (Only.refl g w))
  generalize w.drewN nq = W1 at *
  clear HL HX
  have hrun := run_copy_cells (P := Tryz.prog) W1 69 69 3 5 g i (l.length - i) (cap - i) ⟨h, 0, none⟩ x.length c (x.map bv) Tryz.underlying69 info_u8s (by have h1 := HJ.out; have h2 := H0.out; rw [List.length_map]; show x.length = min x.length (l.length - i); omega) HX1.out.src
    (fun k hk => by have := HJ.out; rw [(HL1.out.2 (i + k) (by simp at hk; omega)).1]; rfl) (fun k hk => by have := HJ.out; exact (HL1.out.2 (i + k) (by simp at hk; omega)).2) (bv_one x)
  have HR := Lib.hid hrun
  have HP1 := Lib.hid (HL1.out.put (i := i) (x := x) (by have := HJ.out; omega))
  have HO2 := Lib.hid (HO1.out.trans (Only.setCells g (x.map bv) i W1))
  clear hrun
  go_wp2_with fail
  rw [HR.out]
  simp only [Result.andThen_ok]
  rw [Oper.upon_value]
  clear HR
  generalize W1.setCells g i (x.map bv) = W2 at *
  go_wp2_with fail
  go_frame
  go_still_tail 9, (by kernel_rfl)
  change wpList _ _ _ _ _ W2.drew
  have HP2 : Hid (RowAt g (splice l i x) W2.drew) := HP1
  have HO3 : Hid (Only g w W2.drew) := Lib.hid HO2.out.drew
  generalize W2.drew = W3 at *
  have hlen : (splice l i x).length = l.length := splice_len (by have := HJ.out; omega)
  have hrun := run_copy_cells (P := Tryz.prog) W3 69 69 3 5 g j (l.length - j) (cap - j) ⟨g, j, none⟩ (l.length - j) (cap - j) (((splice l i x).drop j).map bv) Tryz.underlying69 info_u8s (by rw [List.length_map, List.length_drop, hlen]; show _ = min (l.length - j) (l.length - j); omega) (HP2.out.srcAt j)
    (fun k hk => by rw [List.length_map, List.length_drop] at hk; rw [(HP2.out.2 (j + k) (by omega)).1]; rfl) (fun k hk => by rw [List.length_map, List.length_drop] at hk; exact (HP2.out.2 (j + k) (by omega)).2) (bv_one _)
  have hP := HP2.out.put (i := j) (x := (splice l i x).drop j) (by rw [List.length_drop]; omega)
  rw [splice_self _ _ (by omega)] at hP
  have HR := Lib.hid hrun
  have HP3 := Lib.hid hP
  have HO4 := Lib.hid (HO3.out.trans (Only.setCells g (((splice l i x).drop j).map bv) j W3))
  clear hrun hP hlen HP2 HO3 HP1 HO2
  refine Lib.wpList_copy_run W3 rfl (.tmp 103) (.tmp 106) _ _ rfl _ _ rfl rfl HR.out ?_
  clear HR
  generalize W3.setCells g j (((splice l i x).drop j).map bv) = W4 at *
  go_wp2_with fail
  all_goals
    rw [clear_none]
    simp only [Result.andThen_ok]
    rw [Oper.upon_value]
    go_wp2_with fail
    go_ret
    first
      | exact ⟨rfl, HP3.out, HO4.out⟩
      | (have hc : cap = l.length := by assumption
         refine ⟨?_, HP3.out, HO4.out⟩
         rw [hc]; rfl)

theorem replace_any (g h cap c i n m : Nat) (jj : Int) (l x : List UInt8) (w : World) (hl : RowAt g l w) (hx : RowAt h x w) (hne : h ≠ g) (hn : l.length = n) (hm : x.length = m) (hj : jj = (i : Int) + (m : Int)) (hi : i + m ≤ n) (h0 : 0 < m) (hcap : n ≤ cap) (hmax : cap ≤ maxLen) :
    Calls Tryz.prog 84 #[.slice (some ⟨g, 0, none⟩) n cap, .int .i64 (i : Int), .int .i64 jj, .slice (some ⟨h, 0, none⟩) m c] w (ReplaceP g n cap (splice l i x) w) := by
  subst hn hm
  by_cases he : i + x.length = l.length
  · obtain rfl : jj = (l.length : Int) := by omega
    exact replace_end g h cap c i l x w hl hx hne he h0 hcap hmax
  · obtain rfl : jj = ((i + x.length : Nat) : Int) := by omega
    exact replace_mid g h cap c i (i + x.length) l x w hl hx hne rfl (by omega) h0 hcap hmax
end Go.Proofs.YtdflhnbpcnmpfaaGreatDoor

/- data's sink: bytes that are put together. -/
namespace Go.Proofs.YtdflhnbpcnmpfaaGreatDoor
open Go.RowKit

theorem OwnB.len {base : Nat} {v : Value} {l : List UInt8} {w : World} (h : OwnB base v l w) : ∃ A c, v = .slice A l.length c := by
  rcases h.2 with ⟨rfl, h0⟩ | ⟨g, cap, cur, rfl, _⟩
  · exact ⟨none, 0, by rw [show l.length = 0 by simpa using h0]⟩
  · exact ⟨_, _, rfl⟩
theorem OwnB.block {base : Nat} {v : Value} {l : List UInt8} {w w' : World} (h : OwnB base v l w) (hb : ∀ k, v.ownBlock = some k → w'.heap[k]? = w.heap[k]?) : OwnB base v l w' := by
  refine ⟨h.1, ?_⟩
  rcases h.2 with h1 | ⟨g, cap, cur, h1, h2, h3, h4⟩
  · exact .inl h1
  · exact .inr ⟨g, cap, cur, h1, h2, by rw [hb g (by rw [h1]; rfl)]; exact h3, h4⟩
theorem OwnB.set {base : Nat} {v : Value} {l : List UInt8} {w : World} (h : OwnB base v l w) (p : Addr) (hp : p.block < base) (x : Value) : OwnB base v l (w.setCell p x) :=
  h.block fun k hk => heap_setCell_other _ _ _ _ (by have := ownBase h k hk; omega)

/-- An append as a step of a region that draws. -/
theorem ownB_step {ops : Array Oper} {o : Oper} {a : Act} {K : Act → World → Prop} {Q : Exit → Act → World → Prop} {E : Prop} {base : Nat} {v : Value} {l : List UInt8} {W : World} (HO : OwnB base v l W) (hbase : base ≤ W.heap.size) (bs : List UInt8) (hl : l.length + bs.length ≤ 140737488355328)
    (hgd : o.guard = none) (s x : Operand) (ho : o.op = .call { callee := .builtin .append, args := #[s, x], argTypes := #[69, 69] }) (cs : Array Value) (m c : Nat) (hs : a.eval s = v) (hx : a.eval x = .slice (some ⟨W.heap.size, 0, none⟩) m c) (hcs : cs = (bs.map bv).toArray) (hm : m = bs.length)
    (h : ∀ v1 w1, OwnB base v1 (l ++ bs) w1 → (W.alloc (.cells cs 5)).grownBy w1 v.ownBlock → (v1.ownBlock = v.ownBlock ∨ v1.ownBlock = some (W.heap.size + 1)) → K (a.put o.dst v1) w1) :
    if Region.wanted o (yielded ops a.tmps) = true then Oper.wp Tryz.prog o a (W.alloc (.cells cs 5)) K Q else E := by
  have hw : Region.wanted o (yielded ops a.tmps) = true := by simp [Region.wanted, hgd]
  rw [if_pos hw]
  subst hcs hm
  obtain ⟨i0, hi, hzz⟩ := Option.map_eq_some_iff.1 info_u8b
  simp only [Prod.mk.injEq] at hzz
  obtain ⟨hz0, hz1, hz2⟩ := hzz
  obtain ⟨v1, w1, hrun, hown, hg, _, hat⟩ := run_append_own_at (P := Tryz.prog) (W.alloc (.cells (bs.map bv).toArray 5)) base 69 o.type 5 i0 (.int .u8 0) 1 1 Tryz.underlying69 hi hz0 hz1 hz2 rfl (by omega) v l.length (l.map bv) (HO.alloc _)
    ⟨W.heap.size, 0, none⟩ bs.length c (bs.map bv) (by simp) (World.news_of_block (cs := (bs.map bv).toArray) (t := 5) (fr := (0, 0)) (heap_alloc_new W _)) (by intro u hu; simp at hu; obtain ⟨b, _, rfl⟩ := hu; rfl) (by simp only [maxLen]; omega) (by omega) (by simp; omega)
  unfold Oper.wp execOp
  simp only [ho, resolve, invoke, builtin, Sem.run_bind, Sem.run_pure, Result.andThen_ok, List.map_toArray, List.map_cons, List.map_nil, hs, hx, hrun]
  exact h v1 w1 (by simpa [OwnB] using hown) hg (by simpa using hat)

/-- A sink in block b: these bytes, and whether something was wrong. -/
def Sk (b : Nat) (l : List UInt8) (wr : Bool) (w : World) : Prop := ∃ v, Blk w b #[v, .bool wr] 74 ∧ OwnB (b + 1) v l w
/-- Block k is not the row of the sink in b. -/
def NotRow (w : World) (b k : Nat) : Prop := ∀ v, w.cell? ⟨b, 0, none⟩ = some v → v.ownBlock ≠ some k
def SkKeep (b : Nat) (w w' : World) : Prop := ∀ k, k < w.heap.size → k ≠ b → NotRow w b k → w'.heap[k]? = w.heap[k]? ∧ NotRow w' b k
theorem SkKeep.refl (b : Nat) (w : World) : SkKeep b w w := fun _ _ _ h => ⟨rfl, h⟩
theorem SkKeep.trans {b : Nat} {u v w : World} (h : SkKeep b u v) (hs : u.heap.size ≤ v.heap.size) (k : SkKeep b v w) : SkKeep b u w := fun j h1 h2 h3 =>
  have a := h j h1 h2 h3
  have c := k j (by omega) h2 a.2
  ⟨c.1.trans a.1, c.2⟩
theorem Sk.lt {b : Nat} {l : List UInt8} {wr : Bool} {w : World} (h : Sk b l wr w) : b < w.heap.size := by obtain ⟨v, hB, _⟩ := h; exact hB.lt
theorem Sk.drew {b : Nat} {l : List UInt8} {wr : Bool} {w : World} (h : Sk b l wr w) : Sk b l wr w.drew := h
theorem Sk.flag {b : Nat} {l : List UInt8} {wr : Bool} {w : World} (h : Sk b l wr w) (x : Bool) : Sk b l x (w.setCell ⟨b, 1, none⟩ (.bool x)) ∧ SkKeep b w (w.setCell ⟨b, 1, none⟩ (.bool x)) := by
  obtain ⟨v, hB, hO⟩ := h
  have hB2 : Blk (w.setCell ⟨b, 1, none⟩ (.bool x)) b #[v, .bool x] 74 := by simpa using hB.set 1 (.bool x)
  refine ⟨⟨v, hB2, hO.set ⟨b, 1, none⟩ (by simp) _⟩, fun k _ hk hn => ⟨heap_setCell_other _ _ _ _ (by simpa using hk), fun u hu => ?_⟩⟩
  rw [hB2.cell 0] at hu
  exact hn u (by rw [hB.cell 0]; exact hu)
theorem sk_put {b : Nat} {l xs : List UInt8} {wr : Bool} {W w1 : World} {o : Obj} {v v1 : Value} (hB : Blk W b #[v, .bool wr] 74) (hO : OwnB (b + 1) v l W) (h1 : OwnB (b + 1) v1 (l ++ xs) w1) (hg : (W.alloc o).grownBy w1 v.ownBlock)
    (hat : v1.ownBlock = v.ownBlock ∨ v1.ownBlock = some (W.heap.size + 1)) : Blk w1 b #[v, .bool wr] 74 ∧ Sk b (l ++ xs) wr (w1.setCell ⟨b, 0, none⟩ v1) ∧ Below b W (w1.setCell ⟨b, 0, none⟩ v1) ∧ SkKeep b W (w1.setCell ⟨b, 0, none⟩ v1) := by
  have hob := ownBase hO
  have hlt := hB.lt
  have hal : Below W.heap.size W (W.alloc o) := (Below.refl _ W).alloc (Nat.le_refl _) o
  have hsz : (W.alloc o).heap.size = W.heap.size + 1 := by simp
  have hkeep : ∀ k, k < W.heap.size → some k ≠ v.ownBlock → w1.heap[k]? = W.heap[k]? := fun k hk hne => (hg.block k (by omega) hne).trans (hal.block k hk)
  have hB1 : Blk w1 b #[v, .bool wr] 74 := by
    unfold Blk; rw [hkeep b hlt (fun e => by have := hob b e.symm; omega)]; exact hB
  have hB2 : Blk (w1.setCell ⟨b, 0, none⟩ v1) b #[v1, .bool wr] 74 := by simpa using hB1.set 0 v1
  have hs1 : W.heap.size ≤ w1.heap.size := by have := hg.size; omega
  refine ⟨hB1, ⟨v1, hB2, h1.set ⟨b, 0, none⟩ (by simp) _⟩, ⟨hg.os.trans hal.os, hg.tape.trans hal.tape, hg.output.trans hal.output, by simpa using hs1, fun k hk => ?_⟩, fun k hk hne hn => ⟨?_, fun u hu => ?_⟩⟩
  · rw [heap_setCell_other _ _ _ _ (by simp; omega)]
    exact hkeep k (by omega) (fun e => by have := hob k e.symm; omega)
  · rw [heap_setCell_other _ _ _ _ (by simpa using hne)]
    exact hkeep k hk (fun e => hn v (hB.cell 0) e.symm)
  · rw [hB2.cell 0] at hu
    obtain rfl : v1 = u := by simpa using hu
    rcases hat with e | e <;> rw [e]
    · exact hn v (hB.cell 0)
    · intro h; cases h; omega

def byteAt (v : Int) (k : Nat) : UInt8 := UInt8.ofNat ((v / 2 ^ (8 * k)) % 256).toNat
def numB (v : Int) : Nat → List UInt8
  | 0 => []
  | k + 1 => byteAt v k :: numB v k
theorem numB_len (v : Int) (n : Nat) : (numB v n).length = n := by
  induction n with
  | zero => rfl
  | succ n ih => simp [numB, ih]
theorem byteAt_int (v : Int) (k : Nat) : (v / 2 ^ (8 * k)) % 256 = ((byteAt v k).toNat : Int) := by
  unfold byteAt
  have h0 := Int.emod_nonneg (v / 2 ^ (8 * k)) (show (256 : Int) ≠ 0 by omega)
  have h1 := Int.emod_lt_of_pos (v / 2 ^ (8 * k)) (show (0 : Int) < 256 by omega)
  simp
  omega
def badNum (v : Int) (n : Nat) : Bool := decide (v < 0) || decide (v / 2 ^ (8 * n) ≠ 0)

set_option maxRecDepth 100000 in
set_option maxHeartbeats 1000000 in
theorem sink_number_t (b : Nat) (l : List UInt8) (v : Int) (n : Nat) (w : World) (hS : Sk b l true w) (hn : n ≤ 4) (hl : l.length ≤ 100000) :
    Calls Tryz.prog 60 #[.pointer (some ⟨b, 0, none⟩), .int .i64 v, .int .i64 n] w fun e w' => e = .returned (.tuple #[]) ∧ Sk b (l ++ numB v n) true w' ∧ Below b w w' ∧ SkKeep b w w' := by
  have hfl := hS.flag true
  have H0 := Lib.hid (show Sk b l true (w.setCell ⟨b, 1, none⟩ (.bool true)) ∧ Below b w (w.setCell ⟨b, 1, none⟩ (.bool true)) ∧ SkKeep b w (w.setCell ⟨b, 1, none⟩ (.bool true)) from ⟨hfl.1, Below.setCell (p := ⟨b, 1, none⟩) (Below.refl _ _) (Nat.le_refl _) _, hfl.2⟩)
  obtain ⟨u, hB, hO⟩ := hS
  obtain ⟨A, c, rfl⟩ := OwnB.len hO
  have c1 : w.cell? ⟨b, 1, none⟩ = some (.bool true) := hB.cell 1
  have f0 := fun j => hB.free j
  clear hB hO hfl
  go_enter Tryz.func60, Tryz.ntmps60
  go_wp2
  go_loopw [6] (fun i wr => ∃ (k : Nat) (l' : List UInt8), k ≤ n ∧ i = .int .i64 ((k : Int) - 1) ∧ Hid (l' ++ numB v k = l ++ numB v n ∧ l'.length ≤ 100004 - k) ∧ Hid (Sk b l' true wr ∧ Below b w wr ∧ SkKeep b w wr)) (fun i _ => (intOf i + 1).toNat)
  case atStart => exact ⟨n, l, Nat.le_refl _, by first | rfl | (congr 1; omega), Lib.hid ⟨rfl, by omega⟩, H0⟩
  case round =>
    obtain ⟨k, l', hk, rfl, HL, HS⟩ := hrel
    by_cases hk0 : k = 0
    · subst hk0
      have hl := HL.out.1
      rw [numB, List.append_nil] at hl
      subst hl
      go_wp2
      go_end0
      exact ⟨rfl, HS.out⟩
    · obtain ⟨k, rfl⟩ : ∃ j, k = j + 1 := ⟨k - 1, by omega⟩
      have e : ((k + 1 : Nat) : Int) - 1 = (k : Int) := by omega
      rw [e]
      clear hk0 e
      have e1 := Lib.hid (byteAt_int v k)
      obtain ⟨u, hB, hO⟩ := HS.out.1
      obtain ⟨A, c, rfl⟩ := OwnB.len hO
      have hB' : Blk wr.drew b #[.slice A l'.length c, .bool true] 74 := hB
      have hO' : OwnB (b + 1) (.slice A l'.length c) l' wr.drew := hO
      have c0 : wr.cell? ⟨b, 0, none⟩ = some (.slice A l'.length c) := hB.cell 0
      have f0 := fun j => hB.free j
      have HB := Lib.hid hB'; have HO := Lib.hid hO'
      have hlt := hB.lt
      have HLT := Lib.hid hlt
      clear hB hO hB' hO'
      have e2 : IntKind.i64.wrap (8 * (k : Int)) = 8 * (k : Int) := IntWalk.i64_in _ (by omega)
      have e3 : (0 : Int) ≤ 8 * (k : Int) := by omega
      have e4 : (8 * (k : Int)).toNat = 8 * k := by omega
      have e5 : min (8 * k) 64 = 8 * k := by omega
      have E7 : Hid (IntKind.u8.wrap (v / 2 ^ (8 * k)) = ((byteAt v k).toNat : Int)) := Lib.hid (by rw [← byteAt_int]; rfl)
      have e6 : v / 2 ^ (8 * k) % 256 = ((byteAt v k).toNat : Int) := byteAt_int v k
      clear e1
      go_wp2_with fail
      go_region_law (refine ownB_step HO.out (by have := HLT.out; show b + 1 ≤ wr.drew.heap.size; simp; omega) [byteAt v k] (by have := HL.out.2; simp; omega) rfl _ _ rfl _ 1 1 rfl rfl (by rw [E7.out]; rfl) rfl ?_; intro v1 w1 a1 a2 a3; obtain ⟨A1, c1, rfl⟩ := OwnB.len a1; have HP := Lib.hid (sk_put HB.out HO.out a1 a2 a3); clear a1 a2 a3; have d0 : w1.cell? ⟨b, 0, none⟩ = some (.slice A l'.length c) := HP.out.1.cell 0; have g0 := fun j => HP.out.1.free j)
      all_goals
        have hp := HP.out.2
        simp only [List.length_append, List.length_cons, List.length_nil, Nat.zero_add] at hp
        have hb1 : Below b w wr.drew := ⟨HS.out.2.1.os, HS.out.2.1.tape, HS.out.2.1.output, HS.out.2.1.size, HS.out.2.1.block⟩
        have hk1 : SkKeep b w wr.drew := HS.out.2.2
        have HN := Lib.hid (And.intro hp.1 (And.intro (hb1.trans hp.2.1) (hk1.trans HS.out.2.1.size hp.2.2)))
        have HM : Hid ((l' ++ [byteAt v k]) ++ numB v k = l ++ numB v n ∧ (l' ++ [byteAt v k]).length ≤ 100004 - k) := Lib.hid ⟨by rw [← HL.out.1, numB, List.append_assoc]; rfl, by have := HL.out.2; simp; omega⟩
        clear hp hb1 hk1 HP d0 g0 HL HS HB HO c0 f0 e2 e3 e4 e5 e6 E7 hlt
        go_wp2
        go_roundw
        case rel => exact ⟨k, _, by omega, by go_num, HM, HN⟩
        case measure => simp [intOf]
set_option maxRecDepth 100000 in
set_option maxHeartbeats 1000000 in
theorem sink_number_neg (b : Nat) (l : List UInt8) (v : Int) (n : Nat) (w : World) (hS : Sk b l false w) (hn : n ≤ 4) (hl : l.length ≤ 100000) (hv : v < 0) :
    Calls Tryz.prog 60 #[.pointer (some ⟨b, 0, none⟩), .int .i64 v, .int .i64 n] w fun e w' => e = .returned (.tuple #[]) ∧ Sk b (l ++ numB v n) true w' ∧ Below b w w' ∧ SkKeep b w w' := by
  have hfl := hS.flag true
  have H0 := Lib.hid (show Sk b l true (w.setCell ⟨b, 1, none⟩ (.bool true)) ∧ Below b w (w.setCell ⟨b, 1, none⟩ (.bool true)) ∧ SkKeep b w (w.setCell ⟨b, 1, none⟩ (.bool true)) from ⟨hfl.1, Below.setCell (p := ⟨b, 1, none⟩) (Below.refl _ _) (Nat.le_refl _) _, hfl.2⟩)
  obtain ⟨u, hB, hO⟩ := hS
  obtain ⟨A, c, rfl⟩ := OwnB.len hO
  have c1 : w.cell? ⟨b, 1, none⟩ = some (.bool false) := hB.cell 1
  have f0 := fun j => hB.free j
  clear hB hO hfl
  have t1 : decide (v < 0) = true := decide_eq_true hv
  go_enter Tryz.func60, Tryz.ntmps60
  go_wp2
  clear t1
  go_loopw [6] (fun i wr => ∃ (k : Nat) (l' : List UInt8), k ≤ n ∧ i = .int .i64 ((k : Int) - 1) ∧ Hid (l' ++ numB v k = l ++ numB v n ∧ l'.length ≤ 100004 - k) ∧ Hid (Sk b l' true wr ∧ Below b w wr ∧ SkKeep b w wr)) (fun i _ => (intOf i + 1).toNat)
  case atStart => exact ⟨n, l, Nat.le_refl _, by first | rfl | (congr 1; omega), Lib.hid ⟨rfl, by omega⟩, H0⟩
  case round =>
    obtain ⟨k, l', hk, rfl, HL, HS⟩ := hrel
    by_cases hk0 : k = 0
    · subst hk0
      have hl := HL.out.1
      rw [numB, List.append_nil] at hl
      subst hl
      go_wp2
      go_end0
      exact ⟨rfl, HS.out⟩
    · obtain ⟨k, rfl⟩ : ∃ j, k = j + 1 := ⟨k - 1, by omega⟩
      have e : ((k + 1 : Nat) : Int) - 1 = (k : Int) := by omega
      rw [e]
      clear hk0 e
      have e1 := Lib.hid (byteAt_int v k)
      obtain ⟨u, hB, hO⟩ := HS.out.1
      obtain ⟨A, c, rfl⟩ := OwnB.len hO
      have hB' : Blk wr.drew b #[.slice A l'.length c, .bool true] 74 := hB
      have hO' : OwnB (b + 1) (.slice A l'.length c) l' wr.drew := hO
      have c0 : wr.cell? ⟨b, 0, none⟩ = some (.slice A l'.length c) := hB.cell 0
      have f0 := fun j => hB.free j
      have HB := Lib.hid hB'; have HO := Lib.hid hO'
      have hlt := hB.lt
      have HLT := Lib.hid hlt
      clear hB hO hB' hO'
      have e2 : IntKind.i64.wrap (8 * (k : Int)) = 8 * (k : Int) := IntWalk.i64_in _ (by omega)
      have e3 : (0 : Int) ≤ 8 * (k : Int) := by omega
      have e4 : (8 * (k : Int)).toNat = 8 * k := by omega
      have e5 : min (8 * k) 64 = 8 * k := by omega
      have E7 : Hid (IntKind.u8.wrap (v / 2 ^ (8 * k)) = ((byteAt v k).toNat : Int)) := Lib.hid (by rw [← byteAt_int]; rfl)
      have e6 : v / 2 ^ (8 * k) % 256 = ((byteAt v k).toNat : Int) := byteAt_int v k
      clear e1
      go_wp2_with fail
      go_region_law (refine ownB_step HO.out (by have := HLT.out; show b + 1 ≤ wr.drew.heap.size; simp; omega) [byteAt v k] (by have := HL.out.2; simp; omega) rfl _ _ rfl _ 1 1 rfl rfl (by rw [E7.out]; rfl) rfl ?_; intro v1 w1 a1 a2 a3; obtain ⟨A1, c1, rfl⟩ := OwnB.len a1; have HP := Lib.hid (sk_put HB.out HO.out a1 a2 a3); clear a1 a2 a3; have d0 : w1.cell? ⟨b, 0, none⟩ = some (.slice A l'.length c) := HP.out.1.cell 0; have g0 := fun j => HP.out.1.free j)
      all_goals
        have hp := HP.out.2
        simp only [List.length_append, List.length_cons, List.length_nil, Nat.zero_add] at hp
        have hb1 : Below b w wr.drew := ⟨HS.out.2.1.os, HS.out.2.1.tape, HS.out.2.1.output, HS.out.2.1.size, HS.out.2.1.block⟩
        have hk1 : SkKeep b w wr.drew := HS.out.2.2
        have HN := Lib.hid (And.intro hp.1 (And.intro (hb1.trans hp.2.1) (hk1.trans HS.out.2.1.size hp.2.2)))
        have HM : Hid ((l' ++ [byteAt v k]) ++ numB v k = l ++ numB v n ∧ (l' ++ [byteAt v k]).length ≤ 100004 - k) := Lib.hid ⟨by rw [← HL.out.1, numB, List.append_assoc]; rfl, by have := HL.out.2; simp; omega⟩
        clear hp hb1 hk1 HP d0 g0 HL HS HB HO c0 f0 e2 e3 e4 e5 e6 E7 hlt
        go_wp2
        go_roundw
        case rel => exact ⟨k, _, by omega, by go_num, HM, HN⟩
        case measure => simp [intOf]
set_option maxRecDepth 100000 in
set_option maxHeartbeats 1000000 in
theorem sink_number_big (b : Nat) (l : List UInt8) (v : Int) (n : Nat) (w : World) (hS : Sk b l false w) (hn : n ≤ 4) (hl : l.length ≤ 100000) (hv : 0 ≤ v) (hq : v / 2 ^ (8 * n) ≠ 0) :
    Calls Tryz.prog 60 #[.pointer (some ⟨b, 0, none⟩), .int .i64 v, .int .i64 n] w fun e w' => e = .returned (.tuple #[]) ∧ Sk b (l ++ numB v n) true w' ∧ Below b w w' ∧ SkKeep b w w' := by
  have hfl := hS.flag true
  have H0 := Lib.hid (show Sk b l true (w.setCell ⟨b, 1, none⟩ (.bool true)) ∧ Below b w (w.setCell ⟨b, 1, none⟩ (.bool true)) ∧ SkKeep b w (w.setCell ⟨b, 1, none⟩ (.bool true)) from ⟨hfl.1, Below.setCell (p := ⟨b, 1, none⟩) (Below.refl _ _) (Nat.le_refl _) _, hfl.2⟩)
  obtain ⟨u, hB, hO⟩ := hS
  obtain ⟨A, c, rfl⟩ := OwnB.len hO
  have c1 : w.cell? ⟨b, 1, none⟩ = some (.bool false) := hB.cell 1
  have f0 := fun j => hB.free j
  clear hB hO hfl
  have t1 : decide (v < 0) = false := decide_eq_false (by omega)
  have t2 : (v / 2 ^ (8 * n) != 0) = true := by simpa using hq
  have q2 : IntKind.i64.wrap (8 * (n : Int)) = 8 * (n : Int) := IntWalk.i64_in _ (by omega)
  have q3 : (0 : Int) ≤ 8 * (n : Int) := by omega
  have q4 : (8 * (n : Int)).toNat = 8 * n := by omega
  have q5 : min (8 * n) 64 = 8 * n := by omega
  go_enter Tryz.func60, Tryz.ntmps60
  go_wp2
  clear t1 t2 q2 q3 q4 q5
  go_loopw [6] (fun i wr => ∃ (k : Nat) (l' : List UInt8), k ≤ n ∧ i = .int .i64 ((k : Int) - 1) ∧ Hid (l' ++ numB v k = l ++ numB v n ∧ l'.length ≤ 100004 - k) ∧ Hid (Sk b l' true wr ∧ Below b w wr ∧ SkKeep b w wr)) (fun i _ => (intOf i + 1).toNat)
  case atStart => exact ⟨n, l, Nat.le_refl _, by first | rfl | (congr 1; omega), Lib.hid ⟨rfl, by omega⟩, H0⟩
  case round =>
    obtain ⟨k, l', hk, rfl, HL, HS⟩ := hrel
    by_cases hk0 : k = 0
    · subst hk0
      have hl := HL.out.1
      rw [numB, List.append_nil] at hl
      subst hl
      go_wp2
      go_end0
      exact ⟨rfl, HS.out⟩
    · obtain ⟨k, rfl⟩ : ∃ j, k = j + 1 := ⟨k - 1, by omega⟩
      have e : ((k + 1 : Nat) : Int) - 1 = (k : Int) := by omega
      rw [e]
      clear hk0 e
      have e1 := Lib.hid (byteAt_int v k)
      obtain ⟨u, hB, hO⟩ := HS.out.1
      obtain ⟨A, c, rfl⟩ := OwnB.len hO
      have hB' : Blk wr.drew b #[.slice A l'.length c, .bool true] 74 := hB
      have hO' : OwnB (b + 1) (.slice A l'.length c) l' wr.drew := hO
      have c0 : wr.cell? ⟨b, 0, none⟩ = some (.slice A l'.length c) := hB.cell 0
      have f0 := fun j => hB.free j
      have HB := Lib.hid hB'; have HO := Lib.hid hO'
      have hlt := hB.lt
      have HLT := Lib.hid hlt
      clear hB hO hB' hO'
      have e2 : IntKind.i64.wrap (8 * (k : Int)) = 8 * (k : Int) := IntWalk.i64_in _ (by omega)
      have e3 : (0 : Int) ≤ 8 * (k : Int) := by omega
      have e4 : (8 * (k : Int)).toNat = 8 * k := by omega
      have e5 : min (8 * k) 64 = 8 * k := by omega
      have E7 : Hid (IntKind.u8.wrap (v / 2 ^ (8 * k)) = ((byteAt v k).toNat : Int)) := Lib.hid (by rw [← byteAt_int]; rfl)
      have e6 : v / 2 ^ (8 * k) % 256 = ((byteAt v k).toNat : Int) := byteAt_int v k
      clear e1
      go_wp2_with fail
      go_region_law (refine ownB_step HO.out (by have := HLT.out; show b + 1 ≤ wr.drew.heap.size; simp; omega) [byteAt v k] (by have := HL.out.2; simp; omega) rfl _ _ rfl _ 1 1 rfl rfl (by rw [E7.out]; rfl) rfl ?_; intro v1 w1 a1 a2 a3; obtain ⟨A1, c1, rfl⟩ := OwnB.len a1; have HP := Lib.hid (sk_put HB.out HO.out a1 a2 a3); clear a1 a2 a3; have d0 : w1.cell? ⟨b, 0, none⟩ = some (.slice A l'.length c) := HP.out.1.cell 0; have g0 := fun j => HP.out.1.free j)
      all_goals
        have hp := HP.out.2
        simp only [List.length_append, List.length_cons, List.length_nil, Nat.zero_add] at hp
        have hb1 : Below b w wr.drew := ⟨HS.out.2.1.os, HS.out.2.1.tape, HS.out.2.1.output, HS.out.2.1.size, HS.out.2.1.block⟩
        have hk1 : SkKeep b w wr.drew := HS.out.2.2
        have HN := Lib.hid (And.intro hp.1 (And.intro (hb1.trans hp.2.1) (hk1.trans HS.out.2.1.size hp.2.2)))
        have HM : Hid ((l' ++ [byteAt v k]) ++ numB v k = l ++ numB v n ∧ (l' ++ [byteAt v k]).length ≤ 100004 - k) := Lib.hid ⟨by rw [← HL.out.1, numB, List.append_assoc]; rfl, by have := HL.out.2; simp; omega⟩
        clear hp hb1 hk1 HP d0 g0 HL HS HB HO c0 f0 e2 e3 e4 e5 e6 E7 hlt
        go_wp2
        go_roundw
        case rel => exact ⟨k, _, by omega, by go_num, HM, HN⟩
        case measure => simp [intOf]
set_option maxRecDepth 100000 in
set_option maxHeartbeats 1000000 in
theorem sink_number_ok (b : Nat) (l : List UInt8) (v : Int) (n : Nat) (w : World) (hS : Sk b l false w) (hn : n ≤ 4) (hl : l.length ≤ 100000) (hv : 0 ≤ v) (hq : v / 2 ^ (8 * n) = 0) :
    Calls Tryz.prog 60 #[.pointer (some ⟨b, 0, none⟩), .int .i64 v, .int .i64 n] w fun e w' => e = .returned (.tuple #[]) ∧ Sk b (l ++ numB v n) false w' ∧ Below b w w' ∧ SkKeep b w w' := by
  have hfl := hS.flag false
  have H0 := Lib.hid (show Sk b l false (w.setCell ⟨b, 1, none⟩ (.bool false)) ∧ Below b w (w.setCell ⟨b, 1, none⟩ (.bool false)) ∧ SkKeep b w (w.setCell ⟨b, 1, none⟩ (.bool false)) from ⟨hfl.1, Below.setCell (p := ⟨b, 1, none⟩) (Below.refl _ _) (Nat.le_refl _) _, hfl.2⟩)
  obtain ⟨u, hB, hO⟩ := hS
  obtain ⟨A, c, rfl⟩ := OwnB.len hO
  have c1 : w.cell? ⟨b, 1, none⟩ = some (.bool false) := hB.cell 1
  have f0 := fun j => hB.free j
  clear hB hO hfl
  have t1 : decide (v < 0) = false := decide_eq_false (by omega)
  have t2 : (v / 2 ^ (8 * n) != 0) = false := by simpa using hq
  clear hq
  have q2 : IntKind.i64.wrap (8 * (n : Int)) = 8 * (n : Int) := IntWalk.i64_in _ (by omega)
  have q3 : (0 : Int) ≤ 8 * (n : Int) := by omega
  have q4 : (8 * (n : Int)).toNat = 8 * n := by omega
  have q5 : min (8 * n) 64 = 8 * n := by omega
  go_enter Tryz.func60, Tryz.ntmps60
  go_wp2
  clear t1 t2 q2 q3 q4 q5
  go_loopw [6] (fun i wr => ∃ (k : Nat) (l' : List UInt8), k ≤ n ∧ i = .int .i64 ((k : Int) - 1) ∧ Hid (l' ++ numB v k = l ++ numB v n ∧ l'.length ≤ 100004 - k) ∧ Hid (Sk b l' false wr ∧ Below b w wr ∧ SkKeep b w wr)) (fun i _ => (intOf i + 1).toNat)
  case atStart => exact ⟨n, l, Nat.le_refl _, by first | rfl | (congr 1; omega), Lib.hid ⟨rfl, by omega⟩, H0⟩
  case round =>
    obtain ⟨k, l', hk, rfl, HL, HS⟩ := hrel
    by_cases hk0 : k = 0
    · subst hk0
      have hl := HL.out.1
      rw [numB, List.append_nil] at hl
      subst hl
      go_wp2
      go_end0
      exact ⟨rfl, HS.out⟩
    · obtain ⟨k, rfl⟩ : ∃ j, k = j + 1 := ⟨k - 1, by omega⟩
      have e : ((k + 1 : Nat) : Int) - 1 = (k : Int) := by omega
      rw [e]
      clear hk0 e
      have e1 := Lib.hid (byteAt_int v k)
      obtain ⟨u, hB, hO⟩ := HS.out.1
      obtain ⟨A, c, rfl⟩ := OwnB.len hO
      have hB' : Blk wr.drew b #[.slice A l'.length c, .bool false] 74 := hB
      have hO' : OwnB (b + 1) (.slice A l'.length c) l' wr.drew := hO
      have c0 : wr.cell? ⟨b, 0, none⟩ = some (.slice A l'.length c) := hB.cell 0
      have f0 := fun j => hB.free j
      have HB := Lib.hid hB'; have HO := Lib.hid hO'
      have hlt := hB.lt
      have HLT := Lib.hid hlt
      clear hB hO hB' hO'
      have e2 : IntKind.i64.wrap (8 * (k : Int)) = 8 * (k : Int) := IntWalk.i64_in _ (by omega)
      have e3 : (0 : Int) ≤ 8 * (k : Int) := by omega
      have e4 : (8 * (k : Int)).toNat = 8 * k := by omega
      have e5 : min (8 * k) 64 = 8 * k := by omega
      have E7 : Hid (IntKind.u8.wrap (v / 2 ^ (8 * k)) = ((byteAt v k).toNat : Int)) := Lib.hid (by rw [← byteAt_int]; rfl)
      have e6 : v / 2 ^ (8 * k) % 256 = ((byteAt v k).toNat : Int) := byteAt_int v k
      clear e1
      go_wp2_with fail
      go_region_law (refine ownB_step HO.out (by have := HLT.out; show b + 1 ≤ wr.drew.heap.size; simp; omega) [byteAt v k] (by have := HL.out.2; simp; omega) rfl _ _ rfl _ 1 1 rfl rfl (by rw [E7.out]; rfl) rfl ?_; intro v1 w1 a1 a2 a3; obtain ⟨A1, c1, rfl⟩ := OwnB.len a1; have HP := Lib.hid (sk_put HB.out HO.out a1 a2 a3); clear a1 a2 a3; have d0 : w1.cell? ⟨b, 0, none⟩ = some (.slice A l'.length c) := HP.out.1.cell 0; have g0 := fun j => HP.out.1.free j)
      all_goals
        have hp := HP.out.2
        simp only [List.length_append, List.length_cons, List.length_nil, Nat.zero_add] at hp
        have hb1 : Below b w wr.drew := ⟨HS.out.2.1.os, HS.out.2.1.tape, HS.out.2.1.output, HS.out.2.1.size, HS.out.2.1.block⟩
        have hk1 : SkKeep b w wr.drew := HS.out.2.2
        have HN := Lib.hid (And.intro hp.1 (And.intro (hb1.trans hp.2.1) (hk1.trans HS.out.2.1.size hp.2.2)))
        have HM : Hid ((l' ++ [byteAt v k]) ++ numB v k = l ++ numB v n ∧ (l' ++ [byteAt v k]).length ≤ 100004 - k) := Lib.hid ⟨by rw [← HL.out.1, numB, List.append_assoc]; rfl, by have := HL.out.2; simp; omega⟩
        clear hp hb1 hk1 HP d0 g0 HL HS HB HO c0 f0 e2 e3 e4 e5 e6 E7 hlt
        go_wp2
        go_roundw
        case rel => exact ⟨k, _, by omega, by go_num, HM, HN⟩
        case measure => simp [intOf]
theorem sink_number (b : Nat) (l : List UInt8) (wr : Bool) (v : Int) (n : Nat) (w : World) (hS : Sk b l wr w) (hn : n ≤ 4) (hl : l.length ≤ 100000) :
    Calls Tryz.prog 60 #[.pointer (some ⟨b, 0, none⟩), .int .i64 v, .int .i64 n] w fun e w' => e = .returned (.tuple #[]) ∧ Sk b (l ++ numB v n) (wr || badNum v n) w' ∧ Below b w w' ∧ SkKeep b w w' := by
  cases wr with
  | true => exact sink_number_t b l v n w hS hn hl
  | false =>
    by_cases hv : v < 0
    · have : (false || badNum v n) = true := by simp [badNum, hv]
      rw [this]; exact sink_number_neg b l v n w hS hn hl hv
    · by_cases hq : v / 2 ^ (8 * n) = 0
      · have : (false || badNum v n) = false := by simp [badNum, hv, hq]
        rw [this]; exact sink_number_ok b l v n w hS hn hl (by omega) hq
      · have : (false || badNum v n) = true := by simp [badNum, hq]
        rw [this]; exact sink_number_big b l v n w hS hn hl (by omega) hq
end Go.Proofs.YtdflhnbpcnmpfaaGreatDoor

