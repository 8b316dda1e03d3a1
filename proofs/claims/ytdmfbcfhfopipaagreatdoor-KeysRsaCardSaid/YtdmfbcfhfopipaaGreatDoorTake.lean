/- data.take at Key: what is taken, or ErrData. -/
import Derived.Test.YtdmfbcfhfopipaaGreatDoorKey
import Derived.Recover
import Derived.Defers
namespace Go.Proofs.YtdmfbcfhfopipaaGreatDoor
open Go.RowKit

theorem assert_stop (w : World) : (Instr.typeAssert (.iface 191 (.agg #[])) 20 191 true).run Tryz.prog w = .ok (.tuple #[.agg #[], .bool true]) w := by kernel_rfl

set_option maxRecDepth 100000 in
theorem take1_panic (B n m : Nat) (w : World) (h0 : Blk w n #[.int .i64 0, .int .i64 0, .int .i64 0, .string ⟨#[]⟩] 67) (h1 : Blk w m #[.int .i64 0] 25) (hne : n ≠ m) (hBn : B ≤ n) (hBm : B ≤ m) :
    CallsD Tryz.prog 153 #[.pointer (some ⟨n, 0, none⟩), .pointer (some ⟨m, 0, none⟩)] (.panicking [{ v := .iface 191 (.agg #[]), recovered := false }]) w fun e u' w' =>
      e = .returned (.tuple #[]) ∧ u' = .panicking [{ v := .iface 191 (.agg #[]), recovered := true }] ∧ Blk w' n #[.int .i64 0, .int .i64 0, .int .i64 0, .string ⟨#[]⟩] 67 ∧ Blk w' m #[.int .i64 6] 25 ∧ Below B w w' := by
  refine callsD_of_wpS Tryz.func153 rfl fun c₀ cs hu => ?_
  simp only [Tryz.ntmps153, List.size_toArray, List.length_cons, List.length_nil, Nat.reduceAdd, Nat.reduceSub, Array.replicate_succ, Array.replicate_zero, List.push_toArray, List.append_toArray, List.nil_append, List.cons_append]
  apply wpS_seq
  apply wpS_region
  simp [wpOpsS, go_sem, recoverD, hu, Exit.thenS]
  refine wpS_of_wp (wp_mono (Q := fun e a' w' => e = .normal ∧ a'.defers = [] ∧ Blk w' n #[.int .i64 0, .int .i64 0, .int .i64 0, .string ⟨#[]⟩] 67 ∧ Blk w' m #[.int .i64 6] 25 ∧ Below B w w') ?_ ?_)
  · have c0 : w.cell? ⟨n, 0, none⟩ = some (.int .i64 0) := h0.cell 0
    have c1 : w.cell? ⟨n, 1, none⟩ = some (.int .i64 0) := h0.cell 1
    have c2 : w.cell? ⟨n, 2, none⟩ = some (.int .i64 0) := h0.cell 2
    have c3 : w.cell? ⟨n, 3, none⟩ = some (.string ⟨#[]⟩) := h0.cell 3
    have c4 : w.cell? ⟨m, 0, none⟩ = some (.int .i64 0) := h1.cell 0
    have f0 := fun j => h0.free j
    have f1 := fun j => h1.free j
    have l0 := h0.lt
    have l1 := h1.lt
    have H0 := Lib.hid h0; have H1 := Lib.hid h1; clear h0 h1
    generalize hQ : (fun (e : Exit) (a' : Act) (w' : World) => e = Exit.normal ∧ a'.defers = [] ∧ Blk w' n #[.int .i64 0, .int .i64 0, .int .i64 0, .string ⟨#[]⟩] 67 ∧ Blk w' m #[.int .i64 6] 25 ∧ Below B w w') = Q
    have HQ := Lib.hid hQ; clear hQ
    have hta := assert_stop
    go_wp2
    rw [← HQ.out]
    refine ⟨rfl, rfl, ?_, ?_, ?_⟩
    · refine Blk.alloc (Blk.alloc (Blk.other ?_ hne _) _) _
      simpa using (((H0.out.set 0 (.int .i64 0)).set 1 (.int .i64 0)).set 2 (.int .i64 0)).set 3 (.string ⟨#[]⟩)
    · refine Blk.alloc (Blk.alloc (Blk.set (cs := #[.int .i64 0]) ?_ 0 _) _) _
      iterate 4 refine Blk.other ?_ (fun h => hne h.symm) _
      exact H1.out
    · refine Below.alloc (Below.alloc ?_ (by simp; omega) _) (by simp; omega) _
      refine Below.setCell ?_ (by simpa using hBm) _
      iterate 4 refine Below.setCell ?_ (by simpa using hBn) _
      exact Below.refl _ _
  · rintro e a w' ⟨rfl, hd, q⟩
    exact ⟨hd, _, rfl, _, results_none rfl _ _ _, rfl, rfl, q⟩


theorem take1_idle (n m : Nat) (w : World) :
    CallsD Tryz.prog 153 #[.pointer (some ⟨n, 0, none⟩), .pointer (some ⟨m, 0, none⟩)] .returning w fun e u' w' => e = .returned (.tuple #[]) ∧ u' = .returning ∧ w' = w := by
  refine callsD_of_wpS Tryz.func153 rfl fun c₀ cs hu => ?_
  simp only [Tryz.ntmps153, List.size_toArray, List.length_cons, List.length_nil, Nat.reduceAdd, Nat.reduceSub, Array.replicate_succ, Array.replicate_zero, List.push_toArray, List.append_toArray, List.nil_append, List.cons_append]
  apply wpS_seq
  apply wpS_region
  simp [wpOpsS, go_sem, recoverD, hu, Exit.thenS]
  refine wpS_of_wp (wp_mono (Q := fun e a' w' => e = .normal ∧ a'.defers = [] ∧ w' = w) ?_ ?_)
  · generalize hQ : (fun (e : Exit) (a' : Act) (w' : World) => e = Exit.normal ∧ a'.defers = [] ∧ w' = w) = Q
    have HQ := Lib.hid hQ; clear hQ
    go_wp2
    rw [← HQ.out]
    exact ⟨rfl, rfl, rfl⟩
  · rintro e a w' ⟨rfl, hd, rfl⟩
    cases c₀
    simp at hu
    subst hu
    exact ⟨hd, _, rfl, _, results_none rfl _ _ _, rfl, rfl, rfl⟩

def keyVal (d : ByteArray) : Value := (if keyRight d then keyOf d else KeyD.none).v

def zKey : Array Value := #[.int .i64 0, .int .i64 0, .int .i64 0, .string ⟨#[]⟩]

/-- The world in which take calls its function. -/
def takeW (w : World) (d : ByteArray) : World := ((w.alloc (.cells zKey 67)).alloc (.cells #[.int .i64 0] 25)).alloc (.cells #[.string d] 194)
theorem takeW_src (w : World) (d : ByteArray) : Src (w.heap.size + 1 + 1) d (takeW w d) := by
  have := Blk.new ((w.alloc (.cells zKey 67)).alloc (.cells #[.int .i64 0] 25)) #[.string d] 194
  simpa [takeW, Src] using this
theorem takeW_key (w : World) (d : ByteArray) : Blk (takeW w d) w.heap.size zKey 67 := ((Blk.new w zKey 67).alloc _).alloc _
theorem takeW_err (w : World) (d : ByteArray) : Blk (takeW w d) (w.heap.size + 1) #[.int .i64 0] 25 := by
  have := (Blk.new (w.alloc (.cells zKey 67)) #[.int .i64 0] 25).alloc (.cells #[.string d] 194)
  simpa [takeW] using this
theorem takeW_below (w : World) (d : ByteArray) : Below w.heap.size w (takeW w d) := (((Below.refl _ w).alloc (Nat.le_refl _) _).alloc (by simp) _).alloc (by simp; omega) _

/-- Behind the door, where the body panicked. -/
theorem take_door_no (tmps : Array Value) (w w1 : World) (hk : Blk w1 w.heap.size zKey 67) (he : Blk w1 (w.heap.size + 1) #[.int .i64 0] 25) (hb : Below w.heap.size w w1)
    (h4 : tmps.getD 4 undef = .pointer (some ⟨w.heap.size, 0, none⟩)) (h5 : tmps.getD 5 undef = .pointer (some ⟨w.heap.size + 1, 0, none⟩)) :
    bodyPostD Tryz.prog Tryz.f72 (fun e w' => e = .returned (.tuple #[KeyD.none.v, .int .i64 6]) ∧ Below w.heap.size w w') (.panic stopC)
      { tmps := tmps, defers := [{ target := .fn (.func 153) #[.pointer (some ⟨w.heap.size, 0, none⟩), .pointer (some ⟨w.heap.size + 1, 0, none⟩)], args := #[] }] } w1 := by
  refine leaves_cons (f := 153) (args := #[.pointer (some ⟨w.heap.size, 0, none⟩), .pointer (some ⟨w.heap.size + 1, 0, none⟩)]) (by simp) (by simp [go_sem]) ?_
  refine (take1_panic w.heap.size _ _ w1 hk he (by omega) (Nat.le_refl _) (by omega)).mono ?_
  rintro e u' w2 ⟨rfl, rfl, hk2, he2, hb2⟩
  exact ⟨_, results2 rfl ⟨_, h4, loadVar_blk hk2 Tryz.underlying67 rfl info_Key⟩ ⟨_, h5, loadVar_int he2 Tryz.underlying25⟩, rfl, hb.trans hb2⟩

set_option maxRecDepth 100000 in
theorem take_key_no (d : ByteArray) (w : World) (h : keyRight d = false) :
    Calls Tryz.prog 72 #[.string d, .func (.func 73) #[] #[]] w fun e w' => e = .returned (.tuple #[KeyD.none.v, .int .i64 6]) ∧ Below w.heap.size w w' := by
  have hmf := makeFunc_run
  by_cases hd : d.size ≤ 2000
  · have hd' : decide ((d.size : Int) ≤ 2000) = true := by simp; omega
    have h5 : ¬ 5 ≤ d.size := by intro h5; simp [keyRight, hd, h5] at h
    have H5 := Lib.hid h5; clear h h5
    go_enter_defers Tryz.func72, Tryz.ntmps72
    go_wp2_with (go_at_call 154; refine (must_ok _ _).mono ?_; rintro e w' ⟨rfl, rfl⟩)
    refine (key1_any (w.heap.size + 1 + 1) d _ (takeW_src w d)).mono ?_
    rintro e w1 (⟨hn, rfl, hS, hO⟩ | ⟨hn, rfl, hO⟩)
    · exact absurd hn H5.out
    · exact take_door_no _ w w1 ((takeW_key w d).only hO (by omega)) ((takeW_err w d).only hO (by omega)) ((takeW_below w d).trans (hO.belowOf (by omega) (by simp [takeW]; omega))) rfl rfl
  · have hd' : decide ((d.size : Int) ≤ 2000) = false := by simp; omega
    clear h
    go_enter_defers Tryz.func72, Tryz.ntmps72
    go_wp2_with (go_at_call 154; refine (must_no _ _).mono ?_; rintro e w' ⟨rfl, rfl⟩)
    exact take_door_no _ w _ (takeW_key w d) (takeW_err w d) (takeW_below w d) rfl rfl

set_option maxRecDepth 100000 in
theorem take_key_yes (d : ByteArray) (w : World) (h : keyRight d = true) :
    Calls Tryz.prog 72 #[.string d, .func (.func 73) #[] #[]] w fun e w' => e = .returned (.tuple #[(keyOf d).v, .int .i64 0]) ∧ Below w.heap.size w w' := by
  have hmf := makeFunc_run
  simp only [keyRight, Bool.and_eq_true, decide_eq_true_eq] at h
  have hd' : decide ((d.size : Int) ≤ 2000) = true := by simp; omega
  have H5 := Lib.hid h.1; clear h
  have hkey := fun w h => key1_any (w.heap.size + 1 + 1) d (takeW w d) h
  obtain ⟨f, p, a, q, hk⟩ : ∃ f p a q, (keyOf d).v = .agg #[.int .i64 f, .int .i64 p, .int .i64 a, .string q] := ⟨_, _, _, _, rfl⟩
  rw [hk] at hkey ⊢
  have HK := Lib.hid hkey; clear hk hkey
  go_enter_defers Tryz.func72, Tryz.ntmps72
  go_wp2_with (go_at_call 154; refine (must_ok _ _).mono ?_; rintro e w' ⟨rfl, rfl⟩)
  refine (HK.out w (takeW_src w d)).mono ?_
  rintro e w1 (⟨hn, rfl, hS, hO⟩ | ⟨hn, rfl, hO⟩)
  case inr => exact absurd H5.out hn
  have hk1 := (takeW_key w d).only hO (by omega)
  have he1 := (takeW_err w d).only hO (by omega)
  have hB1 := (takeW_below w d).trans (hO.belowOf (B := w.heap.size) (by omega) (by simp [takeW]; omega))
  have c0 : w1.cell? ⟨w.heap.size, 0, none⟩ = some (.int .i64 0) := hk1.cell 0
  have c1 : w1.cell? ⟨w.heap.size, 1, none⟩ = some (.int .i64 0) := hk1.cell 1
  have c2 : w1.cell? ⟨w.heap.size, 2, none⟩ = some (.int .i64 0) := hk1.cell 2
  have c3 : w1.cell? ⟨w.heap.size, 3, none⟩ = some (.string ⟨#[]⟩) := hk1.cell 3
  have c4 : w1.cell? ⟨w.heap.size + 1, 0, none⟩ = some (.int .i64 0) := he1.cell 0
  have c5 : w1.cell? ⟨w.heap.size + 1 + 1, 0, none⟩ = some (.string ⟨#[]⟩) := hS.cell 0
  have f0 := fun j => hk1.free j
  have f1 := fun j => he1.free j
  have HK1 := Lib.hid hk1; have HE1 := Lib.hid he1; have HB1 := Lib.hid hB1
  clear hk1 he1 hB1 hO hS HK H5 hn
  go_wp2_with (go_at_call 154; refine (must_ok _ _).mono ?_; rintro e w' ⟨rfl, rfl⟩)
  refine leaves_cons (f := 153) (args := #[.pointer (some ⟨w.heap.size, 0, none⟩), .pointer (some ⟨w.heap.size + 1, 0, none⟩)]) (by simp) (by simp [go_sem]) ?_
  refine (take1_idle _ _ _).mono ?_
  rintro e u' w2 ⟨rfl, rfl, rfl⟩
  refine ⟨_, results2 rfl ⟨_, rfl, loadVar_blk (cs := #[.int .i64 f, .int .i64 p, .int .i64 a, .string q]) (t := 67) ?_ Tryz.underlying67 rfl info_Key⟩ ⟨_, rfl, loadVar_int (t := 25) (v := .int .i64 0) ?_ Tryz.underlying25⟩, rfl, ?_⟩
  · refine Blk.other ?_ (by simp) _
    simpa [zKey] using (((((((HK1.out.set 0 (.int .i64 f)).set 1 (.int .i64 p)).set 2 (.int .i64 a)).set 3 (.string q)).set 0 (.int .i64 f)).set 1 (.int .i64 p)).set 2 (.int .i64 a)).set 3 (.string q)
  · refine Blk.set (cs := #[.int .i64 0]) ?_ 0 _
    iterate 8 refine Blk.other ?_ (by simp) _
    exact HE1.out
  · refine Below.setCell ?_ (by simp) _
    iterate 8 refine Below.setCell ?_ (by exact Nat.le_refl _) _
    exact HB1.out

theorem data_key_yes (d : ByteArray) (w : World) (h : keyRight d = true) :
    Calls Tryz.prog 38 #[.string d] w fun e w' => e = .returned (.tuple #[(keyOf d).v, .int .i64 0]) ∧ Below w.heap.size w w' := by
  have ht := fun w => take_key_yes d w h
  obtain ⟨f, p, a, q, hk⟩ : ∃ f p a q, (keyOf d).v = .agg #[.int .i64 f, .int .i64 p, .int .i64 a, .string q] := ⟨_, _, _, _, rfl⟩
  rw [hk] at ht ⊢
  have HT := Lib.hid ht; clear hk ht h
  go_enter Tryz.func38, Tryz.ntmps38
  go_wp2_with fail
  refine (HT.out _).mono ?_
  rintro e w1 ⟨rfl, hb⟩
  have hk1 : Blk w1 w.heap.size zKey 67 := (Blk.new w zKey 67).below hb (by simp)
  have c0 : w1.cell? ⟨w.heap.size, 0, none⟩ = some (.int .i64 0) := hk1.cell 0
  have c1 : w1.cell? ⟨w.heap.size, 1, none⟩ = some (.int .i64 0) := hk1.cell 1
  have c2 : w1.cell? ⟨w.heap.size, 2, none⟩ = some (.int .i64 0) := hk1.cell 2
  have c3 : w1.cell? ⟨w.heap.size, 3, none⟩ = some (.string ⟨#[]⟩) := hk1.cell 3
  have f0 := fun j => hk1.free j
  have HK1 := Lib.hid hk1; clear hk1
  go_wp2
  refine bodyPost_ret (results2 rfl ⟨_, rfl, loadVar_blk (cs := #[.int .i64 f, .int .i64 p, .int .i64 a, .string q]) (t := 67) ?_ Tryz.underlying67 rfl info_Key⟩ rfl) rfl ⟨rfl, ?_⟩
  · simpa [zKey] using (((HK1.out.set 0 (.int .i64 f)).set 1 (.int .i64 p)).set 2 (.int .i64 a)).set 3 (.string q)
  · iterate 4 refine Below.setCell ?_ (by exact Nat.le_refl _) _
    exact ((Below.refl _ w).alloc (Nat.le_refl _) _).trans (hb.mono (by simp))

theorem data_key_no (d : ByteArray) (w : World) (h : keyRight d = false) :
    Calls Tryz.prog 38 #[.string d] w fun e w' => e = .returned (.tuple #[KeyD.none.v, .int .i64 6]) ∧ Below w.heap.size w w' := by
  have ht := fun w => take_key_no d w h
  have hk : KeyD.none.v = .agg #[.int .i64 0, .int .i64 0, .int .i64 0, .string ⟨#[]⟩] := rfl
  rw [hk] at ht ⊢
  have HT := Lib.hid ht; clear hk ht h
  go_enter Tryz.func38, Tryz.ntmps38
  go_wp2_with fail
  refine (HT.out _).mono ?_
  rintro e w1 ⟨rfl, hb⟩
  have hk1 : Blk w1 w.heap.size zKey 67 := (Blk.new w zKey 67).below hb (by simp)
  have c0 : w1.cell? ⟨w.heap.size, 0, none⟩ = some (.int .i64 0) := hk1.cell 0
  have c1 : w1.cell? ⟨w.heap.size, 1, none⟩ = some (.int .i64 0) := hk1.cell 1
  have c2 : w1.cell? ⟨w.heap.size, 2, none⟩ = some (.int .i64 0) := hk1.cell 2
  have c3 : w1.cell? ⟨w.heap.size, 3, none⟩ = some (.string ⟨#[]⟩) := hk1.cell 3
  have f0 := fun j => hk1.free j
  have HK1 := Lib.hid hk1; clear hk1
  go_wp2
  refine bodyPost_ret (results2 rfl ⟨_, rfl, loadVar_blk (cs := #[.int .i64 0, .int .i64 0, .int .i64 0, .string ⟨#[]⟩]) (t := 67) ?_ Tryz.underlying67 rfl info_Key⟩ rfl) rfl ⟨rfl, ?_⟩
  · simpa [zKey] using (((HK1.out.set 0 (.int .i64 0)).set 1 (.int .i64 0)).set 2 (.int .i64 0)).set 3 (.string ⟨#[]⟩)
  · iterate 4 refine Below.setCell ?_ (by exact Nat.le_refl _) _
    exact ((Below.refl _ w).alloc (Nat.le_refl _) _).trans (hb.mono (by simp))

/-- Both in one: what data.Key tells. -/
theorem data_key (d : ByteArray) (w : World) :
    Calls Tryz.prog 38 #[.string d] w fun e w' => e = .returned (.tuple #[(if keyRight d then keyOf d else KeyD.none).v, .int .i64 (if keyRight d then 0 else 6)]) ∧ Below w.heap.size w w' := by
  cases h : keyRight d
  · simpa using data_key_no d w h
  · simpa using data_key_yes d w h
end Go.Proofs.YtdmfbcfhfopipaaGreatDoor
