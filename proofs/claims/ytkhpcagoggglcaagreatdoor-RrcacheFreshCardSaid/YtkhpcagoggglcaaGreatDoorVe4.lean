import Derived.Test.YtkhpcagoggglcaaGreatDoorVe2
import Derived.Recover
import Derived.Defers
import Derived.WalkKit
import Derived.Deep.QuietTactic
import Derived.BigQuiet
import Derived.OrdersIn
import Derived.TacticsIn
import Derived.RangeFuncCalls
import Derived.Test.YtkhpcagoggglcaaGreatDoorVe1
/- data.Nsec: what such data have: the closure that takes them apart, data.take at this type, data.Nsec itself. Lines printed by wip/tools/taker.py. -/
namespace Go.Proofs.YtkhpcagoggglcaaGreatDoor
open Go.RowKit

structure NsecR where
  next : ByteArray
  types : List Int
def NsecR.v (x : NsecR) (u : Value) : Value := .agg #[.string x.next, u]
def nsecV (lo : Nat) (x : NsecR) (w : World) (v : Value) : Prop := ∃ u, v = x.v u ∧ OwnI lo u x.types w
def zNsec : Array Value := #[.string ⟨#[]⟩, .slice none 0 0]
theorem info_Nsec : (Tryz.prog.info? 133).map (·.size) = some 2 := by kernel_rfl
/-- What is taken, and what is left. -/
def nsecT (s : ByteArray) : Option (NsecR × ByteArray) :=
  match nameT s with
  | none => none
  | some (a1, s1) =>
    match typesT s1 with
    | none => none
    | some (a2, s2) =>
      some (⟨a1, a2⟩, s2)

set_option maxRecDepth 100000 in
set_option maxHeartbeats 1000000 in
theorem nsec1_t (b : Nat) (s : ByteArray) (w : World) (hS : Src b s w) (hz : s.size ≤ 2000) :
    Calls Tryz.prog 157 #[.pointer (some ⟨b, 0, none⟩)] w (Took b w (nsecT s) (nsecV (w.heap.size + 1))) := by
  have hne : w.heap.size ≠ b := by have := hS.lt; omega
  have n : b ≠ w.heap.size := fun h => hne h.symm
  have HL := Lib.hid hS.lt
  have HQ0 := Lib.hid hS
  have HZ0 := Lib.hid hz
  clear hS hz
  go_enter Tryz.func157, Tryz.ntmps157
  go_wp2_with fail
  refine (name_t b s _ (HQ0.out.alloc _) HZ0.out).mono ?_
  rintro e W1 h
  rcases h1 : nameT s with _ | ⟨a1, s1⟩
  · rw [h1] at h
    obtain ⟨rfl, hO⟩ := h
    have hO2 : Only b w W1 := (Only.alloc w _).trans hO
    have hT : nsecT s = none := by simp only [nsecT, h1]
    first
      | (refine ⟨rfl, ?_⟩; rw [hT]; exact ⟨rfl, hO2⟩)
      | (simp only []; refine ⟨rfl, ?_⟩; rw [hT]; exact ⟨rfl, hO2⟩)
  rw [h1] at h
  obtain ⟨v1, rfl, hv, hS, hO⟩ := h
  have hO2 : Only b w W1 := (Only.alloc w _).trans hO
  obtain rfl : v1 = .string a1 := hv
  have hB2 := (Blk.new w #[.string ⟨#[]⟩, .slice none 0 0] 133).only hO hne
  have HZ1 := Lib.hid (Nat.le_trans (nameT_le h1) HZ0.out)
  have HB1 := Lib.hid hB2; have HQ1 := Lib.hid hS; have HO1 := Lib.hid hO2; have E1 := Lib.hid h1
  clear hB2 hS hO hO2 h1 
  go_wp2_with fail
  refine (types_t b s1 _ (HQ1.out) HZ1.out).mono ?_
  rintro e W2 h
  rcases h2 : typesT s1 with _ | ⟨a2, s2⟩
  · rw [h2] at h
    obtain ⟨rfl, hO⟩ := h
    have hO2 : Only b w W2 := (HO1.out).trans hO
    have hT : nsecT s = none := by have e1 := E1.out; simp only [nsecT, e1, h2]
    first
      | (refine ⟨rfl, ?_⟩; rw [hT]; exact ⟨rfl, hO2⟩)
      | (simp only []; refine ⟨rfl, ?_⟩; rw [hT]; exact ⟨rfl, hO2⟩)
  rw [h2] at h
  obtain ⟨v2, rfl, hv, hS, hO⟩ := h
  have hO2 : Only b w W2 := (HO1.out).trans hO
  obtain ⟨A2, c2, rfl⟩ := OwnI.len hv
  have HV2 : Hid (OwnI (w.heap.size + 1) (.slice A2 a2.length c2) a2 W2) := Lib.hid (OwnI.lift hv (by have := HB1.out.lt; first | omega | (simp; omega)))
  have hB2 := HB1.out.only hO hne
  have HZ2 := Lib.hid (Nat.le_trans (typesT_le h2) HZ1.out)
  have HB2 := Lib.hid hB2; have HQ2 := Lib.hid hS; have HO2 := Lib.hid hO2; have E2 := Lib.hid h2
  clear hB2 hS hO hO2 h2 hv
  have c0 : W2.cell? ⟨w.heap.size, 0, none⟩ = some (.string ⟨#[]⟩) := HB2.out.cell 0
  have c1 : W2.cell? ⟨w.heap.size, 1, none⟩ = some (.slice none 0 0) := HB2.out.cell 1
  have f0 := fun j => HB2.out.free j
  go_wp2_with fail
  have hF : Blk ((((W2.setCell ⟨w.heap.size, 0, none⟩ (.string a1)).setCell ⟨w.heap.size, 1, none⟩ (.slice A2 a2.length c2)).setCell ⟨w.heap.size, 0, none⟩ (.string a1)).setCell ⟨w.heap.size, 1, none⟩ (.slice A2 a2.length c2)) w.heap.size #[.string a1, .slice A2 a2.length c2] 133 := by
    simpa using ((((HB2.out.set 0 (.string a1)).set 1 (.slice A2 a2.length c2)).set 0 (.string a1)).set 1 (.slice A2 a2.length c2))
  have hT : nsecT s = some (⟨a1, a2⟩, s2) := by have e1 := E1.out; have e2 := E2.out; simp only [nsecT, e1, e2]
  refine bodyPost_ret (results1 rfl ⟨_, rfl, loadVar_blk hF Tryz.underlying133 rfl info_Nsec⟩) rfl ?_
  rw [hT]
  refine ⟨_, rfl, ⟨_, rfl, ?_⟩, ?_, ?_⟩
  · refine OwnI.only (b := w.heap.size) HV2.out ?_ (Nat.lt_succ_self _)
    iterate 4 refine Only.put ?_ _ _
    exact Only.refl _ _
  · iterate 4 refine Blk.other ?_ n _
    exact HQ2.out
  · iterate 4 refine Only.setNew ?_ (Nat.le_refl _) _
    exact HO2.out
set_option maxRecDepth 100000 in
theorem nsec_panic (B n m : Nat) {v0 v1 : Value} (w : World) (h0 : Blk w n #[v0, v1] 133) (h1 : Blk w m #[.int .i64 0] 25) (hne : n ≠ m) (hBn : B ≤ n) (hBm : B ≤ m) :
    CallsD Tryz.prog 195 #[.pointer (some ⟨n, 0, none⟩), .pointer (some ⟨m, 0, none⟩)] (.panicking [{ v := .iface 162 (.agg #[]), recovered := false }]) w fun e u' w' =>
      e = .returned (.tuple #[]) ∧ u' = .panicking [{ v := .iface 162 (.agg #[]), recovered := true }] ∧ Blk w' n #[.string ⟨#[]⟩, .slice none 0 0] 133 ∧ Blk w' m #[.int .i64 6] 25 ∧ Below B w w' := by
  refine callsD_of_wpS Tryz.func195 rfl fun c₀ cs hu => ?_
  simp only [Tryz.ntmps195, List.size_toArray, List.length_cons, List.length_nil, Nat.reduceAdd, Nat.reduceSub, Array.replicate_succ, Array.replicate_zero, List.push_toArray, List.append_toArray, List.nil_append, List.cons_append]
  apply wpS_seq
  apply wpS_region
  simp [wpOpsS, go_sem, recoverD, hu, Exit.thenS]
  refine wpS_of_wp (wp_mono (Q := fun e a' w' => e = .normal ∧ a'.defers = [] ∧ Blk w' n #[.string ⟨#[]⟩, .slice none 0 0] 133 ∧ Blk w' m #[.int .i64 6] 25 ∧ Below B w w') ?_ ?_)
  · have c0 : w.cell? ⟨n, 0, none⟩ = some v0 := h0.cell 0
    have c1 : w.cell? ⟨n, 1, none⟩ = some v1 := h0.cell 1
    have e0 : w.cell? ⟨m, 0, none⟩ = some (.int .i64 0) := h1.cell 0
    have f0 := fun j => h0.free j
    have f1 := fun j => h1.free j
    have l0 := h0.lt
    have l1 := h1.lt
    have H0 := Lib.hid h0; have H1 := Lib.hid h1; clear h0 h1
    generalize hQ : (fun (e : Exit) (a' : Act) (w' : World) => e = Exit.normal ∧ a'.defers = [] ∧ Blk w' n #[.string ⟨#[]⟩, .slice none 0 0] 133 ∧ Blk w' m #[.int .i64 6] 25 ∧ Below B w w') = Q
    have HQ := Lib.hid hQ; clear hQ
    have hta := assert_stop
    go_wp2
    rw [← HQ.out]
    refine ⟨rfl, rfl, ?_, ?_, ?_⟩
    · refine Blk.alloc (Blk.alloc (Blk.other ?_ hne _) _) _
      simpa using ((H0.out.set 0 (.string ⟨#[]⟩)).set 1 (.slice none 0 0))
    · refine Blk.alloc (Blk.alloc (Blk.set (cs := #[.int .i64 0]) ?_ 0 _) _) _
      iterate 2 refine Blk.other ?_ (fun h => hne h.symm) _
      exact H1.out
    · refine Below.alloc (Below.alloc ?_ (by simp; omega) _) (by simp; omega) _
      refine Below.setCell ?_ (by simpa using hBm) _
      iterate 2 refine Below.setCell ?_ (by simpa using hBn) _
      exact Below.refl _ _
  · rintro e a w' ⟨rfl, hd, q⟩
    exact ⟨hd, _, rfl, _, results_none rfl _ _ _, rfl, rfl, q⟩

theorem nsec_idle (n m : Nat) (w : World) :
    CallsD Tryz.prog 195 #[.pointer (some ⟨n, 0, none⟩), .pointer (some ⟨m, 0, none⟩)] .returning w fun e u' w' => e = .returned (.tuple #[]) ∧ u' = .returning ∧ w' = w := by
  refine callsD_of_wpS Tryz.func195 rfl fun c₀ cs hu => ?_
  simp only [Tryz.ntmps195, List.size_toArray, List.length_cons, List.length_nil, Nat.reduceAdd, Nat.reduceSub, Array.replicate_succ, Array.replicate_zero, List.push_toArray, List.append_toArray, List.nil_append, List.cons_append]
  apply wpS_seq
  apply wpS_region
  simp [wpOpsS, go_sem, recoverD, hu, Exit.thenS]
  refine wpS_of_wp (wp_mono (Q := fun e a' w' => e = .normal ∧ a'.defers = [] ∧ w' = w) ?_ ?_)
  · generalize hQ : (fun (e : Exit) (a' : Act) (w' : World) => e = Exit.normal ∧ a'.defers = [] ∧ w' = w) = Q
    have HQ := Lib.hid hQ; clear hQ
    go_wp2
    rw [← HQ.out]
    exact ⟨rfl, rfl, rfl⟩
  · rintro e a w' ⟨rfl, hd, rfl⟩
    cases c₀
    simp at hu
    subst hu
    exact ⟨hd, _, rfl, _, results_none rfl _ _ _, rfl, rfl, rfl⟩

/-- The world in which take calls its function. -/
def wNsec (w : World) (d : ByteArray) : World := ((w.alloc (.cells #[.string ⟨#[]⟩, .slice none 0 0] 133)).alloc (.cells #[.int .i64 0] 25)).alloc (.cells #[.string d] 165)
theorem wNsec_src (w : World) (d : ByteArray) : Src (w.heap.size + 1 + 1) d (wNsec w d) := by
  have := Blk.new ((w.alloc (.cells #[.string ⟨#[]⟩, .slice none 0 0] 133)).alloc (.cells #[.int .i64 0] 25)) #[.string d] 165
  simpa [wNsec, Src] using this
theorem wNsec_val (w : World) (d : ByteArray) : Blk (wNsec w d) w.heap.size #[.string ⟨#[]⟩, .slice none 0 0] 133 := ((Blk.new w #[.string ⟨#[]⟩, .slice none 0 0] 133).alloc _).alloc _
theorem wNsec_err (w : World) (d : ByteArray) : Blk (wNsec w d) (w.heap.size + 1) #[.int .i64 0] 25 := by
  have := (Blk.new (w.alloc (.cells #[.string ⟨#[]⟩, .slice none 0 0] 133)) #[.int .i64 0] 25).alloc (.cells #[.string d] 165)
  simpa [wNsec] using this
theorem wNsec_below (w : World) (d : ByteArray) : Below w.heap.size w (wNsec w d) := (((Below.refl _ w).alloc (Nat.le_refl _) _).alloc (by simp) _).alloc (by simp; omega) _

/-- Behind the door, where something panicked. -/
theorem nsec_door (p : Option NsecR) (hp : p = none) (tmps : Array Value) {v0 v1 : Value} (w w1 : World) (hk : Blk w1 w.heap.size #[v0, v1] 133) (he : Blk w1 (w.heap.size + 1) #[.int .i64 0] 25) (hb : Below w.heap.size w w1)
    (h4 : tmps.getD 4 undef = .pointer (some ⟨w.heap.size, 0, none⟩)) (h5 : tmps.getD 5 undef = .pointer (some ⟨w.heap.size + 1, 0, none⟩)) :
    bodyPostD Tryz.prog Tryz.f156 (TakeP (nsecV (w.heap.size + 1)) (.agg #[.string ⟨#[]⟩, .slice none 0 0]) p w) (.panic stopC)
      { tmps := tmps, defers := [{ target := .fn (.func 195) #[.pointer (some ⟨w.heap.size, 0, none⟩), .pointer (some ⟨w.heap.size + 1, 0, none⟩)], args := #[] }] } w1 := by
  subst hp
  refine leaves_cons (f := 195) (args := #[.pointer (some ⟨w.heap.size, 0, none⟩), .pointer (some ⟨w.heap.size + 1, 0, none⟩)]) (by simp) (by simp [go_sem]) ?_
  refine (nsec_panic w.heap.size _ _ w1 hk he (by omega) (Nat.le_refl _) (by omega)).mono ?_
  rintro e u' w2 ⟨rfl, rfl, hk2, he2, hb2⟩
  exact ⟨_, results2 rfl ⟨_, h4, loadVar_blk hk2 Tryz.underlying133 rfl info_Nsec⟩ ⟨_, h5, loadVar_int he2 Tryz.underlying25⟩, hb.trans hb2, rfl⟩

set_option maxRecDepth 100000 in
set_option maxHeartbeats 1000000 in
theorem take_nsec (d : ByteArray) (w : World) :
    Calls Tryz.prog 156 #[.string d, .func (.func 157) #[] #[]] w (TakeP (nsecV (w.heap.size + 1)) (.agg #[.string ⟨#[]⟩, .slice none 0 0]) (takeR nsecT d) w) := by
  have hmf := makeFunc_run
  by_cases hd : d.size ≤ 2000
  · have hd' : decide ((d.size : Int) ≤ 2000) = true := by simp; omega
    have HD := Lib.hid hd; clear hd
    go_enter_defers Tryz.func156, Tryz.ntmps156
    go_wp2_with (go_at_call 111; refine (must_ok _ _).mono ?_; rintro e w' ⟨rfl, rfl⟩)
    refine (nsec1_t (w.heap.size + 1 + 1) d _ (wNsec_src w d) HD.out).mono ?_
    rintro e w1 h
    rcases h1 : nsecT d with _ | ⟨x, r⟩
    · rw [h1] at h
      obtain ⟨rfl, hO⟩ := h
      exact nsec_door _ (takeR_none h1) _ w w1 ((wNsec_val w d).only hO (by omega)) ((wNsec_err w d).only hO (by omega)) ((wNsec_below w d).trans (hO.belowOf (by omega) (by simp [wNsec]; omega))) rfl rfl
    rw [h1] at h
    obtain ⟨v, rfl, hv, hS, hO⟩ := h
    obtain ⟨u, rfl, hu⟩ := hv
    obtain ⟨uA, uc, rfl⟩ := OwnI.len hu
    have HU : Hid (OwnI (w.heap.size + 3) (.slice uA x.types.length uc) x.types w1) := Lib.hid (hu.lift (by simp [wNsec]))
    clear hu
    have hk1 := (wNsec_val w d).only hO (by omega)
    have he1 := (wNsec_err w d).only hO (by omega)
    have hB1 := (wNsec_below w d).trans (hO.belowOf (B := w.heap.size) (by omega) (by simp [wNsec]; omega))
    have c0 : w1.cell? ⟨w.heap.size, 0, none⟩ = some (.string ⟨#[]⟩) := hk1.cell 0
    have c1 : w1.cell? ⟨w.heap.size, 1, none⟩ = some (.slice none 0 0) := hk1.cell 1
    have e0 : w1.cell? ⟨w.heap.size + 1, 0, none⟩ = some (.int .i64 0) := he1.cell 0
    have e5 : w1.cell? ⟨w.heap.size + 1 + 1, 0, none⟩ = some (.string r) := hS.cell 0
    have f0 := fun j => hk1.free j
    have f1 := fun j => he1.free j
    have HK1 := Lib.hid hk1; have HE1 := Lib.hid he1; have HB1 := Lib.hid hB1; have H1 := Lib.hid h1
    clear hk1 he1 hB1 hO hS h1
    simp only [NsecR.v]
    by_cases hr : r.size = 0
    · obtain rfl := size_empty hr
      clear hr
      go_wp2_with (go_at_call 111; refine (must_ok _ _).mono ?_; rintro e w' ⟨rfl, rfl⟩)
      refine leaves_cons (f := 195) (args := #[.pointer (some ⟨w.heap.size, 0, none⟩), .pointer (some ⟨w.heap.size + 1, 0, none⟩)]) (by simp) (by simp [go_sem]) ?_
      refine (nsec_idle _ _ _).mono ?_
      rintro e u' w2 ⟨rfl, rfl, rfl⟩
      refine ⟨_, results2 rfl ⟨_, rfl, loadVar_blk (cs := #[.string x.next, .slice uA x.types.length uc]) (t := 133) ?_ Tryz.underlying133 rfl info_Nsec⟩ ⟨_, rfl, loadVar_int (t := 25) (v := .int .i64 0) ?_ Tryz.underlying25⟩, ?_, ?_⟩
      · refine Blk.other ?_ (by simp) _
        simpa using ((((HK1.out.set 0 (.string x.next)).set 1 (.slice uA x.types.length uc)).set 0 (.string x.next)).set 1 (.slice uA x.types.length uc))
      · refine Blk.set (cs := #[.int .i64 0]) ?_ 0 _
        iterate 4 refine Blk.other ?_ (by simp) _
        exact HE1.out
      · refine Below.setCell ?_ (by simp) _
        iterate 4 refine Below.setCell ?_ (by exact Nat.le_refl _) _
        exact HB1.out
      · rw [takeR_some HD.out H1.out rfl]
        refine ⟨_, ⟨_, rfl, ?_⟩, rfl⟩
        refine OwnI.lift (lo := w.heap.size + 3) ?_ (by omega)
        refine OwnI.only (b := w.heap.size + 1) ?_ ((Only.refl _ _).put _ _) (by omega)
        refine OwnI.only (b := w.heap.size) HU.out ?_ (by omega)
        iterate 4 refine Only.put ?_ _ _
        exact Only.refl _ _
    · have he := toList_isEmpty hr
      have hT := takeR_left H1.out hr
      have HT := Lib.hid hT; clear hT hr
      go_wp2_with (go_at_call 111; refine (must_no _ _).mono ?_; rintro e w' ⟨rfl, rfl⟩)
      refine nsec_door _ HT.out _ (v0 := .string x.next) (v1 := .slice uA x.types.length uc) (w := w) (w1 := _) (hk := ?_) (he := ?_) (hb := ?_) rfl rfl
      · exact (by simpa using ((HK1.out.set 0 (.string x.next)).set 1 (.slice uA x.types.length uc)) : Blk _ w.heap.size #[.string x.next, .slice uA x.types.length uc] 133)
      · iterate 2 refine Blk.other ?_ (by simp) _
        exact HE1.out
      · iterate 2 refine Below.setCell ?_ (by exact Nat.le_refl _) _
        exact HB1.out
  · have hd' : decide ((d.size : Int) ≤ 2000) = false := by simp; omega
    have HT := Lib.hid (takeR_long (f := nsecT) hd)
    clear hd
    go_enter_defers Tryz.func156, Tryz.ntmps156
    go_wp2_with (go_at_call 111; refine (must_no _ _).mono ?_; rintro e w' ⟨rfl, rfl⟩)
    exact nsec_door _ HT.out _ w _ (wNsec_val w d) (wNsec_err w d) (wNsec_below w d) rfl rfl

set_option maxRecDepth 100000 in
theorem data_nsec (d : ByteArray) (w : World) :
    Calls Tryz.prog 85 #[.string d] w (TakeP (nsecV w.heap.size) (.agg #[.string ⟨#[]⟩, .slice none 0 0]) (takeR nsecT d) w) := by
  have hmf := makeFunc_run
  go_enter Tryz.func85, Tryz.ntmps85
  go_wp2_with fail
  refine (take_nsec d _).mono ?_
  rintro e w1 ⟨hb, h⟩
  have hk1 : Blk w1 w.heap.size #[.string ⟨#[]⟩, .slice none 0 0] 133 := (Blk.new w #[.string ⟨#[]⟩, .slice none 0 0] 133).below hb (by simp)
  have hB : Below w.heap.size w w1 := ((Below.refl _ w).alloc (Nat.le_refl _) _).trans (hb.mono (by simp))
  have c0 : w1.cell? ⟨w.heap.size, 0, none⟩ = some (.string ⟨#[]⟩) := hk1.cell 0
  have c1 : w1.cell? ⟨w.heap.size, 1, none⟩ = some (.slice none 0 0) := hk1.cell 1
  have f0 := fun j => hk1.free j
  have HK1 := Lib.hid hk1; have HB := Lib.hid hB; clear hk1 hb hB
  rcases h1 : takeR nsecT d with _ | x
  · rw [h1] at h
    obtain rfl := h
    go_wp2
    refine bodyPost_ret (results2 rfl ⟨_, rfl, loadVar_blk (cs := #[.string ⟨#[]⟩, .slice none 0 0]) (t := 133) ?_ Tryz.underlying133 rfl info_Nsec⟩ rfl) rfl ⟨?_, ?_⟩
    · simpa using ((HK1.out.set 0 (.string ⟨#[]⟩)).set 1 (.slice none 0 0))
    · iterate 2 refine Below.setCell ?_ (by exact Nat.le_refl _) _
      exact HB.out
    · rw [h1]; rfl
  · rw [h1] at h
    obtain ⟨v, hv, rfl⟩ := h
    obtain ⟨u, rfl, hu⟩ := hv
    obtain ⟨uA, uc, rfl⟩ := OwnI.len hu
    have HU : Hid (OwnI (w.heap.size + 1) (.slice uA x.types.length uc) x.types w1) := Lib.hid (hu.lift (by simp))
    clear hu
    simp only [NsecR.v]
    go_wp2
    refine bodyPost_ret (results2 rfl ⟨_, rfl, loadVar_blk (cs := #[.string x.next, .slice uA x.types.length uc]) (t := 133) ?_ Tryz.underlying133 rfl info_Nsec⟩ rfl) rfl ⟨?_, ?_⟩
    · simpa using ((HK1.out.set 0 (.string x.next)).set 1 (.slice uA x.types.length uc))
    · iterate 2 refine Below.setCell ?_ (by exact Nat.le_refl _) _
      exact HB.out
    · rw [h1]
      refine ⟨_, ⟨_, rfl, ?_⟩, rfl⟩
      refine OwnI.lift (lo := w.heap.size + 1) ?_ (by omega)
      refine OwnI.only (b := w.heap.size) HU.out ?_ (Nat.lt_succ_self _)
      iterate 2 refine Only.put ?_ _ _
      exact Only.refl _ _
end Go.Proofs.YtkhpcagoggglcaaGreatDoor

/- data.Nsec3: what such data have: the closure that takes them apart, data.take at this type, data.Nsec3 itself. Lines printed by wip/tools/taker.py. -/
namespace Go.Proofs.YtkhpcagoggglcaaGreatDoor
open Go.RowKit

structure Nsec3R where
  alg : Int
  flags : Int
  rounds : Int
  salt : ByteArray
  next : ByteArray
  types : List Int
def Nsec3R.v (x : Nsec3R) (u : Value) : Value := .agg #[.int .i64 x.alg, .int .i64 x.flags, .int .i64 x.rounds, .string x.salt, .string x.next, u]
def nsec3V (lo : Nat) (x : Nsec3R) (w : World) (v : Value) : Prop := ∃ u, v = x.v u ∧ OwnI lo u x.types w
def zNsec3 : Array Value := #[.int .i64 0, .int .i64 0, .int .i64 0, .string ⟨#[]⟩, .string ⟨#[]⟩, .slice none 0 0]
theorem info_Nsec3 : (Tryz.prog.info? 146).map (·.size) = some 6 := by kernel_rfl
/-- What is taken, and what is left. -/
def nsec3T (s : ByteArray) : Option (Nsec3R × ByteArray) :=
  match numT 1 s with
  | none => none
  | some (a1, s1) =>
    match numT 1 s1 with
    | none => none
    | some (a2, s2) =>
      match numT 2 s2 with
      | none => none
      | some (a3, s3) =>
        match numT 1 s3 with
        | none => none
        | some (a4, s4) =>
          match bytesT a4.toNat s4 with
          | none => none
          | some (a5, s5) =>
            match numT 1 s5 with
            | none => none
            | some (a6, s6) =>
              match bytesT a6.toNat s6 with
              | none => none
              | some (a7, s7) =>
                if a7.size = 0 then none else
                match typesT s7 with
                | none => none
                | some (a8, s8) =>
                  some (⟨a1, a2, a3, a5, a7, a8⟩, s8)

set_option maxRecDepth 100000 in
set_option maxHeartbeats 4000000 in
theorem nsec31_t (b : Nat) (s : ByteArray) (w : World) (hS : Src b s w) (hz : s.size ≤ 2000) :
    Calls Tryz.prog 166 #[.pointer (some ⟨b, 0, none⟩)] w (Took b w (nsec3T s) (nsec3V (w.heap.size + 1))) := by
  have hne : w.heap.size ≠ b := by have := hS.lt; omega
  have n : b ≠ w.heap.size := fun h => hne h.symm
  have HL := Lib.hid hS.lt
  have HQ0 := Lib.hid hS
  have HZ0 := Lib.hid hz
  clear hS hz
  go_enter Tryz.func166, Tryz.ntmps166
  go_wp2_with fail
  refine (number_t b s 1 1 rfl _ (HQ0.out.alloc _) (by omega)).mono ?_
  rintro e W1 h
  rcases h1 : numT 1 s with _ | ⟨a1, s1⟩
  · rw [h1] at h
    obtain ⟨rfl, hO⟩ := h
    have hO2 : Only b w W1 := (Only.alloc w _).trans hO
    have hT : nsec3T s = none := by simp only [nsec3T, h1]
    first
      | (refine ⟨rfl, ?_⟩; rw [hT]; exact ⟨rfl, hO2⟩)
      | (simp only []; refine ⟨rfl, ?_⟩; rw [hT]; exact ⟨rfl, hO2⟩)
  rw [h1] at h
  obtain ⟨v1, rfl, hv, hS, hO⟩ := h
  have hO2 : Only b w W1 := (Only.alloc w _).trans hO
  obtain rfl : v1 = .int .i64 a1 := hv
  have hB2 := (Blk.new w #[.int .i64 0, .int .i64 0, .int .i64 0, .string ⟨#[]⟩, .string ⟨#[]⟩, .slice none 0 0] 146).only hO hne
  have HZ1 := Lib.hid (Nat.le_trans (numT_le h1) HZ0.out)
  have HB1 := Lib.hid hB2; have HQ1 := Lib.hid hS; have HO1 := Lib.hid hO2; have E1 := Lib.hid h1
  clear hB2 hS hO hO2 h1 
  go_wp2_with fail
  refine (number_t b s1 1 1 rfl _ (HQ1.out) (by omega)).mono ?_
  rintro e W2 h
  rcases h2 : numT 1 s1 with _ | ⟨a2, s2⟩
  · rw [h2] at h
    obtain ⟨rfl, hO⟩ := h
    have hO2 : Only b w W2 := (HO1.out).trans hO
    have hT : nsec3T s = none := by have e1 := E1.out; simp only [nsec3T, e1, h2]
    first
      | (refine ⟨rfl, ?_⟩; rw [hT]; exact ⟨rfl, hO2⟩)
      | (simp only []; refine ⟨rfl, ?_⟩; rw [hT]; exact ⟨rfl, hO2⟩)
  rw [h2] at h
  obtain ⟨v2, rfl, hv, hS, hO⟩ := h
  have hO2 : Only b w W2 := (HO1.out).trans hO
  obtain rfl : v2 = .int .i64 a2 := hv
  have hB2 := HB1.out.only hO hne
  have HZ2 := Lib.hid (Nat.le_trans (numT_le h2) HZ1.out)
  have HB2 := Lib.hid hB2; have HQ2 := Lib.hid hS; have HO2 := Lib.hid hO2; have E2 := Lib.hid h2
  clear hB2 hS hO hO2 h2 
  go_wp2_with fail
  refine (number_t b s2 2 2 rfl _ (HQ2.out) (by omega)).mono ?_
  rintro e W3 h
  rcases h3 : numT 2 s2 with _ | ⟨a3, s3⟩
  · rw [h3] at h
    obtain ⟨rfl, hO⟩ := h
    have hO2 : Only b w W3 := (HO2.out).trans hO
    have hT : nsec3T s = none := by have e1 := E1.out; have e2 := E2.out; simp only [nsec3T, e1, e2, h3]
    first
      | (refine ⟨rfl, ?_⟩; rw [hT]; exact ⟨rfl, hO2⟩)
      | (simp only []; refine ⟨rfl, ?_⟩; rw [hT]; exact ⟨rfl, hO2⟩)
  rw [h3] at h
  obtain ⟨v3, rfl, hv, hS, hO⟩ := h
  have hO2 : Only b w W3 := (HO2.out).trans hO
  obtain rfl : v3 = .int .i64 a3 := hv
  have hB2 := HB2.out.only hO hne
  have HZ3 := Lib.hid (Nat.le_trans (numT_le h3) HZ2.out)
  have HB3 := Lib.hid hB2; have HQ3 := Lib.hid hS; have HO3 := Lib.hid hO2; have E3 := Lib.hid h3
  clear hB2 hS hO hO2 h3 
  have c0 : W3.cell? ⟨w.heap.size, 0, none⟩ = some (.int .i64 0) := HB3.out.cell 0
  have c1 : W3.cell? ⟨w.heap.size, 1, none⟩ = some (.int .i64 0) := HB3.out.cell 1
  have c2 : W3.cell? ⟨w.heap.size, 2, none⟩ = some (.int .i64 0) := HB3.out.cell 2
  have c3 : W3.cell? ⟨w.heap.size, 3, none⟩ = some (.string ⟨#[]⟩) := HB3.out.cell 3
  have c4 : W3.cell? ⟨w.heap.size, 4, none⟩ = some (.string ⟨#[]⟩) := HB3.out.cell 4
  have c5 : W3.cell? ⟨w.heap.size, 5, none⟩ = some (.slice none 0 0) := HB3.out.cell 5
  have f0 := fun j => HB3.out.free j
  go_wp2_with fail
  refine (number_t b s3 1 1 rfl _ ?_ (by omega)).mono ?_
  · iterate 3 refine Blk.other ?_ n _
    exact HQ3.out
  rintro e W4 h
  rcases h4 : numT 1 s3 with _ | ⟨a4, s4⟩
  · rw [h4] at h
    obtain ⟨rfl, hO⟩ := h
    have hO2 : Only b w W4 := by
      refine Only.trans ?_ hO
      iterate 3 refine Only.setNew ?_ (Nat.le_refl _) _
      exact HO3.out
    have hT : nsec3T s = none := by have e1 := E1.out; have e2 := E2.out; have e3 := E3.out; simp only [nsec3T, e1, e2, e3, h4]
    first
      | (refine ⟨rfl, ?_⟩; rw [hT]; exact ⟨rfl, hO2⟩)
      | (simp only []; refine ⟨rfl, ?_⟩; rw [hT]; exact ⟨rfl, hO2⟩)
  rw [h4] at h
  obtain ⟨v4, rfl, hv, hS, hO⟩ := h
  have hO2 : Only b w W4 := by
    refine Only.trans ?_ hO
    iterate 3 refine Only.setNew ?_ (Nat.le_refl _) _
    exact HO3.out
  obtain rfl : v4 = .int .i64 a4 := hv
  have hB2 : Blk W4 w.heap.size #[.int .i64 a1, .int .i64 a2, .int .i64 a3, .string ⟨#[]⟩, .string ⟨#[]⟩, .slice none 0 0] 146 := by
    refine Blk.only (cs := #[.int .i64 a1, .int .i64 a2, .int .i64 a3, .string ⟨#[]⟩, .string ⟨#[]⟩, .slice none 0 0]) ?_ hO hne
    simpa using (((HB3.out.set 0 (.int .i64 a1)).set 1 (.int .i64 a2)).set 2 (.int .i64 a3))
  have HZ4 := Lib.hid (Nat.le_trans (numT_le h4) HZ3.out)
  have HB4 := Lib.hid hB2; have HQ4 := Lib.hid hS; have HO4 := Lib.hid hO2; have E4 := Lib.hid h4
  clear hB2 hS hO hO2 h4 
  clear c0 c1 c2 c3 c4 c5 f0
  go_wp2_with fail
  refine (bytes_t b s4 a4.toNat a4 (by have := (num1 _ _ _ E4.out).1; omega) _ (HQ4.out)).mono ?_
  rintro e W5 h
  rcases h5 : bytesT a4.toNat s4 with _ | ⟨a5, s5⟩
  · rw [h5] at h
    obtain ⟨rfl, hO⟩ := h
    have hO2 : Only b w W5 := (HO4.out).trans hO
    have hT : nsec3T s = none := by have e1 := E1.out; have e2 := E2.out; have e3 := E3.out; have e4 := E4.out; simp only [nsec3T, e1, e2, e3, e4, h5]
    first
      | (refine ⟨rfl, ?_⟩; rw [hT]; exact ⟨rfl, hO2⟩)
      | (simp only []; refine ⟨rfl, ?_⟩; rw [hT]; exact ⟨rfl, hO2⟩)
  rw [h5] at h
  obtain ⟨v5, rfl, hv, hS, hO⟩ := h
  have hO2 : Only b w W5 := (HO4.out).trans hO
  obtain rfl : v5 = .string a5 := hv
  have hB2 := HB4.out.only hO hne
  have HZ5 := Lib.hid (Nat.le_trans (bytesT_le h5) HZ4.out)
  have HB5 := Lib.hid hB2; have HQ5 := Lib.hid hS; have HO5 := Lib.hid hO2; have E5 := Lib.hid h5
  clear hB2 hS hO hO2 h5 
  have c0 : W5.cell? ⟨w.heap.size, 0, none⟩ = some (.int .i64 a1) := HB5.out.cell 0
  have c1 : W5.cell? ⟨w.heap.size, 1, none⟩ = some (.int .i64 a2) := HB5.out.cell 1
  have c2 : W5.cell? ⟨w.heap.size, 2, none⟩ = some (.int .i64 a3) := HB5.out.cell 2
  have c3 : W5.cell? ⟨w.heap.size, 3, none⟩ = some (.string ⟨#[]⟩) := HB5.out.cell 3
  have c4 : W5.cell? ⟨w.heap.size, 4, none⟩ = some (.string ⟨#[]⟩) := HB5.out.cell 4
  have c5 : W5.cell? ⟨w.heap.size, 5, none⟩ = some (.slice none 0 0) := HB5.out.cell 5
  have f0 := fun j => HB5.out.free j
  go_wp2_with fail
  refine (number_t b s5 1 1 rfl _ ?_ (by omega)).mono ?_
  · iterate 1 refine Blk.other ?_ n _
    exact HQ5.out
  rintro e W6 h
  rcases h6 : numT 1 s5 with _ | ⟨a6, s6⟩
  · rw [h6] at h
    obtain ⟨rfl, hO⟩ := h
    have hO2 : Only b w W6 := by
      refine Only.trans ?_ hO
      iterate 1 refine Only.setNew ?_ (Nat.le_refl _) _
      exact HO5.out
    have hT : nsec3T s = none := by have e1 := E1.out; have e2 := E2.out; have e3 := E3.out; have e4 := E4.out; have e5 := E5.out; simp only [nsec3T, e1, e2, e3, e4, e5, h6]
    first
      | (refine ⟨rfl, ?_⟩; rw [hT]; exact ⟨rfl, hO2⟩)
      | (simp only []; refine ⟨rfl, ?_⟩; rw [hT]; exact ⟨rfl, hO2⟩)
  rw [h6] at h
  obtain ⟨v6, rfl, hv, hS, hO⟩ := h
  have hO2 : Only b w W6 := by
    refine Only.trans ?_ hO
    iterate 1 refine Only.setNew ?_ (Nat.le_refl _) _
    exact HO5.out
  obtain rfl : v6 = .int .i64 a6 := hv
  have hB2 : Blk W6 w.heap.size #[.int .i64 a1, .int .i64 a2, .int .i64 a3, .string a5, .string ⟨#[]⟩, .slice none 0 0] 146 := by
    refine Blk.only (cs := #[.int .i64 a1, .int .i64 a2, .int .i64 a3, .string a5, .string ⟨#[]⟩, .slice none 0 0]) ?_ hO hne
    simpa using (HB5.out.set 3 (.string a5))
  have HZ6 := Lib.hid (Nat.le_trans (numT_le h6) HZ5.out)
  have HB6 := Lib.hid hB2; have HQ6 := Lib.hid hS; have HO6 := Lib.hid hO2; have E6 := Lib.hid h6
  clear hB2 hS hO hO2 h6 
  clear c0 c1 c2 c3 c4 c5 f0
  go_wp2_with fail
  refine (bytes_t b s6 a6.toNat a6 (by have := (num1 _ _ _ E6.out).1; omega) _ (HQ6.out)).mono ?_
  rintro e W7 h
  rcases h7 : bytesT a6.toNat s6 with _ | ⟨a7, s7⟩
  · rw [h7] at h
    obtain ⟨rfl, hO⟩ := h
    have hO2 : Only b w W7 := (HO6.out).trans hO
    have hT : nsec3T s = none := by have e1 := E1.out; have e2 := E2.out; have e3 := E3.out; have e4 := E4.out; have e5 := E5.out; have e6 := E6.out; simp only [nsec3T, e1, e2, e3, e4, e5, e6, h7]
    first
      | (refine ⟨rfl, ?_⟩; rw [hT]; exact ⟨rfl, hO2⟩)
      | (simp only []; refine ⟨rfl, ?_⟩; rw [hT]; exact ⟨rfl, hO2⟩)
  rw [h7] at h
  obtain ⟨v7, rfl, hv, hS, hO⟩ := h
  have hO2 : Only b w W7 := (HO6.out).trans hO
  obtain rfl : v7 = .string a7 := hv
  have hB2 := HB6.out.only hO hne
  have HZ7 := Lib.hid (Nat.le_trans (bytesT_le h7) HZ6.out)
  have HB7 := Lib.hid hB2; have HQ7 := Lib.hid hS; have HO7 := Lib.hid hO2; have E7 := Lib.hid h7
  clear hB2 hS hO hO2 h7 
  have c0 : W7.cell? ⟨w.heap.size, 0, none⟩ = some (.int .i64 a1) := HB7.out.cell 0
  have c1 : W7.cell? ⟨w.heap.size, 1, none⟩ = some (.int .i64 a2) := HB7.out.cell 1
  have c2 : W7.cell? ⟨w.heap.size, 2, none⟩ = some (.int .i64 a3) := HB7.out.cell 2
  have c3 : W7.cell? ⟨w.heap.size, 3, none⟩ = some (.string a5) := HB7.out.cell 3
  have c4 : W7.cell? ⟨w.heap.size, 4, none⟩ = some (.string ⟨#[]⟩) := HB7.out.cell 4
  have c5 : W7.cell? ⟨w.heap.size, 5, none⟩ = some (.slice none 0 0) := HB7.out.cell 5
  have f0 := fun j => HB7.out.free j
  by_cases hm : a7.size = 0
  · have hT : nsec3T s = none := by have e1 := E1.out; have e2 := E2.out; have e3 := E3.out; have e4 := E4.out; have e5 := E5.out; have e6 := E6.out; have e7 := E7.out; simp only [nsec3T, e1, e2, e3, e4, e5, e6, e7, hm, if_true]
    have HT := Lib.hid hT
    obtain rfl := size_empty hm
    clear hT hm
    go_wp2_with (go_at_call 111; refine (must_no _ _).mono ?_; rintro e w2 ⟨rfl, rfl⟩)
    have hO2 : Only b w _ := Only.setNew (p := ⟨w.heap.size, 4, none⟩) HO7.out (Nat.le_refl _) (.string ⟨#[]⟩)
    refine ⟨rfl, ?_⟩
    rw [HT.out]
    exact ⟨rfl, hO2⟩
  have he := toList_isEmpty hm
  have HM := Lib.hid hm
  clear hm
  go_wp2_with (go_at_call 111; refine (must_ok _ _).mono ?_; rintro e w2 ⟨rfl, rfl⟩)
  refine (types_t b s7 _ ?_ HZ7.out).mono ?_
  · iterate 1 refine Blk.other ?_ n _
    exact HQ7.out
  rintro e W8 h
  rcases h8 : typesT s7 with _ | ⟨a8, s8⟩
  · rw [h8] at h
    obtain ⟨rfl, hO⟩ := h
    have hO2 : Only b w W8 := by
      refine Only.trans ?_ hO
      iterate 1 refine Only.setNew ?_ (Nat.le_refl _) _
      exact HO7.out
    have hT : nsec3T s = none := by have e1 := E1.out; have e2 := E2.out; have e3 := E3.out; have e4 := E4.out; have e5 := E5.out; have e6 := E6.out; have e7 := E7.out; simp only [nsec3T, e1, e2, e3, e4, e5, e6, e7, h8, HM.out, if_false]
    first
      | (refine ⟨rfl, ?_⟩; rw [hT]; exact ⟨rfl, hO2⟩)
      | (simp only []; refine ⟨rfl, ?_⟩; rw [hT]; exact ⟨rfl, hO2⟩)
  rw [h8] at h
  obtain ⟨v8, rfl, hv, hS, hO⟩ := h
  have hO2 : Only b w W8 := by
    refine Only.trans ?_ hO
    iterate 1 refine Only.setNew ?_ (Nat.le_refl _) _
    exact HO7.out
  obtain ⟨A8, c8, rfl⟩ := OwnI.len hv
  have HV8 : Hid (OwnI (w.heap.size + 1) (.slice A8 a8.length c8) a8 W8) := Lib.hid (OwnI.lift hv (by have := HB7.out.lt; first | omega | (simp; omega)))
  have hB2 : Blk W8 w.heap.size #[.int .i64 a1, .int .i64 a2, .int .i64 a3, .string a5, .string a7, .slice none 0 0] 146 := by
    refine Blk.only (cs := #[.int .i64 a1, .int .i64 a2, .int .i64 a3, .string a5, .string a7, .slice none 0 0]) ?_ hO hne
    simpa using (HB7.out.set 4 (.string a7))
  have HZ8 := Lib.hid (Nat.le_trans (typesT_le h8) HZ7.out)
  have HB8 := Lib.hid hB2; have HQ8 := Lib.hid hS; have HO8 := Lib.hid hO2; have E8 := Lib.hid h8
  clear hB2 hS hO hO2 h8 hv
  clear c0 c1 c2 c3 c4 c5 f0
  have c0 : W8.cell? ⟨w.heap.size, 0, none⟩ = some (.int .i64 a1) := HB8.out.cell 0
  have c1 : W8.cell? ⟨w.heap.size, 1, none⟩ = some (.int .i64 a2) := HB8.out.cell 1
  have c2 : W8.cell? ⟨w.heap.size, 2, none⟩ = some (.int .i64 a3) := HB8.out.cell 2
  have c3 : W8.cell? ⟨w.heap.size, 3, none⟩ = some (.string a5) := HB8.out.cell 3
  have c4 : W8.cell? ⟨w.heap.size, 4, none⟩ = some (.string a7) := HB8.out.cell 4
  have c5 : W8.cell? ⟨w.heap.size, 5, none⟩ = some (.slice none 0 0) := HB8.out.cell 5
  have f0 := fun j => HB8.out.free j
  go_wp2_with fail
  have hF : Blk (((((((W8.setCell ⟨w.heap.size, 5, none⟩ (.slice A8 a8.length c8)).setCell ⟨w.heap.size, 0, none⟩ (.int .i64 a1)).setCell ⟨w.heap.size, 1, none⟩ (.int .i64 a2)).setCell ⟨w.heap.size, 2, none⟩ (.int .i64 a3)).setCell ⟨w.heap.size, 3, none⟩ (.string a5)).setCell ⟨w.heap.size, 4, none⟩ (.string a7)).setCell ⟨w.heap.size, 5, none⟩ (.slice A8 a8.length c8)) w.heap.size #[.int .i64 a1, .int .i64 a2, .int .i64 a3, .string a5, .string a7, .slice A8 a8.length c8] 146 := by
    simpa using (((((((HB8.out.set 5 (.slice A8 a8.length c8)).set 0 (.int .i64 a1)).set 1 (.int .i64 a2)).set 2 (.int .i64 a3)).set 3 (.string a5)).set 4 (.string a7)).set 5 (.slice A8 a8.length c8))
  have hT : nsec3T s = some (⟨a1, a2, a3, a5, a7, a8⟩, s8) := by have e1 := E1.out; have e2 := E2.out; have e3 := E3.out; have e4 := E4.out; have e5 := E5.out; have e6 := E6.out; have e7 := E7.out; have e8 := E8.out; simp only [nsec3T, e1, e2, e3, e4, e5, e6, e7, e8, HM.out, if_false]
  refine bodyPost_ret (results1 rfl ⟨_, rfl, loadVar_blk hF Tryz.underlying146 rfl info_Nsec3⟩) rfl ?_
  rw [hT]
  refine ⟨_, rfl, ⟨_, rfl, ?_⟩, ?_, ?_⟩
  · refine OwnI.only (b := w.heap.size) HV8.out ?_ (Nat.lt_succ_self _)
    iterate 7 refine Only.put ?_ _ _
    exact Only.refl _ _
  · iterate 7 refine Blk.other ?_ n _
    exact HQ8.out
  · iterate 7 refine Only.setNew ?_ (Nat.le_refl _) _
    exact HO8.out
set_option maxRecDepth 100000 in
theorem nsec3_panic (B n m : Nat) {v0 v1 v2 v3 v4 v5 : Value} (w : World) (h0 : Blk w n #[v0, v1, v2, v3, v4, v5] 146) (h1 : Blk w m #[.int .i64 0] 25) (hne : n ≠ m) (hBn : B ≤ n) (hBm : B ≤ m) :
    CallsD Tryz.prog 198 #[.pointer (some ⟨n, 0, none⟩), .pointer (some ⟨m, 0, none⟩)] (.panicking [{ v := .iface 162 (.agg #[]), recovered := false }]) w fun e u' w' =>
      e = .returned (.tuple #[]) ∧ u' = .panicking [{ v := .iface 162 (.agg #[]), recovered := true }] ∧ Blk w' n #[.int .i64 0, .int .i64 0, .int .i64 0, .string ⟨#[]⟩, .string ⟨#[]⟩, .slice none 0 0] 146 ∧ Blk w' m #[.int .i64 6] 25 ∧ Below B w w' := by
  refine callsD_of_wpS Tryz.func198 rfl fun c₀ cs hu => ?_
  simp only [Tryz.ntmps198, List.size_toArray, List.length_cons, List.length_nil, Nat.reduceAdd, Nat.reduceSub, Array.replicate_succ, Array.replicate_zero, List.push_toArray, List.append_toArray, List.nil_append, List.cons_append]
  apply wpS_seq
  apply wpS_region
  simp [wpOpsS, go_sem, recoverD, hu, Exit.thenS]
  refine wpS_of_wp (wp_mono (Q := fun e a' w' => e = .normal ∧ a'.defers = [] ∧ Blk w' n #[.int .i64 0, .int .i64 0, .int .i64 0, .string ⟨#[]⟩, .string ⟨#[]⟩, .slice none 0 0] 146 ∧ Blk w' m #[.int .i64 6] 25 ∧ Below B w w') ?_ ?_)
  · have c0 : w.cell? ⟨n, 0, none⟩ = some v0 := h0.cell 0
    have c1 : w.cell? ⟨n, 1, none⟩ = some v1 := h0.cell 1
    have c2 : w.cell? ⟨n, 2, none⟩ = some v2 := h0.cell 2
    have c3 : w.cell? ⟨n, 3, none⟩ = some v3 := h0.cell 3
    have c4 : w.cell? ⟨n, 4, none⟩ = some v4 := h0.cell 4
    have c5 : w.cell? ⟨n, 5, none⟩ = some v5 := h0.cell 5
    have e0 : w.cell? ⟨m, 0, none⟩ = some (.int .i64 0) := h1.cell 0
    have f0 := fun j => h0.free j
    have f1 := fun j => h1.free j
    have l0 := h0.lt
    have l1 := h1.lt
    have H0 := Lib.hid h0; have H1 := Lib.hid h1; clear h0 h1
    generalize hQ : (fun (e : Exit) (a' : Act) (w' : World) => e = Exit.normal ∧ a'.defers = [] ∧ Blk w' n #[.int .i64 0, .int .i64 0, .int .i64 0, .string ⟨#[]⟩, .string ⟨#[]⟩, .slice none 0 0] 146 ∧ Blk w' m #[.int .i64 6] 25 ∧ Below B w w') = Q
    have HQ := Lib.hid hQ; clear hQ
    have hta := assert_stop
    go_wp2
    rw [← HQ.out]
    refine ⟨rfl, rfl, ?_, ?_, ?_⟩
    · refine Blk.alloc (Blk.alloc (Blk.other ?_ hne _) _) _
      simpa using ((((((H0.out.set 0 (.int .i64 0)).set 1 (.int .i64 0)).set 2 (.int .i64 0)).set 3 (.string ⟨#[]⟩)).set 4 (.string ⟨#[]⟩)).set 5 (.slice none 0 0))
    · refine Blk.alloc (Blk.alloc (Blk.set (cs := #[.int .i64 0]) ?_ 0 _) _) _
      iterate 6 refine Blk.other ?_ (fun h => hne h.symm) _
      exact H1.out
    · refine Below.alloc (Below.alloc ?_ (by simp; omega) _) (by simp; omega) _
      refine Below.setCell ?_ (by simpa using hBm) _
      iterate 6 refine Below.setCell ?_ (by simpa using hBn) _
      exact Below.refl _ _
  · rintro e a w' ⟨rfl, hd, q⟩
    exact ⟨hd, _, rfl, _, results_none rfl _ _ _, rfl, rfl, q⟩

theorem nsec3_idle (n m : Nat) (w : World) :
    CallsD Tryz.prog 198 #[.pointer (some ⟨n, 0, none⟩), .pointer (some ⟨m, 0, none⟩)] .returning w fun e u' w' => e = .returned (.tuple #[]) ∧ u' = .returning ∧ w' = w := by
  refine callsD_of_wpS Tryz.func198 rfl fun c₀ cs hu => ?_
  simp only [Tryz.ntmps198, List.size_toArray, List.length_cons, List.length_nil, Nat.reduceAdd, Nat.reduceSub, Array.replicate_succ, Array.replicate_zero, List.push_toArray, List.append_toArray, List.nil_append, List.cons_append]
  apply wpS_seq
  apply wpS_region
  simp [wpOpsS, go_sem, recoverD, hu, Exit.thenS]
  refine wpS_of_wp (wp_mono (Q := fun e a' w' => e = .normal ∧ a'.defers = [] ∧ w' = w) ?_ ?_)
  · generalize hQ : (fun (e : Exit) (a' : Act) (w' : World) => e = Exit.normal ∧ a'.defers = [] ∧ w' = w) = Q
    have HQ := Lib.hid hQ; clear hQ
    go_wp2
    rw [← HQ.out]
    exact ⟨rfl, rfl, rfl⟩
  · rintro e a w' ⟨rfl, hd, rfl⟩
    cases c₀
    simp at hu
    subst hu
    exact ⟨hd, _, rfl, _, results_none rfl _ _ _, rfl, rfl, rfl⟩

/-- The world in which take calls its function. -/
def wNsec3 (w : World) (d : ByteArray) : World := ((w.alloc (.cells #[.int .i64 0, .int .i64 0, .int .i64 0, .string ⟨#[]⟩, .string ⟨#[]⟩, .slice none 0 0] 146)).alloc (.cells #[.int .i64 0] 25)).alloc (.cells #[.string d] 165)
theorem wNsec3_src (w : World) (d : ByteArray) : Src (w.heap.size + 1 + 1) d (wNsec3 w d) := by
  have := Blk.new ((w.alloc (.cells #[.int .i64 0, .int .i64 0, .int .i64 0, .string ⟨#[]⟩, .string ⟨#[]⟩, .slice none 0 0] 146)).alloc (.cells #[.int .i64 0] 25)) #[.string d] 165
  simpa [wNsec3, Src] using this
theorem wNsec3_val (w : World) (d : ByteArray) : Blk (wNsec3 w d) w.heap.size #[.int .i64 0, .int .i64 0, .int .i64 0, .string ⟨#[]⟩, .string ⟨#[]⟩, .slice none 0 0] 146 := ((Blk.new w #[.int .i64 0, .int .i64 0, .int .i64 0, .string ⟨#[]⟩, .string ⟨#[]⟩, .slice none 0 0] 146).alloc _).alloc _
theorem wNsec3_err (w : World) (d : ByteArray) : Blk (wNsec3 w d) (w.heap.size + 1) #[.int .i64 0] 25 := by
  have := (Blk.new (w.alloc (.cells #[.int .i64 0, .int .i64 0, .int .i64 0, .string ⟨#[]⟩, .string ⟨#[]⟩, .slice none 0 0] 146)) #[.int .i64 0] 25).alloc (.cells #[.string d] 165)
  simpa [wNsec3] using this
theorem wNsec3_below (w : World) (d : ByteArray) : Below w.heap.size w (wNsec3 w d) := (((Below.refl _ w).alloc (Nat.le_refl _) _).alloc (by simp) _).alloc (by simp; omega) _

/-- Behind the door, where something panicked. -/
theorem nsec3_door (p : Option Nsec3R) (hp : p = none) (tmps : Array Value) {v0 v1 v2 v3 v4 v5 : Value} (w w1 : World) (hk : Blk w1 w.heap.size #[v0, v1, v2, v3, v4, v5] 146) (he : Blk w1 (w.heap.size + 1) #[.int .i64 0] 25) (hb : Below w.heap.size w w1)
    (h4 : tmps.getD 4 undef = .pointer (some ⟨w.heap.size, 0, none⟩)) (h5 : tmps.getD 5 undef = .pointer (some ⟨w.heap.size + 1, 0, none⟩)) :
    bodyPostD Tryz.prog Tryz.f165 (TakeP (nsec3V (w.heap.size + 1)) (.agg #[.int .i64 0, .int .i64 0, .int .i64 0, .string ⟨#[]⟩, .string ⟨#[]⟩, .slice none 0 0]) p w) (.panic stopC)
      { tmps := tmps, defers := [{ target := .fn (.func 198) #[.pointer (some ⟨w.heap.size, 0, none⟩), .pointer (some ⟨w.heap.size + 1, 0, none⟩)], args := #[] }] } w1 := by
  subst hp
  refine leaves_cons (f := 198) (args := #[.pointer (some ⟨w.heap.size, 0, none⟩), .pointer (some ⟨w.heap.size + 1, 0, none⟩)]) (by simp) (by simp [go_sem]) ?_
  refine (nsec3_panic w.heap.size _ _ w1 hk he (by omega) (Nat.le_refl _) (by omega)).mono ?_
  rintro e u' w2 ⟨rfl, rfl, hk2, he2, hb2⟩
  exact ⟨_, results2 rfl ⟨_, h4, loadVar_blk hk2 Tryz.underlying146 rfl info_Nsec3⟩ ⟨_, h5, loadVar_int he2 Tryz.underlying25⟩, hb.trans hb2, rfl⟩

set_option maxRecDepth 100000 in
set_option maxHeartbeats 1000000 in
theorem take_nsec3 (d : ByteArray) (w : World) :
    Calls Tryz.prog 165 #[.string d, .func (.func 166) #[] #[]] w (TakeP (nsec3V (w.heap.size + 1)) (.agg #[.int .i64 0, .int .i64 0, .int .i64 0, .string ⟨#[]⟩, .string ⟨#[]⟩, .slice none 0 0]) (takeR nsec3T d) w) := by
  have hmf := makeFunc_run
  by_cases hd : d.size ≤ 2000
  · have hd' : decide ((d.size : Int) ≤ 2000) = true := by simp; omega
    have HD := Lib.hid hd; clear hd
    go_enter_defers Tryz.func165, Tryz.ntmps165
    go_wp2_with (go_at_call 111; refine (must_ok _ _).mono ?_; rintro e w' ⟨rfl, rfl⟩)
    refine (nsec31_t (w.heap.size + 1 + 1) d _ (wNsec3_src w d) HD.out).mono ?_
    rintro e w1 h
    rcases h1 : nsec3T d with _ | ⟨x, r⟩
    · rw [h1] at h
      obtain ⟨rfl, hO⟩ := h
      exact nsec3_door _ (takeR_none h1) _ w w1 ((wNsec3_val w d).only hO (by omega)) ((wNsec3_err w d).only hO (by omega)) ((wNsec3_below w d).trans (hO.belowOf (by omega) (by simp [wNsec3]; omega))) rfl rfl
    rw [h1] at h
    obtain ⟨v, rfl, hv, hS, hO⟩ := h
    obtain ⟨u, rfl, hu⟩ := hv
    obtain ⟨uA, uc, rfl⟩ := OwnI.len hu
    have HU : Hid (OwnI (w.heap.size + 3) (.slice uA x.types.length uc) x.types w1) := Lib.hid (hu.lift (by simp [wNsec3]))
    clear hu
    have hk1 := (wNsec3_val w d).only hO (by omega)
    have he1 := (wNsec3_err w d).only hO (by omega)
    have hB1 := (wNsec3_below w d).trans (hO.belowOf (B := w.heap.size) (by omega) (by simp [wNsec3]; omega))
    have c0 : w1.cell? ⟨w.heap.size, 0, none⟩ = some (.int .i64 0) := hk1.cell 0
    have c1 : w1.cell? ⟨w.heap.size, 1, none⟩ = some (.int .i64 0) := hk1.cell 1
    have c2 : w1.cell? ⟨w.heap.size, 2, none⟩ = some (.int .i64 0) := hk1.cell 2
    have c3 : w1.cell? ⟨w.heap.size, 3, none⟩ = some (.string ⟨#[]⟩) := hk1.cell 3
    have c4 : w1.cell? ⟨w.heap.size, 4, none⟩ = some (.string ⟨#[]⟩) := hk1.cell 4
    have c5 : w1.cell? ⟨w.heap.size, 5, none⟩ = some (.slice none 0 0) := hk1.cell 5
    have e0 : w1.cell? ⟨w.heap.size + 1, 0, none⟩ = some (.int .i64 0) := he1.cell 0
    have e5 : w1.cell? ⟨w.heap.size + 1 + 1, 0, none⟩ = some (.string r) := hS.cell 0
    have f0 := fun j => hk1.free j
    have f1 := fun j => he1.free j
    have HK1 := Lib.hid hk1; have HE1 := Lib.hid he1; have HB1 := Lib.hid hB1; have H1 := Lib.hid h1
    clear hk1 he1 hB1 hO hS h1
    simp only [Nsec3R.v]
    by_cases hr : r.size = 0
    · obtain rfl := size_empty hr
      clear hr
      go_wp2_with (go_at_call 111; refine (must_ok _ _).mono ?_; rintro e w' ⟨rfl, rfl⟩)
      refine leaves_cons (f := 198) (args := #[.pointer (some ⟨w.heap.size, 0, none⟩), .pointer (some ⟨w.heap.size + 1, 0, none⟩)]) (by simp) (by simp [go_sem]) ?_
      refine (nsec3_idle _ _ _).mono ?_
      rintro e u' w2 ⟨rfl, rfl, rfl⟩
      refine ⟨_, results2 rfl ⟨_, rfl, loadVar_blk (cs := #[.int .i64 x.alg, .int .i64 x.flags, .int .i64 x.rounds, .string x.salt, .string x.next, .slice uA x.types.length uc]) (t := 146) ?_ Tryz.underlying146 rfl info_Nsec3⟩ ⟨_, rfl, loadVar_int (t := 25) (v := .int .i64 0) ?_ Tryz.underlying25⟩, ?_, ?_⟩
      · refine Blk.other ?_ (by simp) _
        simpa using ((((((((((((HK1.out.set 0 (.int .i64 x.alg)).set 1 (.int .i64 x.flags)).set 2 (.int .i64 x.rounds)).set 3 (.string x.salt)).set 4 (.string x.next)).set 5 (.slice uA x.types.length uc)).set 0 (.int .i64 x.alg)).set 1 (.int .i64 x.flags)).set 2 (.int .i64 x.rounds)).set 3 (.string x.salt)).set 4 (.string x.next)).set 5 (.slice uA x.types.length uc))
      · refine Blk.set (cs := #[.int .i64 0]) ?_ 0 _
        iterate 12 refine Blk.other ?_ (by simp) _
        exact HE1.out
      · refine Below.setCell ?_ (by simp) _
        iterate 12 refine Below.setCell ?_ (by exact Nat.le_refl _) _
        exact HB1.out
      · rw [takeR_some HD.out H1.out rfl]
        refine ⟨_, ⟨_, rfl, ?_⟩, rfl⟩
        refine OwnI.lift (lo := w.heap.size + 3) ?_ (by omega)
        refine OwnI.only (b := w.heap.size + 1) ?_ ((Only.refl _ _).put _ _) (by omega)
        refine OwnI.only (b := w.heap.size) HU.out ?_ (by omega)
        iterate 12 refine Only.put ?_ _ _
        exact Only.refl _ _
    · have he := toList_isEmpty hr
      have hT := takeR_left H1.out hr
      have HT := Lib.hid hT; clear hT hr
      go_wp2_with (go_at_call 111; refine (must_no _ _).mono ?_; rintro e w' ⟨rfl, rfl⟩)
      refine nsec3_door _ HT.out _ (v0 := .int .i64 x.alg) (v1 := .int .i64 x.flags) (v2 := .int .i64 x.rounds) (v3 := .string x.salt) (v4 := .string x.next) (v5 := .slice uA x.types.length uc) (w := w) (w1 := _) (hk := ?_) (he := ?_) (hb := ?_) rfl rfl
      · exact (by simpa using ((((((HK1.out.set 0 (.int .i64 x.alg)).set 1 (.int .i64 x.flags)).set 2 (.int .i64 x.rounds)).set 3 (.string x.salt)).set 4 (.string x.next)).set 5 (.slice uA x.types.length uc)) : Blk _ w.heap.size #[.int .i64 x.alg, .int .i64 x.flags, .int .i64 x.rounds, .string x.salt, .string x.next, .slice uA x.types.length uc] 146)
      · iterate 6 refine Blk.other ?_ (by simp) _
        exact HE1.out
      · iterate 6 refine Below.setCell ?_ (by exact Nat.le_refl _) _
        exact HB1.out
  · have hd' : decide ((d.size : Int) ≤ 2000) = false := by simp; omega
    have HT := Lib.hid (takeR_long (f := nsec3T) hd)
    clear hd
    go_enter_defers Tryz.func165, Tryz.ntmps165
    go_wp2_with (go_at_call 111; refine (must_no _ _).mono ?_; rintro e w' ⟨rfl, rfl⟩)
    exact nsec3_door _ HT.out _ w _ (wNsec3_val w d) (wNsec3_err w d) (wNsec3_below w d) rfl rfl

set_option maxRecDepth 100000 in
theorem data_nsec3 (d : ByteArray) (w : World) :
    Calls Tryz.prog 96 #[.string d] w (TakeP (nsec3V w.heap.size) (.agg #[.int .i64 0, .int .i64 0, .int .i64 0, .string ⟨#[]⟩, .string ⟨#[]⟩, .slice none 0 0]) (takeR nsec3T d) w) := by
  have hmf := makeFunc_run
  go_enter Tryz.func96, Tryz.ntmps96
  go_wp2_with fail
  refine (take_nsec3 d _).mono ?_
  rintro e w1 ⟨hb, h⟩
  have hk1 : Blk w1 w.heap.size #[.int .i64 0, .int .i64 0, .int .i64 0, .string ⟨#[]⟩, .string ⟨#[]⟩, .slice none 0 0] 146 := (Blk.new w #[.int .i64 0, .int .i64 0, .int .i64 0, .string ⟨#[]⟩, .string ⟨#[]⟩, .slice none 0 0] 146).below hb (by simp)
  have hB : Below w.heap.size w w1 := ((Below.refl _ w).alloc (Nat.le_refl _) _).trans (hb.mono (by simp))
  have c0 : w1.cell? ⟨w.heap.size, 0, none⟩ = some (.int .i64 0) := hk1.cell 0
  have c1 : w1.cell? ⟨w.heap.size, 1, none⟩ = some (.int .i64 0) := hk1.cell 1
  have c2 : w1.cell? ⟨w.heap.size, 2, none⟩ = some (.int .i64 0) := hk1.cell 2
  have c3 : w1.cell? ⟨w.heap.size, 3, none⟩ = some (.string ⟨#[]⟩) := hk1.cell 3
  have c4 : w1.cell? ⟨w.heap.size, 4, none⟩ = some (.string ⟨#[]⟩) := hk1.cell 4
  have c5 : w1.cell? ⟨w.heap.size, 5, none⟩ = some (.slice none 0 0) := hk1.cell 5
  have f0 := fun j => hk1.free j
  have HK1 := Lib.hid hk1; have HB := Lib.hid hB; clear hk1 hb hB
  rcases h1 : takeR nsec3T d with _ | x
  · rw [h1] at h
    obtain rfl := h
    go_wp2
    refine bodyPost_ret (results2 rfl ⟨_, rfl, loadVar_blk (cs := #[.int .i64 0, .int .i64 0, .int .i64 0, .string ⟨#[]⟩, .string ⟨#[]⟩, .slice none 0 0]) (t := 146) ?_ Tryz.underlying146 rfl info_Nsec3⟩ rfl) rfl ⟨?_, ?_⟩
    · simpa using ((((((HK1.out.set 0 (.int .i64 0)).set 1 (.int .i64 0)).set 2 (.int .i64 0)).set 3 (.string ⟨#[]⟩)).set 4 (.string ⟨#[]⟩)).set 5 (.slice none 0 0))
    · iterate 6 refine Below.setCell ?_ (by exact Nat.le_refl _) _
      exact HB.out
    · rw [h1]; rfl
  · rw [h1] at h
    obtain ⟨v, hv, rfl⟩ := h
    obtain ⟨u, rfl, hu⟩ := hv
    obtain ⟨uA, uc, rfl⟩ := OwnI.len hu
    have HU : Hid (OwnI (w.heap.size + 1) (.slice uA x.types.length uc) x.types w1) := Lib.hid (hu.lift (by simp))
    clear hu
    simp only [Nsec3R.v]
    go_wp2
    refine bodyPost_ret (results2 rfl ⟨_, rfl, loadVar_blk (cs := #[.int .i64 x.alg, .int .i64 x.flags, .int .i64 x.rounds, .string x.salt, .string x.next, .slice uA x.types.length uc]) (t := 146) ?_ Tryz.underlying146 rfl info_Nsec3⟩ rfl) rfl ⟨?_, ?_⟩
    · simpa using ((((((HK1.out.set 0 (.int .i64 x.alg)).set 1 (.int .i64 x.flags)).set 2 (.int .i64 x.rounds)).set 3 (.string x.salt)).set 4 (.string x.next)).set 5 (.slice uA x.types.length uc))
    · iterate 6 refine Below.setCell ?_ (by exact Nat.le_refl _) _
      exact HB.out
    · rw [h1]
      refine ⟨_, ⟨_, rfl, ?_⟩, rfl⟩
      refine OwnI.lift (lo := w.heap.size + 1) ?_ (by omega)
      refine OwnI.only (b := w.heap.size) HU.out ?_ (Nat.lt_succ_self _)
      iterate 6 refine Only.put ?_ _ _
      exact Only.refl _ _
end Go.Proofs.YtkhpcagoggglcaaGreatDoor

/- A region that draws its order: its first n operations only read (and call what only reads), in whatever order; what stands behind them waits for all of them, one behind the other. One walk serves every order; of a fence, too. -/
namespace Go.Proofs.YtkhpcagoggglcaaGreatDoor
open Go.RowKit

section
variable {md : Region.Mode} {ops : Array Oper}

/-- wpAny and its fenced twin, over whatever a step is. -/
def anyG (md : Region.Mode) (ops : Array Oper) (Op1 : Nat → (Act → World → Prop) → Act → World → Prop) (Qn : Act → World → Prop) : Nat → Array Bool → Act → World → Prop
  | 0, listed, a, w => Region.ready md ops listed = [] ∧ Qn a w
  | f + 1, listed, a, w => (Region.ready md ops listed = [] → Qn a w) ∧ ∀ i ∈ Region.ready md ops listed, Op1 i (anyG md ops Op1 Qn f (listed.setIfInBounds i true)) a w

theorem anyG_wpAny {P : Program} {Q : Exit → Act → World → Prop} : ∀ (f : Nat) (listed : Array Bool), anyG md ops (wpOp P ops Q) (Q .normal) f listed = wpAny P md ops Q f listed
  | 0, _ => rfl
  | f + 1, listed => by
    funext a w
    simp only [anyG, wpAny, anyG_wpAny f]
theorem anyG_wpAnyIn {F : Fence} {n : Nat} {P : Program} {Q : Exit → Act → World → Prop} : ∀ (f : Nat) (listed : Array Bool), anyG md ops (wpOpIn F n P ops Q) (Q .normal) f listed = wpAnyIn F n P md ops Q f listed
  | 0, _ => rfl
  | f + 1, listed => by
    funext a w
    simp only [anyG, wpAnyIn, anyG_wpAnyIn f]

/-- Each operation from n on waits for every one ahead of it; the edges lead back. -/
def tailB (md : Region.Mode) (ops : Array Oper) (n : Nat) : Bool :=
  (List.range ops.size).all fun t => match ops[t]? with
    | none => true
    | some o => o.after.all (fun e => decide (e.on < t)) && (decide (t < n) || (List.range t).all fun i => o.after.any fun e => Region.binds md e && e.on == i)

theorem tailB_back {n t : Nat} {o : Oper} (h : tailB md ops n = true) (ho : ops[t]? = some o) : ∀ e ∈ o.after, e.on < t := by
  have hlt : t < ops.size := (Array.getElem?_eq_some_iff.1 ho).1
  have h1 := List.all_eq_true.1 h t (List.mem_range.2 hlt)
  simp only [ho, Bool.and_eq_true] at h1
  intro e he
  have := Array.all_eq_true'.1 h1.1 e he
  simpa using this
theorem tailB_waits {n t : Nat} {o : Oper} (h : tailB md ops n = true) (ho : ops[t]? = some o) (hn : n ≤ t) : ∀ i, i < t → ∃ e ∈ o.after, Region.binds md e = true ∧ e.on = i := by
  have hlt : t < ops.size := (Array.getElem?_eq_some_iff.1 ho).1
  have h1 := List.all_eq_true.1 h t (List.mem_range.2 hlt)
  simp only [ho, Bool.and_eq_true, Bool.or_eq_true, decide_eq_true_eq] at h1
  intro i hi
  rcases h1.2 with h2 | h2
  · omega
  · obtain ⟨e, he, hb⟩ := Array.any_eq_true'.1 (List.all_eq_true.1 h2 i (List.mem_range.2 hi))
    simp only [Bool.and_eq_true, beq_iff_eq] at hb
    exact ⟨e, he, hb.1, hb.2⟩

/-- What stands behind the first n, one behind the other. -/
def tailG (Op1 : Nat → (Act → World → Prop) → Act → World → Prop) (Qn : Act → World → Prop) (size : Nat) : Nat → Act → World → Prop
  | 0 => Qn
  | k + 1 => Op1 (size - (k + 1)) (tailG Op1 Qn size k)

theorem tail_any {Op1 : Nat → (Act → World → Prop) → Act → World → Prop} {Qn : Act → World → Prop} (hmono : ∀ i (K K' : Act → World → Prop) a w, (∀ a w, K a w → K' a w) → Op1 i K a w → Op1 i K' a w)
    {n : Nat} (hB : tailB md ops n = true) : ∀ (k f : Nat) (listed : Array Bool) (a : Act) (w : World), k ≤ f → n + k ≤ ops.size → listed.size = ops.size →
      (∀ i, i < ops.size - k → listed.getD i false = true) → (∀ i, ops.size - k ≤ i → i < ops.size → listed.getD i false = false) →
      tailG Op1 Qn ops.size k a w → anyG md ops Op1 Qn f listed a w := by
  intro k
  induction k with
  | zero =>
    intro f listed a w _ _ hsz hl _ h
    have hr : Region.ready md ops listed = [] := by
      apply List.eq_nil_iff_forall_not_mem.2
      intro i hi
      obtain ⟨hun, o, ho, _⟩ := mem_ready.1 hi
      have hlt : i < ops.size := (Array.getElem?_eq_some_iff.1 ho).1
      have := hl i (by omega)
      have hls : i < listed.size := by omega
      simp [hls] at hun this
      rw [hun] at this
      cases this
    cases f with
    | zero => exact ⟨hr, h⟩
    | succ f => exact ⟨fun _ => h, fun i hi => absurd hi (by rw [hr]; simp)⟩
  | succ k ih =>
    intro f listed a w hf hn hsz hl hu h
    obtain ⟨f, rfl⟩ : ∃ g, f = g + 1 := ⟨f - 1, by omega⟩
    have hm : ops.size - (k + 1) < ops.size := by omega
    have honly : ∀ i ∈ Region.ready md ops listed, i = ops.size - (k + 1) := by
      intro i hi
      obtain ⟨hun, o, ho, hall⟩ := mem_ready.1 hi
      have hlt : i < ops.size := (Array.getElem?_eq_some_iff.1 ho).1
      have hls : i < listed.size := by omega
      rcases Nat.lt_trichotomy i (ops.size - (k + 1)) with h1 | h1 | h1
      · have := hl i h1
        simp [hls] at hun this
        rw [hun] at this
        cases this
      · exact h1
      · obtain ⟨e, he, hb, hon⟩ := tailB_waits hB ho (by omega) _ h1
        have h2 := hall e he hb
        rw [hon, hu _ (Nat.le_refl _) hm] at h2
        cases h2
    have hready : ops.size - (k + 1) ∈ Region.ready md ops listed := by
      refine mem_ready.2 ⟨?_, ops[ops.size - (k + 1)], Array.getElem?_eq_getElem hm, fun e he _ => ?_⟩
      · have := hu _ (Nat.le_refl _) hm
        have hls : ops.size - (k + 1) < listed.size := by omega
        simp [hls] at this ⊢
        exact this
      · exact hl _ (tailB_back hB (Array.getElem?_eq_getElem hm) e he)
    refine ⟨fun h0 => absurd hready (by rw [h0]; simp), fun i hi => ?_⟩
    have hi' := honly i hi
    subst hi'
    refine hmono _ _ _ a w (fun a' w' h' => ih f _ a' w' (by omega) (by omega) (by simpa using hsz) ?_ ?_ h') h
    · intro i hi
      by_cases he : ops.size - (k + 1) = i
      · have hls : i < listed.size := by omega
        simp [he, hls]
      · have := hl i (by omega)
        simp only [Array.getD_eq_getD_getElem?, Array.getElem?_setIfInBounds, he, if_false] at this ⊢
        exact this
    · intro i h1 h2
      have he : ¬ ops.size - (k + 1) = i := by omega
      have := hu i (by omega) h2
      simp only [Array.getD_eq_getD_getElem?, Array.getElem?_setIfInBounds, he, if_false] at this ⊢
      exact this

/-- The first n operations. -/
def headOps (ops : Array Oper) (n : Nat) : Array Oper := (ops.toList.take n).toArray
theorem headOps_get {n i : Nat} (hi : i < n) : (headOps ops n)[i]? = ops[i]? := by simp [headOps, hi]
theorem headOps_size {n : Nat} (hn : n ≤ ops.size) : (headOps ops n).size = n := by simp [headOps]; omega

/-- Guards look back. -/
def guardB (ops : Array Oper) : Bool := (List.range ops.size).all fun i => match ops[i]? with
  | some o => (match o.guard with | some (j, _) => decide (j < i) | none => true)
  | none => true
theorem wanted_head {n i : Nat} {o : Oper} (hg : guardB ops = true) (hi : i < n) (ho : ops[i]? = some o) (t : Array Value) : Region.wanted o (yielded (headOps ops n) t) = Region.wanted o (yielded ops t) := by
  have hlt : i < ops.size := (Array.getElem?_eq_some_iff.1 ho).1
  have h1 := List.all_eq_true.1 hg i (List.mem_range.2 hlt)
  simp only [ho] at h1
  unfold Region.wanted
  split
  · rfl
  · rename_i j want hj
    simp only [hj, decide_eq_true_eq] at h1
    unfold yielded
    rw [headOps_get (by omega)]

theorem all_listed {n : Nat} (hB : tailB md ops n = true) (hn : n ≤ ops.size) {listed : Array Bool} (hsz : listed.size = n) (hr : Region.ready md (headOps ops n) listed = []) : ∀ i, i < n → listed.getD i false = true := by
  intro i
  induction i using Nat.strongRecOn with
  | _ i ih =>
    intro hi
    cases hl : listed.getD i false with
    | true => rfl
    | false =>
      exfalso
      have hlt : i < ops.size := by omega
      have hmem : i ∈ Region.ready md (headOps ops n) listed := by
        refine mem_ready.2 ⟨?_, ops[i], by rw [headOps_get hi]; exact Array.getElem?_eq_getElem hlt, fun e he _ => ?_⟩
        · have hls : i < listed.size := by omega
          simp [hls] at hl ⊢
          exact hl
        · have := tailB_back hB (Array.getElem?_eq_getElem hlt) e he
          exact ih e.on this (by omega)
      rw [hr] at hmem
      cases hmem

theorem getD_head {listed : Array Bool} {n k i : Nat} {d : Bool} (hsz : listed.size = n) (hi : i < n) : (listed ++ Array.replicate k false).getD i d = listed.getD i d := by
  simp only [Array.getD_eq_getD_getElem?]
  rw [Array.getElem?_append_left (by omega)]
theorem getD_tail {listed : Array Bool} {n k i : Nat} (hsz : listed.size = n) (h1 : n ≤ i) : (listed ++ Array.replicate k false).getD i false = false := by
  simp only [Array.getD_eq_getD_getElem?]
  rw [Array.getElem?_append_right (by omega)]
  rcases Nat.lt_or_ge (i - listed.size) k with h | h
  · simp [h]
  · simp [h]
theorem set_head {listed : Array Bool} {n k i : Nat} (hsz : listed.size = n) (hi : i < n) : (listed ++ Array.replicate k false).setIfInBounds i true = listed.setIfInBounds i true ++ Array.replicate k false := by
  apply Array.ext_getElem?
  intro j
  rw [Array.getElem?_setIfInBounds]
  by_cases hj : j < n
  · rw [Array.getElem?_append_left (by omega), Array.getElem?_append_left (by simp; omega), Array.getElem?_setIfInBounds]
    simp only [Array.size_append, Array.size_replicate]
    split
    · rw [if_pos (by omega), if_pos (by omega)]
    · rfl
  · rw [if_neg (by omega), Array.getElem?_append_right (by omega), Array.getElem?_append_right (by simp; omega)]
    simp

theorem head_any {P : Program} {C : World → Prop} {Op1 : Nat → (Act → World → Prop) → Act → World → Prop} {Qn : Act → World → Prop} (hmono : ∀ i (K K' : Act → World → Prop) a w, (∀ a w, K a w → K' a w) → Op1 i K a w → Op1 i K' a w)
    {n : Nat} (hB : tailB md ops n = true) (hn : n ≤ ops.size)
    (hq : ∀ i (K : Act → Prop) (K' : Act → World → Prop) a w, i < n → C w → (∀ a' w', C w' → K a' → K' a' w') → qOp P (headOps ops n) C i K a → Op1 i K' a w)
    {Qh : Act → Prop} (hQ : ∀ a w, C w → Qh a → tailG Op1 Qn ops.size (ops.size - n) a w) :
    ∀ (f : Nat) (listed : Array Bool) (a : Act) (w : World), C w → listed.size = n → wpAnyQ P md (headOps ops n) C Qh f listed a →
      anyG md ops Op1 Qn (f + (ops.size - n)) (listed ++ Array.replicate (ops.size - n) false) a w := by
  have hdone : ∀ (f : Nat) (listed : Array Bool) (a : Act) (w : World), C w → listed.size = n → Region.ready md (headOps ops n) listed = [] → Qh a →
      anyG md ops Op1 Qn (f + (ops.size - n)) (listed ++ Array.replicate (ops.size - n) false) a w := by
    intro f listed a w hC hsz hr h
    have hall := all_listed hB hn hsz hr
    refine tail_any hmono hB (ops.size - n) _ _ a w (by omega) (by omega) (by simp; omega) ?_ ?_ (hQ a w hC h)
    · intro i hi
      rw [getD_head hsz (by omega)]
      exact hall i (by omega)
    · intro i h1 _
      exact getD_tail hsz (by omega)
  intro f
  induction f with
  | zero =>
    intro listed a w hC hsz h
    exact hdone 0 listed a w hC hsz h.1 h.2
  | succ f ih =>
    intro listed a w hC hsz h
    cases hr : Region.ready md (headOps ops n) listed with
    | nil => exact hdone (f + 1) listed a w hC hsz hr (h.1 hr)
    | cons i0 rs =>
      have h0 : i0 ∈ Region.ready md (headOps ops n) listed := by rw [hr]; simp
      obtain ⟨hun0, o0, ho0, hall0⟩ := mem_ready.1 h0
      have hi0 : i0 < n := by have := (Array.getElem?_eq_some_iff.1 ho0).1; rw [headOps_size hn] at this; exact this
      have hls0 : i0 < listed.size := by omega
      have key : ∀ i, i ∈ Region.ready md ops (listed ++ Array.replicate (ops.size - n) false) → i < n ∧ i ∈ Region.ready md (headOps ops n) listed := by
        intro i hi
        obtain ⟨hun, o, ho, hall⟩ := mem_ready.1 hi
        by_cases hin : i < n
        · refine ⟨hin, mem_ready.2 ⟨by rw [getD_head hsz hin] at hun; exact hun, o, by rw [headOps_get hin]; exact ho, fun e he hb => ?_⟩⟩
          have := hall e he hb
          rw [getD_head hsz (by have := tailB_back hB ho e he; omega)] at this
          exact this
        · exfalso
          obtain ⟨e, he, hb, hon⟩ := tailB_waits hB ho (by omega) i0 (by omega)
          have := hall e he hb
          rw [hon, getD_head hsz hi0] at this
          simp [hls0] at hun0 this
          rw [this] at hun0
          cases hun0
      rw [show f + 1 + (ops.size - n) = (f + (ops.size - n)) + 1 by omega]
      refine ⟨fun hnil => ?_, fun i hi => ?_⟩
      · exfalso
        have : i0 ∈ Region.ready md ops (listed ++ Array.replicate (ops.size - n) false) := by
          refine mem_ready.2 ⟨by rw [getD_head hsz hi0]; exact hun0, o0, by rw [headOps_get hi0] at ho0; exact ho0, fun e he hb => ?_⟩
          rw [headOps_get hi0] at ho0
          rw [getD_head hsz (by have := tailB_back hB ho0 e he; omega)]
          exact hall0 e he hb
        rw [hnil] at this
        cases this
      · obtain ⟨hin, hmem⟩ := key i hi
        refine hq i _ _ a w hin hC (fun a' w' hC' h' => ?_) (h.2 i hmem)
        rw [set_head hsz hin]
        exact ih _ a' w' hC' (by simpa using hsz) h'
end

section
variable {P : Program} {C : World → Prop} {Q : Exit → Act → World → Prop} {a : Act} {w : World} {id : Nat} {ops : Array Oper} {n : Nat}

theorem tailG_wp : ∀ (k : Nat) (a : Act) (w : World), k ≤ ops.size → wpList P ops Q (ops.toList.drop (ops.size - k)) a w → tailG (wpOp P ops Q) (Q .normal) ops.size k a w := by
  intro k
  induction k with
  | zero =>
    intro a w _ h
    rw [Nat.sub_zero, List.drop_of_length_le (by simp)] at h
    exact h
  | succ k ih =>
    intro a w hk h
    have hlt : ops.size - (k + 1) < ops.size := by omega
    rw [List.drop_eq_getElem_cons (by simpa using hlt)] at h
    simp only [tailG, wpOp]
    rw [Array.getElem?_eq_getElem hlt]
    simp only [wpList, Array.getElem_toList] at h
    rw [show ops.size - (k + 1) + 1 = ops.size - k by omega] at h
    dsimp only
    split
    · rename_i hw
      rw [if_pos hw] at h
      exact h.imp (Oper.wp_mono (fun a w h => ih a w (by omega) h)) id
    · rename_i hw
      rw [if_neg hw] at h
      exact ih _ _ (by omega) h

theorem qOp_head {i : Nat} {K : Act → Prop} (hg : guardB ops = true) (hi : i < n) (h : qOp P (headOps ops n) C i K a) : qOp P ops C i K a := by
  unfold qOp at *
  rw [headOps_get hi] at h
  cases ho : ops[i]? with
  | none => simpa only [ho] using h
  | some o =>
    simp only [ho] at h ⊢
    rw [wanted_head hg hi ho] at h
    exact h

/-- **A region that draws: n operations that only read; behind them what waits for them.** -/
theorem wp_draw (n : Nat) {l : List Oper} (hm : P.follows .mixedOrders = true) (hB : tailB .any l.toArray n = true) (hG : guardB l.toArray = true) (hL : Region.lexB .any (headOps l.toArray n) = true) (hn : n ≤ l.length)
    (hC : C { w with drawn := w.drawn + 1 }) (h : wpQuiet P (l.take n).toArray C (fun a' => ∀ w', C w' → wpList P l.toArray Q (l.drop n) a' w') (l.take n) a) : (Code.region id l.toArray true).wp P Q a w := by
  simp only [Region.lexB, Bool.and_eq_true] at hL
  have hn' : n ≤ l.toArray.size := by simpa using hn
  rw [show (l.take n).toArray = headOps l.toArray n by simp [headOps]] at h
  refine wp_region_any hm ?_
  have hlen : (l.take n).length = n := by simp; omega
  have h1 := wpAnyQ_lex (P := P) (C := C) (md := .any) hL.1 (l.take n) 0 (Array.replicate n false) a (by intro j; simp [headOps]) (by rw [hlen]; have := hL.2; rw [headOps_size hn'] at this; exact this) h
  rw [hlen] at h1
  have h2 := head_any (P := P) (C := C) (md := .any) (Op1 := wpOp P l.toArray Q) (Qn := Q .normal) (fun i K K' a w hk hh => wpOp_mono hk hh) hB hn'
    (fun i K K' a w hi hC' hk hh => wpOp_of_qOp hC' hk (qOp_head hG hi hh))
    (Qh := fun a' => ∀ w', C w' → wpList P l.toArray Q (l.drop n) a' w')
    (fun a' w' hC' hh => tailG_wp _ a' w' (by omega) (by
      have := hh w' hC'
      rw [show l.toArray.size - (l.toArray.size - n) = n by omega]
      simpa using this)) n (Array.replicate n false) a _ hC (by simp) h1
  rw [anyG_wpAny] at h2
  have e : (Array.replicate n false ++ Array.replicate (l.toArray.size - n) false) = Array.replicate l.toArray.size false := by
    rw [Array.replicate_append_replicate]
    congr 1
    omega
  rw [e, show n + (l.toArray.size - n) = l.toArray.size by omega] at h2
  exact h2
end

section
variable {P : Program} {C : World → Prop} {Q : Exit → Act → World → Prop} {a : Act} {w : World} {id : Nat} {ops : Array Oper} {n : Nat} {F : Fence} {d : Nat}

/-- A fence that lets everything by. -/
structure OpenFence (F : Fence) (d : Nat) (P : Program) : Prop where
  fn : ∀ f, F.fn f
  depth : F.depth = none
  calls : ∀ f args w R, Calls P f args w R → CallsIn F (d - 1) P f args w R
theorem openWide (d : Nat) (P : Program) : OpenFence Fence.wide d P := ⟨fun _ => trivial, rfl, fun _ _ _ _ h => callsIn_wide.2 h⟩
theorem openRound (l d : Nat) (P : Program) : OpenFence (Fence.wide.inRound l) d P := ⟨fun _ => trivial, rfl, fun _ _ _ _ h => CallsIn.inRound l (callsIn_wide.2 h)⟩

theorem wpOpIn_of_qOp (hF : OpenFence F d P) {i : Nat} {K : Act → Prop} {K' : Act → World → Prop} (hC : C w) (h : ∀ a w', C w' → K a → K' a w') (hh : qOp P ops C i K a) : wpOpIn F d P ops Q i K' a w := by
  unfold qOp at hh
  unfold wpOpIn
  split
  · rename_i ho; simp only [ho] at hh; exact h _ _ hC hh
  · rename_i o ho
    simp only [ho] at hh
    split
    · rename_i hw
      simp only [hw, if_true] at hh
      obtain ⟨v, h1, h2⟩ := hh
      have h3 := h1 w hC
      unfold Oper.quietAt at h3
      have hdef : ∀ c, o.op ≠ .defer c := by
        intro c hc
        unfold execOp at h3
        rw [hc] at h3
        simp only [Sem.run_bind] at h3
        cases hr : (resolve a.eval c o.type).run P w with
        | ok x w' => rw [hr] at h3; simp [Oper.quietUpon] at h3
        | halt x w' => rw [hr] at h3; simp [Oper.quietUpon] at h3
      have hs : Oper.semAt F.round a.eval o = execOp a.eval o := by
        cases F.round with
        | none => rfl
        | some l => exact Oper.semAt_some l _ _ hdef
      refine ⟨fun f _ => hF.fn f, ?_⟩
      rw [hs]
      generalize (execOp a.eval o).run P w = r at *
      cases r with
      | ok x w' =>
        cases x <;> simp only [Oper.quietUpon] at h3 <;> simp only [Oper.uponIn]
        case value u =>
          obtain ⟨e1, e2⟩ := h3
          rw [e1, e2]
          exact h _ _ hC h2
        case skip =>
          obtain ⟨e1, e2⟩ := h3
          rw [e1, ← e2]
          exact h _ _ hC h2
        case enter f args =>
          obtain ⟨e1, hc⟩ := h3
          rw [e1]
          refine ⟨fun hd => (by rw [hF.depth] at hd; cases hd), hF.calls _ _ _ _ (hc.mono ?_)⟩
          rintro e w'' ⟨he, hw''⟩
          subst he
          exact h _ _ hw'' h2
      | halt x w' => simp only [Oper.quietUpon] at h3
    · rename_i hw
      simp only [hw] at hh
      exact ⟨fun f _ => hF.fn f, h _ _ hC hh⟩

theorem tailG_wpIn : ∀ (k : Nat) (a : Act) (w : World), k ≤ ops.size → wpListIn F d P ops Q (ops.toList.drop (ops.size - k)) a w → tailG (wpOpIn F d P ops Q) (Q .normal) ops.size k a w := by
  intro k
  induction k with
  | zero =>
    intro a w _ h
    rw [Nat.sub_zero, List.drop_of_length_le (by simp)] at h
    exact h
  | succ k ih =>
    intro a w hk h
    have hlt : ops.size - (k + 1) < ops.size := by omega
    rw [List.drop_eq_getElem_cons (by simpa using hlt)] at h
    simp only [tailG, wpOpIn]
    rw [Array.getElem?_eq_getElem hlt]
    simp only [wpListIn, Array.getElem_toList] at h
    rw [show ops.size - (k + 1) + 1 = ops.size - k by omega] at h
    dsimp only
    split
    · rename_i hw
      rw [if_pos hw] at h
      exact Oper.wpIn_mono (fun a w h => ih a w (by omega) h) h
    · rename_i hw
      rw [if_neg hw] at h
      exact ⟨h.1, ih _ _ (by omega) h.2⟩

theorem wpIn_draw (hF : OpenFence F d P) (n : Nat) {l : List Oper} (hm : P.follows .mixedOrders = true) (hB : tailB .any l.toArray n = true) (hG : guardB l.toArray = true) (hL : Region.lexB .any (headOps l.toArray n) = true) (hn : n ≤ l.length)
    (hC : C { w with drawn := w.drawn + 1 }) (h : wpQuiet P (l.take n).toArray C (fun a' => ∀ w', C w' → wpListIn F d P l.toArray Q (l.drop n) a' w') (l.take n) a) : (Code.region id l.toArray true).wpIn F d P Q a w := by
  simp only [Region.lexB, Bool.and_eq_true] at hL
  have hn' : n ≤ l.toArray.size := by simpa using hn
  rw [show (l.take n).toArray = headOps l.toArray n by simp [headOps]] at h
  refine wpIn_region_any hm ?_
  have hlen : (l.take n).length = n := by simp; omega
  have h1 := wpAnyQ_lex (P := P) (C := C) (md := .any) hL.1 (l.take n) 0 (Array.replicate n false) a (by intro j; simp [headOps]) (by rw [hlen]; have := hL.2; rw [headOps_size hn'] at this; exact this) h
  rw [hlen] at h1
  have h2 := head_any (P := P) (C := C) (md := .any) (Op1 := wpOpIn F d P l.toArray Q) (Qn := Q .normal) (fun i K K' a w hk hh => wpOpIn_mono hk hh) hB hn'
    (fun i K K' a w hi hC' hk hh => wpOpIn_of_qOp hF hC' hk (qOp_head hG hi hh))
    (Qh := fun a' => ∀ w', C w' → wpListIn F d P l.toArray Q (l.drop n) a' w')
    (fun a' w' hC' hh => tailG_wpIn _ a' w' (by omega) (by
      have := hh w' hC'
      rw [show l.toArray.size - (l.toArray.size - n) = n by omega]
      simpa using this)) n (Array.replicate n false) a _ hC (by simp) h1
  rw [anyG_wpAnyIn] at h2
  have e : (Array.replicate n false ++ Array.replicate (l.toArray.size - n) false) = Array.replicate l.toArray.size false := by
    rw [Array.replicate_append_replicate]
    congr 1
    omega
  rw [e, show n + (l.toArray.size - n) = l.toArray.size by omega] at h2
  exact h2
end

/-- The class of the worlds after some draws, for both. -/
abbrev Drawn (w : World) : World → Prop := fun w' => ∃ n, w' = w.drewN n
end Go.Proofs.YtkhpcagoggglcaaGreatDoor

/- name.Lower, walked. -/
namespace Go.Proofs.YtkhpcagoggglcaaGreatDoor
open Go.RowKit Go.Shelf
attribute [local go_sem] Oper.semAt_some

/-- Does a place lie in one of these labels? -/
def covered (l : List (Nat × ByteArray)) (j : Nat) : Bool := l.any fun x => decide (x.1 + 1 ≤ j) && decide (j < x.1 + 1 + x.2.size)
theorem covered_snoc (l : List (Nat × ByteArray)) (x : Nat × ByteArray) (j : Nat) : covered (l ++ [x]) j = (covered l j || (decide (x.1 + 1 ≤ j) && decide (j < x.1 + 1 + x.2.size))) := by simp [covered]

/-- t is s with small letters where p says so. -/
def LowAt (s t : ByteArray) (p : Nat → Bool) : Prop := t.size = s.size ∧ ∀ j, j < s.size → byt t j = if p j then smallB (byt s j) else byt s j
theorem LowAt.start (s : ByteArray) (p : Nat → Bool) (h : ∀ j, p j = false) : LowAt s s p := ⟨rfl, fun j _ => by simp [h j]⟩
theorem LowAt.congr {s t : ByteArray} {p q : Nat → Bool} (h : LowAt s t p) (e : ∀ j, j < s.size → p j = q j) : LowAt s t q := ⟨h.1, fun j hj => by rw [← e j hj]; exact h.2 j hj⟩
theorem LowAt.step {s t : ByteArray} {p : Nat → Bool} (h : LowAt s t p) (k : Nat) (hk : k < s.size) : LowAt s (bset t k (smallB (byt t k))) (fun j => p j || decide (j = k)) := by
  refine ⟨by rw [size_bset]; exact h.1, fun j hj => ?_⟩
  rw [byt_bset t k j _ (by rw [h.1]; exact hk)]
  by_cases e : k = j
  · subst e
    rw [if_pos rfl, h.2 k hk]
    simp only [decide_true, Bool.or_true, if_true]
    split
    · exact smallB_smallB _
    · rfl
  · rw [if_neg e, h.2 j hj]
    have e' : ¬ j = k := fun h => e h.symm
    simp [e']

theorem cov_step (c : Bool) (a k j : Nat) : ((c || (decide (a ≤ j) && decide (j < a + k))) || decide (j = a + k)) = (c || (decide (a ≤ j) && decide (j < a + (k + 1)))) := by
  cases c
  · rw [Bool.eq_iff_iff]; simp; omega
  · simp

set_option maxRecDepth 100000 in
set_option maxHeartbeats 1000000 in
theorem name_lower_in (s : ByteArray) (w : World) (hr : nameRight s = true) :
    CallsIn Fence.wide 4 Tryz.prog 17 #[.string s] w fun e w' => (∃ t, e = .returned (.string t) ∧ LowAt s t (covered (labels s))) ∧ Below w.heap.size w w' := by
  have h255 : s.size ≤ 255 := by simp [nameRight] at hr; omega
  have hrc := fun w => name_right s w
  rw [hr] at hrc
  have HR := Lib.hid hrc
  clear hrc hr
  have hro : Fence.wide.round = none := rfl
  have hn1 : 1 ≤ 4 := by omega
  have hmk := make_u8 s.size (by omega)
  have hcp := fun w o => copy_str_new w s o
  refine callsIn_of_wp_marks Tryz.func17 rfl trivial ?_ hro
  simp only [Tryz.ntmps17, List.size_toArray, List.length_cons, List.length_nil, Nat.reduceAdd, Nat.reduceSub, Array.replicate_succ, Array.replicate_zero, List.push_toArray, List.append_toArray, List.nil_append, List.cons_append]
  gi_wp2_with (first | (refine ⟨trivial, ?_⟩; gi_at_call 31; refine (callsIn_wide.2 (labels_any _ _)).mono ?_; rintro e w' ⟨rfl, rfl⟩) | (refine ⟨trivial, ?_⟩; gi_at_call 24; refine (callsIn_wide.2 (HR.out _)).mono ?_; rintro e w1 ⟨rfl, hB1⟩))
  have hB0 : Below w.heap.size w (((w1.alloc (.cells (encS s) 5)).alloc (.cells #[.slice (some ⟨w1.heap.size, 0, none⟩) s.size s.size] 82)).alloc (.cells #[.string s] 9)) := (((hB1.alloc hB1.size _).alloc (by simp; have := hB1.size; omega) _).alloc (by simp; have := hB1.size; omega) _)
  have b0 : Blk (((w1.alloc (.cells (encS s) 5)).alloc (.cells #[.slice (some ⟨w1.heap.size, 0, none⟩) s.size s.size] 82)).alloc (.cells #[.string s] 9)) w1.heap.size (encS s) 5 := ((Blk.new w1 _ _).alloc _).alloc _
  have b1 : Blk (((w1.alloc (.cells (encS s) 5)).alloc (.cells #[.slice (some ⟨w1.heap.size, 0, none⟩) s.size s.size] 82)).alloc (.cells #[.string s] 9)) (w1.heap.size + 1) #[.slice (some ⟨w1.heap.size, 0, none⟩) s.size s.size] 82 := by
    have := (Blk.new (w1.alloc (.cells (encS s) 5)) #[.slice (some ⟨w1.heap.size, 0, none⟩) s.size s.size] 82).alloc (.cells #[.string s] 9)
    simpa using this
  have b2 : Blk (((w1.alloc (.cells (encS s) 5)).alloc (.cells #[.slice (some ⟨w1.heap.size, 0, none⟩) s.size s.size] 82)).alloc (.cells #[.string s] 9)) (w1.heap.size + 1 + 1) #[.string s] 9 := by
    have := Blk.new ((w1.alloc (.cells (encS s) 5)).alloc (.cells #[.slice (some ⟨w1.heap.size, 0, none⟩) s.size s.size] 82)) #[.string s] 9
    simpa using this
  have hsz : w.heap.size ≤ w1.heap.size := hB1.size
  clear HR hmk hcp hB1
  refine wpIn_rangeFunc_ownF (α := Lab s) (ps := #[19, 20]) hro hn1 (gf := 47) (lb := #[.pointer (some ⟨w1.heap.size + 1 + 1, 0, none⟩)]) rfl trivial (enters_of Tryz.func47 (by kernel_rfl) rfl)
    (labels1_stops Fence.wide 3 trivial hro (by omega) (w1.heap.size + 1 + 1) s _ (by omega) b2) keepsBlk_t keepsBlk_b (Below.refl _ _) (fun _ => rfl)
    (fun pre W => ((∃ t, Blk W w1.heap.size (encS t) 5 ∧ LowAt s t (covered (labPre pre))) ∧ Blk W (w1.heap.size + 1) #[.slice (some ⟨w1.heap.size, 0, none⟩) s.size s.size] 82) ∧ Below w.heap.size w W)
    (fun _ _ _ => False)
    (OwnFrom.and (Own.from (fun s A B row hs hg hr => ⟨by obtain ⟨t, h1, h2⟩ := hs.1; exact ⟨t, h1.kept hg hr, h2⟩, hs.2.kept hg hr⟩) _) (ownFrom_below (Nat.le_refl _) (by simp; omega)))
    (fun _ _ _ _ _ hs _ _ => hs)
    ⟨⟨⟨s, b0, LowAt.start s _ (fun j => by simp [covered, labPre])⟩, b1⟩, hB0⟩
    (fun x => { tmps := #[.string s, undef, .string ⟨#[]⟩, .pointer (some ⟨w1.heap.size + 1, 0, none⟩), .int .i64 (x.1.1 : Int), .string x.1.2, undef, .string s, .bool true, .bool false, undef, .string s, .int .i64 s.size, .slice (some ⟨w1.heap.size, 0, none⟩) s.size s.size, .slice (some ⟨w1.heap.size, 0, none⟩) s.size s.size, .string s, .int .i64 s.size, .string s, .func (.func 47) #[] #[.pointer (some ⟨w1.heap.size + 1 + 1, 0, none⟩)], .int .i64 (x.1.1 : Int), .string x.1.2, undef, undef, undef, undef, undef, undef, undef, undef, undef, undef, undef, undef, undef, undef, undef, undef, undef, undef, undef, undef, undef, undef], defers := [] }) ?assign ?body ?done ?stop
  case assign =>
    intro l x W K hK
    simp only [encLab]
    gi_wp2
    exact hK
  case body =>
    rintro l pre x W ⟨⟨⟨t, hb, hlow⟩, hs1⟩, hB⟩ _
    have hx := (labels_le s x.1 x.2).1
    have HB := Lib.hid hb; have HL := Lib.hid hlow; have HS := Lib.hid hs1
    clear hb hlow hs1
    gi_wp2
    gi_loopw [6, 23] (fun _ i wr => ∃ (k : Nat) (t : ByteArray), k ≤ x.1.2.size ∧ i = .int .i64 k ∧ Hid (Blk wr w1.heap.size (encS t) 5) ∧ Hid (LowAt s t (fun j => covered (labPre pre) j || (decide (x.1.1 + 1 ≤ j) && decide (j < x.1.1 + 1 + k)))) ∧ Hid (Blk wr (w1.heap.size + 1) #[.slice (some ⟨w1.heap.size, 0, none⟩) s.size s.size] 82) ∧ Below w.heap.size w wr ∧ KeepsOthers W wr ∧ KeepsBlk (w1.heap.size + 1 + 1) W wr)
      (fun _ i _ => x.1.2.size - (intOf i).toNat)
    case atStart =>
      exact ⟨0, t, Nat.zero_le _, rfl, HB, Lib.hid (HL.out.congr (fun j _ => by simp; omega)), HS, hB, KeepsOthers.refl _, KeepsBlk.refl _ _⟩
    case round =>
      obtain ⟨k, u, hk, rfl, hbu, hlu, hsu, hBu, hKo, hKb⟩ := hrel
      by_cases hlt : k < x.1.2.size
      · have hcell : wr.cell? ⟨w1.heap.size + 1, 0, none⟩ = some (.slice (some ⟨w1.heap.size, 0, none⟩) s.size s.size) := hsu.out.cell 0
        have hks : x.1.1 + 1 + k < s.size := by omega
        have hus : x.1.1 + 1 + k < u.size := by have := hlu.out.1; omega
        have hbyte : wr.cell? ⟨w1.heap.size, x.1.1 + 1 + k, none⟩ = some (.int .u8 ((byt u (x.1.1 + 1 + k)).toNat : Int)) := by rw [hbu.out.cell, encS_get u _ hus]
        have hfree := hbu.out.free (x.1.1 + 1 + k)
        have hmix : Tryz.prog.follows .mixedOrders = true := by kernel_rfl
        have q1 : (0 : Int) ≤ (x.1.1 : Int) + 1 + (k : Int) := by omega
        have q2 : (x.1.1 : Int) + 1 + (k : Int) < (s.size : Int) := by omega
        have r1 : IntKind.i64.wrap ((x.1.1 : Int) + 1) = (x.1.1 : Int) + 1 := IntWalk.i64_in _ (by omega)
        have r2 : IntKind.i64.wrap ((x.1.1 : Int) + 1 + (k : Int)) = (x.1.1 : Int) + 1 + (k : Int) := IntWalk.i64_in _ (by omega)
        have hti : ((x.1.1 : Int) + 1 + (k : Int)).toNat = x.1.1 + 1 + k := by omega
        gi_wp2
        refine wpIn_draw (openRound l _ _) 14 (C := Drawn wr) hmix (by kernel_rfl) (by kernel_rfl) (by kernel_rfl) (by simp) ⟨1, rfl⟩ ?_
        simp only [List.take_succ_cons, List.take_zero, List.drop_succ_cons, List.drop_zero]
        repeat (go_big_quiet_step ((go_at_call 32; exact Calls.quiet_of_same ((small_any _ _).mono fun e w' h => ⟨h.1, h.2.symm⟩))))
        refine wpQuiet_nil ?_
        intro _ hw'
        obtain ⟨nq, hw''⟩ := hw'
        subst hw''
        gi_wp2
        go_roundw
        case rel =>
          refine ⟨k + 1, bset u (x.1.1 + 1 + k) (smallB (byt u (x.1.1 + 1 + k))), by omega, by go_num, Lib.hid ?_, Lib.hid ?_, Lib.hid ?_, ?_, ?_, ?_⟩
          · rw [encS_bset]
            exact Blk.set (w := wr.drewN nq) hbu.out _ _
          · exact (hlu.out.step _ hks).congr (fun j _ => cov_step _ _ _ _)
          · exact Blk.other (w := wr.drewN nq) hsu.out (by simp) _
          · exact Below.setCell (w := wr.drewN nq) ⟨hBu.os, hBu.tape, hBu.output, hBu.size, hBu.block⟩ (by exact hsz) _
          · exact hKo.trans (KeepsOthers.trans (show KeepsOthers wr (wr.drewN nq) from ⟨Nat.le_refl _, fun _ _ h _ => h⟩) (KeepsOthers.setCell _ _ _))
          · exact keepsBlk_t hKb (keepsBlk_t (show KeepsBlk _ wr (wr.drewN nq) from fun _ _ h => h) (KeepsBlk.set _ _ _ (by simp; omega)))
        case measure => simp [intOf]; omega
      · obtain rfl : k = x.1.2.size := by omega
        have hnew := (hlu.out.congr (q := covered (labPre (pre ++ [x]))) (fun j _ => by rw [labPre_snoc, covered_snoc]))
        have HN := Lib.hid hnew
        clear hnew
        gi_wp2
        exact ⟨hKo, hKb, ⟨⟨u, hbu.out, HN.out⟩, hsu.out⟩, hBu⟩
  case done =>
    rintro D ys W hD hS ⟨⟨⟨t, hb, hlow⟩, hs1⟩, hB⟩ hK
    rw [hS] at hlow
    have hcell : W.cell? ⟨w1.heap.size + 1, 0, none⟩ = some (.slice (some ⟨w1.heap.size, 0, none⟩) s.size s.size) := hs1.cell 0
    have hcv := conv_bytes_string W w1.heap.size s.size s.size t hb hlow.1.symm
    have HL := Lib.hid hlow
    clear hlow hS hb hs1
    gi_wp2
    refine ⟨by simp, .inl ⟨_, _, rfl, run_takeDeferred hK, ?_⟩⟩
    exact ⟨_, results_tmp rfl _ _ _, ⟨t, rfl, HL.out⟩, hB.trans (belowK_b (w := w) (Nat.le_refl _) W D _ _ (by simp at hD; omega) hK rfl rfl)⟩
  case stop =>
    rintro D c pre W _ _ h _
    exact h.elim

theorem endOf_cons (x : Nat × ByteArray) (l : List (Nat × ByteArray)) : endOf (x :: l) = if l = [] then x.1 + 1 + x.2.size else endOf l := by
  cases l with
  | nil => simp [endOf]
  | cons y l => simp [endOf]

theorem labs_cover (s : ByteArray) : ∀ (f p : Nat), ∀ j, p ≤ j → j < (if labs s f p = [] then p else endOf (labs s f p)) → covered (labs s f p) j = true ∨ (byt s j).toNat ≤ 63 := by
  intro f
  induction f with
  | zero => intro p j h1 h2; simp [labs] at h2; omega
  | succ f ih =>
    intro p j h1 h2
    rw [labs] at h2 ⊢
    split at h2
    · rename_i hc
      rw [if_pos hc]
      rw [if_neg (by simp), endOf_cons] at h2
      have e : (s.extract (p + 1) (p + 1 + (byt s p).toNat)).size = (byt s p).toNat := by rw [ByteArray.size_extract]; omega
      simp only [e] at h2
      rcases Nat.lt_or_ge j (p + 1 + (byt s p).toNat) with h3 | h3
      · by_cases hj : j = p
        · subst hj; exact .inr hc.2.2.1
        · left
          simp only [covered, List.any_cons, e, Bool.or_eq_true, Bool.and_eq_true, decide_eq_true_eq]
          exact .inl ⟨by omega, h3⟩
      · have := ih (p + 1 + (byt s p).toNat) j h3 (by split at h2 <;> split <;> simp_all)
        rcases this with h4 | h4
        · left
          simp only [covered, List.any_cons, Bool.or_eq_true] at h4 ⊢
          exact .inr h4
        · exact .inr h4
    · rename_i hc
      rw [if_pos rfl] at h2
      omega

theorem right_cover (s : ByteArray) (h : nameRight s = true) (j : Nat) (hj : j < s.size) : covered (labels s) j = true ∨ (byt s j).toNat ≤ 63 := by
  simp only [nameRight, Bool.and_eq_true, decide_eq_true_eq, beq_iff_eq] at h
  rcases Nat.lt_or_ge j (nameEnd s) with h1 | h1
  · refine labs_cover s (s.size + 1) 0 j (Nat.zero_le _) ?_
    change j < if labels s = [] then 0 else endOf (labels s)
    split
    · rename_i he
      simp [nameEnd, he, endOf] at h1
    · exact h1
  · have : j = nameEnd s := by omega
    rw [this, h.2]
    right; simp

/-- A text with small letters. -/
def lowS (s : ByteArray) : ByteArray := ⟨s.data.map smallB⟩
theorem size_lowS (s : ByteArray) : (lowS s).size = s.size := by
  show (s.data.map smallB).size = s.data.size
  simp
theorem byt_lowS (s : ByteArray) (j : Nat) (hj : j < s.size) : byt (lowS s) j = smallB (byt s j) := by
  have h' : j < s.data.size := hj
  simp only [byt, lowS, List.getD, Array.getElem?_toList, Array.getElem?_map, Array.getElem?_eq_getElem h', Option.map_some, Option.getD_some]
def nameLower (s : ByteArray) : ByteArray := if nameRight s then lowS s else s

theorem low_eq (s t : ByteArray) (h : nameRight s = true) (hl : LowAt s t (covered (labels s))) : t = lowS s := by
  refine bytes_ext (by rw [size_lowS]; exact hl.1) (fun j hj => ?_)
  have hj' : j < s.size := by rw [← hl.1]; exact hj
  rw [hl.2 j hj', byt_lowS s j hj']
  split
  · rfl
  · rename_i hc
    rcases right_cover s h j hj' with h1 | h1
    · exact absurd h1 hc
    · exact (smallB_len _ h1).symm

theorem name_lower (s : ByteArray) (w : World) : Calls Tryz.prog 17 #[.string s] w fun e w' => e = .returned (.string (nameLower s)) ∧ Below w.heap.size w w' := by
  cases hr : nameRight s with
  | true =>
    refine (callsIn_wide.1 (name_lower_in s w hr)).mono ?_
    rintro e w' ⟨⟨t, he, hl⟩, hb⟩
    refine ⟨?_, hb⟩
    rw [he, low_eq s t hr hl, nameLower, if_pos hr]
  | false =>
    have hrc := fun w => name_right s w
    rw [hr] at hrc
    have e : nameLower s = s := by rw [nameLower, if_neg (by rw [hr]; simp)]
    rw [e]
    have HR := Lib.hid hrc
    clear hrc hr e
    go_enter Tryz.func17, Tryz.ntmps17
    go_wp2_with (go_at_call 24; refine (HR.out _).mono ?_; rintro e w1 ⟨rfl, hb⟩)
    go_ret
    exact ⟨rfl, hb⟩
end Go.Proofs.YtkhpcagoggglcaaGreatDoor

/- The document's own reader of a name (its chapter 1): its labels, whether it is one, and the name in small letters. -/
namespace Go.Proofs.YtkhpcagoggglcaaGreatDoor
open Go.RowKit

/-- A text whose first k bytes have been made small. -/
def smallK (s : ByteArray) (k : Nat) : ByteArray := ⟨((s.data.toList.take k).map smallB ++ s.data.toList.drop k).toArray⟩
theorem smallK_size (s : ByteArray) (k : Nat) : (smallK s k).size = s.size := by
  show (((s.data.toList.take k).map smallB ++ s.data.toList.drop k).toArray).size = s.data.size
  simp; omega
theorem smallK_byt (s : ByteArray) (k j : Nat) (hj : j < s.size) : byt (smallK s k) j = if j < k then smallB (byt s j) else byt s j := by
  have hl : s.data.toList.length = s.size := by simp
  simp only [byt, smallK, List.getD]
  by_cases h : j < k
  · rw [if_pos h, List.getElem?_append_left (by simp; omega)]
    rw [List.getElem?_map, List.getElem?_take, if_pos h, Array.getElem?_toList, Array.getElem?_eq_getElem (show j < s.data.size from hj)]
    rfl
  · rw [if_neg h, List.getElem?_append_right (by simp; omega)]
    have e : j - ((s.data.toList.take k).map smallB).length + min k s.size = j := by simp; omega
    simp only [List.getElem?_drop, List.length_map, List.length_take, hl]
    by_cases hk : k ≤ s.size
    · rw [Nat.min_eq_left hk, show k + (j - k) = j by omega]
    · omega
theorem smallK_zero (s : ByteArray) : smallK s 0 = s := by cases s; simp [smallK]
theorem smallK_all (s : ByteArray) : smallK s s.size = lowS s := bytes_ext (by rw [smallK_size, size_lowS]) fun j hj => by
  rw [smallK_size] at hj
  rw [smallK_byt s _ j hj, if_pos hj, byt_lowS s j hj]
theorem smallK_next (s : ByteArray) (k : Nat) (hk : k < s.size) : smallK s (k + 1) = bset (smallK s k) k (smallB (byt s k)) := bytes_ext (by rw [size_bset, smallK_size, smallK_size]) fun j hj => by
  rw [smallK_size] at hj
  rw [byt_bset _ _ _ _ (by rw [smallK_size]; exact hk), smallK_byt s _ j hj, smallK_byt s _ j hj]
  by_cases e : k = j
  · subst e; rw [if_pos (by omega), if_pos rfl]
  · rw [if_neg e]
    by_cases h : j < k
    · rw [if_pos (by omega), if_pos h]
    · rw [if_neg (by omega), if_neg h]
theorem smallK_skip (s : ByteArray) (k : Nat) (h : smallB (byt s k) = byt s k) : smallK s (k + 1) = smallK s k := bytes_ext (by rw [smallK_size, smallK_size]) fun j hj => by
  rw [smallK_size] at hj
  rw [smallK_byt s _ j hj, smallK_byt s _ j hj]
  by_cases e : k = j
  · subst e; rw [if_pos (by omega), if_neg (by omega), h]
  · by_cases h : j < k
    · rw [if_pos (by omega), if_pos h]
    · rw [if_neg (by omega), if_neg h]

set_option maxRecDepth 10000 in
theorem smallB_big (x : UInt8) (h1 : 65 ≤ x.toNat) (h2 : x.toNat ≤ 90) : (smallB x).toNat = x.toNat + 32 := by
  have key : ∀ n : Fin 256, 65 ≤ n.val → n.val ≤ 90 → (smallB (UInt8.ofNat n.val)).toNat = n.val + 32 := by decide
  have := key ⟨x.toNat, x.toNat_lt⟩ h1 h2
  simpa using this

end Go.Proofs.YtkhpcagoggglcaaGreatDoor

