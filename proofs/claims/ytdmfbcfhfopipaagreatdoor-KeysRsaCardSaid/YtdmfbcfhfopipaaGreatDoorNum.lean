/- Great numbers in memory; number.trim, number.Of, Nat.Bits. -/
import Derived.Test.YtdmfbcfhfopipaaGreatDoorBlocks
import Derived.Deep.OwnRows
namespace Go.Proofs.YtdmfbcfhfopipaaGreatDoor
open Go.RowKit

/-- The digits that a slice holds, in a row from lo on. -/
def DigsAt (lo : Nat) (w : World) (A : Option Addr) (l : List W32) : Prop := l = [] ∨ ∃ b, A = some ⟨b, 0, none⟩ ∧ lo ≤ b ∧ b < w.heap.size ∧ ∀ i, i < l.length → w.cell? ⟨b, i, none⟩ = some (.int .u32 (wd (l.getD i 0)))
/-- A number's value, of these digits. -/
def NatV (lo : Nat) (w : World) (v : Value) (l : List W32) : Prop := ∃ A c, v = .agg #[.slice A l.length c] ∧ l.length ≤ c ∧ c ≤ 9223372036854775807 ∧ DigsAt lo w A l
theorem DigsAt.below {lo : Nat} {w w' : World} {A : Option Addr} {l : List W32} (h : DigsAt lo w A l) (hb : Below w.heap.size w w') : DigsAt lo w' A l := by
  rcases h with h | ⟨b, rfl, hlo, hlt, hc⟩
  · exact .inl h
  · exact .inr ⟨b, rfl, hlo, Nat.lt_of_lt_of_le hlt hb.size, fun i hi => by rw [hb.cell (p := ⟨b, i, none⟩) hlt]; exact hc i hi⟩
theorem DigsAt.low {lo : Nat} {w : World} {A : Option Addr} {l : List W32} (h : DigsAt lo w A l) {p : Addr} (hp : p.block < lo) (v : Value) : DigsAt lo (w.setCell p v) A l := by
  rcases h with h | ⟨b, rfl, hlo, hlt, hc⟩
  · exact .inl h
  · refine .inr ⟨b, rfl, hlo, by simpa using hlt, fun i hi => ?_⟩
    rw [World.cell?_of_block (w := w)]
    · exact hc i hi
    · exact heap_setCell_other _ _ _ _ (by simp; omega)
theorem DigsAt.mono {lo lo' : Nat} {w : World} {A : Option Addr} {l : List W32} (h : DigsAt lo w A l) (hl : lo' ≤ lo) : DigsAt lo' w A l := by
  rcases h with h | ⟨b, rfl, hlo, hlt, hc⟩
  · exact .inl h
  · exact .inr ⟨b, rfl, by omega, hlt, hc⟩
theorem NatV.below {lo : Nat} {w w' : World} {v : Value} {l : List W32} (h : NatV lo w v l) (hb : Below w.heap.size w w') : NatV lo w' v l := by
  obtain ⟨A, c, h1, h2, h3, h4⟩ := h
  exact ⟨A, c, h1, h2, h3, h4.below hb⟩
theorem NatV.low {lo : Nat} {w : World} {v : Value} {l : List W32} (h : NatV lo w v l) {p : Addr} (hp : p.block < lo) (u : Value) : NatV lo (w.setCell p u) v l := by
  obtain ⟨A, c, h1, h2, h3, h4⟩ := h
  exact ⟨A, c, h1, h2, h3, h4.low hp u⟩
theorem NatV.mono {lo lo' : Nat} {w : World} {v : Value} {l : List W32} (h : NatV lo w v l) (hl : lo' ≤ lo) : NatV lo' w v l := by
  obtain ⟨A, c, h1, h2, h3, h4⟩ := h
  exact ⟨A, c, h1, h2, h3, h4.mono hl⟩
theorem DigsAt.take {lo : Nat} {w : World} {A : Option Addr} {l : List W32} (h : DigsAt lo w A l) (n : Nat) : DigsAt lo w A (l.take n) := by
  rcases h with h | ⟨b, rfl, hlo, hlt, hc⟩
  · subst h; exact .inl (by simp)
  · refine .inr ⟨b, rfl, hlo, hlt, fun i hi => ?_⟩
    rw [List.length_take] at hi
    rw [hc i (by omega)]
    simp [List.getD, show i < n by omega]

def trimN (l : List W32) : Nat → Nat
  | 0 => 0
  | n + 1 => if l.getD n 0 = 0 then trimN l n else n + 1
def trimL (l : List W32) : List W32 := l.take (trimN l l.length)
theorem trimN_le (l : List W32) (n : Nat) : trimN l n ≤ n := by
  induction n with
  | zero => exact Nat.le_refl _
  | succ n ih => unfold trimN; split <;> omega
theorem trimL_len (l : List W32) : (trimL l).length = trimN l l.length := by
  have := trimN_le l l.length
  simp [trimL]; omega

theorem info_Nat : (Tryz.prog.info? 45).map (·.size) = some 1 := by kernel_rfl
theorem nat_load {w : World} {b : Nat} {x : Value} {t : TypeId} (h : Blk w b #[x] t) : (loadVar 45 ⟨b, 0, none⟩).run Tryz.prog w = .ok (.agg #[x]) w := loadVar_blk h Tryz.underlying45 rfl info_Nat
set_option maxRecDepth 100000 in
set_option maxHeartbeats 1000000 in
theorem trim_any (A : Option Addr) (c : Nat) (l : List W32) (w : World) (hc : l.length ≤ c) (hcm : c ≤ 9223372036854775807) (lo : Nat) (hA : DigsAt lo w A l) :
    Calls Tryz.prog 53 #[.slice A l.length c] w fun e w' => e = .returned (.agg #[.slice A (trimN l l.length) c]) ∧ Below w.heap.size w w' := by
  have HA := Lib.hid hA
  clear hA
  go_enter Tryz.func53, Tryz.ntmps53
  go_wp2
  generalize hfin : trimN l l.length = fin
  have HFIN := Lib.hid hfin
  go_loopw [0] (fun v wr => ∃ k : Nat, k ≤ l.length ∧ v = .slice A k c ∧ Hid (trimN l k = fin) ∧ Hid (wr = w.alloc (.cells #[.slice none 0 0] 45))) (fun v _ => match v with | .slice _ n _ => n | _ => 0)
  case atStart => exact ⟨l.length, Nat.le_refl _, rfl, HFIN, Lib.hid rfl⟩
  case round =>
    obtain ⟨k, hk, rfl, hf, hw⟩ := hrel
    have hwr := hw.out
    by_cases h0 : k = 0
    · subst h0
      go_wp2_with fail
      rw [hfin, ← hf.out]
      refine bodyPost_ret (results1 rfl ⟨_, rfl, nat_load (Blk.new w #[.slice A 0 c] 45)⟩) rfl ⟨rfl, ?_⟩
      exact (Below.refl w.heap.size w).alloc (Nat.le_refl _) _
    · obtain ⟨j, rfl⟩ : ∃ j, k = j + 1 := ⟨k - 1, by omega⟩
      obtain ⟨b, rfl, _, hlt, hcell⟩ : ∃ b, A = some ⟨b, 0, none⟩ ∧ lo ≤ b ∧ b < w.heap.size ∧ ∀ i, i < l.length → w.cell? ⟨b, i, none⟩ = some (.int .u32 (wd (l.getD i 0))) := by
        rcases HA.out with h | h
        · subst h; simp at hk
        · exact h
      have hcj : wr.cell? ⟨b, j, none⟩ = some (.int .u32 (wd (l.getD j 0))) := by
        rw [hwr, ((Below.refl w.heap.size w).alloc (Nat.le_refl _) _).cell (p := ⟨b, j, none⟩) hlt]
        exact hcell j (by omega)
      have hstep : trimN l (j + 1) = if l.getD j 0 = 0 then trimN l j else j + 1 := rfl
      rw [hf.out] at hstep
      have hgt : decide ((0 : Int) < (j : Int) + 1) = true := decide_eq_true (by omega)
      have hs1 : (j : Int) + 1 - 1 = (j : Int) := by omega
      have hjc : (j : Int) ≤ (c : Int) := by omega
      have hjl : (j : Int) < (j : Int) + 1 := by omega
      generalize l.getD j 0 = x at hcj hstep
      have hcell' := Lib.hid hcell
      have hR : Blk wr w.heap.size #[.slice none 0 0] 45 := by rw [hwr]; exact Blk.new _ _ _
      have cR : wr.cell? ⟨w.heap.size, 0, none⟩ = some (.slice none 0 0) := hR.cell 0
      have fR := hR.free 0
      have HR := Lib.hid hR
      clear hcell hwr hR
      by_cases hx : x = 0
      · have hx0 : (wd x == 0) = true := by rw [hx]; rfl
        rw [if_pos hx] at hstep
        have HS := Lib.hid hstep.symm
        clear hx hstep
        go_wp2_with fail
        go_roundw
        case rel => exact ⟨j, by omega, rfl, HS, hw⟩
        case measure => simp
      · have hx0 : (wd x == 0) = false := by
          rw [beq_eq_false_iff_ne]
          intro h
          exact hx (wd_inj h)
        rw [if_neg hx] at hstep
        have HS := Lib.hid hstep
        clear hx hstep
        go_wp2_with fail
        rw [hfin, HS.out]
        have hb := (HR.out.set 0 (.slice (some ⟨b, 0, none⟩) (j + 1) c))
        refine bodyPost_ret (results1 rfl ⟨_, rfl, nat_load (by simpa using hb)⟩) rfl ⟨rfl, ?_⟩
        exact Below.setCell (by rw [hw.out]; exact (Below.refl w.heap.size w).alloc (Nat.le_refl _) _) (by exact Nat.le_refl _) _

/-- The digits of bytes, i bytes done. -/
def ofRun (s : List UInt8) : Nat → List W32
  | 0 => List.replicate ((s.length + 3) / 4) 0
  | i + 1 => (ofRun s i).set ((s.length - 1 - i) / 4) ((ofRun s i).getD ((s.length - 1 - i) / 4) 0 ||| (BitVec.ofNat 32 (s.getD i 0).toNat <<< (8 * ((s.length - 1 - i) % 4))))
theorem ofRun_len (s : List UInt8) (i : Nat) : (ofRun s i).length = (s.length + 3) / 4 := by
  induction i with
  | zero => simp [ofRun]
  | succ i ih => simp [ofRun, ih]
theorem ofval (y : W32) (x : UInt8) (sh : Nat) : bits .or .u32 (wd y) ((x.toNat : Int) % 4294967296 * 2 ^ sh % 4294967296) = wd (y ||| (BitVec.ofNat 32 x.toNat <<< sh)) := by
  have m : (x.toNat : Int) % 4294967296 = (x.toNat : Int) := by have := x.toNat_lt; omega
  rw [m, shl_byte, wd_or]
def stripL (s : List UInt8) : List UInt8 := Lib.trimLeftB s 0
def numDigs (s : List UInt8) : List W32 := trimL (ofRun (stripL s) (stripL s).length)

theorem info_u32 : (Tryz.prog.info? 64).map (fun i => (i.zero, i.size, i.bytes)) = some (some (.int .u32 0), 1, 4) := by kernel_rfl
theorem made_enc (n : Nat) : madeCells #[Value.int .u32 0] n = encW (List.replicate n 0) := by
  apply Array.ext_getElem?
  intro i
  by_cases h : i < n
  · rw [encW_get _ _ (by simpa using h)]
    simp [madeCells, h, wd, Nat.mod_one]
  · simp [madeCells, encW, h]

set_option maxRecDepth 100000 in
set_option maxHeartbeats 1000000 in
theorem of_long (s : ByteArray) (w : World) (hl : 512 < (stripL s.data.toList).length) (_hs : s.size ≤ 9223372036854775807) :
    Calls Tryz.prog 25 #[.string s] w fun e w' => e = .returned (.tuple #[.agg #[.slice none 0 0], .int .i64 3]) ∧ Below w.heap.size w w' := by
  have hst := Tryz.strings_TrimLeft_one s 0 (by decide)
  rw [show (Lib.trimLeftB s.data.toList 0) = stripL s.data.toList from rfl] at hst
  generalize stripL s.data.toList = l at hl hst
  change ∀ w, Calls _ _ _ _ (fun e w' => e = .returned (.string (bs l)) ∧ w' = w) at hst
  have hsz := bs_size l
  have h1 : decide ((512 : Int) < (l.length : Int)) = true := decide_eq_true (by omega)
  have HS := Lib.hid hst
  clear hst hl
  go_enter Tryz.func25, Tryz.ntmps25
  go_wp2_with (go_at_call 52; refine (HS.out _).mono ?_; rintro e w1 ⟨rfl, rfl⟩)
  refine bodyPost_ret (results2 rfl ⟨_, rfl, nat_load (Blk.new w #[.slice none 0 0] 45)⟩ rfl) rfl ⟨rfl, ?_⟩
  exact (Below.refl w.heap.size w).alloc (Nat.le_refl _) _
set_option maxRecDepth 100000 in
set_option maxHeartbeats 1000000 in
theorem of_ok (s : ByteArray) (w : World) (hl : (stripL s.data.toList).length ≤ 512) :
    Calls Tryz.prog 25 #[.string s] w fun e w' => ∃ v, e = .returned (.tuple #[v, .int .i64 0]) ∧ NatV w.heap.size w' v (numDigs s.data.toList) ∧ Below w.heap.size w w' := by
  have hst := Tryz.strings_TrimLeft_one s 0 (by decide)
  rw [show (Lib.trimLeftB s.data.toList 0) = stripL s.data.toList from rfl] at hst
  rw [numDigs]
  generalize stripL s.data.toList = l at hl hst ⊢
  change ∀ w, Calls _ _ _ _ (fun e w' => e = .returned (.string (bs l)) ∧ w' = w) at hst
  have hsz := bs_size l
  have h1 : decide ((512 : Int) < (l.length : Int)) = false := decide_eq_false (by omega)
  have HS := Lib.hid hst
  clear hst
  obtain ⟨nn, q1, hnn⟩ : ∃ nn : Nat, ((l.length : Int) + 3) / 4 = (nn : Int) ∧ nn = (l.length + 3) / 4 := ⟨(l.length + 3) / 4, by omega, rfl⟩
  have HNN := Lib.hid hnn
  have hn512 : nn ≤ 200 := by omega
  clear hnn
  have hmk : ∀ w, (Instr.makeSlice 43 (.int .i64 (nn : Int)) (.int .i64 (nn : Int))).run Tryz.prog w = .ok (.slice (some ⟨w.heap.size, 0, none⟩) nn nn) (w.alloc (.cells (encW (List.replicate nn 0)) 64)) := fun w => by
    rw [← made_enc]
    exact run_make_row' 43 64 (.int .u32 0) 4 Tryz.underlying43 info_u32 rfl .i64 .i64 nn (by omega) (by omega) w
  go_enter Tryz.func25, Tryz.ntmps25
  go_wp2_with (go_at_call 52; refine (HS.out _).mono ?_; rintro e w1 ⟨rfl, rfl⟩)
  have hd0 : Blk ((w.alloc (.cells #[.slice none 0 0] 45)).alloc (.cells (encW (List.replicate nn 0)) 64)) (w.heap.size + 1) (encW (ofRun l 0)) 64 := by
    have := Blk.new (w.alloc (.cells #[.slice none 0 0] 45)) (encW (List.replicate nn 0)) 64
    rw [ofRun, ← HNN.out]
    simpa using this
  have hr0 : Blk ((w.alloc (.cells #[.slice none 0 0] 45)).alloc (.cells (encW (List.replicate nn 0)) 64)) w.heap.size #[.slice none 0 0] 45 := (Blk.new w _ _).alloc _
  have hB0 : Below w.heap.size w ((w.alloc (.cells #[.slice none 0 0] 45)).alloc (.cells (encW (List.replicate nn 0)) 64)) := ((Below.refl _ w).alloc (Nat.le_refl _) _).alloc (by simp) _
  generalize ((w.alloc (.cells #[.slice none 0 0] 45)).alloc (.cells (encW (List.replicate nn 0)) 64)) = W0 at hd0 hr0 hB0 ⊢
  have HD0 := Lib.hid hd0; have HR0 := Lib.hid hr0; have HB0 := Lib.hid hB0
  clear hd0 hr0 hB0 hmk HS h1
  go_loopw [20] (fun z wr => ∃ i : Nat, i ≤ l.length ∧ z = .int .i64 i ∧ Hid (Blk wr (w.heap.size + 1) (encW (ofRun l i)) 64) ∧ Hid (Blk wr w.heap.size #[.slice none 0 0] 45) ∧ Hid (Below w.heap.size w wr)) (fun z _ => l.length - (intOf z).toNat)
  case atStart => exact ⟨0, Nat.zero_le _, rfl, HD0, HR0, HB0⟩
  case round =>
    obtain ⟨i, hi, rfl, hD, hR, hB⟩ := hrel
    by_cases hlt : i < l.length
    · obtain ⟨kk, hkk, hke⟩ : ∃ kk : Nat, (l.length : Int) - 1 - (i : Int) = (kk : Int) ∧ kk = l.length - 1 - i := ⟨l.length - 1 - i, by omega, rfl⟩
      obtain ⟨k4, hk4, hk4e⟩ : ∃ k4 : Nat, (kk : Int) / 4 = (k4 : Int) ∧ k4 = kk / 4 := ⟨kk / 4, by omega, rfl⟩
      obtain ⟨sh, hsh, hshe⟩ : ∃ sh : Nat, 8 * ((kk : Int) % 4) = (sh : Int) ∧ sh = 8 * (kk % 4) := ⟨8 * (kk % 4), by omega, rfl⟩
      have hs32 : min sh 32 = sh := by omega
      have hk4l : k4 < nn := by have := HNN.out; omega
      have hstep : ofRun l (i + 1) = (ofRun l i).set k4 ((ofRun l i).getD k4 0 ||| (BitVec.ofNat 32 (l.getD i 0).toNat <<< sh)) := by rw [hk4e, hshe, hke]; rfl
      have cD : wr.cell? ⟨w.heap.size + 1, k4, none⟩ = some (.int .u32 (wd ((ofRun l i).getD k4 0))) := by rw [hD.out.cell, encW_get _ _ (by rw [ofRun_len, ← HNN.out]; exact hk4l)]
      have fD := hD.out.free k4
      have hg : ∀ h, (bs l)[i]'h = l.getD i 0 := fun h => bs_get _ _ h
      generalize l.getD i 0 = x at hg hstep
      generalize (ofRun l i).getD k4 0 = y at cD hstep
      have HST := Lib.hid hstep
      have hk4i : (k4 : Int) < (nn : Int) := by omega
      have hmix : Tryz.prog.follows .mixedOrders = true := by kernel_rfl
      have HKE := Lib.hid hke; have HK4E := Lib.hid hk4e; have HSHE := Lib.hid hshe
      clear hstep hke hk4e hshe
      go_wp2_with fail
      refine wp_draw 14 (C := fun w' => ∃ n, w' = wr.drewN n) hmix (by kernel_rfl) (by kernel_rfl) (by kernel_rfl) (by simp) ⟨1, rfl⟩ ?_
      simp only [List.take_succ_cons, List.take_zero, List.drop_succ_cons, List.drop_zero]
      repeat (go_big_quiet_step (fail))
      refine wpQuiet_nil ?_
      intro _ hw'
      obtain ⟨nq, hw''⟩ := hw'
      subst hw''
      go_wp2_with fail
      rw [ofval y x sh]
      go_roundw
      case rel =>
        refine ⟨i + 1, by omega, by go_num, Lib.hid ?_, Lib.hid (Blk.other (w := wr.drewN nq) hR.out (by simp) _), Lib.hid (Below.setCell (w := wr.drewN nq) ⟨hB.out.os, hB.out.tape, hB.out.output, hB.out.size, hB.out.block⟩ (by simp) _)⟩
        rw [HST.out, ← encW_set]
        exact Blk.set (w := wr.drewN nq) hD.out _ _
      case measure => simp [intOf]; omega
    · obtain rfl : i = l.length := by omega
      have hlen := ofRun_len l l.length
      rw [← HNN.out] at hlen
      have hdig : DigsAt w.heap.size wr (some ⟨w.heap.size + 1, 0, none⟩) (ofRun l l.length) := .inr ⟨_, rfl, Nat.le_succ _, hD.out.lt, fun j hj => by rw [hD.out.cell, encW_get _ _ hj]⟩
      have htrim := trim_any (some ⟨w.heap.size + 1, 0, none⟩) nn (ofRun l l.length) wr (by omega) (by omega) _ hdig
      rw [hlen] at htrim
      have hnum : trimL (ofRun l l.length) = (ofRun l l.length).take (trimN (ofRun l l.length) nn) := by rw [trimL, hlen]
      have htl := trimL_len (ofRun l l.length)
      have htn := trimN_le (ofRun l l.length) nn
      rw [hlen] at htl
      have hdt := hdig.take (trimN (ofRun l l.length) nn)
      rw [← hnum] at hdt
      generalize htl0 : trimL (ofRun l l.length) = tl at hnum htl hdt
      have HTL0 := Lib.hid htl0
      clear htl0
      generalize trimN (ofRun l l.length) nn = tn at htrim htl htn hnum
      have HT := Lib.hid htrim; have HDT := Lib.hid hdt; have HTL := Lib.hid htl
      clear hdig htrim hnum hlen hdt htl HD0 HR0 HB0 hsz hl HNN hD
      go_wp2_with (go_at_call 53; refine HT.out.mono ?_; rintro e w5 ⟨rfl, hB5⟩; have hR5 := hR.out.below hB5 hR.out.lt; have c5 : w5.cell? ⟨w.heap.size, 0, none⟩ = some (.slice none 0 0) := hR5.cell 0; have f5 := hR5.free 0; replace hR5 := Lib.hid hR5; replace hB5 := Lib.hid hB5)
      have hb := (hR5.out.set 0 (.slice (some ⟨w.heap.size + 1, 0, none⟩) tn nn))
      have hB6 : Below wr.heap.size wr (w5.setCell ⟨w.heap.size, 0, none⟩ (.slice (some ⟨w.heap.size + 1, 0, none⟩) tn nn)) → True := fun _ => trivial
      refine bodyPost_ret (results2 rfl ⟨_, rfl, nat_load (by simpa using hb)⟩ rfl) rfl ⟨_, rfl, ⟨some ⟨w.heap.size + 1, 0, none⟩, nn, by rw [HTL0.out, HTL.out], by rw [HTL0.out, HTL.out]; exact htn, by omega, ?_⟩, ?_⟩
      · rw [HTL0.out]
        rcases HDT.out.below hB5.out with h | ⟨b, hb1, hb0, hb2, hb3⟩
        · exact .inl h
        · refine .inr ⟨b, hb1, hb0, by simpa using hb2, fun j hj => ?_⟩
          rw [World.cell?_of_block (w := w5)]
          · exact hb3 j hj
          · have : b = w.heap.size + 1 := by simpa using (Addr.mk.inj (Option.some.inj hb1)).1.symm
            subst this
            exact heap_setCell_other _ _ _ _ (by simp)
      · exact Below.setCell (hB.out.trans (hB5.out.mono hB.out.size)) (by exact Nat.le_refl _) _

/-- Of bytes the number, or that it is too long. -/
theorem number_of (s : ByteArray) (w : World) (hs : s.size ≤ 9223372036854775807) :
    Calls Tryz.prog 25 #[.string s] w fun e w' => Below w.heap.size w w' ∧
      if 512 < (stripL s.data.toList).length then e = .returned (.tuple #[.agg #[.slice none 0 0], .int .i64 3]) else ∃ v, e = .returned (.tuple #[v, .int .i64 0]) ∧ NatV w.heap.size w' v (numDigs s.data.toList) := by
  by_cases h : 512 < (stripL s.data.toList).length
  · simp only [if_pos h]
    exact (of_long s w h hs).mono fun e w' k => ⟨k.2, k.1⟩
  · simp only [if_neg h]
    exact (of_ok s w (by omega)).mono fun e w' ⟨v, k1, k2, k3⟩ => ⟨k3, v, k1, k2⟩
end Go.Proofs.YtdmfbcfhfopipaaGreatDoor
