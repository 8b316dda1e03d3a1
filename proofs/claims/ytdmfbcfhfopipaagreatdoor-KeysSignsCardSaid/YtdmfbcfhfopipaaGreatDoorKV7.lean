import Derived.Test.YtdmfbcfhfopipaaGreatDoorKV6
import Derived.Test.YtdmfbcfhfopipaaGreatDoorKV2
import Derived.Test.YtdmfbcfhfopipaaGreatDoorKV3
/- (number.Nat).Cmp. -/
namespace Go.Proofs.YtdmfbcfhfopipaaGreatDoor
open Go.RowKit Go.Shelf
attribute [local go_sem] Oper.semAt_some

theorem same_above {x y : Nat} (he : (nd x).length = (nd y).length) (d : Nat) (h : ∀ i, d ≤ i → i < (nd x).length → (nd x).getD i 0 = (nd y).getD i 0) (hd : d ≤ (nd x).length) : x / 4294967296 ^ d = y / 4294967296 ^ d := by
  have key : ∀ k, d + k = (nd x).length → x / 4294967296 ^ d = y / 4294967296 ^ d := by
    intro k
    induction k generalizing d with
    | zero => intro e; rw [Nat.add_zero] at e; subst e; exact top_eq he
    | succ k ih =>
      intro e
      exact dig_eq (ih (d + 1) (fun i h1 h2 => h i (by omega) h2) (by omega) (by omega)) (h d (Nat.le_refl _) (by omega))
  exact key ((nd x).length - d) (by omega)
theorem loadInt_blk {w : World} {b : Nat} {v : Value} {t : TypeId} (h : Blk w b #[v] t) : (loadVar 3 ⟨b, 0, none⟩).run Tryz.prog w = .ok v w := loadVar_int h Tryz.underlying3

theorem cell_self {w : World} {b : Nat} {v : Value} {t : TypeId} (h : Blk w b #[v] t) : w.setCell ⟨b, 0, none⟩ v = w := by
  rw [setCell_eq_setRow w b 0 #[v] t (0, 0) v h]
  exact setRow_self w b _ t (0, 0) h
/-- What the loop keeps, and how it is left ahead of its end. -/
def CmpI (x y p2 : Nat) (W1 : World) (pre : List (Bk (nd x))) (W : World) : Prop := (∀ i, i ∈ bkPre pre → (nd x).getD i 0 = (nd y).getD i 0) ∧ Blk W p2 #[.int .i64 0] 3 ∧ Below W1.heap.size W1 W
def CmpX (x y p2 : Nat) (w : World) (co : Code) (pre : List (Bk (nd x))) (W : World) : Prop := co = .ret ∧ ∃ (pre0 : List (Bk (nd x))) (X : Bk (nd x)) (R : Int), pre = pre0 ++ [X] ∧ (∀ i, i ∈ bkPre pre0 → (nd x).getD i 0 = (nd y).getD i 0) ∧ ((((nd x).getD X.1 0).toNat < ((nd y).getD X.1 0).toNat ∧ R = -1) ∨ (((nd y).getD X.1 0).toNat < ((nd x).getD X.1 0).toNat ∧ R = 1)) ∧ Blk W p2 #[.int .i64 R] 3 ∧ Below w.heap.size w W
theorem cmpI_own (x y p2 : Nat) (W1 : World) : OwnFrom W1.heap.size (CmpI x y p2 W1) :=
  OwnFrom.and (fun _ _ _ _ hs _ _ => hs) (OwnFrom.and (Own.from (fun _ _ _ _ hs hg hr => hs.kept hg hr) _) (ownFrom_below (Nat.le_refl _) (Nat.le_refl _)))
theorem cmpX_own (x y p2 : Nat) (w W1 : World) (h : w.heap.size ≤ W1.heap.size) (co : Code) : OwnFrom W1.heap.size (CmpX x y p2 w co) :=
  fun s W W' row hs hg hr => ⟨hs.1, let ⟨p0, X, R, h1, h2, h3, h4, h5⟩ := hs.2; ⟨p0, X, R, h1, h2, h3, h4.kept hg (fun r e => (hr r e).2), ownFrom_below (Nat.le_refl _) h s W W' row h5 hg hr⟩⟩
set_option maxRecDepth 100000 in
set_option maxHeartbeats 2000000 in
theorem nat_cmp_in (x y : Nat) (A B : Option Addr) (c d : Nat) (w : World) (he : (nd x).length = (nd y).length) (hl : (nd x).length ≤ 1000000) (lo lo' : Nat) (hA : DigsAt lo w A (nd x)) (hB : DigsAt lo' w B (nd y)) :
    CallsIn Fence.wide 4 Tryz.prog 29 #[.agg #[.slice A (nd x).length c], .agg #[.slice B (nd x).length d]] w fun e w' => e = .returned (.int .i64 (cmpI x y)) ∧ Below w.heap.size w w' := by
  have hro : Fence.wide.round = none := rfl
  have hn1 : 1 ≤ 4 := by omega
  refine callsIn_of_wp_marks Tryz.func29 rfl trivial ?_ hro
  simp only [Tryz.ntmps29, List.size_toArray, List.length_cons, List.length_nil, Nat.reduceAdd, Nat.reduceSub, Array.replicate_succ, Array.replicate_zero, List.push_toArray, List.append_toArray, List.nil_append, List.cons_append]
  have hWx : ∀ W1 : World, W1 = ((((w.alloc (.cells #[.slice A (nd x).length c] 45)).alloc (.cells #[.slice B (nd x).length d] 45)).alloc (.cells #[.int .i64 0] 3)).alloc (.cells #[.slice A (nd x).length c] 43)) →
      Blk W1 (w.heap.size + 1) #[.slice B (nd x).length d] 45 ∧ Blk W1 (w.heap.size + 1 + 1) #[.int .i64 0] 3 ∧ Blk W1 (w.heap.size + 1 + 1 + 1) #[.slice A (nd x).length c] 43 ∧ Below w.heap.size w W1 ∧ W1.heap.size = w.heap.size + 4 := by
    rintro W1 rfl
    refine ⟨?_, ?_, ?_, ?_, by simp⟩
    · have := (((Blk.new (w.alloc (.cells #[.slice A (nd x).length c] 45)) #[.slice B (nd x).length d] 45)).alloc (.cells #[.int .i64 0] 3)).alloc (.cells #[.slice A (nd x).length c] 43)
      simpa using this
    · have := (Blk.new ((w.alloc (.cells #[.slice A (nd x).length c] 45)).alloc (.cells #[.slice B (nd x).length d] 45)) #[.int .i64 0] 3).alloc (.cells #[.slice A (nd x).length c] 43)
      simpa using this
    · have := Blk.new (((w.alloc (.cells #[.slice A (nd x).length c] 45)).alloc (.cells #[.slice B (nd x).length d] 45)).alloc (.cells #[.int .i64 0] 3)) #[.slice A (nd x).length c] 43
      simpa using this
    · exact ((((Below.refl _ w).alloc (Nat.le_refl _) _).alloc (by simp) _).alloc (by simp; omega) _).alloc (by simp; omega) _
  have HWX := Lib.hid hWx; have HA := Lib.hid hA; have HB := Lib.hid hB; have HE := Lib.hid he; have HL := Lib.hid hl
  have hli : ((nd x).length : Int) ≤ 1000000 := by omega
  clear hWx hA hB he hl
  gi_wp2_with (refine ⟨trivial, ?_⟩; gi_at_call 58; refine (callsIn_wide.2 (backward_any _ _ _ _)).mono ?_; rintro e w' ⟨rfl, rfl⟩)
  generalize hW1 : ((((w.alloc (.cells #[.slice A (nd x).length c] 45)).alloc (.cells #[.slice B (nd x).length d] 45)).alloc (.cells #[.int .i64 0] 3)).alloc (.cells #[.slice A (nd x).length c] 43)) = W1
  obtain ⟨y1, y2, y3, yB, yS⟩ := HWX.out W1 hW1.symm
  have hA1 := HA.out.below yB
  have hB1 := HB.out.below yB
  have HYS := Lib.hid (show w.heap.size ≤ W1.heap.size by omega)
  have HP2 := Lib.hid (show w.heap.size ≤ w.heap.size + 1 + 1 by omega)
  clear hW1 HWX yS
  refine wpIn_rangeFunc_ownF (α := Bk (nd x)) (ps := #[27, 28]) hro hn1 (gf := 149) (lb := #[.pointer (some ⟨w.heap.size + 1 + 1 + 1, 0, none⟩)]) rfl trivial (enters_of Tryz.func149 (by kernel_rfl) rfl)
    (backward_stops Fence.wide 3 trivial hro (by omega) (w.heap.size + 1 + 1 + 1) (nd x) A c W1 HL.out y3 lo hA1) belowK_t (belowK_b (Nat.le_refl _)) (Below.refl _ _) (fun _ => rfl)
    (CmpI x y (w.heap.size + 1 + 1) W1) (CmpX x y (w.heap.size + 1 + 1) w) (cmpI_own _ _ _ _) (cmpX_own _ _ _ _ _ HYS.out)
    ⟨by simp [bkPre], y2, Below.refl _ _⟩
    (fun X => { tmps := #[.agg #[.slice A (nd x).length c], .agg #[.slice B (nd x).length d], .pointer (some ⟨w.heap.size, 0, none⟩), .pointer (some ⟨w.heap.size + 1, 0, none⟩), .pointer (some ⟨w.heap.size + 1 + 1, 0, none⟩), .int .i64 (X.1 : Int), .int .u32 (((nd x).getD X.1 0).toNat : Int), undef,
      .pointer (some ⟨w.heap.size, 0, none⟩), .slice A (nd x).length c, .int .i64 (nd x).length, .pointer (some ⟨w.heap.size + 1, 0, none⟩), .slice B (nd x).length d, .int .i64 (nd x).length, .bool false, undef, undef, undef, undef, undef, undef, undef, undef, undef,
      .pointer (some ⟨w.heap.size, 0, none⟩), .slice A (nd x).length c, .func (.func 149) #[] #[.pointer (some ⟨w.heap.size + 1 + 1 + 1, 0, none⟩)], .int .i64 (X.1 : Int), .int .u32 (((nd x).getD X.1 0).toNat : Int), undef, undef, undef, undef, undef, undef, undef, undef, undef, undef, undef, undef, undef], defers := [] }) ?assign ?body ?done ?stop
  case assign =>
    intro l X W K hK
    simp only [encBk]
    gi_wp2
    exact hK
  case body =>
    rintro l pre X W ⟨hp, hb, hB⟩ _
    have cB : W.cell? ⟨w.heap.size + 1, 0, none⟩ = some (.slice B (nd x).length d) := (y1.below hB y1.lt).cell 0
    have hXl := X.2
    obtain ⟨b2, rfl, _, hb2, hc2⟩ := hB1.cells (by have := HE.out; omega)
    have q2 : W.cell? ⟨b2, X.1, none⟩ = some (.int .u32 (((nd y).getD X.1 0).toNat : Int)) := by rw [hB.cell (p := ⟨b2, X.1, none⟩) hb2]; exact hc2 X.1 (by have := HE.out; omega)
    have c0 : W.cell? ⟨w.heap.size + 1 + 1, 0, none⟩ = some (.int .i64 0) := hb.cell 0
    have f0 := hb.free 0
    have hXi : (X.1 : Int) < ((nd x).length : Int) := by omega
    have hBw := yB.trans (hB.mono HYS.out)
    have hdig : (nd x).getD X.1 0 = (nd y).getD X.1 0 ↔ ((nd x).getD X.1 0).toNat = ((nd y).getD X.1 0).toNat := BitVec.toNat_inj.symm
    have HP := Lib.hid hp; have HBW := Lib.hid hBw; have HBk := Lib.hid hb
    have hKeep : ∀ v : Value, KeepsOthers W (W.setCell ⟨w.heap.size + 1 + 1, 0, none⟩ v) := fun v => KeepsOthers.setCell _ _ _
    have HK := Lib.hid hKeep
    clear hc2 hp hBw hb hKeep f0
    have f0 := HBk.out.free 0
    generalize hdx : ((nd x).getD X.1 0).toNat = dx at *
    generalize hdy : ((nd y).getD X.1 0).toNat = dy at *
    have HDX := Lib.hid hdx; have HDY := Lib.hid hdy
    clear hdx hdy
    rcases Nat.lt_trichotomy dx dy with h | h | h
    · have HLAW := Lib.hid h
      have t1 : (dx : Int) < (dy : Int) := by omega
      clear h hdig
      gi_wp2
      exact ⟨HK.out _, rfl, pre, X, -1, rfl, HP.out, .inl ⟨by rw [HDX.out, HDY.out]; exact HLAW.out, rfl⟩, by simpa using HBk.out.set 0 (.int .i64 (-1)), HBW.out.setCell (p := ⟨w.heap.size + 1 + 1, 0, none⟩) HP2.out _⟩
    · have HLAW := Lib.hid (hdig.2 h)
      subst h
      clear hdig
      gi_wp2
      refine ⟨⟨Nat.le_refl _, fun _ _ h _ => h⟩, Below.refl _ _, ?_, HBk.out, hB⟩
      intro i hi
      rw [bkPre_snoc, List.mem_append, List.mem_singleton] at hi
      rcases hi with hi | rfl
      · exact HP.out i hi
      · exact HLAW.out
    · have HLAW := Lib.hid h
      have t1 : ¬ ((dx : Int) < (dy : Int)) := by omega
      have t2 : (dy : Int) < (dx : Int) := by omega
      clear h hdig
      gi_wp2
      exact ⟨HK.out _, rfl, pre, X, 1, rfl, HP.out, .inr ⟨by rw [HDX.out, HDY.out]; exact HLAW.out, rfl⟩, by simpa using HBk.out.set 0 (.int .i64 1), HBW.out.setCell (p := ⟨w.heap.size + 1 + 1, 0, none⟩) HP2.out _⟩
  case done =>
    rintro D xs W hD hS ⟨hp, hb, hB⟩ hK
    have heq : x = y := by
      have := same_above HE.out 0 (fun i _ hi => hp i (by rw [hS]; exact down_mem hi)) (Nat.zero_le _)
      simpa using this
    have hBw := yB.trans (hB.mono HYS.out)
    have c0 : W.cell? ⟨w.heap.size + 1 + 1, 0, none⟩ = some (.int .i64 0) := hb.cell 0
    have f0 := hb.free 0
    have HBk := Lib.hid hb; have HBW := Lib.hid hBw; have HQ := Lib.hid heq
    clear hp hb hBw heq hS
    gi_wp2
    rw [cell_self HBk.out]
    refine ⟨by simp, .inl ⟨_, _, rfl, run_takeDeferred hK, ?_⟩⟩
    refine ⟨_, results1 rfl ⟨_, rfl, loadInt_blk (HBk.out.below (belowK_b (w := W1) (Nat.le_refl _) W D _ _ hD hK rfl rfl) y2.lt)⟩, ?_, HBW.out.trans ((belowK_b (w := W1) (Nat.le_refl _) W D _ _ hD hK rfl rfl).mono HYS.out)⟩
    rw [HQ.out, cmpI_eq]
  case stop =>
    rintro D co pre W hD hSp ⟨rfl, p0, X, R, rfl, hp, hlaw, hb, hB⟩ hK
    have hR : R = cmpI x y := by
      obtain ⟨rest, hrest⟩ := hSp
      rw [bkPre_snoc, List.append_assoc] at hrest
      have hab := down_above hrest.symm
      have hq := same_above HE.out (X.1 + 1) (fun i h1 h2 => hp i (hab i (by omega) h2)) X.2
      rcases hlaw with ⟨h, rfl⟩ | ⟨h, rfl⟩
      · rw [cmpI_lt (dig_lt hq h)]
      · rw [cmpI_gt (dig_lt hq.symm h)]
    subst hR
    clear hlaw hp hSp
    have HBk := Lib.hid hb; have HBW := Lib.hid hB
    clear hb hB
    gi_wp2
    refine ⟨by simp, .inl ⟨_, _, rfl, run_takeDeferred hK, ?_⟩⟩
    exact ⟨_, results1 rfl ⟨_, rfl, loadInt_blk (HBk.out.below (belowK_b (w := W1) (Nat.le_refl _) W D _ _ hD hK rfl rfl) y2.lt)⟩, rfl, HBW.out.trans ((belowK_b (w := W1) (Nat.le_refl _) W D _ _ hD hK rfl rfl).mono HYS.out)⟩

set_option maxRecDepth 100000 in
set_option maxHeartbeats 1000000 in
theorem nat_cmp (v u : Value) (x y : Nat) (w : World) (hl : (nd x).length ≤ 1000000) (hl2 : (nd y).length ≤ 1000000) (lo lo' : Nat) (hv : NatV lo w v (nd x)) (hu : NatV lo' w u (nd y)) :
    Calls Tryz.prog 29 #[v, u] w fun e w' => e = .returned (.int .i64 (cmpI x y)) ∧ Below w.heap.size w w' := by
  obtain ⟨A, c, rfl, _, _, hA⟩ := hv
  obtain ⟨B, d, rfl, _, _, hB⟩ := hu
  by_cases he : (nd x).length = (nd y).length
  · rw [← he]
    exact callsIn_wide.1 (nat_cmp_in x y A B c d w he hl lo lo' hA hB)
  · have hx2 : ∀ R : Int, Blk (((w.alloc (.cells #[.slice A (nd x).length c] 45)).alloc (.cells #[.slice B (nd y).length d] 45)).alloc (.cells #[.int .i64 R] 3)) (w.heap.size + 1 + 1) #[.int .i64 R] 3 := fun R => by
      have := Blk.new ((w.alloc (.cells #[.slice A (nd x).length c] 45)).alloc (.cells #[.slice B (nd y).length d] 45)) #[.int .i64 R] 3
      simpa using this
    have hbB : ∀ R : Int, Below w.heap.size w (((w.alloc (.cells #[.slice A (nd x).length c] 45)).alloc (.cells #[.slice B (nd y).length d] 45)).alloc (.cells #[.int .i64 R] 3)) := fun R =>
      (((Below.refl _ w).alloc (Nat.le_refl _) _).alloc (by simp) _).alloc (by simp; omega) _
    have HX2 := Lib.hid hx2; have HBB := Lib.hid hbB
    have t1 : (((nd x).length : Int) != ((nd y).length : Int)) = true := by rw [bne_iff_ne]; omega
    have t0 : (((nd x).length : Int) == ((nd y).length : Int)) = false := by rw [beq_eq_false_iff_ne]; omega
    have hli : ((nd x).length : Int) ≤ 1000000 := by omega
    have hli2 : ((nd y).length : Int) ≤ 1000000 := by omega
    clear hx2 hbB hA hB
    by_cases hlt : (nd x).length < (nd y).length
    · have hmx : max (-1 : Int) (((nd x).length : Int) - ((nd y).length : Int)) = -1 := by omega
      have hmn : min (1 : Int) (-1) = -1 := by omega
      have HC := Lib.hid (cmpI_lt (len_lt hlt))
      clear he hlt hl hl2
      generalize (nd x).length = nx at *
      generalize (nd y).length = ny at *
      go_enter Tryz.func29, Tryz.ntmps29
      go_wp2
      refine bodyPost_ret (results1 rfl ⟨_, rfl, loadInt_blk (HX2.out (-1))⟩) rfl ⟨by rw [HC.out], HBB.out _⟩
    · obtain ⟨k, hk, hk1⟩ : ∃ k : Int, max (-1 : Int) (((nd x).length : Int) - ((nd y).length : Int)) = k ∧ 1 ≤ k := ⟨_, rfl, by omega⟩
      have hmn : min (1 : Int) k = 1 := by omega
      have HC := Lib.hid (cmpI_gt (len_lt (show (nd y).length < (nd x).length by omega)))
      clear he hlt hl hl2
      generalize (nd x).length = nx at *
      generalize (nd y).length = ny at *
      go_enter Tryz.func29, Tryz.ntmps29
      go_wp2
      refine bodyPost_ret (results1 rfl ⟨_, rfl, loadInt_blk (HX2.out 1)⟩) rfl ⟨by rw [HC.out], HBB.out _⟩
end Go.Proofs.YtdmfbcfhfopipaaGreatDoor

/- The laws of a quotient's digit, guessed by the first ones, taken off, and put right. -/
namespace Go.Proofs.YtdmfbcfhfopipaaGreatDoor
section
variable {U V v1 v2 u2 top P V' U' : Nat}
theorem guess_down (hV : V = (v1 * 4294967296 + v2) * P + V') (hU : U = (top * 4294967296 + u2) * P + U') (hU' : U' < P) (hUV : U < V * 4294967296) (q r : Nat) (htop : q * v1 + r = top) (hq : U / V ≤ q)
    (hc : 4294967296 ≤ q ∨ r * 4294967296 + u2 < q * v2) : U / V ≤ q - 1 ∧ 0 < q := by
  rcases hc with hc | hc
  · have h := Nat.div_lt_of_lt_mul hUV
    generalize U / V = d at *
    omega
  · have h1 : (q * v1 * 4294967296 + q * v2) * P ≤ q * V := by
      have e : q * V = (q * v1 * 4294967296 + q * v2) * P + q * V' := by rw [hV]; grind
      omega
    have h2 : (top * 4294967296 + u2 + 1) * P ≤ (q * v1 * 4294967296 + q * v2) * P := Nat.mul_le_mul_right _ (by rw [← htop, Nat.add_mul]; omega)
    have h3 : (top * 4294967296 + u2 + 1) * P = (top * 4294967296 + u2) * P + P := by grind
    have h4 : U < V * q := by rw [Nat.mul_comm]; omega
    have h5 := Nat.div_lt_of_lt_mul h4
    generalize U / V = d at *
    omega
theorem guess_end (hV : V = (v1 * 4294967296 + v2) * P + V') (hV' : V' < P) (hU : U = (top * 4294967296 + u2) * P + U') (hv1 : 0 < v1) (hv2 : v2 < 4294967296) (q r : Nat) (htop : q * v1 + r = top) (hqB : q < 4294967296)
    (hc : 4294967296 ≤ r ∨ q * v2 ≤ r * 4294967296 + u2) : q * V ≤ U + V := by
  have e : q * V = (q * v1 * 4294967296 + q * v2) * P + q * V' := by rw [hV]; grind
  rcases hc with hc | hc
  · have h1 : q * V' ≤ q * P := Nat.mul_le_mul_left _ (by omega)
    have h2 : q * (v2 + 1) ≤ 4294967296 * 4294967296 := Nat.mul_le_mul (by omega) (by omega)
    have h3 : (q * v1 * 4294967296 + q * v2) * P + q * P = (q * v1 * 4294967296 + q * (v2 + 1)) * P := by grind
    have h4 : (q * v1 * 4294967296 + q * (v2 + 1)) * P ≤ (top * 4294967296 + u2) * P := Nat.mul_le_mul_right _ (by rw [← htop, Nat.add_mul]; omega)
    omega
  · have h1 : (q * v1 * 4294967296 + q * v2) * P ≤ (top * 4294967296 + u2) * P := Nat.mul_le_mul_right _ (by rw [← htop, Nat.add_mul]; omega)
    have h2 : q * V' ≤ 4294967296 * P := Nat.mul_le_mul (by omega) (by omega)
    have h3 : 4294967296 * P ≤ (v1 * 4294967296 + v2) * P := Nat.mul_le_mul_right _ (by omega)
    omega
theorem guess_top (hV : V = (v1 * 4294967296 + v2) * P + V') (hV' : V' < P) (hv2 : v2 < 4294967296) (hU : U = (top * 4294967296 + u2) * P + U') (hUV : U < V * 4294967296) : top < (v1 + 1) * 4294967296 := by
  have h1 : V < ((v1 + 1) * 4294967296) * P := by
    have e1 : (v1 * 4294967296 + v2 + 1) * P = (v1 * 4294967296 + v2) * P + P := by grind
    have : (v1 * 4294967296 + v2 + 1) * P ≤ ((v1 + 1) * 4294967296) * P := Nat.mul_le_mul_right _ (by omega)
    omega
  have h2 : top * 4294967296 * P ≤ (top * 4294967296 + u2) * P := Nat.mul_le_mul_right _ (by omega)
  have h3 : top * 4294967296 * P < ((v1 + 1) * 4294967296) * P * 4294967296 := by omega
  have h4 : ((v1 + 1) * 4294967296) * P * 4294967296 = ((v1 + 1) * 4294967296) * 4294967296 * P := by grind
  rw [h4] at h3
  have h5 := Nat.lt_of_mul_lt_mul_right h3
  omega
theorem guess_small (q r : Nat) (htop : q * v1 + r = top) (ht : top < (v1 + 1) * 4294967296) (hr : 4294967296 ≤ r) : q < 4294967296 := by
  refine Nat.lt_of_not_le fun h => ?_
  have : 4294967296 * v1 ≤ q * v1 := Nat.mul_le_mul_right _ h
  omega
end
/-- One step of taking off. -/
theorem sub_step {A Vk X q P cc bb : Nat} (h : A + q * Vk = X + (cc + bb) * P) (ui u' vi c' b' : Nat) (hd : u' + q * vi + (cc + bb) = ui + (c' + b') * 4294967296) : (A + P * u') + q * (Vk + P * vi) = (X + P * ui) + (c' + b') * (P * 4294967296) := by
  have e1 : P * (u' + q * vi + (cc + bb)) = P * (ui + (c' + b') * 4294967296) := by rw [hd]
  have e2 : P * (u' + q * vi + (cc + bb)) = P * u' + q * (P * vi) + (cc + bb) * P := by grind
  have e3 : P * (ui + (c' + b') * 4294967296) = P * ui + (c' + b') * (P * 4294967296) := by grind
  rw [Nat.mul_add]
  omega
theorem add_step {A Vk X P cc : Nat} (h : A + cc * P = X + Vk) (ui u' vi c' : Nat) (hd : u' + c' * 4294967296 = ui + vi + cc) : (A + P * u') + c' * (P * 4294967296) = (X + P * ui) + (Vk + P * vi) := by
  have e1 : P * (u' + c' * 4294967296) = P * (ui + vi + cc) := by rw [hd]
  have e2 : P * (u' + c' * 4294967296) = P * u' + c' * (P * 4294967296) := by grind
  have e3 : P * (ui + vi + cc) = P * ui + P * vi + cc * P := by grind
  omega
/-- Taken off, and nothing lent. -/
theorem sub_good {Un V A q P un cb U : Nat} (h : A + q * V = Un + cb * P) (hU : U = Un + P * un) (hcb : cb ≤ un) (hq : U / V ≤ q) (hV : 0 < V) : A + P * (un - cb) = U % V := by
  have e : P * un = P * (un - cb) + P * cb := by rw [← Nat.mul_add]; congr 1; omega
  have e2 : cb * P = P * cb := Nat.mul_comm _ _
  have h1 : (A + P * (un - cb)) + q * V = U := by omega
  have h2 : q ≤ U / V := (Nat.le_div_iff_mul_le hV).mpr (by omega)
  have h3 : q = U / V := by omega
  have h4 := Nat.div_add_mod U V
  rw [← h3, Nat.mul_comm V q] at h4
  omega
/-- Taken off once too often, and given back. -/
theorem sub_back {Un V A A2 q P un cb c2 U : Nat} (h : A + q * V = Un + cb * P) (hU : U = Un + P * un) (hcb : un < cb) (hq : U / V ≤ q) (hqV : q * V ≤ U + V) (hVP : V ≤ P) (hA2 : A2 + c2 * P = A + V) (hlt2 : A2 < P) (hlt : A < P) (hV : 0 < V) :
    (un + 4294967296 - cb) % 4294967296 + c2 = 4294967296 ∧ A2 = U % V := by
  have h1 : A2 + c2 * P + q * V = Un + cb * P + V := by omega
  have hcd : cb * P = P * cb := Nat.mul_comm _ _
  have hce : c2 * P = P * c2 := Nat.mul_comm _ _
  obtain ⟨d, hd⟩ : ∃ d, cb = un + 1 + d := ⟨cb - un - 1, by omega⟩
  have e1 : P * cb = P * un + P + P * d := by rw [hd]; grind
  have hc2 : c2 = 1 + d := by
    rcases Nat.lt_trichotomy c2 (1 + d) with hl | he | hg
    · have : P * c2 + P ≤ P + P * d := by
        have := Nat.mul_le_mul_left P (show c2 + 1 ≤ 1 + d by omega)
        rw [Nat.mul_add, Nat.mul_add] at this
        omega
      omega
    · exact he
    · have : P + P * d + P ≤ P * c2 := by
        have := Nat.mul_le_mul_left P (show 1 + d + 1 ≤ c2 by omega)
        rw [Nat.mul_add, Nat.mul_add] at this
        omega
      omega
  have e2 : P * c2 = P + P * d := by rw [hc2]; grind
  have h2 : A2 + q * V = U + V := by omega
  have hc21 : c2 ≤ 1 := by
    refine Nat.le_of_not_lt fun h => ?_
    have : 2 * P ≤ c2 * P := Nat.mul_le_mul_right _ h
    omega
  have hd0 : d = 0 := by omega
  subst hd0
  have hq2 : U / V < q := by
    have : U < q * V := by omega
    exact Nat.div_lt_of_lt_mul (by rw [Nat.mul_comm]; exact this)
  have hq1 : q - 1 ≤ U / V := by
    refine (Nat.le_div_iff_mul_le hV).mpr ?_
    have : (q - 1) * V + V = q * V := by
      obtain ⟨k, rfl⟩ : ∃ k, q = k + 1 := ⟨q - 1, by have := Nat.lt_of_le_of_lt (Nat.zero_le _) hq2; omega⟩
      rw [Nat.add_sub_cancel, Nat.succ_mul]
    omega
  have h3 : q = U / V + 1 := by
    revert hq1 hq2
    generalize U / V = z
    intro hq1 hq2
    omega
  have h4 := Nat.div_add_mod U V
  rw [h3, Nat.succ_mul, Nat.mul_comm (U / V) V] at h2
  omega
end Go.Proofs.YtdmfbcfhfopipaaGreatDoor

/- What a digit's guess is worth, over rows of digits; bits of numbers of 64 bits. -/
namespace Go.Proofs.YtdmfbcfhfopipaaGreatDoor
open Go.RowKit

theorem ofInt_nat64 (a : Nat) : BitVec.ofInt 64 (a : Int) = BitVec.ofNat 64 a := by simp
theorem u64_or (a b : Nat) (ha : a < 18446744073709551616) (hb : b < 18446744073709551616) : bits .or .u64 (a : Int) (b : Int) = ((a ||| b : Nat) : Int) := by
  show IntKind.u64.wrap ((BitVec.ofInt 64 (a : Int) ||| BitVec.ofInt 64 (b : Int)).toNat : Int) = _
  rw [ofInt_nat64, ofInt_nat64, BitVec.toNat_or, BitVec.toNat_ofNat, BitVec.toNat_ofNat, Nat.mod_eq_of_lt ha, Nat.mod_eq_of_lt hb]
  have : a ||| b < 2 ^ 64 := Nat.or_lt_two_pow ha hb
  rw [IntKind.wrap_u64]
  omega
theorem u64_join (a b : Nat) (ha : a < 4294967296) (hb : b < 4294967296) : bits .or .u64 ((a * 4294967296 : Nat) : Int) (b : Int) = ((a * 4294967296 + b : Nat) : Int) := by
  rw [u64_or _ _ (by omega) (by omega)]
  have h := Nat.two_pow_add_eq_or_of_lt (show b < 2 ^ 32 from hb) a
  rw [Nat.mul_comm] at h
  rw [← h]
theorem u64_low (a : Nat) (ha : a < 18446744073709551616) : bits .and .u64 (a : Int) 4294967295 = ((a % 4294967296 : Nat) : Int) := by
  show IntKind.u64.wrap ((BitVec.ofInt 64 (a : Int) &&& BitVec.ofInt 64 4294967295).toNat : Int) = _
  rw [ofInt_nat64, show BitVec.ofInt 64 4294967295 = BitVec.ofNat 64 (2 ^ 32 - 1) from rfl, BitVec.toNat_and, BitVec.toNat_ofNat, BitVec.toNat_ofNat, Nat.mod_eq_of_lt ha, Nat.mod_eq_of_lt (show 2 ^ 32 - 1 < 2 ^ 64 by decide), Nat.and_two_pow_sub_one_eq_mod]
  rw [IntKind.wrap_u64]
  omega
theorem va_last (l : List W32) (n : Nat) (h : l.length = n + 1) : va l = va (l.take n) + 4294967296 ^ n * (l.getD n 0).toNat := by
  have := va_take l n (by omega)
  rwa [← h, List.take_length] at this
theorem va_take_lt (l : List W32) (n : Nat) (h : n ≤ l.length) : va (l.take n) < 4294967296 ^ n := by
  have := va_lt (l.take n)
  rwa [List.length_take, Nat.min_eq_left h] at this
section
variable {u vl : List W32} {n : Nat}
theorem guess_facts (hu : u.length = n + 1) (hv : vl.length = n) (hn : 0 < n) (hv1 : 0 < (vl.getD (n - 1) 0).toNat) (hUV : va u < va vl * 4294967296)
    {v1 top v2 u2 : Nat} (e1 : v1 = (vl.getD (n - 1) 0).toNat) (e2 : top = (u.getD n 0).toNat * 4294967296 + (u.getD (n - 1) 0).toNat) (e3 : v2 = if 1 < n then (vl.getD (n - 2) 0).toNat else 0) (e4 : u2 = if 1 < n then (u.getD (n - 2) 0).toNat else 0) :
    top < (v1 + 1) * 4294967296 ∧ va u / va vl ≤ top / v1 ∧
    (∀ q r, q * v1 + r = top → va u / va vl ≤ q → (4294967296 ≤ q ∨ r * 4294967296 + u2 < q * v2) → va u / va vl ≤ q - 1 ∧ 0 < q) ∧
    (∀ q r, q * v1 + r = top → q < 4294967296 → (4294967296 ≤ r ∨ q * v2 ≤ r * 4294967296 + u2) → q * va vl ≤ va u + va vl) := by
  rw [← e1] at hv1
  obtain ⟨k, rfl⟩ : ∃ k, n = k + 1 := ⟨n - 1, by omega⟩
  rw [Nat.add_sub_cancel] at e1 e2
  have hVd := va_last vl k hv
  have hUd := va_last u (k + 1) hu
  have hUt := va_take u k (by omega)
  have hVl := va_take_lt vl k (by omega)
  have hUl := va_take_lt u k (by omega)
  rw [← e1] at hVd
  have hU : va u = va (u.take k) + 4294967296 ^ k * top := by
    rw [hUd, hUt, e2, Nat.pow_succ]; grind
  have hP : 0 < 4294967296 ^ k := Nat.pow_pos (by omega)
  have hb : va u / va vl ≤ top / v1 := by
    have h1 : 4294967296 ^ k * v1 ≤ va vl := by omega
    have h2 : va u / va vl ≤ va u / (4294967296 ^ k * v1) := Nat.div_le_div_left h1 (Nat.mul_pos hP hv1)
    rw [← Nat.div_div_eq_div_mul, hU, Nat.add_mul_div_left _ _ hP, Nat.div_eq_of_lt hUl, Nat.zero_add, ← hU] at h2
    exact h2
  rcases Nat.eq_zero_or_pos k with hk | hk
  · subst hk
    simp only [Nat.lt_irrefl, if_false, Nat.zero_add] at e3 e4
    subst e3 e4
    have hV' : va vl * 4294967296 = (v1 * 4294967296 + 0) * 1 + 0 := by rw [hVd]; simp [va]
    have hU' : va u * 4294967296 = (top * 4294967296 + 0) * 1 + 0 := by rw [hU]; simp [va]
    have hUV' : va u * 4294967296 < va vl * 4294967296 * 4294967296 := Nat.mul_lt_mul_of_pos_right hUV (by omega)
    have hdiv : va u * 4294967296 / (va vl * 4294967296) = va u / va vl := Nat.mul_div_mul_right _ _ (by omega)
    refine ⟨guess_top hV' (by omega) (by omega) hU' hUV', hb, fun q r h1 h2 h3 => ?_, fun q r h1 h2 h3 => ?_⟩
    · have := guess_down hV' hU' (by omega) hUV' q r h1 (by rw [hdiv]; exact h2) h3
      rwa [hdiv] at this
    · have := guess_end hV' (by omega) hU' hv1 (by omega) q r h1 h2 h3
      rw [← Nat.mul_assoc, ← Nat.add_mul] at this
      exact Nat.le_of_mul_le_mul_right this (by omega)
  · obtain ⟨j, rfl⟩ : ∃ j, k = j + 1 := ⟨k - 1, by omega⟩
    rw [if_pos (by omega), show j + 1 + 1 - 2 = j by omega] at e3 e4
    have hVt := va_take vl j (by omega)
    have hUt2 := va_take u j (by omega)
    rw [← e3] at hVt
    rw [← e4] at hUt2
    have hV' : va vl = (v1 * 4294967296 + v2) * 4294967296 ^ j + va (vl.take j) := by
      rw [hVd, hVt, Nat.pow_succ]; grind
    have hU' : va u = (top * 4294967296 + u2) * 4294967296 ^ j + va (u.take j) := by
      rw [hU, hUt2, Nat.pow_succ]; grind
    have a1 := va_take_lt vl j (by omega)
    have a2 := va_take_lt u j (by omega)
    have a3 : v2 < 4294967296 := by rw [e3]; exact toNat_lt32 _
    exact ⟨guess_top hV' a1 a3 hU' hUV, hb, fun q r h1 h2 h3 => guess_down hV' hU' a2 hUV q r h1 h2 h3, fun q r h1 h2 h3 => guess_end hV' a1 hU' hv1 a3 q r h1 h2 h3⟩
end
/-- A row in the midst of a longer one. -/
theorem mid_get (P u S : List W32) (i : Nat) (h : i < u.length) : (P ++ u ++ S).getD (P.length + i) 0 = u.getD i 0 := by
  simp [List.getD, List.getElem?_append, h, show ¬ P.length + i < P.length by omega]
theorem mid_set (P u S : List W32) (i : Nat) (x : W32) (h : i < u.length) : (P ++ u ++ S).set (P.length + i) x = P ++ u.set i x ++ S := by
  rw [List.append_assoc, List.set_append_right _ _ (by omega), Nat.add_sub_cancel_left, List.set_append_left _ _ h, List.append_assoc]
theorem mid_cell {w : World} {g : Nat} {P u S : List W32} {t : TypeId} (h : Blk w g (encW (P ++ u ++ S)) t) (i : Nat) (hi : i < u.length) : w.cell? ⟨g, P.length + i, none⟩ = some (.int .u32 ((u.getD i 0).toNat : Int)) := by
  rw [cell_get h _ (by simp; omega), mid_get _ _ _ _ hi]
theorem mid_store {w : World} {g : Nat} {P u S : List W32} {t : TypeId} (h : Blk w g (encW (P ++ u ++ S)) t) (i : Nat) (hi : i < u.length) (x : Nat) (hx : x < 4294967296) : Blk (w.setCell ⟨g, P.length + i, none⟩ (.int .u32 (x : Int))) g (encW (P ++ u.set i (BitVec.ofNat 32 x) ++ S)) t := by
  have := cell_set h (P.length + i) x hx
  rwa [mid_set _ _ _ _ _ hi] at this
theorem head_cell {w : World} {g : Nat} {v T : List W32} {t : TypeId} (h : Blk w g (encW (v ++ T)) t) (i : Nat) (hi : i < v.length) : w.cell? ⟨g, i, none⟩ = some (.int .u32 ((v.getD i 0).toNat : Int)) := by
  rw [cell_get h _ (by simp; omega)]
  simp [List.getD, List.getElem?_append, hi]
end Go.Proofs.YtdmfbcfhfopipaaGreatDoor

