/- (number.Nat).Bytes. -/
import Derived.Test.YtdmfbcfhfopipaaGreatDoorNatWide
import Derived.Test.YtdmfbcfhfopipaaGreatDoorDigest
namespace Go.Proofs.YtdmfbcfhfopipaaGreatDoor
open Go.RowKit Go.BigFrame

set_option maxRecDepth 100000 in
set_option maxHeartbeats 400000 in
theorem nat_bytes (v : Value) (l : List W32) (w : World) (lo : Nat) (hv : NatV lo w v l) (hl : l.length ≤ 100000) :
    Calls Tryz.prog 42 #[v] w fun e w' => e = .returned (.string (bytesL l)) ∧ Below w.heap.size w w' := by
  have hbi := fun W (hb : Below w.heap.size w W) => nat_bits v l W lo (hv.below hb) (by omega)
  obtain ⟨B, hB, hBl⟩ := bitsL_nat l
  have hby : bytesL l = wideS l ((B + 7) / 8) := by rw [bytesL, hB]; congr 1
  have hwi := fun W (hb : Below w.heap.size w W) => nat_wide v l ((B + 7) / 8) W lo (hv.below hb) hl (by omega) (by rw [hB]; omega)
  rw [hB] at hbi
  rw [hby]
  obtain ⟨m, hm⟩ : ∃ m, m = (B + 7) / 8 := ⟨_, rfl⟩
  rw [← hm] at hwi ⊢
  obtain ⟨A, c, rfl, _, _, _⟩ := hv
  have hw7 : IntKind.i64.wrap ((B : Int) + 7) = (B : Int) + 7 := IntWalk.i64_in _ (by omega)
  have hq8 : IntKind.i64.wrap (((B : Int) + 7).tdiv 8) = (m : Int) := by
    rw [Int.tdiv_eq_ediv_of_nonneg (by omega), IntWalk.i64_in _ (by omega)]; omega
  have hb0 : Below w.heap.size w (w.alloc (.cells #[.slice A l.length c] 45)) := (Below.refl _ w).alloc (Nat.le_refl _) _
  have hx0 : Blk (w.alloc (.cells #[.slice A l.length c] 45)) w.heap.size #[.slice A l.length c] 45 := Blk.new w _ _
  have HBI := Lib.hid hbi; have HWI := Lib.hid hwi; have HB0 := Lib.hid hb0; have HX0 := Lib.hid hx0
  have hmix : Tryz.prog.follows .mixedOrders = true := by kernel_rfl
  clear hbi hwi hby hB hBl hm hb0 hx0
  go_enter Tryz.func42, Tryz.ntmps42
  go_wp2_with fail
  refine wp_region_quiet (C := fun W => Below w.heap.size w W ∧ Blk W w.heap.size #[.slice A l.length c] 45) hmix (by kernel_rfl) ⟨HB0.out.drew, HX0.out⟩ ?_
  refine BigFrame.wpQuiet_want rfl fun K hK => Go.Proofs.YtdmfbcfhfopipaaGreatDoor.quiet_run (.agg #[.slice A l.length c]) (fun W hW => ?run) (hK _ ?_)
  case run =>
    have hc : W.cell? ⟨w.heap.size, 0, none⟩ = some (.slice A l.length c) := hW.2.cell 0
    simp [go_sem, Act.eval, hc]
  clear hK K
  refine BigFrame.wpQuiet_want rfl fun K hK => Go.Proofs.YtdmfbcfhfopipaaGreatDoor.quiet_run (.agg #[.slice A l.length c]) (fun W hW => ?run) (hK _ ?_)
  case run =>
    have hc : W.cell? ⟨w.heap.size, 0, none⟩ = some (.slice A l.length c) := hW.2.cell 0
    simp [go_sem, Act.eval, hc]
  clear hK K
  refine BigFrame.wpQuiet_want rfl fun K hK => quiet_call 40 #[.agg #[.slice A l.length c]] (.int .i64 B) (fun W hW => ?run) (fun W hW => (HBI.out W hW.1).mono fun e w' h => ⟨h.1, hW.1.trans (h.2.mono hW.1.size), hW.2.below h.2 hW.2.lt⟩) (hK _ ?_)
  case run => simp [go_sem, Act.put, Act.eval]
  clear hK K
  refine BigFrame.wpQuiet_want rfl fun K hK => Go.Proofs.YtdmfbcfhfopipaaGreatDoor.quiet_run (.int .i64 ((B : Int) + 7)) (fun W hW => ?run) (hK _ ?_)
  case run => first | (simp [go_sem, Act.put, Act.eval, hw7]; done) | (simp [go_sem, Act.put, Act.eval, hw7]; rfl)
  clear hK K
  refine BigFrame.wpQuiet_want rfl fun K hK => Go.Proofs.YtdmfbcfhfopipaaGreatDoor.quiet_run (.int .i64 (m : Int)) (fun W hW => ?run) (hK _ ?_)
  case run => first | (simp [go_sem, Act.put, Act.eval, hq8]; done) | (simp [go_sem, Act.put, Act.eval, hq8]; rfl)
  clear hK K
  refine BigFrame.wpQuiet_want rfl fun K hK => quiet_call 28 #[.agg #[.slice A l.length c], .int .i64 m] (.tuple #[.string (wideS l m), .int .i64 0]) (fun W hW => ?run) (fun W hW => (HWI.out W hW.1).mono fun e w' h => ⟨h.1, hW.1.trans (h.2.mono hW.1.size), hW.2.below h.2 hW.2.lt⟩) (hK _ ?_)
  case run => simp [go_sem, Act.put, Act.eval]
  clear hK K
  refine BigFrame.wpQuiet_want rfl fun K hK => BigFrame.quiet_move _ rfl (hK _ ?_)
  clear hK K
  refine BigFrame.wpQuiet_want rfl fun K hK => Go.Proofs.YtdmfbcfhfopipaaGreatDoor.quiet_run (.string (wideS l m)) (fun W hW => ?run) (hK _ ?_)
  case run => first | (simp [go_sem, Act.put, Act.eval]; done) | (simp [go_sem, Act.put, Act.eval]; rfl)
  clear hK K
  refine BigFrame.wpQuiet_want rfl fun K hK => Go.Proofs.YtdmfbcfhfopipaaGreatDoor.quiet_run (.int .i64 0) (fun W hW => ?run) (hK _ ?_)
  case run => first | (simp [go_sem, Act.put, Act.eval]; done) | (simp [go_sem, Act.put, Act.eval]; rfl)
  clear hK K
  refine BigFrame.wpQuiet_want rfl fun K hK => BigFrame.quiet_assign _ rfl (hK _ ?_)
  clear hK K
  refine BigFrame.wpQuiet_want rfl fun K hK => BigFrame.quiet_assign _ rfl (hK _ ?_)
  clear hK K
  refine wpQuiet_nil ?_
  intro W hW
  have HW := Lib.hid hW.1
  clear hW
  go_wp2_with fail
  go_ret
  exact ⟨rfl, HW.out⟩
end Go.Proofs.YtdmfbcfhfopipaaGreatDoor
