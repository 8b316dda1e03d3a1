/- The document's own digest's bytes (its chapter 4): tell, padded. -/
import Derived.Test.YtdmfbcfhfopipaaGreatDoorRefWord
import Derived.Test.YtdmfbcfhfopipaaGreatDoorHeads
namespace Go.Proofs.YtdmfbcfhfopipaaGreatDoor
open Go.RowKit

set_option maxRecDepth 100000 in
set_option maxHeartbeats 400000 in
theorem ref_tell (l : List W32) (g c : Nat) (t : TypeId) (w : World) (hl : l.length ≤ 1000) (hb : Blk w g (encW l) t) : Calls Tryz.prog 68 #[.slice (some ⟨g, 0, none⟩) l.length c] w fun e w' => e = .returned (.string (bs (tellW l))) ∧ Below w.heap.size w w' := by
  have HC := Lib.hid (fun W (h : Below w.heap.size w W) i (hi : i < l.length) => show W.cell? ⟨g, i, none⟩ = some (.int .u32 (wd (l.getD i 0))) from by rw [(hb.below h hb.lt).cell i, encW_get l i hi])
  clear hb
  have hmix : Tryz.prog.follows .mixedOrders = true := by kernel_rfl
  go_enter Tryz.func68, Tryz.ntmps68
  go_wp2
  go_loopw [3, 4] (fun v i wr => ∃ k : Nat, k ≤ l.length ∧ i = .int .i64 k ∧ Hid (OwnB w.heap.size v (tellW (l.take k)) wr) ∧ Hid (Below w.heap.size w wr ∧ w.heap.size ≤ wr.heap.size)) (fun _ i _ => l.length - (intOf i).toNat)
  case atStart => exact ⟨0, Nat.zero_le _, rfl, Lib.hid (OwnB.nil _ _), Lib.hid ⟨Below.refl _ _, Nat.le_refl _⟩⟩
  case round =>
    obtain ⟨k, hk, rfl, hO, hB⟩ := hrel
    by_cases hlt : k < l.length
    · have hcell := HC.out wr hB.out.1 k hlt
      generalize hx : l.getD k 0 = x at hcell
      have Hx := Lib.hid hx; clear hx
      have s1 : wd x / (16777216 : Int) = wd (x >>> (24 : Nat)) := wd_shr x 24
      have s2 : wd x / (65536 : Int) = wd (x >>> (16 : Nat)) := wd_shr x 16
      have s3 : wd x / (256 : Int) = wd (x >>> (8 : Nat)) := wd_shr x 8
      have s4 := by8_int
      have hlk := (tellW_len (l.take k)).trans (by rw [List.length_take, Nat.min_eq_left hk])
      have HL := Lib.hid hlk; clear hlk
      have info := info_u8b
      go_wp2_with fail
      refine wp_one_then 24 u3 hmix rfl (by kernel_rfl) (fun _ _ _ h => h) (.inl ⟨rfl, fun _ => rfl⟩) ?_
      simp only [List.take_succ_cons, List.take_zero, List.drop_succ_cons, List.drop_zero]
      repeat still_step
      refine wpStill_nil ?_
      change wpList _ _ _ _ _ wr.drew
      have hO1 : Hid (OwnB w.heap.size u3 (tellW (l.take k)) wr.drew) := hO
      have hB1 : Hid (Below w.heap.size w wr.drew ∧ w.heap.size ≤ wr.drew.heap.size) := Lib.hid ⟨⟨hB.out.1.os, hB.out.1.tape, hB.out.1.output, hB.out.1.size, hB.out.1.block⟩, hB.out.2⟩
      generalize wr.drew = W1 at hO1 hB1
      clear hcell hO hB
      go_wp2_with (at_builtin; go_loud (refine ownB_append hO1.out hB1.out.1 hB1.out.2 (four x) (by have := HL.out; simp only [four, List.length_cons, List.length_nil]; omega) rfl _ _ rfl _ 4 4 rfl rfl rfl rfl ?_))
      intro v1 w1 h1 h2 h3
      have ht : tellW (l.take (k + 1)) = tellW (l.take k) ++ four x := by rw [tellW_take l k hlt, Hx.out]
      rw [← ht] at h1
      have H1 := Lib.hid h1; have H2 := Lib.hid (And.intro h2 h3)
      clear h1 h2 h3 ht hO1 hB1
      go_wp2
      go_roundw
      case rel => exact ⟨k + 1, by omega, by go_num, H1, H2⟩
      case measure => simp [intOf]; omega
    · obtain rfl : k = l.length := by omega
      rw [List.take_length] at hO
      have hcv := hO.out.string
      have HV := Lib.hid hB.out.1
      go_wp2
      go_ret
      exact ⟨rfl, HV.out⟩
end Go.Proofs.YtdmfbcfhfopipaaGreatDoor
