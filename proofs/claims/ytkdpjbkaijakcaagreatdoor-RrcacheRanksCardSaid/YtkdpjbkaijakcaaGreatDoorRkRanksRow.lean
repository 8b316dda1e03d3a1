import Derived.Test.YtkdpjbkaijakcaaGreatDoorRk13
import Derived.ProofKit
import Derived.OpenShut
import Derived.LaidMore
import Derived.Lay
import Derived.SevenTiedAt
import Derived.Stop.Joined
/- RrcacheRanks' row. -/
namespace Go.Proofs.YtkdpjbkaijakcaaGreatDoor
open Go.ChangeShapes Go.WideShapes Go.ChangeAt Go.RowKit

theorem rrcacheRanks_holds : Rows.RrcacheRanksSaid :=
  OpenClaim.holds_of_wide 3 Tryz.f3 rfl rfl rfl rfl rfl rfl rfl ⟨rfl, rfl, rfl, rfl, rfl⟩ rfl rfl rfl rfl rfl (by kernel_rfl) Tryz.func3 (by kernel_rfl)
    (of_decide_eq_true (by kernel_rfl)) (by unfold Func.isWrapper; first | (rw [if_pos (by decide +kernel)]; kernel_rfl) | (rw [if_neg (by decide +kernel)]; exact ⟨rfl, rfl⟩))
    (fun os started H enc _ => liftedRrcacheRanks os started H enc)
end Go.Proofs.YtkdpjbkaijakcaaGreatDoor

/- RrcacheRanks: a set that is not over stays as it is, whatever is put in its place with a lesser rank; one of its rank or a greater one takes its place. Proved for every six arguments: the row's tied card. -/
namespace Go.Proofs.YtkdpjbkaijakcaaGreatDoor
open Go.ChangeShapes Go.WideShapes Go.ChangeAt Go.RowKit

theorem rrcacheRanks_card_holds : Rows.RrcacheRanksCardSaid :=
  Claim7.holds_tied_plain_at .later [] [.data, .data, .data, .data, .sentinel, .sentinel, .pinned] true (true, "667af2d4a63b82fcd6b3c042d26651af6304c6ca156712f0d6599fec3e360f46") true rrcacheRanks_holds (fun _ h => by cases h) (by kernel_rfl) (fun _ h => by cases h) rrcacheRanks_row_tie rfl ⟨rfl, rfl⟩ (by kernel_rfl) rfl
    (fun f fn hf hfn => by
      obtain rfl : f = 3 := Option.some.inj ((show Tryz.prog.funcNamed "guidepost/guidepostlaw16.RrcacheRanks" = some 3 by kernel_rfl).symm.trans hf) |>.symm
      obtain rfl : fn = Tryz.f3 := (Option.some.inj (Tryz.func3.symm.trans hfn)).symm
      exact ⟨by kernel_rfl, fun j t ht => by
        rw [Tryz.params3] at ht
        have hm : t ∈ [24, 24, 3, 3, 3, 3] := by simpa using Array.mem_of_getElem? ht
        have hall : ([24, 24, 3, 3, 3, 3].all fun u => !Tryz.prog.wantsStandIn u) = true := by kernel_rfl
        exact (show Tryz.prog.wantsStandIn t = false by simpa using List.all_eq_true.1 hall t hm)⟩)
    (by kernel_rfl)
#print axioms rrcacheRanks_holds
#print axioms rrcacheRanks_card_holds
end Go.Proofs.YtkdpjbkaijakcaaGreatDoor

