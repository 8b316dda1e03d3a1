import Derived.Test.YtkhpcagoggglcaaGreatDoorVe13
import Derived.ProofKit
import Derived.OpenShut
import Derived.LaidMore
import Derived.Lay
import Derived.SevenTiedAt
import Derived.Stop.Joined
/- RrcacheVersions' row. -/
namespace Go.Proofs.YtkhpcagoggglcaaGreatDoor
open Go.ChangeShapes Go.WideShapes Go.ChangeAt Go.RowKit

theorem rrcacheVersions_holds : Rows.RrcacheVersionsSaid :=
  OpenClaim.holds_of_wide 4 Tryz.f4 rfl rfl rfl rfl rfl rfl rfl ⟨rfl, rfl, rfl, rfl, rfl⟩ rfl rfl rfl rfl rfl (by kernel_rfl) Tryz.func4 (by kernel_rfl)
    (of_decide_eq_true (by kernel_rfl)) (by unfold Func.isWrapper; first | (rw [if_pos (by decide +kernel)]; kernel_rfl) | (rw [if_neg (by decide +kernel)]; exact ⟨rfl, rfl⟩))
    (fun os started H enc _ => liftedRrcacheVersions os started H enc)
end Go.Proofs.YtkhpcagoggglcaaGreatDoor

/- RrcacheVersions: one version is one set: two Gets that tell one version, with whatever between, tell the same data. Proved for every two arguments: the row's tied card. -/
namespace Go.Proofs.YtkhpcagoggglcaaGreatDoor
open Go.ChangeShapes Go.WideShapes Go.ChangeAt Go.RowKit

theorem rrcacheVersions_card_holds : Rows.RrcacheVersionsCardSaid :=
  Claim7.holds_tied_plain_at .later [] [.data, .data, .data, .data, .sentinel, .sentinel, .pinned] true (true, "4bb2b308898b43065a3df03d9b85988efb173a7ff79488bee5bc2886f1a588ff") true rrcacheVersions_holds (fun _ h => by cases h) (by kernel_rfl) (fun _ h => by cases h) rrcacheVersions_row_tie rfl ⟨rfl, rfl⟩ (by kernel_rfl) rfl
    (fun f fn hf hfn => by
      obtain rfl : f = 4 := Option.some.inj ((show Tryz.prog.funcNamed "guidepost/guidepostlaw16.RrcacheVersions" = some 4 by kernel_rfl).symm.trans hf) |>.symm
      obtain rfl : fn = Tryz.f4 := (Option.some.inj (Tryz.func4.symm.trans hfn)).symm
      exact ⟨by kernel_rfl, fun j t ht => by
        rw [Tryz.params4] at ht
        have hm : t ∈ [3, 22] := by simpa using Array.mem_of_getElem? ht
        have hall : ([3, 22].all fun u => !Tryz.prog.wantsStandIn u) = true := by kernel_rfl
        exact (show Tryz.prog.wantsStandIn t = false by simpa using List.all_eq_true.1 hall t hm)⟩)
    (by kernel_rfl)
#print axioms rrcacheVersions_holds
#print axioms rrcacheVersions_card_holds
end Go.Proofs.YtkhpcagoggglcaaGreatDoor

