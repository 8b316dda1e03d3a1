import Derived.Test.YtdflhnbpcnmpfaaGreatDoorSo9
import Derived.ChangeSlices
import Derived.Deep.Strs
import Derived.Lib.SmallJoins
import Derived.ProofKit
import Derived.OpenShut
import Derived.Test.YtdflhnbpcnmpfaaGreatDoorRows
import Derived.Test.YtdflhnbpcnmpfaaGreatDoorTie
import Derived.Test.YtdflhnbpcnmpfaaGreatDoorCards
import Derived.Test.YtdflhnbpcnmpfaaGreatDoorSo14
import Derived.Deep.SlicePairs
import Derived.Carry
import Derived.LaidMore
import Derived.Lay
import Derived.SevenTiedAt
import Derived.Stop.Joined
/- Arguments, opened: rows of texts, rows of numbers, a set. -/
namespace Go.Proofs.YtdflhnbpcnmpfaaGreatDoor
open Go.RowKit Go.ChangeShapes Go.WideShapes Go.ChangeAt

theorem addr_of_cell {W : World} {a : Addr} {v : Value} (h : W.cell? (a.add 0) = some v) : a = ⟨a.block, a.off, none⟩ ∧ a.block < W.heap.size := by
  obtain ⟨b, o, s⟩ := a
  cases s with
  | none =>
    rw [Addr.add_mid] at h
    refine ⟨rfl, ?_⟩
    obtain ⟨cs, ty, fr, hq⟩ : ∃ cs ty fr, W.heap[b]? = some (.cells cs ty fr) := by
      unfold World.cell? at h
      split at h
      · rename_i c x y hq; exact ⟨c, x, y, hq⟩
      · cases h
    exact (Array.getElem?_eq_some_iff.1 hq).1
  | some t =>
    exfalso
    have e : (⟨b, o, some t⟩ : Addr).add 0 = ⟨b, o, some t⟩ := rfl
    rw [e] at h
    unfold World.cell? at h
    split at h
    · simp at h
    · cases h
theorem cell_of_add {W : World} {a : Addr} {v : Value} (ha : a = ⟨a.block, a.off, none⟩) (j : Nat) (h : W.cell? (a.add j) = some v) : W.cell? ⟨a.block, a.off + j, none⟩ = some v := by
  rw [ha, Addr.add_mid] at h
  exact h
section
variable {H : Type} {enc : TypeId × Value → H} {w : World} {base : Nat} {spare : Nat → Bool} {held : Bool}
theorem open_strsV {fuel : Nat} {v : Value} {y : DataW H × List MemPlace} (h : DataW.trod enc Tryz.prog w base spare held fuel 24 [v] = some y) : ∃ l : List ByteArray, StrsAt v l w ∧ l.length ≤ maxLen ∧ ∀ x ∈ l, x.size ≤ maxLen := by
  rcases Go.Deep.open_strs Tryz.underlying24 Tryz.underlying9 (by kernel_rfl) h with ⟨h1, _⟩ | ⟨a, len, cap, m, Sx, h1, _, hl, hm, hmm, _, hc⟩
  · obtain rfl : v = .slice none 0 0 := by simpa using h1
    exact ⟨[], ⟨none, 0, rfl, fun h => absurd h (by simp)⟩, by simp, by simp⟩
  · obtain rfl : v = .slice (some a) len cap := by simpa using h1
    have hlm : len ≤ m := by rw [hmm]; split <;> omega
    refine ⟨(List.range len).map Sx, ⟨some a, cap, by simp, fun h0 => ?_⟩, by simp; omega, ?_⟩
    · have h0' : 0 < len := by simpa using h0
      obtain ⟨e, hb⟩ := addr_of_cell (hc 0 (by omega)).1
      refine ⟨a.block, a.off, by rw [← e], hb, fun j hj => ?_⟩
      have hj' : j < len := by simpa using hj
      rw [cell_of_add e j (hc j (by omega)).1]
      simp
    · intro x hx
      obtain ⟨i, hi, rfl⟩ := List.mem_map.1 hx
      exact (hc i (by have := List.mem_range.1 hi; omega)).2
theorem open_intsV {fuel : Nat} {v : Value} {y : DataW H × List MemPlace} (h : DataW.trod enc Tryz.prog w base spare held fuel 32 [v] = some y) : ∃ l : List Int, IntsAt v l w ∧ ∀ x ∈ l, (Lit.int .i64 x).wf = true := by
  rcases open_ints Tryz.underlying32 Tryz.underlying3 (by kernel_rfl) h with ⟨h1, _⟩ | ⟨a, len, cap, zs, h1, _, hl, hm, hz, _, hc, hw⟩
  · obtain rfl : v = .slice none 0 0 := by simpa using h1
    exact ⟨[], IntsAt.nil w, by simp⟩
  · obtain rfl : v = .slice (some a) len cap := by simpa using h1
    have hlm : len ≤ zs.length := by rw [hz]; split <;> omega
    refine ⟨zs.take len, ⟨some a, cap, by simp; omega, by simp only [maxLen] at hm; simp; omega, fun h0 => ?_⟩, fun x hx => hw x (List.mem_of_mem_take hx)⟩
    have h0' : 0 < len := by simp at h0; omega
    obtain ⟨e, hb⟩ := addr_of_cell (hc 0 (by omega))
    refine ⟨a.block, a.off, by rw [← e], hb, fun j hj => ?_⟩
    have hj' : j < len := by simp at hj; omega
    rw [cell_of_add e j (hc j (by omega))]
    simp [List.getD, List.getElem?_eq_getElem (show j < zs.length by omega)]
end
end Go.Proofs.YtdflhnbpcnmpfaaGreatDoor

/- DenialSound: where a zone has NSECs for all of its names, no name of it is proved away, nor a type that a name has; every other name is proved away, unless a wildcard is there, and each type that a name has not, unless it is a CNAME's. Proved for every three arguments: the row and its tied card. -/
namespace Go.Proofs.YtdflhnbpcnmpfaaGreatDoor
open Go.ChangeShapes Go.WideShapes Go.ChangeAt Go.RowKit

theorem laidOutB_here : laidOutB Tryz.prog = true := by kernel_rfl
section
variable {H : Type} {enc : TypeId × Value → H} {w : World} {base : Nat} {spare : Nat → Bool} {held : Bool}
theorem open_ones {fuel : Nat} {v : Value} {y : DataW H × List MemPlace} (h : DataW.trod enc Tryz.prog w base spare held fuel 22 [v] = some y) : ∃ l : List (ByteArray × List Int), OnesAt v l w := by
  rcases Go.Deep.open_slice_pairs Tryz.underlying22 Tryz.underlying46 (by kernel_rfl) rfl rfl (by kernel_rfl) (by kernel_rfl) h with ⟨h1, _⟩ | ⟨a, len, cap, m, n, V0, V1, D0, D1, P0, P1, h1, _, hl, hm, hmm, _, hc⟩
  · obtain rfl : v = .slice none 0 0 := by simpa using h1
    exact ⟨[], none, 0, rfl, by simp, fun h => absurd h (by simp)⟩
  · obtain rfl : v = .slice (some a) len cap := by simpa using h1
    have hlm : len ≤ m := by rw [hmm]; split <;> omega
    have each : ∀ i, i < len → ∃ q : ByteArray × List Int, w.cell? (a.add (i * 2)) = some (.string q.1) ∧ w.cell? (a.add (i * 2 + 1)) = some (V1 i) ∧ IntsAt (V1 i) q.2 w := by
      intro i hi
      obtain ⟨c0, c1, t0, t1⟩ := hc i (by omega)
      obtain ⟨s, hs, _⟩ := DataW.trod_string Tryz.underlying9 t0
      obtain ⟨zs, hz, _⟩ := open_intsV t1
      simp only [List.cons.injEq, and_true] at hs
      exact ⟨(s, zs), by rw [c0, hs], c1, hz⟩
    obtain ⟨q, hq⟩ := Go.Deep.choose_lt each
    refine ⟨(List.range len).map q, some a, cap, by simp, by simp only [maxLen] at hm; simp; omega, fun h0 => ?_⟩
    have h0' : 0 < len := by simpa using h0
    obtain ⟨e, hb⟩ := addr_of_cell (show w.cell? (a.add 0) = some (.string (q 0).1) by simpa using (hq 0 h0').1)
    refine ⟨a.block, a.off, by rw [← e], hb, fun j hj => ?_⟩
    have hj' : j < len := by simpa using hj
    obtain ⟨k0, k1, k2⟩ := hq j hj'
    refine ⟨V1 j, ?_, ?_, ?_⟩
    · rw [cell_of_add e _ k0]; simp
    · rw [Nat.add_assoc, cell_of_add e _ k1]
    · simpa using k2
end

theorem ownDenialSound : ownKnob Tryz.prog.godebug = none := by kernel_rfl
set_option maxRecDepth 100000 in
theorem liftedDenialSound (os : Os) (started : os.Started) (H : Type) (enc : TypeId × Value → H) :
    ReturnsInHanded {} Tryz.checked os 3 .any (fun w args => (Rows.denialSoundSpec.pre enc Tryz.prog Tryz.f3 [] false w args ∧ laidMetH Tryz.prog Rows.denialSoundRow.laid w) ∧ sizedMet enc Tryz.prog Tryz.f3 (OpenSpec.ofChange Rows.denialSoundSpec) false w args)
      (Rows.denialSoundSpec.post enc Tryz.prog Tryz.f3 false true false false) := by
  refine returnsInHanded_of_change_and (C := Tryz.checked) (X := fun w _ => laidMetH Tryz.prog Rows.denialSoundRow.laid w) (fun _ _ _ hh h => h.of_heap hh) ownDenialSound started (by kernel_rfl) Tryz.func3
    (ChangeSpec.witness_shaped (enc := enc) (C := Tryz.checked) (os := os) (X := fun w _ => laidMetH Tryz.prog Rows.denialSoundRow.laid w) false (World.laidAll Tryz.prog os Rows.denialSoundRow.laid) #[.slice none 0 0, .string ⟨#[]⟩, .int .i64 0] 8 (World.laidAll_os _ _ _)
      (World.shaped_of_ZipB (by kernel_rfl) (by kernel_rfl)) (by kernel_rfl) (by kernel_rfl) (by kernel_rfl)
      (by rw [MakeChecks.laidMetH_plain _ _ _ (by kernel_rfl)]; exact laidMet_laidAll _ (by kernel_rfl) (by kernel_rfl))) ?_
  intro W base args ds gs before hval0 hW _ _ _ _
  have hval : ∀ (j : Nat) t v, Tryz.f3.params[j]? = some t → args[j]? = some v → Value.okWide Tryz.prog W .any base t v := hval0
  have hW' := hW
  obtain ⟨p, q, hA0, hV, rfl, _, _⟩ := hW
  have hA : DataW.TrodAll enc Tryz.prog W 0 (fun _ => true) true Tryz.f3.params.toList args.toList ds p := hA0
  rw [Tryz.params3] at hA hval
  obtain ⟨args⟩ := args
  obtain ⟨v0, r0, d0, ds0, p0, q0, ha0, hd0, hp0, h0, hA⟩ := trodAll_cons hA
  obtain ⟨v1, r1, d1, ds1, p1, q1, ha1, hd1, hp1, h1, hA⟩ := trodAll_cons hA
  obtain ⟨v2, r2, d2, ds2, p2, q2, ha2, hd2, hp2, h2, hA⟩ := trodAll_cons hA
  obtain ⟨rfl, rfl, rfl⟩ := trodAll_nil hA
  obtain ⟨rfl, rfl⟩ := trodVars_none hV
  simp only [] at ha0
  subst ha2 ha1 ha0 hd2 hd1 hd0 hp2 hp1 hp0
  obtain ⟨a0, len0, cap0, rfl⟩ := okWide_slice Tryz.underlying22 (hval 0 22 v0 rfl rfl)
  obtain ⟨fuel0, hf0⟩ := id h0
  obtain ⟨s0, hs0⟩ := open_ones hf0
  obtain ⟨s1, rfl, rfl, rfl, ws1⟩ := Go.ChangeMaps.open_string Tryz.underlying9 (hval 1 9 v1 rfl rfl) h1
  obtain ⟨s2, rfl, rfl, rfl, ws2⟩ := open_int Tryz.underlying3 (hval 2 3 v2 rfl rfl) h2
  simp only [List.append_nil] at hW'
  have hlt : ∀ x ∈ p0, x.block < W.heap.size := fun x hx => by simpa using hW'.lt x (by simp [hx])
  refine (sound_any s0 (.slice a0 len0 cap0) s1 s2 W hs0).mono fun e W' ⟨he, hB⟩ => ?_
  subst he
  have hq := trodAll_mk3 (Below.trod laidOutB_here (by kernel_rfl) (of_decide_eq_true (by kernel_rfl)) h0 hB hlt) (Go.ChangeMaps.shut_string Tryz.underlying9 ws1) (shut_int Tryz.underlying3 ws2)
  simp only [List.append_nil] at hq
  refine ⟨_, rfl, _, _, _, [], p0, [], hW', trodAll_mk1 (shut_bool Tryz.underlying4 _), hq, rfl, hB.frame _, fun h => by cases h⟩

theorem denialSound_holds : Rows.DenialSoundSaid :=
  OpenClaim.holds_of_wide 3 Tryz.f3 rfl rfl rfl rfl rfl rfl rfl ⟨rfl, rfl, rfl, rfl, rfl⟩ rfl rfl rfl rfl rfl (by kernel_rfl) Tryz.func3 (by kernel_rfl)
    (of_decide_eq_true (by kernel_rfl)) (by unfold Func.isWrapper; first | (rw [if_pos (by decide +kernel)]; kernel_rfl) | (rw [if_neg (by decide +kernel)]; exact ⟨rfl, rfl⟩))
    (fun os started H enc _ => liftedDenialSound os started H enc)
theorem denialSound_card_holds : Rows.DenialSoundCardSaid :=
  Claim7.holds_tied_plain_at .later [] [.data, .data, .data, .data, .sentinel, .sentinel, .pinned] true (true, "79d59589ed01f29b8abaec1a547ce812ba555b9e4099b93713fc2d78f2561320") true denialSound_holds (fun _ h => by cases h) (by kernel_rfl) (fun _ h => by cases h) denialSound_row_tie rfl ⟨rfl, rfl⟩ (by kernel_rfl) rfl
    (fun f fn hf hfn => by
      obtain rfl : f = 3 := Option.some.inj ((show Tryz.prog.funcNamed "guidepost/guidepostlaw09.DenialSound" = some 3 by kernel_rfl).symm.trans hf) |>.symm
      obtain rfl : fn = Tryz.f3 := (Option.some.inj (Tryz.func3.symm.trans hfn)).symm
      exact ⟨by kernel_rfl, fun j t ht => by
        rw [Tryz.params3] at ht
        have hm : t ∈ [22, 9, 3] := by simpa using Array.mem_of_getElem? ht
        have hall : ([22, 9, 3].all fun u => !Tryz.prog.wantsStandIn u) = true := by kernel_rfl
        exact (show Tryz.prog.wantsStandIn t = false by simpa using List.all_eq_true.1 hall t hm)⟩)
    (by kernel_rfl)
#print axioms denialSound_holds
#print axioms denialSound_card_holds
end Go.Proofs.YtdflhnbpcnmpfaaGreatDoor

