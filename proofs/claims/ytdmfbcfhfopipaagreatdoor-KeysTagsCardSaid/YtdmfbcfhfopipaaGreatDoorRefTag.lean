/- A key's tag as the document's chapter 6 reckons it: it is the program's. -/
import Derived.Test.YtdmfbcfhfopipaaGreatDoorRefKey
namespace Go.Proofs.YtdmfbcfhfopipaaGreatDoor
open Go.RowKit

set_option maxRecDepth 100000 in
theorem ref_tag (d : ByteArray) (w : World) : Calls Tryz.prog 11 #[.string d] w fun e w' => e = .returned (.tuple #[.int .i64 (if keyRight d then tagOf d else 0), .bool (keyRight d)]) ∧ Below w.heap.size w w' := by
  have hk := fun w => ref_key d w
  obtain ⟨f, p, a, q, hv⟩ : ∃ f p a q, (if keyRight d then keyOf d else KeyD.none).v = .agg #[.int .i64 f, .int .i64 p, .int .i64 a, .string q] := ⟨_, _, _, _, rfl⟩
  rw [hv] at hk
  cases hr : keyRight d
  · rw [hr] at hk
    have HK := Lib.hid hk
    clear hk hv hr
    go_enter Tryz.func11, Tryz.ntmps11
    go_wp2_with (go_at_call 30; refine (HK.out _).mono ?_; rintro e w1 ⟨rfl, hb⟩)
    go_ret2
    exact ⟨rfl, hb.alloc hb.size _⟩
  · rw [hr] at hk
    have hd : d.size ≤ 2000 := by simp [keyRight] at hr; omega
    have HK := Lib.hid hk
    clear hk hv hr
    simp only [if_true]
    go_enter Tryz.func11, Tryz.ntmps11
    go_wp2_with (go_at_call 30; refine (HK.out _).mono ?_; rintro e w1 ⟨rfl, hb⟩)
    go_loop [6, 7] (fun v i => ∃ (k : Nat) (a : Int), k ≤ d.size ∧ i = .int .i64 k ∧ v = .int .i64 a ∧ 0 ≤ a ∧ Hid (a + tagSum (d.data.toList.drop k) k = tagSum d.data.toList 0)) (fun _ i => d.size - (intOf i).toNat)
    case atStart => exact ⟨0, 0, Nat.zero_le _, rfl, rfl, by omega, by simp [Hid]⟩
    case round =>
      obtain ⟨k, a, hk, rfl, rfl, ha, hs⟩ := hrel
      have hbd := tagSum_bd d.data.toList 0
      have hbd2 := tagSum_bd (d.data.toList.drop k) k
      have hlen : d.data.toList.length = d.size := by simp
      have hau : a ≤ 130560000 := by have := hs.out; omega
      by_cases hlt : k < d.size
      · have hbyte := (d.data.toList.getD k 0).toNat_lt
        have htd := tagSum_drop d.data.toList k (by omega)
        have hge : d.data.toList.getD k 0 = d[k] := by simp [List.getD, List.getElem?_eq_getElem (show k < d.data.toList.length by simpa using hlt)]; rfl
        rw [hge] at hbyte htd
        have HT := Lib.hid htd
        have hs2 := Lib.hid hs.out
        clear hbd hbd2 hlen htd hs hge
        by_cases h2 : k % 2 = 0
        · have hm : ((k : Int) % 2 == 0) = true := by simp; omega
          go_wp2
          go_round
          case rel =>
            have e1 := HT.out; have e2 := hs2.out
            rw [if_pos h2] at e1
            refine ⟨k + 1, a + 256 * ((d[k]).toNat : Int), by omega, by go_num, ?_, by omega, by unfold Hid; omega⟩
            first | rfl | (congr 1; unfold wrap64; omega)
          case measure => simp [intOf]; omega
        · have hm : ((k : Int) % 2 == 0) = false := by simp; omega
          go_wp2
          go_round
          case rel =>
            have e1 := HT.out; have e2 := hs2.out
            rw [if_neg h2] at e1
            refine ⟨k + 1, a + ((d[k]).toNat : Int), by omega, by go_num, ?_, by omega, by unfold Hid; omega⟩
            first | rfl | (congr 1; unfold wrap64; omega)
          case measure => simp [intOf]; omega
      · obtain rfl : k = d.size := by omega
        have e := hs.out
        rw [List.drop_of_length_le (by omega)] at e
        simp only [tagSum, Int.add_zero] at e
        have ht : (a + a / 65536) % 65536 = tagOf d := by rw [tagOf, ← e]
        have HE := Lib.hid ht
        clear e hs hbd hbd2 hlen ht
        go_wp2
        go_ret2
        refine ⟨?_, hb.alloc hb.size _⟩
        rw [← HE.out]
        rfl
end Go.Proofs.YtdmfbcfhfopipaaGreatDoor
