import Derived.Test.YtdflhnbpcnmpfaaGreatDoorSo12
import Derived.Test.YtdflhnbpcnmpfaaGreatDoorSo13
/- guidepostlaw09.DenialSound, walked. -/
namespace Go.Proofs.YtdflhnbpcnmpfaaGreatDoor
open Go.RowKit

theorem OnesAt.below {v : Value} {l : List (ByteArray × List Int)} {w w' : World} (h : OnesAt v l w) (hb : Below w.heap.size w w') : OnesAt v l w' := by
  obtain ⟨A, c, rfl, h1, h2⟩ := h
  refine ⟨A, c, rfl, h1, fun h0 => ?_⟩
  obtain ⟨g, f, e, hg, hr⟩ := h2 h0
  refine ⟨g, f, e, Nat.lt_of_lt_of_le hg hb.size, fun j hj => ?_⟩
  obtain ⟨tv, a1, a2, a3⟩ := hr j hj
  exact ⟨tv, by rw [hb.cell (p := ⟨g, f + j * 2, none⟩) hg]; exact a1, by rw [hb.cell (p := ⟨g, f + j * 2 + 1, none⟩) hg]; exact a2, a3.below hb⟩
theorem ChR.open {z : List (ByteArray × List Nat)} {nv tv : Value} {w : World} (h : ChR z nv tv w) (hz : Zone z) : ∃ gn fn cn gt ft ct, nv = .slice (some ⟨gn, fn, none⟩) z.length cn ∧ tv = .slice (some ⟨gt, ft, none⟩) z.length ct ∧
    (∀ W, Below w.heap.size w W → ∀ i, i < z.length → W.cell? ⟨gn, fn + i, none⟩ = some (.string (nm z i))) ∧
    ∀ W, Below w.heap.size w W → ∀ i, i < z.length → ∃ A c, W.cell? ⟨gt, ft + i, none⟩ = some (.slice A (ty z i).length c) ∧ IntsAt (.slice A (ty z i).length c) (nI (ty z i)) W := by
  obtain ⟨hs, _, _, ps, hps, hv, hpi⟩ := h
  obtain ⟨An, cn, rfl, hsn⟩ := hs
  obtain ⟨At, ct, rfl, hvn⟩ := hv
  have hpl : ps.length = z.length := by have := congrArg List.length hps; simpa using this
  obtain ⟨gn, fn, rfl, hgn, hcn⟩ := hsn (by simpa using hz.pos)
  obtain ⟨gt, ft, rfl, hgt, hct⟩ := hvn (by simpa [hpl] using hz.pos)
  refine ⟨gn, fn, cn, gt, ft, ct, by rw [List.length_map], by rw [List.length_map, hpl], fun W hW i hi => ?_, fun W hW i hi => ?_⟩
  · rw [hW.cell (p := ⟨gn, fn + i, none⟩) hgn, hcn i (by simpa using hi), nm, List.getD, List.getElem?_eq_getElem hi]; simp
  · have hi2 : i < ps.length := by omega
    have e := hpi ps[i] (List.getElem_mem hi2)
    have e2 : ps[i].2 = ty z i := by
      have h1 := congrArg (fun l => l[i]?) hps
      simp only [List.getElem?_map, List.getElem?_eq_getElem hi, List.getElem?_eq_getElem hi2, Option.map_some, Option.some.injEq] at h1
      rw [h1, ty, List.getD, List.getElem?_eq_getElem hi]; rfl
    rw [e2] at e
    have e3 := e.below hW
    obtain ⟨A, c, e4, _⟩ := id e
    rw [nI_len] at e4
    rw [e4] at e3
    exact ⟨A, c, by rw [hW.cell (p := ⟨gt, ft + i, none⟩) hgt, hct i (by simpa using hi2)]; simp [e4], e3⟩
def starN : ByteArray := ⟨#[1, 42, 1, 120, 0]⟩
theorem star_kid : kid ⟨#[42]⟩ = starN := by decide +kernel
theorem isIn_snoc (z : List (ByteArray × List Nat)) (j : Nat) (n : ByteArray) (h : j < z.length) : isIn (z.take (j + 1)) n = (isIn (z.take j) n || nameEq (nm z j) n) := by
  rw [isIn, isIn, List.take_succ_eq_append_getElem h, List.any_append, nm, List.getD, List.getElem?_eq_getElem h]
  simp
/-- What the law asks of a zone's sets: all contracts in one. -/
theorem zone_den {z : List (ByteArray × List Nat)} (hz : Zone z) (sv : Value) (w : World) (hs : SetsAt sv (zoneSets z) w) {i : Nat} (hi : i < z.length) :
    Calls Tryz.prog 8 #[sv, .string (nm z i), .string xB] w (fun e w' => e = .returned (.int .i64 0) ∧ Below w.heap.size w w') ∧
    Calls Tryz.prog 9 #[sv, .string (nm z i), .string xB] w (fun e w' => e = .returned (.int .i64 0) ∧ Below w.heap.size w w') ∧
    (∀ k ∈ ty z i, Calls Tryz.prog 10 #[sv, .string (nm z i), .int .i64 (k : Int), .string xB] w (fun e w' => e = .returned (.int .i64 0) ∧ Below w.heap.size w w')) ∧
    ∀ k : Nat, k < 65536 → k ≠ 43 → k ∉ ty z i → Calls Tryz.prog 10 #[sv, .string (nm z i), .int .i64 (k : Int), .string xB] w (fun e w' => e = .returned (.int .i64 (if 5 ∈ ty z i then 0 else 1)) ∧ Below w.heap.size w w') := by
  have h1 := den_name (zoneSets z) sv (nm z i) xB w hs (zone_47 z) (zone_ne hz)
  rw [zone_name_in hz hi] at h1
  have h2 := den_cut (zoneSets z) sv (nm z i) xB (zonePrf z i) w hs (zone_47 z) (zone_ne hz) (hz.zn hi).under (zone_match hz hi)
  rw [zone_bare hz hi] at h2
  have h3 := fun (k : Nat) (hk : k < 65536) => den_type (zoneSets z) sv (nm z i) xB (k : Int) (zonePrf z i) w hs (zone_47 z) (zone_ne hz) (hz.zn hi).under (by omega) (by omega) (zone_match hz hi)
  refine ⟨h1, h2.mono fun e w' k => ⟨by rw [k.1]; split <;> rfl, k.2⟩, fun k hk => ?_, fun k hk h43 hno => ?_⟩
  · have hk3 : k < 65536 := by have := (hz.tyL hi).2 k hk; omega
    refine (h3 k hk3).mono fun e w' q => ⟨?_, q.2⟩
    rw [q.1]
    by_cases h43 : k = 43
    · subst h43
      rw [show ((43 : Nat) : Int) = 43 from rfl, zone_ds hk]; rfl
    · rw [zone_lacks hz hi k h43, decide_eq_true hk]; rfl
  · refine (h3 k hk).mono fun e w' q => ⟨?_, q.2⟩
    rw [q.1, zone_lacks hz hi k h43, decide_eq_false hno]
    by_cases h5 : 5 ∈ ty z i
    · rw [decide_eq_true h5, if_pos h5]; rfl
    · rw [decide_eq_false h5, if_neg h5]; rfl
theorem contains_nI (ns : List Nat) (k : Nat) : (nI ns).contains (k : Int) = true ↔ k ∈ ns := by
  have := has_nI xB xB xB ns false k
  rw [PrfD.has] at this
  rw [this, decide_eq_true_eq]
set_option maxRecDepth 100000 in
set_option maxHeartbeats 2000000 in
theorem sound_any (l : List (ByteArray × List Int)) (v : Value) (label : ByteArray) (kind : Int) (w : World) (hv : OnesAt v l w) : Calls Tryz.prog 3 #[v, .string label, .int .i64 kind] w (BoolB true w) := by
  have HV := Lib.hid hv
  clear hv
  go_enter Tryz.func3, Tryz.ntmps3
  go_wp2_with (go_at_call 4; refine (Hid.out (p := _) ?_))
  refine Lib.hid ?_
  refine (examples_any w).mono ?_
  rintro e w1 ⟨rfl, hb1⟩
  have HV1 := Lib.hid (HV.out.below hb1)
  have HB1 := Lib.hid hb1
  clear hb1 HV
  simp only []
  go_wp2_with (go_at_call 5; refine (Hid.out (p := _) ?_))
  refine Lib.hid ?_
  refine (law_chain l v w1 HV1.out).mono ?_
  rintro e w2 ⟨z, nv, tv, hz, hz13, rfl, hch, hb2⟩
  have HZ := Lib.hid hz; have HCH := Lib.hid hch; have HB2 := Lib.hid (HB1.out.trans (hb2.mono HB1.out.size))
  have hz13i : (z.length : Int) ≤ 13 := by omega
  clear hz hch hb2 HV1 HB1
  simp only []
  go_wp2_with (go_at_call 6; refine (Hid.out (p := _) ?_))
  refine Lib.hid ?_
  refine (law_signed z nv tv w2 HZ.out hz13 HCH.out).mono ?_
  rintro e w3 ⟨sv, rfl, hsv, hb3⟩
  have HSV := Lib.hid hsv; have HB3 := Lib.hid (HB2.out.trans (hb3.mono HB2.out.size))
  obtain ⟨gn, fn, cn, gt, ft, ct, rfl, rfl, hcn, hct⟩ := (HCH.out.below hb3).open HZ.out
  have HCN := Lib.hid hcn; have HCT := Lib.hid hct
  clear hsv hb3 hcn hct HCH HB2
  simp only []
  go_wp2_with fail
  have HDEN := Lib.hid (show ∀ W, Below w3.heap.size w3 W → ∀ i, i < z.length → _ from fun W hW i hi => zone_den HZ.out sv W (HSV.out.below hW) hi)
  go_loopw [11, 12] (fun wb i wr => ∃ (j : Nat) (b : Bool), wb = .bool b ∧ i = .int .i64 j ∧ j ≤ z.length ∧ Hid (b = isIn (z.take j) starN) ∧ Hid (Below w3.heap.size w3 wr)) (fun _ i _ => z.length - (intOf i).toNat)
  case atStart => exact ⟨0, false, rfl, rfl, Nat.zero_le _, Lib.hid rfl, Lib.hid (Below.refl _ _)⟩
  case round =>
    obtain ⟨j, b, rfl, rfl, hj, HW, HB⟩ := hrel
    by_cases hlt : j < z.length
    · have q1 : (j : Int) < (z.length : Int) := by omega
      have c0 := HCN.out _ HB.out j hlt
      have heq := fun W => name_equal (nm z j) starN W
      have HEQ := Lib.hid heq
      obtain ⟨b2, hb2⟩ : ∃ b2, (b || nameEq (nm z j) starN) = b2 := ⟨_, rfl⟩
      have HB2 := Lib.hid hb2
      have HW2 := Lib.hid (show b2 = isIn (z.take (j + 1)) starN by rw [← hb2, isIn_snoc z j starN hlt, HW.out])
      clear heq hb2
      cases b with
      | true =>
        go_wp2_with (go_at_call 8; refine (Hid.out (p := _) ?_))
        refine Lib.hid ?_
        obtain rfl : b2 = true := by rw [← HB2.out]; rfl
        refine ((HDEN.out _ HB.out j hlt).1).mono ?_
        rintro e w5 ⟨rfl, hb5⟩
        have HB5 := Lib.hid (HB.out.trans (hb5.mono HB.out.size))
        have c5 := HCN.out _ HB5.out j hlt
        clear hb5
        simp only []
        go_wp2_with (go_at_call 9; refine (Hid.out (p := _) ?_))
        refine Lib.hid ?_
        refine ((HDEN.out _ HB5.out j hlt).2.1).mono ?_
        rintro e w6 ⟨rfl, hb6⟩
        have HB6 := Lib.hid (HB5.out.trans (hb6.mono HB5.out.size))
        clear hb6 c5
        simp only []
        go_wp2_with fail
        go_loopw [13] (fun k wr => ∃ m : Nat, k = .int .i64 m ∧ m ≤ (ty z j).length ∧ Hid (Below w3.heap.size w3 wr)) (fun k _ => (ty z j).length - (intOf k).toNat)
        case atStart => exact ⟨0, rfl, Nat.zero_le _, HB6⟩
        case round =>
          obtain ⟨m, rfl, hm, HB7⟩ := hrel
          obtain ⟨TA, tc, ct7, hti⟩ := HCT.out _ HB7.out j hlt
          have cn7 := HCN.out _ HB7.out j hlt
          have htyi : ((ty z j).length : Int) ≤ 1000 := by have := (HZ.out.tyL hlt).len; omega
          by_cases hlt2 : m < (ty z j).length
          · obtain ⟨gq, fq, rfl, hgq, hcq⟩ := nI_at hti (Below.refl _ _) (by omega)
            have cq := hcq m hlt2
            have r1 : (m : Int) < ((ty z j).length : Int) := by omega
            have hmem : (ty z j)[m] ∈ ty z j := List.getElem_mem hlt2
            have HT := Lib.hid (fun W (h : Below w3.heap.size w3 W) => (HDEN.out W h j hlt).2.2.1 _ hmem)
            generalize (ty z j)[m] = t at cq HT
            clear hcq hgq hti hmem
            go_wp2_with fail
            go_region_with (go_at_call 10; refine (HT.out _ ?_).mono ?_; exact HB7.out.drew; rintro e w8 ⟨rfl, hb8⟩)
            all_goals
              have HB8 := Lib.hid (HB7.out.drew.trans (hb8.mono HB7.out.drew.size))
              clear hb8 cq ct7 cn7
              go_wp2_with fail
              go_roundw
              case rel => exact ⟨m + 1, by go_num, by omega, HB8⟩
              case measure => simp [intOf]; omega
          · obtain rfl : m = (ty z j).length := by omega
            by_cases k1 : 0 < kind
            case neg =>
              go_wp2_with fail
              go_roundw
              case rel => exact ⟨j + 1, _, rfl, by go_num, by omega, HW2, HB7⟩
              case measure => simp [intOf]; omega
            case pos =>
              by_cases k2 : kind < 65536
              case neg =>
                go_wp2_with fail
                go_roundw
                case rel => exact ⟨j + 1, _, rfl, by go_num, by omega, HW2, HB7⟩
                case measure => simp [intOf]; omega
              case pos =>
                have hh := law_has TA tc (ty z j) kind _ hti (HZ.out.tyL hlt).len
                cases hbh : (nI (ty z j)).contains kind with
                | true =>
                  rw [hbh] at hh
                  have HH := Lib.hid hh
                  clear hh hbh hti
                  go_wp2_with (go_at_call 11; refine HH.out.mono ?_; rintro e w9 ⟨rfl, rfl⟩; simp only [])
                  go_roundw
                  case rel => exact ⟨j + 1, _, rfl, by go_num, by omega, HW2, HB7⟩
                  case measure => simp [intOf]; omega
                | false =>
                  rw [hbh] at hh
                  have HH := Lib.hid hh
                  have HBH := Lib.hid hbh
                  clear hh hbh
                  by_cases k3 : kind = 43
                  case pos =>
                    have e3 : (kind != 43) = false := by rw [k3]; rfl
                    clear k3 hti
                    go_wp2_with (go_at_call 11; refine HH.out.mono ?_; rintro e w9 ⟨rfl, rfl⟩; simp only [])
                    go_roundw
                    case rel => exact ⟨j + 1, _, rfl, by go_num, by omega, HW2, HB7⟩
                    case measure => simp [intOf]; omega
                  case neg =>
                    have k3b : (kind != 43) = true := by rw [bne_iff_ne]; exact k3
                    have hh5 := law_has TA tc (ty z j) 5 _ hti (HZ.out.tyL hlt).len
                    cases hb5 : (nI (ty z j)).contains 5 with
                    | true =>
                      rw [hb5] at hh5
                      have hdk : ∀ W, Below w3.heap.size w3 W → Calls Tryz.prog 10 #[sv, .string (nm z j), .int .i64 kind, .string xB] W (fun e w' => e = .returned (.int .i64 0) ∧ Below W.heap.size W w') := by
                        intro W hW
                        obtain ⟨kn, rfl⟩ := Int.eq_ofNat_of_zero_le (show 0 ≤ kind by omega)
                        have hno : kn ∉ ty z j := fun hm => by
                          have h1 := HBH.out
                          rw [(contains_nI (ty z j) kn).2 hm] at h1; cases h1
                        have h := (HDEN.out W hW j hlt).2.2.2 kn (by omega) (fun h => k3 (by rw [h]; rfl)) hno
                        have h5 : (5 ∈ ty z j) ↔ (nI (ty z j)).contains 5 = true := (contains_nI (ty z j) 5).symm
                        simp only [h5, hb5] at h
                        exact h
                      have HH5 := Lib.hid hh5; have HDK := Lib.hid hdk
                      clear hh5 hdk hb5 hti k3
                      go_wp2_with (go_at_call 11; refine (Hid.out (p := _) ?_))
                      refine Lib.hid ?_
                      refine HH.out.mono ?_
                      rintro e w9 ⟨rfl, rfl⟩
                      simp only []
                      go_wp2_with (go_at_call 11; refine (Hid.out (p := _) ?_))
                      refine Lib.hid ?_
                      refine HH5.out.mono ?_
                      rintro e w9 ⟨rfl, rfl⟩
                      simp only []
                      go_wp2_with (go_at_call 10; refine (Hid.out (p := _) ?_))
                      refine Lib.hid ?_
                      refine (HDK.out _ HB7.out).mono ?_
                      rintro e w10 ⟨rfl, hb10⟩
                      have HB10 := Lib.hid (HB7.out.trans (hb10.mono HB7.out.size))
                      clear hb10 ct7 cn7
                      simp only []
                      go_wp2_with fail
                      go_roundw
                      case rel => exact ⟨j + 1, _, rfl, by go_num, by omega, HW2, HB10⟩
                      case measure => simp [intOf]; omega
                    | false =>
                      rw [hb5] at hh5
                      have hdk : ∀ W, Below w3.heap.size w3 W → Calls Tryz.prog 10 #[sv, .string (nm z j), .int .i64 kind, .string xB] W (fun e w' => e = .returned (.int .i64 1) ∧ Below W.heap.size W w') := by
                        intro W hW
                        obtain ⟨kn, rfl⟩ := Int.eq_ofNat_of_zero_le (show 0 ≤ kind by omega)
                        have hno : kn ∉ ty z j := fun hm => by
                          have h1 := HBH.out
                          rw [(contains_nI (ty z j) kn).2 hm] at h1; cases h1
                        have h := (HDEN.out W hW j hlt).2.2.2 kn (by omega) (fun h => k3 (by rw [h]; rfl)) hno
                        have h5 : (5 ∈ ty z j) ↔ (nI (ty z j)).contains 5 = true := (contains_nI (ty z j) 5).symm
                        simp only [h5, hb5] at h
                        exact h
                      have HH5 := Lib.hid hh5; have HDK := Lib.hid hdk
                      clear hh5 hdk hb5 hti k3
                      go_wp2_with (go_at_call 11; refine (Hid.out (p := _) ?_))
                      refine Lib.hid ?_
                      refine HH.out.mono ?_
                      rintro e w9 ⟨rfl, rfl⟩
                      simp only []
                      go_wp2_with (go_at_call 11; refine (Hid.out (p := _) ?_))
                      refine Lib.hid ?_
                      refine HH5.out.mono ?_
                      rintro e w9 ⟨rfl, rfl⟩
                      simp only []
                      go_wp2_with (go_at_call 10; refine (Hid.out (p := _) ?_))
                      refine Lib.hid ?_
                      refine (HDK.out _ HB7.out).mono ?_
                      rintro e w10 ⟨rfl, hb10⟩
                      have HB10 := Lib.hid (HB7.out.trans (hb10.mono HB7.out.size))
                      clear hb10 ct7 cn7
                      simp only []
                      go_wp2_with fail
                      go_roundw
                      case rel => exact ⟨j + 1, _, rfl, by go_num, by omega, HW2, HB10⟩
                      case measure => simp [intOf]; omega
      | false =>
        go_wp2_with (first
          | (go_at_call 7; refine (HEQ.out _).mono ?_; rintro e w4 ⟨rfl, hb4⟩; replace hb4 := Lib.hid (HB.out.trans (hb4.mono HB.out.size)); have c1 := HCN.out _ hb4.out j hlt; simp only [])
          | (go_at_call 8; refine (Hid.out (p := _) ?_)))
        refine Lib.hid ?_
        have e42 : nameEq (nm z j) starN = b2 := by have := HB2.out; simpa using this
        rw [e42]
        refine ((HDEN.out _ hb4.out j hlt).1).mono ?_
        rintro e w5 ⟨rfl, hb5⟩
        have HB5 := Lib.hid (hb4.out.trans (hb5.mono hb4.out.size))
        have c5 := HCN.out _ HB5.out j hlt
        clear hb5
        simp only []
        go_wp2_with (go_at_call 9; refine (Hid.out (p := _) ?_))
        refine Lib.hid ?_
        refine ((HDEN.out _ HB5.out j hlt).2.1).mono ?_
        rintro e w6 ⟨rfl, hb6⟩
        have HB6 := Lib.hid (HB5.out.trans (hb6.mono HB5.out.size))
        clear hb6 c5
        simp only []
        go_wp2_with fail
        go_loopw [13] (fun k wr => ∃ m : Nat, k = .int .i64 m ∧ m ≤ (ty z j).length ∧ Hid (Below w3.heap.size w3 wr)) (fun k _ => (ty z j).length - (intOf k).toNat)
        case atStart => exact ⟨0, rfl, Nat.zero_le _, HB6⟩
        case round =>
          obtain ⟨m, rfl, hm, HB7⟩ := hrel
          obtain ⟨TA, tc, ct7, hti⟩ := HCT.out _ HB7.out j hlt
          have cn7 := HCN.out _ HB7.out j hlt
          have htyi : ((ty z j).length : Int) ≤ 1000 := by have := (HZ.out.tyL hlt).len; omega
          by_cases hlt2 : m < (ty z j).length
          · obtain ⟨gq, fq, rfl, hgq, hcq⟩ := nI_at hti (Below.refl _ _) (by omega)
            have cq := hcq m hlt2
            have r1 : (m : Int) < ((ty z j).length : Int) := by omega
            have hmem : (ty z j)[m] ∈ ty z j := List.getElem_mem hlt2
            have HT := Lib.hid (fun W (h : Below w3.heap.size w3 W) => (HDEN.out W h j hlt).2.2.1 _ hmem)
            generalize (ty z j)[m] = t at cq HT
            clear hcq hgq hti hmem
            go_wp2_with fail
            go_region_with (go_at_call 10; refine (HT.out _ ?_).mono ?_; exact HB7.out.drew; rintro e w8 ⟨rfl, hb8⟩)
            all_goals
              have HB8 := Lib.hid (HB7.out.drew.trans (hb8.mono HB7.out.drew.size))
              clear hb8 cq ct7 cn7
              go_wp2_with fail
              go_roundw
              case rel => exact ⟨m + 1, by go_num, by omega, HB8⟩
              case measure => simp [intOf]; omega
          · obtain rfl : m = (ty z j).length := by omega
            by_cases k1 : 0 < kind
            case neg =>
              go_wp2_with fail
              go_roundw
              case rel => exact ⟨j + 1, _, rfl, by go_num, by omega, HW2, HB7⟩
              case measure => simp [intOf]; omega
            case pos =>
              by_cases k2 : kind < 65536
              case neg =>
                go_wp2_with fail
                go_roundw
                case rel => exact ⟨j + 1, _, rfl, by go_num, by omega, HW2, HB7⟩
                case measure => simp [intOf]; omega
              case pos =>
                have hh := law_has TA tc (ty z j) kind _ hti (HZ.out.tyL hlt).len
                cases hbh : (nI (ty z j)).contains kind with
                | true =>
                  rw [hbh] at hh
                  have HH := Lib.hid hh
                  clear hh hbh hti
                  go_wp2_with (go_at_call 11; refine HH.out.mono ?_; rintro e w9 ⟨rfl, rfl⟩; simp only [])
                  go_roundw
                  case rel => exact ⟨j + 1, _, rfl, by go_num, by omega, HW2, HB7⟩
                  case measure => simp [intOf]; omega
                | false =>
                  rw [hbh] at hh
                  have HH := Lib.hid hh
                  have HBH := Lib.hid hbh
                  clear hh hbh
                  by_cases k3 : kind = 43
                  case pos =>
                    have e3 : (kind != 43) = false := by rw [k3]; rfl
                    clear k3 hti
                    go_wp2_with (go_at_call 11; refine HH.out.mono ?_; rintro e w9 ⟨rfl, rfl⟩; simp only [])
                    go_roundw
                    case rel => exact ⟨j + 1, _, rfl, by go_num, by omega, HW2, HB7⟩
                    case measure => simp [intOf]; omega
                  case neg =>
                    have k3b : (kind != 43) = true := by rw [bne_iff_ne]; exact k3
                    have hh5 := law_has TA tc (ty z j) 5 _ hti (HZ.out.tyL hlt).len
                    cases hb5 : (nI (ty z j)).contains 5 with
                    | true =>
                      rw [hb5] at hh5
                      have hdk : ∀ W, Below w3.heap.size w3 W → Calls Tryz.prog 10 #[sv, .string (nm z j), .int .i64 kind, .string xB] W (fun e w' => e = .returned (.int .i64 0) ∧ Below W.heap.size W w') := by
                        intro W hW
                        obtain ⟨kn, rfl⟩ := Int.eq_ofNat_of_zero_le (show 0 ≤ kind by omega)
                        have hno : kn ∉ ty z j := fun hm => by
                          have h1 := HBH.out
                          rw [(contains_nI (ty z j) kn).2 hm] at h1; cases h1
                        have h := (HDEN.out W hW j hlt).2.2.2 kn (by omega) (fun h => k3 (by rw [h]; rfl)) hno
                        have h5 : (5 ∈ ty z j) ↔ (nI (ty z j)).contains 5 = true := (contains_nI (ty z j) 5).symm
                        simp only [h5, hb5] at h
                        exact h
                      have HH5 := Lib.hid hh5; have HDK := Lib.hid hdk
                      clear hh5 hdk hb5 hti k3
                      go_wp2_with (go_at_call 11; refine (Hid.out (p := _) ?_))
                      refine Lib.hid ?_
                      refine HH.out.mono ?_
                      rintro e w9 ⟨rfl, rfl⟩
                      simp only []
                      go_wp2_with (go_at_call 11; refine (Hid.out (p := _) ?_))
                      refine Lib.hid ?_
                      refine HH5.out.mono ?_
                      rintro e w9 ⟨rfl, rfl⟩
                      simp only []
                      go_wp2_with (go_at_call 10; refine (Hid.out (p := _) ?_))
                      refine Lib.hid ?_
                      refine (HDK.out _ HB7.out).mono ?_
                      rintro e w10 ⟨rfl, hb10⟩
                      have HB10 := Lib.hid (HB7.out.trans (hb10.mono HB7.out.size))
                      clear hb10 ct7 cn7
                      simp only []
                      go_wp2_with fail
                      go_roundw
                      case rel => exact ⟨j + 1, _, rfl, by go_num, by omega, HW2, HB10⟩
                      case measure => simp [intOf]; omega
                    | false =>
                      rw [hb5] at hh5
                      have hdk : ∀ W, Below w3.heap.size w3 W → Calls Tryz.prog 10 #[sv, .string (nm z j), .int .i64 kind, .string xB] W (fun e w' => e = .returned (.int .i64 1) ∧ Below W.heap.size W w') := by
                        intro W hW
                        obtain ⟨kn, rfl⟩ := Int.eq_ofNat_of_zero_le (show 0 ≤ kind by omega)
                        have hno : kn ∉ ty z j := fun hm => by
                          have h1 := HBH.out
                          rw [(contains_nI (ty z j) kn).2 hm] at h1; cases h1
                        have h := (HDEN.out W hW j hlt).2.2.2 kn (by omega) (fun h => k3 (by rw [h]; rfl)) hno
                        have h5 : (5 ∈ ty z j) ↔ (nI (ty z j)).contains 5 = true := (contains_nI (ty z j) 5).symm
                        simp only [h5, hb5] at h
                        exact h
                      have HH5 := Lib.hid hh5; have HDK := Lib.hid hdk
                      clear hh5 hdk hb5 hti k3
                      go_wp2_with (go_at_call 11; refine (Hid.out (p := _) ?_))
                      refine Lib.hid ?_
                      refine HH.out.mono ?_
                      rintro e w9 ⟨rfl, rfl⟩
                      simp only []
                      go_wp2_with (go_at_call 11; refine (Hid.out (p := _) ?_))
                      refine Lib.hid ?_
                      refine HH5.out.mono ?_
                      rintro e w9 ⟨rfl, rfl⟩
                      simp only []
                      go_wp2_with (go_at_call 10; refine (Hid.out (p := _) ?_))
                      refine Lib.hid ?_
                      refine (HDK.out _ HB7.out).mono ?_
                      rintro e w10 ⟨rfl, hb10⟩
                      have HB10 := Lib.hid (HB7.out.trans (hb10.mono HB7.out.size))
                      clear hb10 ct7 cn7
                      simp only []
                      go_wp2_with fail
                      go_roundw
                      case rel => exact ⟨j + 1, _, rfl, by go_num, by omega, HW2, HB10⟩
                      case measure => simp [intOf]; omega
    · obtain rfl : j = z.length := by omega
      have HWD := Lib.hid (show b = isIn z starN by rw [HW.out, List.take_length])
      clear HW
      rcases childR_cases label with ⟨hlab, hch⟩ | ⟨s, er, hch, hne⟩
      case inr =>
        have hcall := name_child label xB wr
        rw [hch] at hcall
        have HCL := Lib.hid hcall
        have hne' : (er != 0) = true := by rw [bne_iff_ne]; exact hne
        clear hcall hch hne
        go_wp2_with (go_at_call 12; refine HCL.out.mono ?_; rintro e w4 ⟨rfl, hb4⟩; replace hb4 := Lib.hid hb4; simp only [])
        go_ret
        exact ⟨rfl, HB3.out.trans ((HB.out.trans (hb4.out.mono HB.out.size)).mono HB3.out.size)⟩
      case inl =>
        have hcall := name_child label xB wr
        rw [hch] at hcall
        have HCL := Lib.hid hcall
        have HLB := Lib.hid hlab
        clear hcall hch hlab
        go_wp2_with (go_at_call 12; refine HCL.out.mono ?_; rintro e w4 ⟨rfl, hb4⟩; replace hb4 := Lib.hid (HB.out.trans (hb4.mono HB.out.size)); simp only [])
        clear HCL HB
        obtain ⟨W2, rfl⟩ : ∃ W2, W2 = wr := ⟨_, rfl⟩
        go_loopw [17] (fun k wr2 => ∃ m : Nat, k = .int .i64 m ∧ m ≤ z.length ∧ Hid (isIn (z.take m) (kid label) = false) ∧ Hid (Below w3.heap.size w3 wr2)) (fun k _ => z.length - (intOf k).toNat)
        case atStart => exact ⟨0, rfl, Nat.zero_le _, Lib.hid rfl, hb4⟩
        case round =>
          obtain ⟨m, rfl, hm, HI, HB5⟩ := hrel
          by_cases hlt : m < z.length
          · have q1 : (m : Int) < (z.length : Int) := by omega
            have c0 := HCN.out _ HB5.out m hlt
            have heq := fun W => name_equal (nm z m) (kid label) W
            have hsn := isIn_snoc z m (kid label) hlt
            rw [HI.out] at hsn
            cases he : nameEq (nm z m) (kid label) with
            | true =>
              rw [he] at heq
              have HEQ := Lib.hid heq
              clear heq he hsn
              go_wp2_with (go_at_call 7; refine (HEQ.out _).mono ?_; rintro e w6 ⟨rfl, hb6⟩; replace hb6 := Lib.hid (HB5.out.trans (hb6.mono HB5.out.size)); simp only [])
              go_ret
              exact ⟨rfl, HB3.out.trans (hb6.out.mono HB3.out.size)⟩
            | false =>
              rw [he] at heq hsn
              have HEQ := Lib.hid heq
              have HI2 := Lib.hid (show isIn (z.take (m + 1)) (kid label) = false from hsn)
              clear heq he hsn
              go_wp2_with (go_at_call 7; refine (HEQ.out _).mono ?_; rintro e w6 ⟨rfl, hb6⟩; replace hb6 := Lib.hid (HB5.out.trans (hb6.mono HB5.out.size)); simp only [])
              go_roundw
              case rel => exact ⟨m + 1, by go_num, by omega, HI2, hb6⟩
              case measure => simp [intOf]; omega
          · obtain rfl : m = z.length := by omega
            have hno : isIn z (kid label) = false := by have := HI.out; rwa [List.take_length] at this
            have hden := den_name (zoneSets z) sv (kid label) xB wr (HSV.out.below HB5.out) (zone_47 z) (zone_ne HZ.out)
            rw [zone_name_out HZ.out HLB.out hno, star_kid, ← HWD.out] at hden
            clear hno HI
            cases b
            all_goals
              have HD := Lib.hid hden
              clear hden
              go_wp2_with (go_at_call 8; refine (Hid.out (p := _) ?_))
              refine Lib.hid ?_
              refine HD.out.mono ?_
              rintro e w7 ⟨rfl, hb7⟩
              have HB7 := Lib.hid (HB3.out.trans ((HB5.out.trans (hb7.mono HB5.out.size)).mono HB3.out.size))
              clear hb7
              simp only []
              go_wp2_with fail
              go_ret
              exact ⟨rfl, HB7.out⟩
end Go.Proofs.YtdflhnbpcnmpfaaGreatDoor

