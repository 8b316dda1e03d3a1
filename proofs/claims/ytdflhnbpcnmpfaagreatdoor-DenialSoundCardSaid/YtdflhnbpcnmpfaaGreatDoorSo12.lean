import Derived.Test.YtdflhnbpcnmpfaaGreatDoorSo11
import Derived.Test.YtdflhnbpcnmpfaaGreatDoorProg
import Derived.BigQuiet
import Derived.WalkKit
import Derived.Deep.RegionHeld3
/- guidepostlaw09.chain makes a zone. -/
namespace Go.Proofs.YtdflhnbpcnmpfaaGreatDoor
open Go.RowKit

def capOk : Value → Prop
  | .slice _ n c => n ≤ c
  | _ => True
/-- nv reads as the names of a zone, tv as its types. -/
def ChR (z : List (ByteArray × List Nat)) (nv tv : Value) (W : World) : Prop :=
  StrsAt nv (z.map (·.1)) W ∧ capOk nv ∧ capOk tv ∧ ∃ ps : List (Value × List Nat), ps.map (·.2) = z.map (·.2) ∧ VsAt tv (ps.map (·.1)) W ∧ ∀ p ∈ ps, IntsAt p.1 (nI p.2) W
theorem ChR.below {z : List (ByteArray × List Nat)} {nv tv : Value} {w w' : World} (h : ChR z nv tv w) (hb : Below w.heap.size w w') : ChR z nv tv w' := by
  obtain ⟨h1, c1, c2, ps, h2, h3, h4⟩ := h
  exact ⟨h1.below hb, c1, c2, ps, h2, h3.below hb, fun p hp => (h4 p hp).below hb⟩
theorem OwnV.len {base : Nat} {v : Value} {xs : List Value} {w : World} (h : OwnV base v xs w) : ∃ A c, v = .slice A xs.length c ∧ xs.length ≤ c := by
  rcases h.2 with ⟨rfl, h0⟩ | ⟨g, cap, cur, rfl, hb, hg, hn, hm, hsz, htk⟩
  · exact ⟨none, 0, by rw [h0], by rw [h0]; exact Nat.le_refl _⟩
  · exact ⟨_, _, rfl, hn⟩
theorem incr_len (c : Nat) : ∀ (l : List Nat) (lo : Nat), l.Pairwise (· < ·) → (∀ x ∈ l, lo ≤ x ∧ x < c) → l.length ≤ c - lo := by
  intro l
  induction l with
  | nil => intro lo _ _; exact Nat.zero_le _
  | cons x l ih =>
    intro lo hp hb
    have hx := hb x (by simp)
    rw [List.pairwise_cons] at hp
    have := ih (x + 1) hp.2 fun y hy => ⟨hp.1 y hy, (hb y (by simp [hy])).2⟩
    rw [List.length_cons]; omega
theorem own_len {ns : List Nat} (h : ownOk ns) : ns.length ≤ 300 := incr_len 300 ns 0 h.1.1 fun x hx => ⟨Nat.zero_le _, h.1.2 x hx⟩
theorem childR_cases (l : ByteArray) : (labOk l ∧ childR l xB = (kid l, 0)) ∨ ∃ s e, childR l xB = (s, e) ∧ e ≠ 0 := by
  by_cases h : labOk l
  · exact .inl ⟨h, childR_kid h⟩
  · refine .inr ⟨⟨#[]⟩, 2, ?_, by decide⟩
    rw [childR, if_pos]
    have : ¬ (1 ≤ l.size ∧ l.size ≤ 63) := h
    rw [xB_right]; simp only [Bool.true_eq_false, false_or]; omega
theorem chain_start (w : World) : ChR [(xB, [2, 6, 47])] (.slice (some ⟨w.heap.size, 0, none⟩) 1 1) (.slice (some ⟨w.heap.size + 1 + 1, 0, none⟩) 1 1)
    (((w.alloc (.cells #[.string ⟨#[1, 120, 0]⟩] 9)).alloc (.cells #[.int .i64 2, .int .i64 6, .int .i64 47] 3)).alloc (.cells #[.slice (some ⟨w.heap.size + 1, 0, none⟩) 3 3] 32)) ∧
    Below w.heap.size w (((w.alloc (.cells #[.string ⟨#[1, 120, 0]⟩] 9)).alloc (.cells #[.int .i64 2, .int .i64 6, .int .i64 47] 3)).alloc (.cells #[.slice (some ⟨w.heap.size + 1, 0, none⟩) 3 3] 32)) := by
  have k0 : Blk (((w.alloc (.cells #[.string ⟨#[1, 120, 0]⟩] 9)).alloc (.cells #[.int .i64 2, .int .i64 6, .int .i64 47] 3)).alloc (.cells #[.slice (some ⟨w.heap.size + 1, 0, none⟩) 3 3] 32)) w.heap.size #[.string ⟨#[1, 120, 0]⟩] 9 := ((Blk.new w _ _).alloc _).alloc _
  have k1 : Blk (((w.alloc (.cells #[.string ⟨#[1, 120, 0]⟩] 9)).alloc (.cells #[.int .i64 2, .int .i64 6, .int .i64 47] 3)).alloc (.cells #[.slice (some ⟨w.heap.size + 1, 0, none⟩) 3 3] 32)) (w.heap.size + 1) #[.int .i64 2, .int .i64 6, .int .i64 47] 3 := by
    have := (Blk.new (w.alloc (.cells #[.string ⟨#[1, 120, 0]⟩] 9)) #[.int .i64 2, .int .i64 6, .int .i64 47] 3).alloc (.cells #[.slice (some ⟨w.heap.size + 1, 0, none⟩) 3 3] 32)
    simpa using this
  have k2 : Blk (((w.alloc (.cells #[.string ⟨#[1, 120, 0]⟩] 9)).alloc (.cells #[.int .i64 2, .int .i64 6, .int .i64 47] 3)).alloc (.cells #[.slice (some ⟨w.heap.size + 1, 0, none⟩) 3 3] 32)) (w.heap.size + 1 + 1) #[.slice (some ⟨w.heap.size + 1, 0, none⟩) 3 3] 32 := by
    have := Blk.new ((w.alloc (.cells #[.string ⟨#[1, 120, 0]⟩] 9)).alloc (.cells #[.int .i64 2, .int .i64 6, .int .i64 47] 3)) #[.slice (some ⟨w.heap.size + 1, 0, none⟩) 3 3] 32
    simpa using this
  refine ⟨⟨⟨_, _, rfl, fun _ => ⟨_, 0, rfl, k0.lt, fun j hj => ?_⟩⟩, Nat.le_refl _, Nat.le_refl _, [(.slice (some ⟨w.heap.size + 1, 0, none⟩) 3 3, [2, 6, 47])], rfl, ⟨_, _, rfl, fun _ => ⟨_, 0, rfl, k2.lt, fun j hj => ?_⟩⟩, fun p hp => ?_⟩, ((((Below.refl _ w).alloc (Nat.le_refl _) _).alloc (by simp) _).alloc (by simp; omega) _)⟩
  · obtain rfl : j = 0 := by simpa using hj
    exact k0.cell 0
  · obtain rfl : j = 0 := by simpa using hj
    exact k2.cell 0
  · obtain rfl : p = (.slice (some ⟨w.heap.size + 1, 0, none⟩) 3 3, [2, 6, 47]) := by simpa using hp
    refine ⟨_, _, rfl, by rw [nI_len]; simp, fun _ => ⟨_, 0, rfl, k1.lt, fun j hj => ?_⟩⟩
    have hj : j < 3 := hj
    rw [Nat.zero_add, k1.cell]
    match j, hj with
    | 0, _ => rfl
    | 1, _ => rfl
    | 2, _ => rfl
theorem take_nm (z : List (ByteArray × List Nat)) (k i : Nat) (h : i < ((z.map (·.1)).take k).length) : ((z.map (·.1)).take k)[i] = nm z i := by
  have hi : i < z.length := by simp at h; omega
  rw [nm, List.getD, List.getElem?_eq_getElem hi]
  simp
theorem drop_nm (z : List (ByteArray × List Nat)) (k i : Nat) (h : i < ((z.map (·.1)).drop k).length) : ((z.map (·.1)).drop k)[i] = nm z (k + i) := by
  have hi : k + i < z.length := by simp at h; omega
  rw [nm, List.getD, List.getElem?_eq_getElem hi]
  simp
theorem IntsAt.one {v : Value} {l : List Int} {w : World} (h : IntsAt v l w) : v.oneCell' = true := by
  obtain ⟨A, c, rfl, _⟩ := h; rfl
theorem ChR.ins {z : List (ByteArray × List Nat)} {k : Nat} {n : ByteArray} {ns : List Nat} {ps : List (Value × List Nat)} {u nv tv : Value} {b1 b2 : Nat} {B W2 W : World} (hps : ps.map (·.2) = z.map (·.2)) (hpi : ∀ p ∈ ps, IntsAt p.1 (nI p.2) W2) (hu : IntsAt u (nI ns) W2) (hb : Below W2.heap.size W2 W)
    (hn : OwnS b1 nv ((([] ++ (z.map (·.1)).take k) ++ [n]) ++ (z.map (·.1)).drop k) B) (hnB : Below B.heap.size B W) (ht : OwnV b2 tv ((([] ++ (ps.map (·.1)).take k) ++ [u]) ++ (ps.map (·.1)).drop k) W) : ChR (insZ z k (n, ns)) nv tv W := by
  refine ⟨?_, ?_, ?_, ps.take k ++ ((u, ns) :: ps.drop k), ?_, ?_, ?_⟩
  · have := hn.strs.below hnB
    simpa [insZ] using this
  · obtain ⟨A, c, rfl⟩ := OwnS.len hn
    exact OwnS.cap_le hn
  · obtain ⟨A, c, rfl, h⟩ := OwnV.len ht
    exact h
  · rw [insZ, List.map_append, List.map_append, List.map_cons, List.map_cons, List.map_take, List.map_drop, List.map_take, List.map_drop, hps]
  · have := ht.at
    simpa using this
  · intro p hp
    rcases List.mem_append.1 hp with h | h
    · exact (hpi p (List.mem_of_mem_take h)).below hb
    · rcases List.mem_cons.1 h with e | h
      · rw [e]; exact hu.below hb
      · exact (hpi p (List.mem_of_mem_drop h)).below hb
def ChainP (w : World) (e : Ending) (w' : World) : Prop := ∃ z nv tv, Zone z ∧ z.length ≤ 13 ∧ e = .returned (.tuple #[nv, tv]) ∧ ChR z nv tv w' ∧ Below w.heap.size w w'
set_option maxRecDepth 100000 in
set_option maxHeartbeats 2000000 in
theorem law_chain (l : List (ByteArray × List Int)) (v : Value) (w : World) (hv : OnesAt v l w) : Calls Tryz.prog 5 #[v] w (ChainP w) := by
  obtain ⟨A, c, rfl, hm, hA⟩ := hv
  have HA := Lib.hid hA
  have hmi : (l.length : Int) ≤ 9223372036854775807 := by omega
  clear hA hm
  go_enter Tryz.func5, Tryz.ntmps5
  go_wp2_with fail
  have hst := chain_start w
  generalize hW : (((w.alloc (.cells #[.string ⟨#[1, 120, 0]⟩] 9)).alloc (.cells #[.int .i64 2, .int .i64 6, .int .i64 47] 3)).alloc (.cells #[.slice (some ⟨w.heap.size + 1, 0, none⟩) 3 3] 32)) = W0 at hst ⊢
  have HST := Lib.hid hst
  clear hst hW
  go_loopw [4, 5, 6] (fun nv tv i wr => ∃ (j : Nat) (z : List (ByteArray × List Nat)), i = .int .i64 j ∧ j ≤ l.length ∧ j ≤ 12 ∧ Hid (Zone z ∧ z.length ≤ j + 1) ∧ Hid (ChR z nv tv wr ∧ Below w.heap.size w wr)) (fun _ _ i _ => l.length - (intOf i).toNat)
  case atStart => exact ⟨0, [(xB, [2, 6, 47])], rfl, Nat.zero_le _, Nat.zero_le _, Lib.hid ⟨Zone.start, by simp⟩, HST⟩
  case round =>
    clear HST
    obtain ⟨j, z, rfl, hj, hj12, HZ, HC⟩ := hrel
    by_cases hlt : j < l.length
    · by_cases hlt12 : j < 12
      · obtain ⟨g, fo, rfl, hrow⟩ := HA.out (by omega)
        obtain ⟨tl, o1, o2, o3⟩ := hrow.2 j hlt
        have c0 : wr.cell? ⟨g, fo + j * 2, none⟩ = some (.string l[j].1) := by rw [HC.out.2.cell (p := ⟨g, fo + j * 2, none⟩) hrow.1]; exact o1
        have c1 : wr.cell? ⟨g, fo + j * 2 + 1, none⟩ = some tl := by rw [HC.out.2.cell (p := ⟨g, fo + j * 2 + 1, none⟩) hrow.1]; exact o2
        have HG := Lib.hid (And.intro hrow.1 o2)
        clear o1 o2 hrow
        generalize l[j].1 = lab at c0
        generalize l[j].2 = tys at o3
        have HI := Lib.hid o3
        have q1 : (j : Int) < (l.length : Int) := by omega
        have q12 : (j : Int) < 12 := by omega
        clear o3
        rcases childR_cases lab with ⟨hlab, hch⟩ | ⟨s, er, hch, hne⟩
        case inr =>
          have hcall := name_child lab xB wr
          rw [hch] at hcall
          have HCL := Lib.hid hcall
          have hne' : (er != 0) = true := by rw [bne_iff_ne]; exact hne
          clear hcall hch hne
          go_wp2_with (go_at_call 12; refine HCL.out.mono ?_; rintro e w1 ⟨rfl, hb1⟩; replace hb1 := Lib.hid hb1; simp only [])
          go_roundw
          case rel => exact ⟨j + 1, z, by go_num, by omega, by omega, Lib.hid ⟨HZ.out.1, by have := HZ.out.2; omega⟩, Lib.hid ⟨HC.out.1.below hb1.out, HC.out.2.trans (hb1.out.mono HC.out.2.size)⟩⟩
          case measure => simp [intOf]; omega
        case inl =>
          obtain ⟨TA, tc, rfl, htm, hta⟩ := HI.out
          have HTA := Lib.hid hta
          have htmi : (tys.length : Int) ≤ 9223372036854775807 := by omega
          clear hta HI
          have hcall := name_child lab xB wr
          rw [hch] at hcall
          have HCL := Lib.hid hcall
          have HLB := Lib.hid hlab
          clear hcall hch hlab
          go_wp2_with (go_at_call 12; refine HCL.out.mono ?_; rintro e w1 ⟨rfl, hb1⟩; replace hb1 := Lib.hid hb1; simp only [])
          have HC1 := Lib.hid (show ChR z u4 u5 w1 ∧ Below w.heap.size w w1 from ⟨HC.out.1.below hb1.out, HC.out.2.trans (hb1.out.mono HC.out.2.size)⟩)
          clear c0 c1 HCL hb1 HC
          go_loopw [9, 10] (fun ov kk wr2 => ∃ (m : Nat) (ns : List Nat), kk = .int .i64 m ∧ m ≤ tys.length ∧ Hid (ownOk ns) ∧ Hid (OwnI w1.heap.size ov (nI ns) wr2 ∧ Below w1.heap.size w1 wr2)) (fun _ kk _ => tys.length - (intOf kk).toNat)
          case atStart => exact ⟨0, [], rfl, Nat.zero_le _, Lib.hid ownOk_nil, Lib.hid ⟨OwnI.nil _ _, Below.refl _ _⟩⟩
          case round =>
            obtain ⟨m, ns, rfl, hm, HO, HW⟩ := hrel
            have c1 : wr.cell? ⟨g, fo + j * 2 + 1, none⟩ = some (.slice TA tys.length tc) := by
              rw [(HC1.out.2.trans (HW.out.2.mono HC1.out.2.size)).cell (p := ⟨g, fo + j * 2 + 1, none⟩) HG.out.1]; exact HG.out.2
            by_cases hlt2 : m < tys.length
            · obtain ⟨g2, f2, rfl, hg2, hc2⟩ := HTA.out (by omega)
              have c2 : wr.cell? ⟨g2, f2 + m, none⟩ = some (.int .i64 tys[m]) := by
                rw [(HC1.out.2.trans (HW.out.2.mono HC1.out.2.size)).cell (p := ⟨g2, f2 + m, none⟩) hg2]; exact hc2 m hlt2
              clear hc2 hg2
              generalize tys[m] = t at c2
              have r1 : (m : Int) < (tys.length : Int) := by omega
              obtain ⟨OA, oc, rfl⟩ := OwnI.len HW.out.1
              rw [nI_len] at HW ⊢
              by_cases a1 : (2 : Int) < t
              case neg =>
                go_wp2_with fail
                go_roundw
                case rel => exact ⟨m + 1, ns, by go_num, by omega, HO, HW⟩
                case measure => simp [intOf]; omega
              case pos =>
                obtain ⟨tn, rfl⟩ : ∃ tn : Nat, t = (tn : Int) := ⟨t.toNat, by omega⟩
                have b1 : 2 < tn := by omega
                by_cases a2 : tn < 300
                case neg =>
                  have b2 : ¬ ((tn : Int) < 300) := by omega
                  go_wp2_with fail
                  go_roundw
                  case rel => exact ⟨m + 1, ns, by go_num, by omega, HO, HW⟩
                  case measure => simp [intOf]; omega
                case pos =>
                  have b2 : (tn : Int) < 300 := by omega
                  by_cases a3 : tn = 6
                  case pos =>
                    subst a3
                    rw [show ((6 : Nat) : Int) = 6 from rfl] at *
                    go_wp2_with fail
                    go_roundw
                    case rel => exact ⟨m + 1, ns, by go_num, by omega, HO, HW⟩
                    case measure => simp [intOf]; omega
                  case neg =>
                    have b3 : ((tn : Int) != 6) = true := by rw [bne_iff_ne]; omega
                    by_cases a4 : tn = 39
                    case pos =>
                      subst a4
                      rw [show ((39 : Nat) : Int) = 39 from rfl] at *
                      go_wp2_with fail
                      go_roundw
                      case rel => exact ⟨m + 1, ns, by go_num, by omega, HO, HW⟩
                      case measure => simp [intOf]; omega
                    case neg =>
                      have b4 : ((tn : Int) != 39) = true := by rw [bne_iff_ne]; omega
                      have HBS := Lib.hid (show w1.heap.size ≤ wr.heap.size from HW.out.2.size)
                      have HLN := Lib.hid (show (nI ns).length + 1 ≤ 1000000 by rw [nI_len]; have := own_len HO.out; omega)
                      have HBN := Lib.hid (And.intro b1 (And.intro a2 (And.intro a3 a4)))
                      by_cases h0 : ns.length = 0
                      case pos =>
                        have e0 : ((ns.length : Int) == 0) = true := by rw [h0]; rfl
                        have HSN := Lib.hid (show ownOk (ns ++ [tn]) from ownOk_snoc HO.out b1 a2 a3 a4 fun i hi _ => by omega)
                        clear h0 a3 a4 a1
                        go_wp2_with (at_builtin; refine ownI_append HW.out.1 HW.out.2 HBS.out (tn : Int) HLN.out rfl _ _ rfl _ _ _ rfl rfl rfl rfl ?_; intro v1 w3 k1 k2 k3; have HN := Lib.hid (And.intro k1 k2); clear k1 k2 k3)
                        go_roundw
                        case rel => exact ⟨m + 1, ns ++ [tn], by go_num, by omega, HSN, Lib.hid ⟨by rw [nI_append]; exact HN.out.1, HN.out.2⟩⟩
                        case measure => simp [intOf]; omega
                      case neg =>
                        obtain ⟨q, hq⟩ : ∃ q, ns.length = q + 1 := ⟨ns.length - 1, by omega⟩
                        have e0 : ((ns.length : Int) == 0) = false := by rw [beq_eq_false_iff_ne]; omega
                        have h300 := own_len HO.out
                        have h300i : (ns.length : Int) ≤ 300 := by omega
                        have hqi : (ns.length : Int) - 1 = (q : Int) := by omega
                        have hql : q < ns.length := by omega
                        have hqli : (q : Int) < (ns.length : Int) := by omega
                        obtain ⟨g3, f3, rfl, hg3, hc3⟩ := nI_at (ns := ns) HW.out.1.ints (Below.refl _ wr) (by omega)
                        have c3 := hc3 q hql
                        have hgl : ns.getD q 0 = ns[q] := by rw [List.getD, List.getElem?_eq_getElem hql]; rfl
                        generalize ns[q] = lastn at c3 hgl
                        have HGL := Lib.hid hgl; have HQ := Lib.hid hq
                        clear hc3 hgl h0 a3 a4 a1
                        by_cases a5 : lastn < tn
                        case neg =>
                          have b5 : ¬ ((lastn : Int) < (tn : Int)) := by omega
                          clear hq
                          go_wp2_with fail
                          go_roundw
                          case rel => exact ⟨m + 1, ns, by go_num, by omega, HO, HW⟩
                          case measure => simp [intOf]; omega
                        case pos =>
                          have b5 : (lastn : Int) < (tn : Int) := by omega
                          have HSN := Lib.hid (show ownOk (ns ++ [tn]) from ownOk_snoc HO.out HBN.out.1 HBN.out.2.1 HBN.out.2.2.1 HBN.out.2.2.2 fun i hi he => by rw [show i = q by omega, HGL.out]; exact a5)
                          clear hq
                          go_wp2_with (at_builtin; refine ownI_append HW.out.1 HW.out.2 HBS.out (tn : Int) HLN.out rfl _ _ rfl _ _ _ rfl rfl rfl rfl ?_; intro v1 w3 k1 k2 k3; have HN := Lib.hid (And.intro k1 k2); clear k1 k2 k3)
                          go_roundw
                          case rel => exact ⟨m + 1, ns ++ [tn], by go_num, by omega, HSN, Lib.hid ⟨by rw [nI_append]; exact HN.out.1, HN.out.2⟩⟩
                          case measure => simp [intOf]; omega
            · obtain rfl : m = tys.length := by omega
              obtain ⟨UA, uc, rfl⟩ := OwnI.len HW.out.1
              rw [nI_len] at HW ⊢
              have hC := HC1.out.1.below (HW.out.2.mono (Nat.le_refl _))
              have hI := HW.out.1.ints
              have hB := HC1.out.2.trans (HW.out.2.mono HC1.out.2.size)
              have HC2 := Lib.hid (And.intro hC hB)
              obtain ⟨hs, hc1, hc2, ps, hps, hv, hpi⟩ := hC
              obtain ⟨An, cn, rfl, hsn⟩ := hs
              obtain ⟨At, ct, rfl, hvn⟩ := hv
              have hzp := HZ.out.1.pos
              have hpl : ps.length = z.length := by have := congrArg List.length hps; simpa using this
              obtain ⟨gn, fn, rfl, hgn, hcn⟩ := hsn (by simpa using hzp)
              obtain ⟨gt, ft, rfl, hgt, hct⟩ := hvn (by simpa [hpl] using hzp)
              have hcap1 : z.length ≤ cn := by simpa [capOk] using hc1
              have hcap2 : z.length ≤ ct := by simpa [capOk, hpl] using hc2
              have HCN := Lib.hid (show ∀ W, Below wr.heap.size wr W → ∀ i (h : i < z.length), W.cell? ⟨gn, fn + i, none⟩ = some (.string (nm z i)) from fun W hW i hi => by
                rw [hW.cell (p := ⟨gn, fn + i, none⟩) hgn, hcn i (by simpa using hi), nm, List.getD, List.getElem?_eq_getElem hi]; simp)
              have HCT := Lib.hid (show ∀ W, Below wr.heap.size wr W → ∀ i (h : i < ps.length), W.cell? ⟨gt, ft + i, none⟩ = some ps[i].1 from fun W hW i hi => by
                rw [hW.cell (p := ⟨gt, ft + i, none⟩) hgt, hct i (by simpa using hi)]; simp)
              have HPI := Lib.hid hpi; have HPS := Lib.hid hps; have HII := Lib.hid hI; have HBB := Lib.hid hB; have HPL := Lib.hid hpl
              have HHG := Lib.hid (And.intro hgn hgt)
              have hz13 : z.length ≤ 13 := by have := HZ.out.2; omega
              have hz13i : (z.length : Int) ≤ 13 := by omega
              have hcap1i : (z.length : Int) ≤ (cn : Int) := by omega
              have hcap2i : (z.length : Int) ≤ (ct : Int) := by omega
              rw [List.length_map] at HC1 HC2 ⊢
              rw [List.length_map, hpl] at HC1 HC2 ⊢
              clear hsn hvn hgn hgt hcn hct hc1 hc2 hpi hps hI hB hpl HTA HW hm
              go_wp2_with fail
              clear c1
              obtain ⟨W2, rfl⟩ : ∃ W2, W2 = wr := ⟨_, rfl⟩
              go_loopw [12] (fun a wr3 => ∃ (k : Nat), a = .int .i64 k ∧ k ≤ z.length ∧ Hid (∀ i, i < k → nameCmp (nm z i) (kid lab) < 0) ∧ Hid (Below W2.heap.size W2 wr3)) (fun a _ => z.length - (intOf a).toNat)
              case atStart => exact ⟨0, rfl, Nat.zero_le _, Lib.hid (fun i hi => by omega), Lib.hid (Below.refl _ _)⟩
              case round =>
                obtain ⟨k, rfl, hk, HK, HB⟩ := hrel
                have hki : (k : Int) ≤ (z.length : Int) := by omega
                by_cases hlt3 : k < z.length
                · have r1 : (k : Int) < (z.length : Int) := by omega
                  have cn0 := HCN.out _ HB.out k hlt3
                  have hcmp := name_compare (nm z k) (kid lab) wr
                  unfold CmpP at hcmp
                  obtain ⟨r, hr⟩ : ∃ r, nameCmp (nm z k) (kid lab) = r := ⟨_, rfl⟩
                  rw [hr] at hcmp
                  have HCL := Lib.hid hcmp
                  by_cases hr0 : r < 0
                  · have HK2 := Lib.hid (show ∀ i, i < k + 1 → nameCmp (nm z i) (kid lab) < 0 from fun i hi => by
                      rcases Nat.lt_or_eq_of_le (Nat.le_of_lt_succ hi) with h | h
                      · exact HK.out i h
                      · rw [h, hr]; exact hr0)
                    clear hcmp hr
                    go_wp2_with (go_at_call 17; refine HCL.out.mono ?_; rintro e w3 ⟨rfl, hb3⟩; replace hb3 := Lib.hid (HB.out.trans (hb3.mono HB.out.size)); simp only [])
                    go_roundw
                    case rel => exact ⟨k + 1, by go_num, by omega, HK2, hb3⟩
                    case measure => simp [intOf]; omega
                  · have heq := fun W => name_equal (nm z k) (kid lab) W
                    have HRN := Lib.hid (show ¬ nameCmp (nm z k) (kid lab) < 0 by rw [hr]; exact hr0)
                    clear hcmp hr
                    cases he : nameEq (nm z k) (kid lab) with
                    | true =>
                      rw [he] at heq
                      have HEQ := Lib.hid heq
                      clear heq he
                      go_wp2_with (first
                        | (go_at_call 17; refine HCL.out.mono ?_; rintro e w3 ⟨rfl, hb3⟩; replace hb3 := Lib.hid (HB.out.trans (hb3.mono HB.out.size)); have cn1 := HCN.out _ hb3.out k hlt3; simp only [])
                        | (go_at_call 7; refine (HEQ.out _).mono ?_; rintro e w4 ⟨rfl, hb4⟩; replace hb4 := Lib.hid (hb3.out.trans (hb4.mono hb3.out.size)); simp only []))
                      go_roundw
                      case rel => exact ⟨j + 1, z, by go_num, by omega, by omega, Lib.hid ⟨HZ.out.1, by have := HZ.out.2; omega⟩, Lib.hid ⟨HC2.out.1.below hb4.out, HC2.out.2.trans (hb4.out.mono HC2.out.2.size)⟩⟩
                      case measure => simp [intOf]; omega
                    | false =>
                      rw [he] at heq
                      have HEQ := Lib.hid heq
                      have HAA := Lib.hid (show k < z.length → ¬ nameCmp (nm z k) (kid lab) < 0 ∧ nameEq (nm z k) (kid lab) = false from fun _ => ⟨HRN.out, he⟩)
                      clear heq he
                      go_wp2_with (first
                        | (go_at_call 17; refine HCL.out.mono ?_; rintro e w3 ⟨rfl, hb3⟩; replace hb3 := Lib.hid (HB.out.trans (hb3.mono HB.out.size)); have cn1 := HCN.out _ hb3.out k hlt3; simp only [])
                        | (go_at_call 7; refine (HEQ.out _).mono ?_; rintro e w4 ⟨rfl, hb4⟩; replace hb4 := Lib.hid (hb3.out.trans (hb4.mono hb3.out.size)); simp only [])
                        | (at_builtin; refine (Hid.out (p := _) ?_)))
                      refine Lib.hid ?_
                      have HSZ := Lib.hid (show W2.heap.size ≤ w4.heap.size from hb4.out.size)
                      obtain ⟨L1, hL1⟩ : ∃ L1, L1 = (z.map (·.1)).take k := ⟨_, rfl⟩
                      obtain ⟨L3, hL3⟩ : ∃ L3, L3 = (z.map (·.1)).drop k := ⟨_, rfl⟩
                      obtain ⟨M1, hM1⟩ : ∃ M1, M1 = (ps.map (·.1)).take k := ⟨_, rfl⟩
                      obtain ⟨M3, hM3⟩ : ∃ M3, M3 = (ps.map (·.1)).drop k := ⟨_, rfl⟩
                      have l1 : L1.length = k := by rw [hL1, List.length_take, List.length_map]; omega
                      have l3 : L3.length = z.length - k := by rw [hL3, List.length_drop, List.length_map]
                      have m1 : M1.length = k := by rw [hM1, List.length_take, List.length_map]; have := HPL.out; omega
                      have m3 : M3.length = z.length - k := by rw [hM3, List.length_drop, List.length_map]; have := HPL.out; omega
                      have HL1 := Lib.hid hL1; have HL3 := Lib.hid hL3; have HM1 := Lib.hid hM1; have HM3 := Lib.hid hM3
                      have Hl := Lib.hid (And.intro l1 (And.intro l3 (And.intro m1 m3)))
                      clear hL1 hL3 hM1 hM3 l1 l3 m1 m3
                      refine rowS_app (OwnS.nil W2.heap.size _) HSZ.out L1 gn _ _ _ (by have := Hl.out.1; omega) (fun i hi => ?_) (by have := Hl.out.1; simp; omega) rfl _ _ rfl rfl rfl ?_
                      · have hi2 : i < z.length := by have := Hl.out.1; omega
                        rw [HCN.out _ hb4.out i hi2]
                        have hi3 := hi
                        rw [HL1.out] at hi3
                        have e := take_nm z k i hi3
                        simp only [HL1.out]
                        rw [e]
                      intro v1 y1 h1 h2
                      generalize hN1 : [] ++ L1 = N1 at h1
                      have HN1 := Lib.hid hN1
                      obtain ⟨A1, e1, rfl⟩ := OwnS.len h1
                      have H1 := Lib.hid (And.intro h1 (hb4.out.trans h2))
                      clear hN1
                      clear h1 h2
                      go_wp2_with (at_builtin; refine (Hid.out (p := _) ?_))
                      refine Lib.hid ?_
                      refine rowS_app (World.ownsRow.alloc H1.out.1 _) (by have := H1.out.2.size; simp; omega) [kid lab] y1.heap.size 0 _ _ rfl (fun i hi => ?_) (by have := Hl.out.1; have e := congrArg List.length HN1.out; simp at e; simp; omega) rfl _ _ rfl rfl rfl ?_
                      · obtain rfl : i = 0 := by simpa using hi
                        exact (Blk.new y1 _ _).cell 0
                      intro v2 y2 h1 h2
                      generalize hN2 : N1 ++ [kid lab] = N2 at h1
                      have HN2 := Lib.hid hN2
                      obtain ⟨A2, e2, rfl⟩ := OwnS.len h1
                      have H2 := Lib.hid (And.intro h1 ((H1.out.2.trans ((Below.refl _ y1).alloc H1.out.2.size _)).trans h2))
                      clear hN2
                      clear h1 h2
                      go_wp2_with (at_builtin; refine (Hid.out (p := _) ?_))
                      refine Lib.hid ?_
                      refine rowS_app H2.out.1 H2.out.2.size L3 gn _ _ _ (by have := Hl.out.2.1; omega) (fun i hi => ?_) (by have := Hl.out; have e := congrArg List.length HN1.out; have e2 := congrArg List.length HN2.out; simp at e e2; omega) rfl _ _ rfl rfl rfl ?_
                      · first
                          | (exfalso; have := Hl.out.2.1; omega)
                          | (have hi2 : k + i < z.length := by have := Hl.out.2.1; omega
                             rw [Nat.add_assoc, HCN.out _ H2.out.2 (k + i) hi2]
                             have hi3 := hi
                             rw [HL3.out] at hi3
                             have e := drop_nm z k i hi3
                             simp only [HL3.out]
                             rw [e])
                      intro v3 y3 h1 h2
                      generalize hN3 : N2 ++ L3 = N3 at h1
                      have HN3 := Lib.hid hN3
                      obtain ⟨A3, e3, rfl⟩ := OwnS.len h1
                      have H3 := Lib.hid (And.intro h1 (H2.out.2.trans h2))
                      clear hN3
                      clear h1 h2
                      go_wp2_with (at_builtin; refine (Hid.out (p := _) ?_))
                      refine Lib.hid ?_
                      refine rowV_app (OwnV.nil y3.heap.size _) (Nat.le_refl _) M1 gt _ _ _ (by have := Hl.out.2.2.1; omega) (fun i hi => ?_) (fun u hu => ?_) (by have := Hl.out.2.2.1; simp; omega) rfl _ _ rfl rfl rfl ?_
                      · have hi2 : i < ps.length := by have := Hl.out.2.2.1; have := HPL.out; omega
                        rw [HCT.out _ H3.out.2 i hi2]
                        simp only [HM1.out, List.getElem_take, List.getElem_map]
                      · rw [HM1.out] at hu
                        obtain ⟨p, hp, rfl⟩ := List.mem_map.1 (List.mem_of_mem_take hu)
                        exact (HPI.out p hp).one
                      intro v4 y4 h1 h2
                      generalize hN4 : [] ++ M1 = N4 at h1
                      have HN4 := Lib.hid hN4
                      obtain ⟨A4, e4, rfl, _⟩ := OwnV.len h1
                      have H4 := Lib.hid (And.intro h1 (And.intro (H3.out.2.trans (h2.mono H3.out.2.size)) h2))
                      clear hN4
                      clear h1 h2
                      go_wp2_with (at_builtin; refine (Hid.out (p := _) ?_))
                      refine Lib.hid ?_
                      refine rowV_app (World.ownsRow.alloc H4.out.1 _) (by have := H4.out.2.2.size; simp; omega) [.slice UA ns.length uc] y4.heap.size 0 _ _ rfl (fun i hi => ?_) (fun u hu => by rw [List.mem_singleton.1 hu]; rfl) (by have := Hl.out.2.2.1; have e := congrArg List.length HN4.out; simp at e; simp; omega) rfl _ _ rfl rfl rfl ?_
                      · obtain rfl : i = 0 := by simpa using hi
                        exact (Blk.new y4 _ _).cell 0
                      intro v5 y5 h1 h2
                      generalize hN5 : N4 ++ [.slice UA ns.length uc] = N5 at h1
                      have HN5 := Lib.hid hN5
                      obtain ⟨A5, e5, rfl, _⟩ := OwnV.len h1
                      have ha5 := (Below.refl _ y4).alloc H4.out.2.2.size (.cells #[.slice UA ns.length uc] 32)
                      have H5 := Lib.hid (And.intro h1 (And.intro (H4.out.2.1.trans ((ha5.trans h2).mono H3.out.2.size)) ((H4.out.2.2.trans ha5).trans h2)))
                      clear hN5 ha5
                      clear h1 h2
                      go_wp2_with (at_builtin; refine (Hid.out (p := _) ?_))
                      refine Lib.hid ?_
                      refine rowV_app H5.out.1 H5.out.2.2.size M3 gt _ _ _ (by have := Hl.out.2.2.2; omega) (fun i hi => ?_) (fun u hu => ?_) (by have := Hl.out; have e := congrArg List.length HN4.out; have e2 := congrArg List.length HN5.out; simp at e e2; omega) rfl _ _ rfl rfl rfl ?_
                      · first
                          | (exfalso; have := Hl.out.2.2.2; omega)
                          | (have hi2 : k + i < ps.length := by have := Hl.out.2.2.2; have := HPL.out; omega
                             rw [Nat.add_assoc, HCT.out _ H5.out.2.1 (k + i) hi2]
                             simp only [HM3.out, List.getElem_drop, List.getElem_map])
                      · rw [HM3.out] at hu
                        obtain ⟨p, hp, rfl⟩ := List.mem_map.1 (List.mem_of_mem_drop hu)
                        exact (HPI.out p hp).one
                      intro v6 y6 h1 h2
                      have HR := Lib.hid (show ChR (insZ z k (kid lab, ns)) (.slice A3 N3.length e3) v6 y6 ∧ Below w.heap.size w y6 from by
                        have hb6 := H5.out.2.1.trans (h2.mono H3.out.2.size)
                        refine ⟨ChR.ins (b1 := W2.heap.size) (b2 := y3.heap.size) (W2 := W2) (B := y3) HPS.out HPI.out HII.out hb6 ?_ (H5.out.2.2.trans h2) ?_, HC2.out.2.trans (hb6.mono HC2.out.2.size)⟩
                        · rw [← HL1.out, ← HL3.out, HN1.out, HN2.out, HN3.out]; exact H3.out.1
                        · rw [← HM1.out, ← HM3.out, HN4.out, HN5.out]; exact h1)
                      clear h1 h2
                      have HZI := Lib.hid (show Zone (insZ z k (kid lab, ns)) ∧ (insZ z k (kid lab, ns)).length ≤ j + 1 + 1 from ⟨HZ.out.1.ins HLB.out HO.out hk HK.out (fun h => by first | exact absurd h (Nat.lt_irrefl _) | exact ⟨by have := (HAA.out h).1; omega, (HAA.out h).2⟩), by rw [insZ_len _ _ _ hk]; have := HZ.out.2; omega⟩)
                      go_wp2_with fail
                      go_roundw
                      case rel => exact ⟨j + 1, insZ z k (kid lab, ns), by go_num, by omega, by omega, HZI, HR⟩
                      case measure => simp [intOf]; omega
                · have HAA := Lib.hid (show k < z.length → ¬ nameCmp (nm z k) (kid lab) < 0 ∧ nameEq (nm z k) (kid lab) = false from fun h => absurd h hlt3)
                  obtain rfl : k = z.length := by omega
                  by_cases k1 : cn = z.length
                  all_goals by_cases k2 : ct = z.length
                  all_goals
                    go_wp2_with (at_builtin; refine (Hid.out (p := _) ?_))
                    refine Lib.hid ?_
                    have HSZ := Lib.hid (show W2.heap.size ≤ wr.heap.size from HB.out.size)
                    obtain ⟨L1, hL1⟩ : ∃ L1, L1 = (z.map (·.1)).take z.length := ⟨_, rfl⟩
                    obtain ⟨L3, hL3⟩ : ∃ L3, L3 = (z.map (·.1)).drop z.length := ⟨_, rfl⟩
                    obtain ⟨M1, hM1⟩ : ∃ M1, M1 = (ps.map (·.1)).take z.length := ⟨_, rfl⟩
                    obtain ⟨M3, hM3⟩ : ∃ M3, M3 = (ps.map (·.1)).drop z.length := ⟨_, rfl⟩
                    have l1 : L1.length = z.length := by rw [hL1, List.length_take, List.length_map]; omega
                    have l3 : L3.length = z.length - z.length := by rw [hL3, List.length_drop, List.length_map]
                    have m1 : M1.length = z.length := by rw [hM1, List.length_take, List.length_map]; have := HPL.out; omega
                    have m3 : M3.length = z.length - z.length := by rw [hM3, List.length_drop, List.length_map]; have := HPL.out; omega
                    have HL1 := Lib.hid hL1; have HL3 := Lib.hid hL3; have HM1 := Lib.hid hM1; have HM3 := Lib.hid hM3
                    have Hl := Lib.hid (And.intro l1 (And.intro l3 (And.intro m1 m3)))
                    clear hL1 hL3 hM1 hM3 l1 l3 m1 m3
                    refine rowS_app (OwnS.nil W2.heap.size _) HSZ.out L1 gn _ _ _ (by have := Hl.out.1; omega) (fun i hi => ?_) (by have := Hl.out.1; simp; omega) rfl _ _ rfl rfl rfl ?_
                    · have hi2 : i < z.length := by have := Hl.out.1; omega
                      rw [HCN.out _ HB.out i hi2]
                      have hi3 := hi
                      rw [HL1.out] at hi3
                      have e := take_nm z z.length i hi3
                      simp only [HL1.out]
                      rw [e]
                    intro v1 y1 h1 h2
                    generalize hN1 : [] ++ L1 = N1 at h1
                    have HN1 := Lib.hid hN1
                    obtain ⟨A1, e1, rfl⟩ := OwnS.len h1
                    have H1 := Lib.hid (And.intro h1 (HB.out.trans h2))
                    clear hN1
                    clear h1 h2
                    go_wp2_with (at_builtin; refine (Hid.out (p := _) ?_))
                    refine Lib.hid ?_
                    refine rowS_app (World.ownsRow.alloc H1.out.1 _) (by have := H1.out.2.size; simp; omega) [kid lab] y1.heap.size 0 _ _ rfl (fun i hi => ?_) (by have := Hl.out.1; have e := congrArg List.length HN1.out; simp at e; simp; omega) rfl _ _ rfl rfl rfl ?_
                    · obtain rfl : i = 0 := by simpa using hi
                      exact (Blk.new y1 _ _).cell 0
                    intro v2 y2 h1 h2
                    generalize hN2 : N1 ++ [kid lab] = N2 at h1
                    have HN2 := Lib.hid hN2
                    obtain ⟨A2, e2, rfl⟩ := OwnS.len h1
                    have H2 := Lib.hid (And.intro h1 ((H1.out.2.trans ((Below.refl _ y1).alloc H1.out.2.size _)).trans h2))
                    clear hN2
                    clear h1 h2
                    go_wp2_with (at_builtin; refine (Hid.out (p := _) ?_))
                    refine Lib.hid ?_
                    refine rowS_app H2.out.1 H2.out.2.size L3 gn _ _ _ (by have := Hl.out.2.1; omega) (fun i hi => ?_) (by have := Hl.out; have e := congrArg List.length HN1.out; have e2 := congrArg List.length HN2.out; simp at e e2; omega) rfl _ _ rfl rfl rfl ?_
                    · first
                        | (exfalso; have := Hl.out.2.1; omega)
                        | (have hi2 : z.length + i < z.length := by have := Hl.out.2.1; omega
                           rw [Nat.add_assoc, HCN.out _ H2.out.2 (z.length + i) hi2]
                           have hi3 := hi
                           rw [HL3.out] at hi3
                           have e := drop_nm z z.length i hi3
                           simp only [HL3.out]
                           rw [e])
                    intro v3 y3 h1 h2
                    generalize hN3 : N2 ++ L3 = N3 at h1
                    have HN3 := Lib.hid hN3
                    obtain ⟨A3, e3, rfl⟩ := OwnS.len h1
                    have H3 := Lib.hid (And.intro h1 (H2.out.2.trans h2))
                    clear hN3
                    clear h1 h2
                    go_wp2_with (at_builtin; refine (Hid.out (p := _) ?_))
                    refine Lib.hid ?_
                    refine rowV_app (OwnV.nil y3.heap.size _) (Nat.le_refl _) M1 gt _ _ _ (by have := Hl.out.2.2.1; omega) (fun i hi => ?_) (fun u hu => ?_) (by have := Hl.out.2.2.1; simp; omega) rfl _ _ rfl rfl rfl ?_
                    · have hi2 : i < ps.length := by have := Hl.out.2.2.1; have := HPL.out; omega
                      rw [HCT.out _ H3.out.2 i hi2]
                      simp only [HM1.out, List.getElem_take, List.getElem_map]
                    · rw [HM1.out] at hu
                      obtain ⟨p, hp, rfl⟩ := List.mem_map.1 (List.mem_of_mem_take hu)
                      exact (HPI.out p hp).one
                    intro v4 y4 h1 h2
                    generalize hN4 : [] ++ M1 = N4 at h1
                    have HN4 := Lib.hid hN4
                    obtain ⟨A4, e4, rfl, _⟩ := OwnV.len h1
                    have H4 := Lib.hid (And.intro h1 (And.intro (H3.out.2.trans (h2.mono H3.out.2.size)) h2))
                    clear hN4
                    clear h1 h2
                    go_wp2_with (at_builtin; refine (Hid.out (p := _) ?_))
                    refine Lib.hid ?_
                    refine rowV_app (World.ownsRow.alloc H4.out.1 _) (by have := H4.out.2.2.size; simp; omega) [.slice UA ns.length uc] y4.heap.size 0 _ _ rfl (fun i hi => ?_) (fun u hu => by rw [List.mem_singleton.1 hu]; rfl) (by have := Hl.out.2.2.1; have e := congrArg List.length HN4.out; simp at e; simp; omega) rfl _ _ rfl rfl rfl ?_
                    · obtain rfl : i = 0 := by simpa using hi
                      exact (Blk.new y4 _ _).cell 0
                    intro v5 y5 h1 h2
                    generalize hN5 : N4 ++ [.slice UA ns.length uc] = N5 at h1
                    have HN5 := Lib.hid hN5
                    obtain ⟨A5, e5, rfl, _⟩ := OwnV.len h1
                    have ha5 := (Below.refl _ y4).alloc H4.out.2.2.size (.cells #[.slice UA ns.length uc] 32)
                    have H5 := Lib.hid (And.intro h1 (And.intro (H4.out.2.1.trans ((ha5.trans h2).mono H3.out.2.size)) ((H4.out.2.2.trans ha5).trans h2)))
                    clear hN5 ha5
                    clear h1 h2
                    go_wp2_with (at_builtin; refine (Hid.out (p := _) ?_))
                    refine Lib.hid ?_
                    refine rowV_app H5.out.1 H5.out.2.2.size M3 gt _ _ _ (by have := Hl.out.2.2.2; omega) (fun i hi => ?_) (fun u hu => ?_) (by have := Hl.out; have e := congrArg List.length HN4.out; have e2 := congrArg List.length HN5.out; simp at e e2; omega) rfl _ _ rfl rfl rfl ?_
                    · first
                        | (exfalso; have := Hl.out.2.2.2; omega)
                        | (have hi2 : z.length + i < ps.length := by have := Hl.out.2.2.2; have := HPL.out; omega
                           rw [Nat.add_assoc, HCT.out _ H5.out.2.1 (z.length + i) hi2]
                           simp only [HM3.out, List.getElem_drop, List.getElem_map])
                    · rw [HM3.out] at hu
                      obtain ⟨p, hp, rfl⟩ := List.mem_map.1 (List.mem_of_mem_drop hu)
                      exact (HPI.out p hp).one
                    intro v6 y6 h1 h2
                    have HR := Lib.hid (show ChR (insZ z z.length (kid lab, ns)) (.slice A3 N3.length e3) v6 y6 ∧ Below w.heap.size w y6 from by
                      have hb6 := H5.out.2.1.trans (h2.mono H3.out.2.size)
                      refine ⟨ChR.ins (b1 := W2.heap.size) (b2 := y3.heap.size) (W2 := W2) (B := y3) HPS.out HPI.out HII.out hb6 ?_ (H5.out.2.2.trans h2) ?_, HC2.out.2.trans (hb6.mono HC2.out.2.size)⟩
                      · rw [← HL1.out, ← HL3.out, HN1.out, HN2.out, HN3.out]; exact H3.out.1
                      · rw [← HM1.out, ← HM3.out, HN4.out, HN5.out]; exact h1)
                    clear h1 h2
                    have HZI := Lib.hid (show Zone (insZ z z.length (kid lab, ns)) ∧ (insZ z z.length (kid lab, ns)).length ≤ j + 1 + 1 from ⟨HZ.out.1.ins HLB.out HO.out hk HK.out (fun h => by first | exact absurd h (Nat.lt_irrefl _) | exact ⟨by have := (HAA.out h).1; omega, (HAA.out h).2⟩), by rw [insZ_len _ _ _ hk]; have := HZ.out.2; omega⟩)
                    go_wp2_with fail
                    go_roundw
                    case rel => exact ⟨j + 1, insZ z z.length (kid lab, ns), by go_num, by omega, by omega, HZI, HR⟩
                    case measure => simp [intOf]; omega
      · obtain rfl : j = 12 := by omega
        have q1 : (12 : Int) < (l.length : Int) := by omega
        rw [show ((12 : Nat) : Int) = 12 from rfl]
        go_wp2_with fail
        go_ret2
        exact ⟨z, _, _, HZ.out.1, HZ.out.2, rfl, HC.out.1, HC.out.2⟩
    · obtain rfl : j = l.length := by omega
      go_wp2_with fail
      go_ret2
      exact ⟨z, _, _, HZ.out.1, by have := HZ.out.2; omega, rfl, HC.out.1, HC.out.2⟩
end Go.Proofs.YtdflhnbpcnmpfaaGreatDoor

/- guidepostlaw09.has. -/
namespace Go.Proofs.YtdflhnbpcnmpfaaGreatDoor
open Go.RowKit

set_option maxRecDepth 100000 in
theorem law_has (A : Option Addr) (c : Nat) (ns : List Nat) (k : Int) (w : World) (h : IntsAt (.slice A ns.length c) (nI ns) w) (hn : ns.length ≤ 1000) :
    Calls Tryz.prog 11 #[.slice A ns.length c, .int .i64 k] w fun e w' => e = .returned (.bool ((nI ns).contains k)) ∧ w = w' := by
  have HI := Lib.hid h
  have hni : (ns.length : Int) ≤ 1000 := by omega
  clear h
  go_enter Tryz.func11, Tryz.ntmps11
  go_wp2_with fail
  go_loopw [5] (fun i wr => ∃ j : Nat, j ≤ ns.length ∧ i = .int .i64 j ∧ Hid (∀ x ∈ (nI ns).take j, (x == k) = false) ∧ wr = w) (fun i _ => ns.length - (intOf i).toNat)
  case atStart => exact ⟨0, Nat.zero_le _, rfl, Lib.hid (fun x hx => by simp at hx), rfl⟩
  case round =>
    obtain ⟨j, hj, rfl, HN, rfl⟩ := hrel
    by_cases hlt : j < ns.length
    · obtain ⟨g, o, rfl, hg, hc⟩ := nI_at HI.out (Below.refl _ _) (by omega)
      have c0 := hc j hlt
      have q1 : (j : Int) < (ns.length : Int) := by omega
      have hjI : j < (nI ns).length := by rw [nI_len]; exact hlt
      have hget : (nI ns)[j] = (ns[j] : Int) := by simp [nI]
      have htk := List.take_succ_eq_append_getElem hjI
      have hmem := List.getElem_mem hjI
      rw [hget] at htk hmem
      clear hget
      generalize ns[j] = x at c0 htk hmem
      cases hq : ((x : Int) == k) with
      | true =>
        have hres : (nI ns).contains k = true := by
          rw [List.contains_iff_mem, ← eq_of_beq hq]; exact hmem
        have HR := Lib.hid hres
        clear hc hg htk hmem hres hjI
        go_wp2_with fail
        go_ret

        exact ⟨by rw [HR.out]; rfl, rfl⟩
      | false =>
        have hn2 : ∀ y ∈ (nI ns).take (j + 1), (y == k) = false := fun y hy => by
          rw [htk] at hy
          rcases List.mem_append.1 hy with h | h
          · exact HN.out y h
          · rw [List.mem_singleton.1 h]; exact hq
        have HN2 := Lib.hid hn2
        clear hc hg htk hmem hn2 hjI
        go_wp2_with fail
        go_roundw
        case rel => exact ⟨j + 1, by omega, by go_num, HN2, trivial⟩
        case measure => simp [intOf]; omega
    · obtain rfl : j = ns.length := by omega
      have hres : (nI ns).contains k = false := by
        have h1 := HN.out
        rw [← nI_len, List.take_length] at h1
        rw [Bool.eq_false_iff]
        intro h2
        have := h1 k (List.contains_iff_mem.1 h2)
        simp at this
      have HR := Lib.hid hres
      clear hres
      go_wp2_with fail
      go_ret
      exact ⟨by rw [HR.out]; rfl, rfl⟩
end Go.Proofs.YtdflhnbpcnmpfaaGreatDoor

/- guidepostlaw09.signedBy. -/
namespace Go.Proofs.YtdflhnbpcnmpfaaGreatDoor
open Go.RowKit

theorem info_setA : (Tryz.prog.info? 40).map (fun i => (i.zero, i.size, i.bytes)) = some (some (.agg #[.string ⟨#[]⟩, .int .i64 0, .int .i64 0, .int .i64 0, .slice none 0 0, .slice none 0 0]), 6, 88) := by kernel_rfl
/-- The cells of the sets that are told so far. -/
def SetCells (z : List (ByteArray × List Nat)) (W : World) : Nat → List Value → Prop
  | 0, xs => xs = []
  | j + 1, xs => ∃ dv ys, xs = ys ++ ((nsecSet (nm z j) (nm z (nxt z j)) (ty z j)).cells dv (.slice none 0 0)).toList ∧ OwnS 0 dv [nsecB (nm z (nxt z j)) (ty z j)] W ∧ SetCells z W j ys
theorem SetCells.len {z : List (ByteArray × List Nat)} {W : World} : ∀ {j : Nat} {xs : List Value}, SetCells z W j xs → xs.length = j * 6
  | 0, xs, h => by rw [show xs = [] from h]; rfl
  | j + 1, xs, ⟨dv, ys, h, _, h2⟩ => by rw [h, List.length_append, h2.len]; simp [SetD.cells]; omega
theorem SetCells.mono {z : List (ByteArray × List Nat)} {W W' : World} (hW : ∀ dv l, OwnS 0 dv l W → OwnS 0 dv l W') : ∀ {j : Nat} {xs : List Value}, SetCells z W j xs → SetCells z W' j xs
  | 0, _, h => h
  | _ + 1, _, ⟨dv, ys, h, h1, h2⟩ => ⟨dv, ys, h, hW _ _ h1, h2.mono hW⟩
theorem SetCells.get {z : List (ByteArray × List Nat)} {W : World} : ∀ {n : Nat} {xs : List Value}, SetCells z W n xs → ∀ j, j < n → ∃ dv, (∀ i v, (((nsecSet (nm z j) (nm z (nxt z j)) (ty z j)).cells dv (.slice none 0 0)).toList)[i]? = some v → xs[j * 6 + i]? = some v) ∧ OwnS 0 dv [nsecB (nm z (nxt z j)) (ty z j)] W
  | 0, _, _, j, hj => by omega
  | n + 1, xs, ⟨dv, ys, h, h1, h2⟩, j, hj => by
    by_cases e : j = n
    · subst e
      refine ⟨dv, fun i v hv => ?_, h1⟩
      rw [h, List.getElem?_append_right (by rw [h2.len]; omega), h2.len, show j * 6 + i - j * 6 = i by omega]; exact hv
    · obtain ⟨dv', g1, g2⟩ := h2.get j (by omega)
      refine ⟨dv', fun i v hv => ?_, g2⟩
      have := g1 i v hv
      rw [h, List.getElem?_append_left (by have := (List.getElem?_eq_some_iff.1 this).1; exact this)]; exact this
def SetOwn (base : Nat) (v : Value) (z : List (ByteArray × List Nat)) (j : Nat) (W : World) : Prop := ∃ xs, W.ownsRow base 40 6 v j xs ∧ SetCells z W j xs
theorem SetOwn.nil (base : Nat) (z : List (ByteArray × List Nat)) (W : World) : SetOwn base (.slice none 0 0) z 0 W := ⟨[], ⟨rfl, .inl ⟨rfl, rfl⟩⟩, rfl⟩
theorem SetOwn.at {base : Nat} {v : Value} {z : List (ByteArray × List Nat)} {W : World} (h : SetOwn base v z z.length W) (hl : z.length ≤ 1000000) : SetsAt v (zoneSets z) W := by
  have hzl : (zoneSets z).length = z.length := by simp [zoneSets]
  obtain ⟨xs, h1, h2⟩ := h
  rcases h1.2 with ⟨rfl, h0⟩ | ⟨g, cap, cur, rfl, hb, hg, hn, hm, hsz, htk⟩
  · exact ⟨none, 0, by rw [hzl, h0], by omega, fun h => by omega⟩
  · refine ⟨some ⟨g, 0, none⟩, cap, by rw [hzl], by omega, fun _ => ⟨g, rfl, lt_of_block hg, fun j hj => ?_⟩⟩
    obtain ⟨dv, h3, h4⟩ := h2.get j (by omega)
    have hget : (zoneSets z)[j] = nsecSet (nm z j) (nm z (nxt z j)) (ty z j) := by simp [zoneSets]
    rw [hget]
    refine ⟨dv, .slice none 0 0, fun i v hv => ?_, h4.strs, ⟨none, 0, rfl, fun h => absurd h (by simp [nsecSet])⟩⟩
    rw [cell_of_row W g (j * 6 + i) cur 40 (0, 0) hg]
    have e := h3 i v hv
    have hi : i < 6 := (List.getElem?_eq_some_iff.1 hv).1
    rw [← htk, List.getElem?_take, if_pos (by omega)] at e
    rw [← Array.getElem?_toList]; exact e
theorem OwnS.setRow {lo base n : Nat} {v v2 : Value} {l : List ByteArray} {xs : List Value} {w w' : World} (h : OwnS lo v l w) (ho : w.ownsRow base 40 6 v2 n xs) (hg : w.grownBy w' v2.ownBlock) : OwnS lo v l w' := by
  refine ⟨h.1, ?_⟩
  rcases h.2 with h1 | ⟨g, cap, cur, h1, h2, h3, h4⟩
  · exact .inl h1
  · refine .inr ⟨g, cap, cur, h1, h2, ?_, h4⟩
    rw [hg.block g (lt_of_block h3)]
    · exact h3
    · intro e
      rcases ho.2 with ⟨rfl, _⟩ | ⟨g2, cap2, cur2, rfl, _, hg2, _⟩
      · cases e
      · have e2 : g2 = g := by simpa [Value.ownBlock] using e.symm
        subst e2
        rw [h3] at hg2
        simp at hg2
theorem SetOwn.below {base : Nat} {v : Value} {z : List (ByteArray × List Nat)} {j : Nat} {W W' : World} (h : SetOwn base v z j W) (hb : Below W.heap.size W W') : SetOwn base v z j W' := by
  obtain ⟨xs, h1, h2⟩ := h
  exact ⟨xs, h1.kept (grown_of_below hb) (by cases hv : v.ownBlock <;> simp), h2.mono fun dv l ht => by
    refine ⟨ht.1, ?_⟩
    rcases ht.2 with k | ⟨g, cap, cur, k1, k2, k3, k4⟩
    · exact .inl k
    · exact .inr ⟨g, cap, cur, k1, k2, by rw [hb.block g (lt_of_block k3)]; exact k3, k4⟩⟩
theorem set_append {ops : Array Oper} {rest : List Oper} {o : Oper} {a : Act} {Q : Exit → Act → World → Prop} {base n : Nat} {v : Value} {xs : List Value} {W : World} (HO : W.ownsRow base 40 6 v n xs) (hbase : base ≤ W.heap.size) (hn : n ≤ 1000000) (cl : List Value) (hcl : cl.length = 6) (h1 : ∀ u ∈ cl, u.oneCell' = true)
    (hgd : o.guard = none) (s y : Operand) (ho : o.op = .call { callee := .builtin .append, args := #[s, y], argTypes := #[28, 28] }) (cs : Array Value) (m c B : Nat) (hs : a.eval s = v) (hB : B = W.heap.size) (hx : a.eval y = .slice (some ⟨B, 0, none⟩) m c) (hcs : cs = cl.toArray) (hm : m = 1)
    (h : ∀ v1 w1, w1.ownsRow base 40 6 v1 (n + 1) (xs ++ cl) → (W.alloc (.cells cs 40)).grownBy w1 v.ownBlock → wpList Tryz.prog ops Q rest (a.put o.dst v1) w1) : wpList Tryz.prog ops Q (o :: rest) a (W.alloc (.cells cs 40)) := by
  subst hcs hm hB
  obtain ⟨i0, hi, hzz⟩ := Option.map_eq_some_iff.1 info_setA
  simp only [Prod.mk.injEq] at hzz
  obtain ⟨hz0, hz1, hz2⟩ := hzz
  refine wpList_append_own_at (W.alloc (.cells cl.toArray 40)) hgd s y 28 ho base 40 i0 _ 6 88 Tryz.underlying28 hi hz0 hz1 hz2 rfl (by omega) v n xs hs (HO.alloc _) ⟨W.heap.size, 0, none⟩ 1 c cl hx (by rw [hcl])
    (World.news_of_block (cs := cl.toArray) (t := 40) (fr := (0, 0)) (heap_alloc_new W _)) h1 (by simp only [maxLen]; omega) (by omega) (by simp; omega) ?_
  intro v1 w1 hown hg _ _
  exact h v1 w1 hown hg
theorem own6_base {base n : Nat} {e : TypeId} {v : Value} {xs : List Value} {w w' : World} (h : w.ownsRow base e 6 v n xs) (hb : base ≤ w.heap.size) (hg : w.grownBy w' v.ownBlock) : Below base w w' := by
  refine ⟨hg.os, hg.tape, hg.output, hg.size, fun k hk => hg.block k (by omega) fun e => ?_⟩
  rcases h.2 with ⟨rfl, _⟩ | ⟨g, cap, cur, rfl, h2, _⟩
  · cases e
  · obtain rfl : k = g := by simpa [Value.ownBlock] using e
    omega
theorem OwnS.fresh (w : World) (d : ByteArray) : OwnS 0 (.slice (some ⟨w.heap.size, 0, none⟩) 1 1) [d] (w.alloc (.cells #[.string d] 9)) :=
  ⟨rfl, .inr ⟨w.heap.size, 1, #[.string d], rfl, Nat.zero_le _, heap_alloc_new w _, Nat.le_refl _, by decide, rfl, rfl⟩⟩
theorem tyL.len {l : List Nat} (h : tyL l) : l.length ≤ 1000 := by have := incr_len 300 l 0 h.1 fun x hx => ⟨Nat.zero_le _, h.2 x hx⟩; omega
theorem tyL.ok {l : List Nat} (h : tyL l) : tyOk l := ⟨fun i hi => by have := h.2 l[i] (List.getElem_mem hi); omega, fun i hi => List.pairwise_iff_getElem.1 h.1 i (i + 1) (by omega) hi (Nat.lt_succ_self _)⟩
def SignP (z : List (ByteArray × List Nat)) (w : World) (e : Ending) (w' : World) : Prop := ∃ v, e = .returned v ∧ SetsAt v (zoneSets z) w' ∧ Below w.heap.size w w'
set_option maxRecDepth 100000 in
set_option maxHeartbeats 1000000 in
theorem law_signed (z : List (ByteArray × List Nat)) (nv tv : Value) (w : World) (hz : Zone z) (hz13 : z.length ≤ 13) (h : ChR z nv tv w) : Calls Tryz.prog 6 #[nv, tv] w (SignP z w) := by
  obtain ⟨hs, _, _, ps, hps, hv, hpi⟩ := h
  obtain ⟨An, cn, rfl, hsn⟩ := hs
  obtain ⟨At, ct, rfl, hvn⟩ := hv
  have hpl : ps.length = z.length := by have := congrArg List.length hps; simpa using this
  obtain ⟨gn, fn, rfl, hgn, hcn⟩ := hsn (by simpa using hz.pos)
  obtain ⟨gt, ft, rfl, hgt, hct⟩ := hvn (by simpa [hpl] using hz.pos)
  have HCN := Lib.hid (show ∀ W, Below w.heap.size w W → ∀ i (h : i < z.length), W.cell? ⟨gn, fn + i, none⟩ = some (.string (nm z i)) from fun W hW i hi => by
    rw [hW.cell (p := ⟨gn, fn + i, none⟩) hgn, hcn i (by simpa using hi), nm, List.getD, List.getElem?_eq_getElem hi]; simp)
  have HCT := Lib.hid (show ∀ W, Below w.heap.size w W → ∀ i (h : i < z.length), ∃ A c, W.cell? ⟨gt, ft + i, none⟩ = some (.slice A (ty z i).length c) ∧ IntsAt (.slice A (ty z i).length c) (nI (ty z i)) W from fun W hW i hi => by
    have hi2 : i < ps.length := by omega
    have e := hpi ps[i] (List.getElem_mem hi2)
    have e2 : ps[i].2 = ty z i := by
      have h1 := congrArg (fun l => l[i]?) hps
      simp only [List.getElem?_map, List.getElem?_eq_getElem hi, List.getElem?_eq_getElem hi2, Option.map_some, Option.some.injEq] at h1
      rw [h1, ty, List.getD, List.getElem?_eq_getElem hi]; rfl
    rw [e2] at e
    have e3 := e.below hW
    obtain ⟨A, c, e4, _⟩ := id e
    rw [nI_len] at e4
    rw [e4] at e3
    exact ⟨A, c, by rw [hW.cell (p := ⟨gt, ft + i, none⟩) hgt, hct i (by simpa using hi2)]; simp [e4], e3⟩)
  rw [List.length_map, List.length_map, hpl]
  have HZ := Lib.hid hz; have HG := Lib.hid (And.intro hgn hgt)
  have hzi : (z.length : Int) ≤ 13 := by omega
  clear hsn hvn hgn hgt hcn hct hpi hps hpl hz
  go_enter Tryz.func6, Tryz.ntmps6
  go_wp2_with fail
  go_loopw [5, 6] (fun v i wr => ∃ j : Nat, i = .int .i64 j ∧ j ≤ z.length ∧ Hid (SetOwn w.heap.size v z j wr) ∧ Hid (Below w.heap.size w wr)) (fun _ i _ => z.length - (intOf i).toNat)
  case atStart => exact ⟨0, rfl, Nat.zero_le _, Lib.hid (SetOwn.nil _ _ _), Lib.hid (Below.refl _ _)⟩
  case round =>
    obtain ⟨j, rfl, hj, HS, HB⟩ := hrel
    by_cases hlt : j < z.length
    · have q1 : (j : Int) < (z.length : Int) := by omega
      have c0 := HCN.out _ HB.out j hlt
      have hnl := nxt_lt HZ.out.pos j
      have c1 := HCN.out _ HB.out (nxt z j) hnl
      obtain ⟨TA, tc, c2, hti⟩ := HCT.out _ HB.out j hlt
      have hon := fun W (h : Below wr.heap.size wr W) => data_ofNsec (nm z (nxt z j)) TA tc (ty z j) W (hti.below h) (HZ.out.zn hnl).right (by have := (HZ.out.zn hnl).right; simp only [nameRight, Bool.and_eq_true, decide_eq_true_eq] at this; omega) (HZ.out.tyL hlt).len (HZ.out.tyL hlt).ok
      rw [ofNsec_some (HZ.out.zn hnl).right (HZ.out.tyL hlt)] at hon
      replace hon := fun W (h : Below wr.heap.size wr W) => (hon W h).mono (fun e w' k => (show e = .returned (.tuple #[.string (nsecB (nm z (nxt z j)) (ty z j)), .int .i64 0]) ∧ Below W.heap.size W w' from k))
      obtain ⟨nx, hnx⟩ : ∃ nx, nxt z j = nx := ⟨_, rfl⟩
      rw [hnx] at c1 hnl hon
      have q2 : ((j : Int) + 1).tmod (z.length : Int) = (nx : Int) := by rw [← hnx, nxt]; rfl
      have q3 : (nx : Int) < (z.length : Int) := by omega
      have z0 : ¬ (z.length = 0) := by omega
      have z1 : ((z.length : Int) == 0) = false := by rw [beq_eq_false_iff_ne]; omega
      have z2 : ¬ ((z.length : Int) = 0) := by omega
      have z3 : ((j : Int) + 1) % (z.length : Int) = (nx : Int) := by rw [← hnx, nxt]; rfl
      have q4 : (nx : Int) ≤ 12 := by omega
      have q5 : (j : Int) ≤ 12 := by omega
      have q6 : IntKind.i64.wrap (nx : Int) = (nx : Int) := IntWalk.i64_in _ (by omega)
      have q7 : IntKind.i64.wrap ((j : Int) + 1) = (j : Int) + 1 := IntWalk.i64_in _ (by omega)
      have HON := Lib.hid hon; have HNX := Lib.hid hnx
      clear hon hti
      go_wp2_with fail
      go_region_with (go_at_call 18; refine (HON.out _ ?_).mono ?_; exact (Below.refl _ wr).drew; rintro e w2 ⟨rfl, hb2⟩)
      all_goals
        have hbw := (Below.refl _ wr).drew.trans hb2
        have hB2 := HB.out.trans (hbw.mono HB.out.size)
        have c3 := HCN.out _ hB2 j hlt
        have HS2 := Lib.hid (HS.out.below hbw); have HB2 := Lib.hid hB2
        clear hbw hB2 hb2 c0 c1 c2
        go_wp2_with (at_builtin; refine (Hid.out (p := _) ?_))
        refine Lib.hid ?_
        have hal := (Below.refl _ w2).alloc (Nat.le_refl _) (.cells #[.string (nsecB (nm z nx) (ty z j))] 9)
        obtain ⟨xs, hx1, hx2⟩ := HS2.out.below hal
        have hsz : w.heap.size ≤ (w2.alloc (.cells #[.string (nsecB (nm z nx) (ty z j))] 9)).heap.size := Nat.le_trans HB2.out.size hal.size
        refine set_append hx1 hsz (by omega) [.string (nm z j), .int .i64 47, .int .i64 1, .int .i64 0, .slice (some ⟨w2.heap.size, 0, none⟩) 1 1, .slice none 0 0] rfl (by intro u hu; simp at hu; rcases hu with rfl | rfl | rfl | rfl | rfl | rfl <;> rfl) rfl _ _ rfl _ _ _ _ rfl (by simp) rfl rfl rfl ?_
        intro v1 w3 h1 h2
        have hfr := OwnS.fresh w2 (nsecB (nm z nx) (ty z j))
        have hW : ∀ dv l, OwnS 0 dv l (w2.alloc (.cells #[.string (nsecB (nm z nx) (ty z j))] 9)) → OwnS 0 dv l w3 := fun dv l h => OwnS.setRow (World.ownsRow.alloc h _) (hx1.alloc _) h2
        have HSN : Hid (SetOwn w.heap.size v1 z (j + 1) w3) := Lib.hid (by
          have hnx := HNX.out
          subst hnx
          exact ⟨_, h1, _, xs, rfl, hW _ _ hfr, hx2.mono hW⟩)
        have ha2 := (Below.refl _ (w2.alloc (.cells #[.string (nsecB (nm z nx) (ty z j))] 9))).alloc hsz (.cells [.string (nm z j), .int .i64 47, .int .i64 1, .int .i64 0, .slice (some ⟨w2.heap.size, 0, none⟩) 1 1, .slice none 0 0].toArray 40)
        have hg2 := own6_base (hx1.alloc _) (Nat.le_trans hsz ha2.size) h2
        have HBN := Lib.hid ((HB2.out.trans (hal.mono HB2.out.size)).trans (ha2.trans hg2))
        clear h1 h2 hfr hW ha2 hg2 hal hx1 hx2 hsz
        go_wp2_with fail
        go_roundw
        case rel => exact ⟨j + 1, by go_num, by omega, HSN, HBN⟩
        case measure => simp [intOf]; omega
    · obtain rfl : j = z.length := by omega
      go_wp2_with fail
      go_ret
      exact ⟨_, rfl, HS.out.at (by omega), HB.out⟩
end Go.Proofs.YtdflhnbpcnmpfaaGreatDoor

/- Quiet steps over a class of worlds of one's own: an operation with a value, a call, a load of a whole variable. -/
namespace Go.Proofs.YtdflhnbpcnmpfaaGreatDoor
open Go.RowKit Go.BigFrame

section
variable {P : Program} {C : World → Prop} {o : Oper} {a : Act} {K : Act → Prop}
theorem qs_run (v : Value) (h : ∀ w, C w → (execOp a.eval o).run P w = .ok (.value v) w) (hk : K (a.put o.dst v)) : o.quiet P a C K :=
  ⟨v, fun w hw => by unfold Oper.quietAt; rw [h w hw]; exact ⟨rfl, rfl⟩, hk⟩
theorem qs_call (f : FuncId) (args : Array Value) (v : Value) (h : ∀ w, C w → (execOp a.eval o).run P w = .ok (.enter f args) w) (hc : ∀ w, C w → Calls P f args w (fun e w'' => e = .returned v ∧ C w'')) (hk : K (a.put o.dst v)) : o.quiet P a C K :=
  ⟨v, fun w hw => by unfold Oper.quietAt; rw [h w hw]; exact ⟨rfl, hc w hw⟩, hk⟩
theorem qs_load (ty : TypeId) (x : Operand) (ho : o.op = .load ty x) (p : Addr) (v : Value) (hx : a.eval x = .pointer (some p)) (hl : ∀ w, C w → (loadVar ty p).run P w = .ok v w) (hk : K (a.put o.dst v)) : o.quiet P a C K :=
  qs_run v (fun w hw => by
    unfold execOp
    simp only [ho, hx, Instr.loadAt, Instr.sureAddr, Sem.run_bind, Sem.run_pure, Result.andThen_ok, hl w hw]) hk
end
end Go.Proofs.YtdflhnbpcnmpfaaGreatDoor

/- denial.Wild, over sets of NSEC. -/
namespace Go.Proofs.YtdflhnbpcnmpfaaGreatDoor
open Go.RowKit Go.BigFrame

def wildQ (n enc : ByteArray) (p : PrfD) : Bool := coverQ n p && !underB p.next n && decide ((p.encl n).size ≤ enc.size)
/-- The world inside of the question. -/
structure WlSt (w : World) (b : Nat) (cs : Array Value) (bf bn be : Nat) (fv : Value) (n enc : ByteArray) (W : World) : Prop where
  p : Blk W b cs 58
  f : Blk W bf #[fv] 62
  n : Blk W bn #[.string n] 9
  e : Blk W be #[.string enc] 9
  below : Below w.heap.size w W
theorem WlSt.next {w : World} {b : Nat} {cs : Array Value} {bf bn be : Nat} {fv : Value} {n enc : ByteArray} {W W' : World} (h : WlSt w b cs bf bn be fv n enc W) (hb : Below W.heap.size W W') : WlSt w b cs bf bn be fv n enc W' :=
  ⟨h.p.below hb h.p.lt, h.f.below hb h.f.lt, h.n.below hb h.n.lt, h.e.below hb h.e.lt, h.below.trans (hb.mono h.below.size)⟩
theorem WlSt.drew {w : World} {b : Nat} {cs : Array Value} {bf bn be : Nat} {fv : Value} {n enc : ByteArray} {W : World} (h : WlSt w b cs bf bn be fv n enc W) : WlSt w b cs bf bn be fv n enc W.drew := ⟨h.p, h.f, h.n, h.e, h.below.drew⟩
theorem prf_load {w : World} {b : Nat} {x0 x1 x2 x3 x4 : Value} {t : TypeId} (h : Blk w b #[x0, x1, x2, x3, x4] t) : (loadVar 58 ⟨b, 0, none⟩).run Tryz.prog w = .ok (.agg #[x0, x1, x2, x3, x4]) w := loadVar_blk h Tryz.underlying58 rfl info_prf5
set_option maxRecDepth 100000 in
set_option maxHeartbeats 2000000 in
theorem wild1_asks (n enc : ByteArray) (k : Nat) (bnd : Array Value) (bf bn be : Nat) (w : World) (ha : AsksP k bnd (coverQ n) w) (hf : Blk w bf #[.func (.func k) #[] bnd] 62) (hn : Blk w bn #[.string n] 9) (he : Blk w be #[.string enc] 9) :
    AsksP 33 #[.pointer (some ⟨bf, 0, none⟩), .pointer (some ⟨bn, 0, none⟩), .pointer (some ⟨be, 0, none⟩)] (wildQ n enc) w := by
  refine ⟨fun args W => by kernel_rfl, fun p tv W0 hW hti => ?_⟩
  have hcf := ha.1
  have h1 : ∀ W, Below W0.heap.size W0 W → Calls Tryz.prog k (#[p.v tv] ++ bnd) W (BoolB (coverQ n p) W) := fun W hb => ha.2 p tv W (hW.trans (hb.mono hW.size)) (hti.below hb)
  have h2 : ∀ W, Calls Tryz.prog 22 #[.string p.next, .string n] W (BoolB (underB p.next n) W) := fun W => name_under p.next n W
  have h3 : ∀ W, Below W0.heap.size W0 W → Calls Tryz.prog 29 #[p.v tv, .string n] W fun e w' => e = .returned (.string (p.encl n)) ∧ Below W.heap.size W w' := fun W hb => prf_encloser p tv n W (hti.below hb)
  have hr : wildQ n enc p = (coverQ n p && !underB p.next n && decide ((p.encl n).size ≤ enc.size)) := rfl
  rw [hr]
  clear hr
  generalize coverQ n p = q1 at *
  generalize underB p.next n = q2 at *
  generalize p.encl n = en at *
  obtain ⟨x0, x1, x2, x3, x4⟩ := p
  obtain ⟨A, c, rfl, _⟩ := hti
  simp only [PrfD.v] at h1 h3
  have hal : Below W0.heap.size W0 (W0.alloc (.cells #[.string x0, .string x1, .string x2, .slice A x3.length c, .bool x4] 58)) := (Below.refl _ W0).alloc (Nat.le_refl _) _
  have H0 : Hid (WlSt W0 W0.heap.size #[.string x0, .string x1, .string x2, .slice A x3.length c, .bool x4] bf bn be (.func (.func k) #[] bnd) n enc (W0.alloc (.cells #[.string x0, .string x1, .string x2, .slice A x3.length c, .bool x4] 58))) :=
    Lib.hid ⟨Blk.new W0 _ _, (hf.below hW hf.lt).alloc _, (hn.below hW hn.lt).alloc _, (he.below hW he.lt).alloc _, hal⟩
  have H1 := Lib.hid h1; have H2 := Lib.hid h2; have H3 := Lib.hid h3; have HCF := Lib.hid hcf
  have hmix : Tryz.prog.follows .mixedOrders = true := by kernel_rfl
  clear h1 h2 h3 hcf ha hf hn he hW hal
  simp only [PrfD.v, List.append_toArray, List.cons_append, List.nil_append]
  cases q1 with
  | false =>
    go_enter Tryz.func33, Tryz.ntmps33
    go_wp2_with fail
    refine wp_region_quiet (C := WlSt W0 W0.heap.size #[.string x0, .string x1, .string x2, .slice A x3.length c, .bool x4] bf bn be (.func (.func k) #[] bnd) n enc) hmix (by kernel_rfl) H0.out.drew ?_
    simp only []
    go_big_quiet_want
    refine qs_run (.func (.func k) #[] bnd) (fun W hW => ?run) ?_
    case run =>
      have c := hW.f.cell 0
      simp at c
      simp [go_sem, Act.eval, c]
    simp (maxSteps := 1000000) only [Act.put, List.setIfInBounds_toArray, List.set_cons_succ, List.set_cons_zero]
    go_big_quiet_on
    go_big_quiet_want
    refine qs_load _ _ rfl ⟨W0.heap.size, 0, none⟩ _ rfl (fun W hW => prf_load hW.p) ?_
    simp (maxSteps := 1000000) only [Act.put, List.setIfInBounds_toArray, List.set_cons_succ, List.set_cons_zero]
    go_big_quiet_on
    go_big_quiet_want
    refine qs_call k ((#[Value.agg #[.string x0, .string x1, .string x2, .slice A x3.length c, .bool x4]] : Array Value) ++ bnd) (.bool false) (fun W hW => ?run) (fun W hW => (H1.out W hW.below).mono fun e w' h => ⟨h.1, hW.next h.2⟩) ?_
    case run =>
      have := HCF.out ((#[Value.agg #[.string x0, .string x1, .string x2, .slice A x3.length c, .bool x4]] : Array Value) ++ bnd) W
      simp [go_sem, Act.eval, this]
    simp (maxSteps := 1000000) only [Act.put, List.setIfInBounds_toArray, List.set_cons_succ, List.set_cons_zero]
    go_big_quiet_on
    repeat (first
      | go_big_quiet_skip
      | (go_big_quiet_want
         refine qs_run (.bool false) (fun W hW => ?run) ?_
         case run => simp [go_sem, Act.eval]
         simp (maxSteps := 1000000) only [Act.put, List.setIfInBounds_toArray, List.set_cons_succ, List.set_cons_zero]
         go_big_quiet_on))
    refine wpQuiet_nil ?_
    intro W hW
    replace hW := Lib.hid hW
    go_wp2_with fail
    go_ret
    exact ⟨rfl, hW.out.below⟩
  | true =>
  cases q2 with
  | true =>
    go_enter Tryz.func33, Tryz.ntmps33
    go_wp2_with fail
    refine wp_region_quiet (C := WlSt W0 W0.heap.size #[.string x0, .string x1, .string x2, .slice A x3.length c, .bool x4] bf bn be (.func (.func k) #[] bnd) n enc) hmix (by kernel_rfl) H0.out.drew ?_
    simp only []
    go_big_quiet_want
    refine qs_run (.func (.func k) #[] bnd) (fun W hW => ?run) ?_
    case run =>
      have c := hW.f.cell 0
      simp at c
      simp [go_sem, Act.eval, c]
    simp (maxSteps := 1000000) only [Act.put, List.setIfInBounds_toArray, List.set_cons_succ, List.set_cons_zero]
    go_big_quiet_on
    go_big_quiet_want
    refine qs_load _ _ rfl ⟨W0.heap.size, 0, none⟩ _ rfl (fun W hW => prf_load hW.p) ?_
    simp (maxSteps := 1000000) only [Act.put, List.setIfInBounds_toArray, List.set_cons_succ, List.set_cons_zero]
    go_big_quiet_on
    go_big_quiet_want
    refine qs_call k ((#[Value.agg #[.string x0, .string x1, .string x2, .slice A x3.length c, .bool x4]] : Array Value) ++ bnd) (.bool true) (fun W hW => ?run) (fun W hW => (H1.out W hW.below).mono fun e w' h => ⟨h.1, hW.next h.2⟩) ?_
    case run =>
      have := HCF.out ((#[Value.agg #[.string x0, .string x1, .string x2, .slice A x3.length c, .bool x4]] : Array Value) ++ bnd) W
      simp [go_sem, Act.eval, this]
    simp (maxSteps := 1000000) only [Act.put, List.setIfInBounds_toArray, List.set_cons_succ, List.set_cons_zero]
    go_big_quiet_on
    go_big_quiet_want
    refine qs_run (.bool true) (fun W hW => ?run) ?_
    case run => simp [go_sem, Act.eval]
    simp (maxSteps := 1000000) only [Act.put, List.setIfInBounds_toArray, List.set_cons_succ, List.set_cons_zero]
    go_big_quiet_on
    go_big_quiet_want
    refine qs_run (.pointer (some ⟨W0.heap.size, 1, none⟩)) (fun W hW => ?run) ?_
    case run => simp [go_sem, Act.eval]
    simp (maxSteps := 1000000) only [Act.put, List.setIfInBounds_toArray, List.set_cons_succ, List.set_cons_zero]
    go_big_quiet_on
    go_big_quiet_want
    refine qs_run (.string x1) (fun W hW => ?run) ?_
    case run =>
      have c := hW.p.cell 1
      simp at c
      simp [go_sem, Act.eval, c]
    simp (maxSteps := 1000000) only [Act.put, List.setIfInBounds_toArray, List.set_cons_succ, List.set_cons_zero]
    go_big_quiet_on
    go_big_quiet_want
    refine qs_run (.string n) (fun W hW => ?run) ?_
    case run =>
      have c := hW.n.cell 0
      simp at c
      simp [go_sem, Act.eval, c]
    simp (maxSteps := 1000000) only [Act.put, List.setIfInBounds_toArray, List.set_cons_succ, List.set_cons_zero]
    go_big_quiet_on
    go_big_quiet_want
    refine qs_call 22 _ _ (fun W hW => ?run) (fun W hW => (H2.out W).mono fun e w' h => ⟨h.1, hW.next h.2⟩) ?_
    case run => simp [go_sem, Act.eval]
    simp (maxSteps := 1000000) only [Act.put, List.setIfInBounds_toArray, List.set_cons_succ, List.set_cons_zero]
    go_big_quiet_on
    repeat (first
      | go_big_quiet_skip
      | (go_big_quiet_want
         refine qs_run (.bool false) (fun W hW => ?run) ?_
         case run => simp [go_sem, Act.eval]
         simp (maxSteps := 1000000) only [Act.put, List.setIfInBounds_toArray, List.set_cons_succ, List.set_cons_zero]
         go_big_quiet_on))
    refine wpQuiet_nil ?_
    intro W hW
    replace hW := Lib.hid hW
    go_wp2_with fail
    go_ret
    exact ⟨rfl, hW.out.below⟩
  | false =>
    by_cases hle : en.size ≤ enc.size
    · rw [decide_eq_true hle]
      have hle2 := Lib.hid (show (en.size : Int) ≤ (enc.size : Int) by omega)
      clear hle
      go_enter Tryz.func33, Tryz.ntmps33
      go_wp2_with fail
      refine wp_region_quiet (C := WlSt W0 W0.heap.size #[.string x0, .string x1, .string x2, .slice A x3.length c, .bool x4] bf bn be (.func (.func k) #[] bnd) n enc) hmix (by kernel_rfl) H0.out.drew ?_
      simp only []
      go_big_quiet_want
      refine qs_run (.func (.func k) #[] bnd) (fun W hW => ?run) ?_
      case run =>
        have c := hW.f.cell 0
        simp at c
        simp [go_sem, Act.eval, c]
      simp (maxSteps := 1000000) only [Act.put, List.setIfInBounds_toArray, List.set_cons_succ, List.set_cons_zero]
      go_big_quiet_on
      go_big_quiet_want
      refine qs_load _ _ rfl ⟨W0.heap.size, 0, none⟩ _ rfl (fun W hW => prf_load hW.p) ?_
      simp (maxSteps := 1000000) only [Act.put, List.setIfInBounds_toArray, List.set_cons_succ, List.set_cons_zero]
      go_big_quiet_on
      go_big_quiet_want
      refine qs_call k ((#[Value.agg #[.string x0, .string x1, .string x2, .slice A x3.length c, .bool x4]] : Array Value) ++ bnd) (.bool true) (fun W hW => ?run) (fun W hW => (H1.out W hW.below).mono fun e w' h => ⟨h.1, hW.next h.2⟩) ?_
      case run =>
        have := HCF.out ((#[Value.agg #[.string x0, .string x1, .string x2, .slice A x3.length c, .bool x4]] : Array Value) ++ bnd) W
        simp [go_sem, Act.eval, this]
      simp (maxSteps := 1000000) only [Act.put, List.setIfInBounds_toArray, List.set_cons_succ, List.set_cons_zero]
      go_big_quiet_on
      go_big_quiet_want
      refine qs_run (.bool true) (fun W hW => ?run) ?_
      case run => simp [go_sem, Act.eval]
      simp (maxSteps := 1000000) only [Act.put, List.setIfInBounds_toArray, List.set_cons_succ, List.set_cons_zero]
      go_big_quiet_on
      go_big_quiet_want
      refine qs_run (.pointer (some ⟨W0.heap.size, 1, none⟩)) (fun W hW => ?run) ?_
      case run => simp [go_sem, Act.eval]
      simp (maxSteps := 1000000) only [Act.put, List.setIfInBounds_toArray, List.set_cons_succ, List.set_cons_zero]
      go_big_quiet_on
      go_big_quiet_want
      refine qs_run (.string x1) (fun W hW => ?run) ?_
      case run =>
        have c := hW.p.cell 1
        simp at c
        simp [go_sem, Act.eval, c]
      simp (maxSteps := 1000000) only [Act.put, List.setIfInBounds_toArray, List.set_cons_succ, List.set_cons_zero]
      go_big_quiet_on
      go_big_quiet_want
      refine qs_run (.string n) (fun W hW => ?run) ?_
      case run =>
        have c := hW.n.cell 0
        simp at c
        simp [go_sem, Act.eval, c]
      simp (maxSteps := 1000000) only [Act.put, List.setIfInBounds_toArray, List.set_cons_succ, List.set_cons_zero]
      go_big_quiet_on
      go_big_quiet_want
      refine qs_call 22 _ _ (fun W hW => ?run) (fun W hW => (H2.out W).mono fun e w' h => ⟨h.1, hW.next h.2⟩) ?_
      case run => simp [go_sem, Act.eval]
      simp (maxSteps := 1000000) only [Act.put, List.setIfInBounds_toArray, List.set_cons_succ, List.set_cons_zero]
      go_big_quiet_on
      go_big_quiet_want
      refine qs_run (.bool true) (fun W hW => ?run) ?_
      case run => simp [go_sem, Act.eval]
      simp (maxSteps := 1000000) only [Act.put, List.setIfInBounds_toArray, List.set_cons_succ, List.set_cons_zero]
      go_big_quiet_on
      go_big_quiet_want
      refine qs_run (.bool true) (fun W hW => ?run) ?_
      case run => simp [go_sem, Act.eval]
      simp (maxSteps := 1000000) only [Act.put, List.setIfInBounds_toArray, List.set_cons_succ, List.set_cons_zero]
      go_big_quiet_on
      go_big_quiet_want
      refine qs_run (.bool true) (fun W hW => ?run) ?_
      case run => simp [go_sem, Act.eval]
      simp (maxSteps := 1000000) only [Act.put, List.setIfInBounds_toArray, List.set_cons_succ, List.set_cons_zero]
      go_big_quiet_on
      go_big_quiet_want
      refine qs_load _ _ rfl ⟨W0.heap.size, 0, none⟩ _ rfl (fun W hW => prf_load hW.p) ?_
      simp (maxSteps := 1000000) only [Act.put, List.setIfInBounds_toArray, List.set_cons_succ, List.set_cons_zero]
      go_big_quiet_on
      go_big_quiet_want
      refine qs_run (.string n) (fun W hW => ?run) ?_
      case run =>
        have c := hW.n.cell 0
        simp at c
        simp [go_sem, Act.eval, c]
      simp (maxSteps := 1000000) only [Act.put, List.setIfInBounds_toArray, List.set_cons_succ, List.set_cons_zero]
      go_big_quiet_on
      go_big_quiet_want
      refine qs_call 29 _ _ (fun W hW => ?run) (fun W hW => (H3.out W hW.below).mono fun e w' h => ⟨h.1, hW.next h.2⟩) ?_
      case run => simp [go_sem, Act.eval]
      simp (maxSteps := 1000000) only [Act.put, List.setIfInBounds_toArray, List.set_cons_succ, List.set_cons_zero]
      go_big_quiet_on
      go_big_quiet_want
      refine qs_run (.int .i64 en.size) (fun W hW => ?run) ?_
      case run => simp [go_sem, Act.eval]
      simp (maxSteps := 1000000) only [Act.put, List.setIfInBounds_toArray, List.set_cons_succ, List.set_cons_zero]
      go_big_quiet_on
      go_big_quiet_want
      refine qs_run (.string enc) (fun W hW => ?run) ?_
      case run =>
        have c := hW.e.cell 0
        simp at c
        simp [go_sem, Act.eval, c]
      simp (maxSteps := 1000000) only [Act.put, List.setIfInBounds_toArray, List.set_cons_succ, List.set_cons_zero]
      go_big_quiet_on
      go_big_quiet_want
      refine qs_run (.int .i64 enc.size) (fun W hW => ?run) ?_
      case run => simp [go_sem, Act.eval]
      simp (maxSteps := 1000000) only [Act.put, List.setIfInBounds_toArray, List.set_cons_succ, List.set_cons_zero]
      go_big_quiet_on
      go_big_quiet_want
      refine qs_run (.bool true) (fun W hW => ?run) ?_
      case run => simp [go_sem, Act.eval, hle2.out]
      simp (maxSteps := 1000000) only [Act.put, List.setIfInBounds_toArray, List.set_cons_succ, List.set_cons_zero]
      go_big_quiet_on
      go_big_quiet_want
      refine qs_run (.bool true) (fun W hW => ?run) ?_
      case run => simp [go_sem, Act.eval]
      simp (maxSteps := 1000000) only [Act.put, List.setIfInBounds_toArray, List.set_cons_succ, List.set_cons_zero]
      go_big_quiet_on
      go_big_quiet_want
      refine qs_run (.bool true) (fun W hW => ?run) ?_
      case run => simp [go_sem, Act.eval]
      simp (maxSteps := 1000000) only [Act.put, List.setIfInBounds_toArray, List.set_cons_succ, List.set_cons_zero]
      go_big_quiet_on
      refine wpQuiet_nil ?_
      intro W hW
      replace hW := Lib.hid hW
      go_wp2_with fail
      go_ret
      exact ⟨rfl, hW.out.below⟩
    · rw [decide_eq_false hle]
      have hle2 := Lib.hid (show enc.size < en.size by omega)
      clear hle
      go_enter Tryz.func33, Tryz.ntmps33
      go_wp2_with fail
      refine wp_region_quiet (C := WlSt W0 W0.heap.size #[.string x0, .string x1, .string x2, .slice A x3.length c, .bool x4] bf bn be (.func (.func k) #[] bnd) n enc) hmix (by kernel_rfl) H0.out.drew ?_
      simp only []
      go_big_quiet_want
      refine qs_run (.func (.func k) #[] bnd) (fun W hW => ?run) ?_
      case run =>
        have c := hW.f.cell 0
        simp at c
        simp [go_sem, Act.eval, c]
      simp (maxSteps := 1000000) only [Act.put, List.setIfInBounds_toArray, List.set_cons_succ, List.set_cons_zero]
      go_big_quiet_on
      go_big_quiet_want
      refine qs_load _ _ rfl ⟨W0.heap.size, 0, none⟩ _ rfl (fun W hW => prf_load hW.p) ?_
      simp (maxSteps := 1000000) only [Act.put, List.setIfInBounds_toArray, List.set_cons_succ, List.set_cons_zero]
      go_big_quiet_on
      go_big_quiet_want
      refine qs_call k ((#[Value.agg #[.string x0, .string x1, .string x2, .slice A x3.length c, .bool x4]] : Array Value) ++ bnd) (.bool true) (fun W hW => ?run) (fun W hW => (H1.out W hW.below).mono fun e w' h => ⟨h.1, hW.next h.2⟩) ?_
      case run =>
        have := HCF.out ((#[Value.agg #[.string x0, .string x1, .string x2, .slice A x3.length c, .bool x4]] : Array Value) ++ bnd) W
        simp [go_sem, Act.eval, this]
      simp (maxSteps := 1000000) only [Act.put, List.setIfInBounds_toArray, List.set_cons_succ, List.set_cons_zero]
      go_big_quiet_on
      go_big_quiet_want
      refine qs_run (.bool true) (fun W hW => ?run) ?_
      case run => simp [go_sem, Act.eval]
      simp (maxSteps := 1000000) only [Act.put, List.setIfInBounds_toArray, List.set_cons_succ, List.set_cons_zero]
      go_big_quiet_on
      go_big_quiet_want
      refine qs_run (.pointer (some ⟨W0.heap.size, 1, none⟩)) (fun W hW => ?run) ?_
      case run => simp [go_sem, Act.eval]
      simp (maxSteps := 1000000) only [Act.put, List.setIfInBounds_toArray, List.set_cons_succ, List.set_cons_zero]
      go_big_quiet_on
      go_big_quiet_want
      refine qs_run (.string x1) (fun W hW => ?run) ?_
      case run =>
        have c := hW.p.cell 1
        simp at c
        simp [go_sem, Act.eval, c]
      simp (maxSteps := 1000000) only [Act.put, List.setIfInBounds_toArray, List.set_cons_succ, List.set_cons_zero]
      go_big_quiet_on
      go_big_quiet_want
      refine qs_run (.string n) (fun W hW => ?run) ?_
      case run =>
        have c := hW.n.cell 0
        simp at c
        simp [go_sem, Act.eval, c]
      simp (maxSteps := 1000000) only [Act.put, List.setIfInBounds_toArray, List.set_cons_succ, List.set_cons_zero]
      go_big_quiet_on
      go_big_quiet_want
      refine qs_call 22 _ _ (fun W hW => ?run) (fun W hW => (H2.out W).mono fun e w' h => ⟨h.1, hW.next h.2⟩) ?_
      case run => simp [go_sem, Act.eval]
      simp (maxSteps := 1000000) only [Act.put, List.setIfInBounds_toArray, List.set_cons_succ, List.set_cons_zero]
      go_big_quiet_on
      go_big_quiet_want
      refine qs_run (.bool true) (fun W hW => ?run) ?_
      case run => simp [go_sem, Act.eval]
      simp (maxSteps := 1000000) only [Act.put, List.setIfInBounds_toArray, List.set_cons_succ, List.set_cons_zero]
      go_big_quiet_on
      go_big_quiet_want
      refine qs_run (.bool true) (fun W hW => ?run) ?_
      case run => simp [go_sem, Act.eval]
      simp (maxSteps := 1000000) only [Act.put, List.setIfInBounds_toArray, List.set_cons_succ, List.set_cons_zero]
      go_big_quiet_on
      go_big_quiet_want
      refine qs_run (.bool true) (fun W hW => ?run) ?_
      case run => simp [go_sem, Act.eval]
      simp (maxSteps := 1000000) only [Act.put, List.setIfInBounds_toArray, List.set_cons_succ, List.set_cons_zero]
      go_big_quiet_on
      go_big_quiet_want
      refine qs_load _ _ rfl ⟨W0.heap.size, 0, none⟩ _ rfl (fun W hW => prf_load hW.p) ?_
      simp (maxSteps := 1000000) only [Act.put, List.setIfInBounds_toArray, List.set_cons_succ, List.set_cons_zero]
      go_big_quiet_on
      go_big_quiet_want
      refine qs_run (.string n) (fun W hW => ?run) ?_
      case run =>
        have c := hW.n.cell 0
        simp at c
        simp [go_sem, Act.eval, c]
      simp (maxSteps := 1000000) only [Act.put, List.setIfInBounds_toArray, List.set_cons_succ, List.set_cons_zero]
      go_big_quiet_on
      go_big_quiet_want
      refine qs_call 29 _ _ (fun W hW => ?run) (fun W hW => (H3.out W hW.below).mono fun e w' h => ⟨h.1, hW.next h.2⟩) ?_
      case run => simp [go_sem, Act.eval]
      simp (maxSteps := 1000000) only [Act.put, List.setIfInBounds_toArray, List.set_cons_succ, List.set_cons_zero]
      go_big_quiet_on
      go_big_quiet_want
      refine qs_run (.int .i64 en.size) (fun W hW => ?run) ?_
      case run => simp [go_sem, Act.eval]
      simp (maxSteps := 1000000) only [Act.put, List.setIfInBounds_toArray, List.set_cons_succ, List.set_cons_zero]
      go_big_quiet_on
      go_big_quiet_want
      refine qs_run (.string enc) (fun W hW => ?run) ?_
      case run =>
        have c := hW.e.cell 0
        simp at c
        simp [go_sem, Act.eval, c]
      simp (maxSteps := 1000000) only [Act.put, List.setIfInBounds_toArray, List.set_cons_succ, List.set_cons_zero]
      go_big_quiet_on
      go_big_quiet_want
      refine qs_run (.int .i64 enc.size) (fun W hW => ?run) ?_
      case run => simp [go_sem, Act.eval]
      simp (maxSteps := 1000000) only [Act.put, List.setIfInBounds_toArray, List.set_cons_succ, List.set_cons_zero]
      go_big_quiet_on
      go_big_quiet_want
      refine qs_run (.bool false) (fun W hW => ?run) ?_
      case run => simp [go_sem, Act.eval, hle2.out]
      simp (maxSteps := 1000000) only [Act.put, List.setIfInBounds_toArray, List.set_cons_succ, List.set_cons_zero]
      go_big_quiet_on
      go_big_quiet_want
      refine qs_run (.bool false) (fun W hW => ?run) ?_
      case run => simp [go_sem, Act.eval]
      simp (maxSteps := 1000000) only [Act.put, List.setIfInBounds_toArray, List.set_cons_succ, List.set_cons_zero]
      go_big_quiet_on
      go_big_quiet_want
      refine qs_run (.bool false) (fun W hW => ?run) ?_
      case run => simp [go_sem, Act.eval]
      simp (maxSteps := 1000000) only [Act.put, List.setIfInBounds_toArray, List.set_cons_succ, List.set_cons_zero]
      go_big_quiet_on
      refine wpQuiet_nil ?_
      intro W hW
      replace hW := Lib.hid hW
      go_wp2_with fail
      go_ret
      exact ⟨rfl, hW.out.below⟩
set_option maxRecDepth 100000 in
set_option maxHeartbeats 1000000 in
theorem den_wildp (l : List SetD) (v : Value) (n enc apex : ByteArray) (w : World) (hl : SetsAt v l w) (h47 : ∀ s ∈ l, s.kind = 47) (hne : readN l apex ≠ []) (hu1 : underB n enc = true) (hu2 : nameEq n enc = false) (hu3 : underB enc apex = true) :
    Calls Tryz.prog 15 #[v, .string n, .string enc, .string apex] w fun e w' => e = .returned (.int .i64 (worthI ((readN l apex).find? (wildQ n enc)).isSome zPrf)) ∧ Below w.heap.size w w' := by
  have hb0 : Below w.heap.size w ((w.alloc (.cells #[.string n] 9)).alloc (.cells #[.string enc] 9)) := ((Below.refl _ w).alloc (Nat.le_refl _) _).alloc (by simp) _
  have h1 := den_read l v apex _ (hl.below hb0) h47 hne
  have h2 : ∀ W, Calls Tryz.prog 22 #[.string n, .string enc] W (BoolB true W) := fun W => hu1 ▸ name_under n enc W
  have h3 : ∀ W, Calls Tryz.prog 7 #[.string n, .string enc] W (BoolB false W) := fun W => hu2 ▸ name_equal n enc W
  have h4 : ∀ W, Calls Tryz.prog 22 #[.string enc, .string apex] W (BoolB true W) := fun W => hu3 ▸ name_under enc apex W
  obtain ⟨A, c, rfl, _⟩ := hl
  generalize readN l apex = ps at *
  have hcv : ∀ b w0 W, PsAt b ps apex w0 → Below w0.heap.size w0 W → Calls Tryz.prog 27 #[.pointer (some ⟨b, 0, none⟩), .string n] W (GivesQ (coverQ n) W) := fun b w0 W h hb => den_covers b ps apex n W (h.below hb)
  have hfi : ∀ b w0 W, PsAt b ps apex w0 → Below w0.heap.size w0 W → ∀ k bnd, AsksP k bnd (wildQ n enc) W → Calls Tryz.prog 23 #[.pointer (some ⟨b, 0, none⟩), .func (.func k) #[] bnd] W (FirstP (ps.find? (wildQ n enc)) w0 W) := fun b w0 W h hb k bnd ha => den_first b ps apex k bnd (wildQ n enc) w0 W h hb ha
  generalize ps.find? (wildQ n enc) = r at *
  have H1 := Lib.hid h1; have H2 := Lib.hid h2; have H3 := Lib.hid h3; have H4 := Lib.hid h4; have HC := Lib.hid hcv; have HF := Lib.hid hfi
  clear h1 h2 h3 h4 hcv hfi h47 hne hu1 hu2 hu3
  have k0 := (Blk.new w #[.string n] 9).alloc (.cells #[.string enc] 9)
  have k1 : Blk ((w.alloc (.cells #[.string n] 9)).alloc (.cells #[.string enc] 9)) (w.heap.size + 1) #[.string enc] 9 := by
    have := Blk.new (w.alloc (.cells #[.string n] 9)) #[.string enc] 9
    simpa using this
  have hmf := makeFunc_run
  go_enter Tryz.func15, Tryz.ntmps15
  go_wp2_with (go_at_call 21; refine (Hid.out (p := _) ?_))
  refine Lib.hid ?_
  refine (H1.out).mono ?_
  rintro e w1 ⟨hb, b, rfl, hp⟩
  have bl := hb0.trans (hb.mono hb0.size)
  have K0 := k0.below hb k0.lt
  have K1 := k1.below hb k1.lt
  clear k0 k1 hb H1 hb0
  have bp := Below.refl w1.heap.size w1
  have HP := Lib.hid hp
  clear hp
  have c0 := K0.cell 0; have c1 := K1.cell 0
  simp only []
  go_wp2_with (go_at_call 22; refine (Hid.out (p := _) ?_))
  refine Lib.hid ?_
  refine (H2.out _).mono ?_
  rintro e w2 ⟨rfl, hb⟩
  replace bl := bl.trans (hb.mono bl.size)
  replace bp := bp.trans (hb.mono bp.size)
  replace K0 := K0.below hb K0.lt
  replace K1 := K1.below hb K1.lt
  clear hb c0 c1
  have c0 := K0.cell 0
  have c1 := K1.cell 0
  simp only []
  go_wp2_with (go_at_call 7; refine (Hid.out (p := _) ?_))
  refine Lib.hid ?_
  refine (H3.out _).mono ?_
  rintro e w3 ⟨rfl, hb⟩
  replace bl := bl.trans (hb.mono bl.size)
  replace bp := bp.trans (hb.mono bp.size)
  replace K0 := K0.below hb K0.lt
  replace K1 := K1.below hb K1.lt
  clear hb c0 c1
  have c0 := K0.cell 0
  have c1 := K1.cell 0
  simp only []
  go_wp2_with (go_at_call 22; refine (Hid.out (p := _) ?_))
  refine Lib.hid ?_
  refine (H4.out _).mono ?_
  rintro e w4 ⟨rfl, hb⟩
  replace bl := bl.trans (hb.mono bl.size)
  replace bp := bp.trans (hb.mono bp.size)
  replace K0 := K0.below hb K0.lt
  replace K1 := K1.below hb K1.lt
  clear hb c0 c1
  have c0 := K0.cell 0
  have c1 := K1.cell 0
  simp only []
  obtain ⟨lv, hx, _⟩ := id HP.out
  have d1 := (hx.below bp hx.lt).cell 1
  clear hx
  go_wp2_with (go_at_call 27; refine (Hid.out (p := _) ?_))
  refine Lib.hid ?_
  refine (HC.out _ _ _ HP.out bp).mono ?_
  rintro e w5 ⟨hb, k, bnd, rfl, ha⟩
  replace bl := bl.trans (hb.mono bl.size)
  replace bp := bp.trans (hb.mono bp.size)
  replace K0 := K0.below hb K0.lt
  replace K1 := K1.below hb K1.lt
  clear hb c0 c1 d1
  simp only []
  have hal : Below w5.heap.size w5 (w5.alloc (.cells #[.func (.func k) #[] bnd] 62)) := (Below.refl _ w5).alloc (Nat.le_refl _) _
  have HFF := Lib.hid (HF.out b w1 _ HP.out (bp.trans (hal.mono bp.size)) 33 _ (wild1_asks n enc k bnd w5.heap.size w.heap.size (w.heap.size + 1) _ (ha.below hal) (Blk.new w5 _ _) (K0.alloc _) (K1.alloc _)))
  replace bl := bl.trans (hal.mono bl.size)
  clear ha HC HF K0 K1 hal
  go_wp2_with (go_at_call 23; refine (Hid.out (p := _) ?_))
  refine Lib.hid ?_
  refine (HFF.out).mono ?_
  rintro e w6 ⟨hb6, tv, he, hti⟩
  replace bl := bl.trans (hb6.mono bl.size)
  obtain ⟨pp, hpp⟩ : ∃ pp, r.getD zPrf = pp := ⟨_, rfl⟩
  rw [hpp] at he hti
  obtain ⟨x0, x1, x2, x3, x4⟩ := pp
  obtain ⟨A2, c2, rfl, _⟩ := hti
  simp only [PrfD.v] at he
  subst he
  clear hpp HFF hb6 H2 H3 H4
  simp only []
  replace bl := bl.alloc bl.size (.cells #[.string x0, .string x1, .string x2, .slice A2 x3.length c2, .bool x4] 58)
  have HW8 := Lib.hid (fun W ok => den_worth ok zPrf (.slice none 0 0) W (IntsAt.nil _))
  go_wp2_with (go_at_call 28; refine (Hid.out (p := _) ?_))
  refine Lib.hid ?_
  refine (HW8.out _ _).mono ?_
  rintro e w7 ⟨rfl, hb7⟩
  replace bl := bl.trans (hb7.mono bl.size)
  simp only []
  go_wp2_with fail
  go_ret
  exact ⟨rfl, bl⟩
end Go.Proofs.YtdflhnbpcnmpfaaGreatDoor

