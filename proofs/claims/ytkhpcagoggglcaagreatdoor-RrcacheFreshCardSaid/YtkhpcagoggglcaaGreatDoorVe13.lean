import Derived.Test.YtkhpcagoggglcaaGreatDoorVe12
import Derived.Maps.AppendAt
import Derived.Lib.SmallJoins
import Derived.Deep.RegionHeld3
import Derived.Test.YtkhpcagoggglcaaGreatDoorVe7
import Derived.ChangeSlices
import Derived.Deep.Strs
import Derived.ProofKit
import Derived.Deep.MidRow
import Derived.OpenShut
import Derived.Deep.Slices
import Derived.Deep.SlicePairs
import Derived.Test.YtkhpcagoggglcaaGreatDoorRows
import Derived.Test.YtkhpcagoggglcaaGreatDoorTie
import Derived.Test.YtkhpcagoggglcaaGreatDoorCards
import Derived.Carry
import Derived.LaidMore
import Derived.Lay
import Derived.SevenTiedAt
import Derived.Stop.Joined
/- guidepostlaw16's examples, pick and one, walked. -/
namespace Go.Proofs.YtkhpcagoggglcaaGreatDoor
open Go.RowKit

def pickR (c n : Int) : Int := if c < 0 then (-(c + 1)) % n else c % n
theorem pickR_bd (c n : Int) (hn : 0 < n) : 0 ≤ pickR c n ∧ pickR c n < n := by
  unfold pickR
  split
  · exact ⟨Int.emod_nonneg _ (by omega), Int.emod_lt_of_pos _ hn⟩
  · exact ⟨Int.emod_nonneg _ (by omega), Int.emod_lt_of_pos _ hn⟩
theorem pick_any (c n : Int) (w : World) (hc : -9223372036854775808 ≤ c ∧ c ≤ 9223372036854775807) (hn : 0 < n) (hn2 : n ≤ 1000000) : Calls Tryz.prog 7 #[.int .i64 c, .int .i64 n] w fun e w' => e = .returned (.int .i64 (pickR c n)) ∧ w = w' := by
  have q0 : (n == 0) = false := by rw [beq_eq_false_iff_ne]; omega
  have q00 : ¬ n = 0 := by omega
  by_cases h : c < 0
  · have q1 : decide (c < 0) = true := decide_eq_true h
    have r1 : IntKind.i64.wrap (c + 1) = c + 1 := IntWalk.i64_in _ (by omega)
    have r2 : IntKind.i64.wrap (-(c + 1)) = -(c + 1) := IntWalk.i64_in _ (by omega)
    have e : pickR c n = (-(c + 1)) % n := by rw [pickR, if_pos h]
    have b0 := pickR_bd c n hn
    rw [e] at b0 ⊢
    have e2 : (-(c + 1)).tmod n = (-(c + 1)) % n := Int.tmod_eq_emod_of_nonneg (by omega)
    have r3 : IntKind.i64.wrap ((-(c + 1)) % n) = (-(c + 1)) % n := IntWalk.i64_in _ (by omega)
    clear e
    generalize (-(c + 1)) % n = z at *
    go_enter Tryz.func7, Tryz.ntmps7
    go_wp2
    go_ret
    exact ⟨rfl, rfl⟩
  · have q1 : decide (c < 0) = false := decide_eq_false h
    have e : pickR c n = c % n := by rw [pickR, if_neg h]
    have h0 : 0 ≤ c := by omega
    have b0 := pickR_bd c n hn
    rw [e] at b0 ⊢
    clear e
    go_enter Tryz.func7, Tryz.ntmps7
    go_wp2
    go_ret
    exact ⟨rfl, rfl⟩
def oneS (n l : ByteArray) (t : Int) : SetD := ⟨n, 1, 1, t, [⟨#[10, 0, 0]⟩ ++ l], []⟩
theorem one_any (n l : ByteArray) (t : Int) (w : World) (hl : l.size ≤ 1000) : Calls Tryz.prog 13 #[.string n, .string l, .int .i64 t] w fun e w' => ∃ g, e = .returned ((oneS n l t).v (.slice (some ⟨g, 0, none⟩) 1 1) (.slice none 0 0)) ∧ StrsAt (.slice (some ⟨g, 0, none⟩) 1 1) (oneS n l t).data w' ∧ Below w.heap.size w w' := by
  have n1 : ¬ 9223372036854775807 < ByteArray.size ⟨#[10, 0, 0]⟩ + l.size := by have : ByteArray.size ⟨#[10, 0, 0]⟩ = 3 := rfl; omega
  go_enter Tryz.func13, Tryz.ntmps13
  go_wp2
  have hs := (Blk.new w #[.string n, .int .i64 1, .int .i64 1, .int .i64 t, .slice (some ⟨w.heap.size + 1, 0, none⟩) 1 1, .slice none 0 0] 30).alloc (.cells #[.string (⟨#[10, 0, 0]⟩ ++ l)] 9)
  have hk := Blk.new (w.alloc (.cells #[.string n, .int .i64 1, .int .i64 1, .int .i64 t, .slice (some ⟨w.heap.size + 1, 0, none⟩) 1 1, .slice none 0 0] 30)) #[.string (⟨#[10, 0, 0]⟩ ++ l)] 9
  rw [show (w.alloc (.cells #[.string n, .int .i64 1, .int .i64 1, .int .i64 t, .slice (some ⟨w.heap.size + 1, 0, none⟩) 1 1, .slice none 0 0] 30)).heap.size = w.heap.size + 1 by simp] at hk
  refine bodyPost_ret (results1 rfl ⟨_, rfl, loadVar_blk hs Tryz.underlying30 rfl info_Set⟩) rfl ⟨w.heap.size + 1, rfl, ⟨_, _, rfl, fun _ => ⟨_, 0, rfl, hk.lt, fun j hj => ?_⟩⟩, ((Below.refl _ w).alloc (Nat.le_refl _) _).alloc (by simp) _⟩
  obtain rfl : j = 0 := by simpa [oneS] using hj
  exact hk.cell 0
abbrev n16 : ByteArray := ⟨#[1, 97, 0]⟩
abbrev N16 : ByteArray := ⟨#[1, 65, 0]⟩
def e16 : Ent := ⟨oneS n16 ⟨#[1]⟩ 10, 3, 0, 1, 15⟩
def m16 : List Kv := [((n16, 1), e16)]
theorem ex16_1 : putR 2 0 [] (oneS n16 ⟨#[1]⟩ 10) 3 0 5 = (m16, 1, true, 0) := by kernel_rfl
theorem ex16_2 : putR 2 1 m16 (oneS N16 ⟨#[2]⟩ 10) 1 0 6 = (m16, 1, false, 0) := by kernel_rfl
theorem ex16_3 : getR m16 (nameLower N16) 1 9 = (m16, some e16) := by kernel_rfl
theorem ex16_4 : getR m16 (nameLower n16) 1 15 = ([], none) := by kernel_rfl
theorem ex16_5 : putR 2 1 [] zeroEnt.set 1 0 0 = ([], 1, false, 1) := by kernel_rfl
theorem blk_bes {O : Nat → Prop} {w w' : World} {b : Nat} {cs : Array Value} {t : TypeId} (h : Blk w b cs t) (hb : Bes O w w') (hn : ¬ O b) : Blk w' b cs t := by unfold Blk; rw [hb.block b h.lt hn]; exact h
theorem not_own {O O' : Nat → Prop} {w : World} {b : Nat} (hn : ¬ O b) (hl : b < w.heap.size) (ho : ∀ b, O' b → O b ∨ w.heap.size ≤ b) : ¬ O' b := fun h => by
  rcases ho b h with h1 | h1
  · exact hn h1
  · omega
set_option maxRecDepth 100000 in
set_option maxHeartbeats 2000000 in
theorem examples16 (w : World) : Calls Tryz.prog 5 #[] w fun e w' => e = .returned (.bool true) ∧ Below w.heap.size w w' := by
  go_enter Tryz.func5, Tryz.ntmps5
  go_wp2_with (go_at_call 6; refine (Hid.out (p := _) ?_))
  refine Lib.hid ?_
  refine (rc_new 2 _ (by decide) (by decide)).mono ?_
  rintro e w1 ⟨hb, c, O, rfl, hc, ho⟩
  have HB := Lib.hid hb; have HC := Lib.hid hc; have HO := Lib.hid ho
  clear hb hc ho
  simp only []
  go_wp2_with (go_at_call 6; refine (Hid.out (p := _) ?_))
  refine Lib.hid ?_
  refine (rc_new_no 0 _ (by decide)).mono ?_
  rintro e w2 ⟨rfl, rfl⟩
  simp only []
  go_wp2_with (go_at_call 13; refine (Hid.out (p := _) ?_))
  refine Lib.hid ?_
  refine (one_any n16 ⟨#[1]⟩ 10 _ (by decide)).mono ?_
  rintro e w3 ⟨g, rfl, hd, hb1⟩
  have HN := Lib.hid (And.intro hd (And.intro (HB.out.trans (hb1.mono HB.out.size)) (HC.out.below hb1)))
  clear hd hb1
  simp only [SetD.v, SetD.cells]
  have hpt := rc_put c O 2 0 [] (oneS n16 ⟨#[1]⟩ 10) (.slice (some ⟨g, 0, none⟩) 1 1) (.slice none 0 0) 3 0 5 w3 HN.out.2.2 HN.out.1 ⟨none, 0, rfl, fun h => absurd h (by simp [oneS])⟩ (by decide) (by decide) (by decide)
  rw [ex16_1] at hpt
  simp only [SetD.v, SetD.cells] at hpt
  have HPT := Lib.hid hpt
  clear hpt
  go_wp2_with (go_at_call 8; refine (Hid.out (p := _) ?_))
  refine Lib.hid ?_
  refine (HPT.out).mono ?_
  rintro e w4 ⟨rfl, O4, hc, ho, hbs⟩
  clear HPT
  have HB4 := Lib.hid (HN.out.2.1.trans (hbs.toBelow HO.out HN.out.2.1.size))
  have HO4 := Lib.hid (show ∀ b, O4 b → w.heap.size ≤ b from fun b h => by
    rcases ho b h with h1 | h1
    · exact HO.out b h1
    · exact Nat.le_trans HN.out.2.1.size h1)
  have HC4 := Lib.hid hc
  clear hc ho hbs
  simp only []
  clear HN
  go_wp2_with (go_at_call 13; refine (Hid.out (p := _) ?_))
  refine Lib.hid ?_
  refine (one_any N16 ⟨#[2]⟩ 10 _ (by decide)).mono ?_
  rintro e w5 ⟨g, rfl, hd, hb1⟩
  have HN := Lib.hid (And.intro hd (And.intro (HB4.out.trans (hb1.mono HB4.out.size)) (HC4.out.below hb1)))
  clear hd hb1
  simp only [SetD.v, SetD.cells]
  have hpt := rc_put c O4 2 1 m16 (oneS N16 ⟨#[2]⟩ 10) (.slice (some ⟨g, 0, none⟩) 1 1) (.slice none 0 0) 1 0 6 w5 HN.out.2.2 HN.out.1 ⟨none, 0, rfl, fun h => absurd h (by simp [oneS])⟩ (by decide) (by decide) (by decide)
  rw [ex16_2] at hpt
  simp only [SetD.v, SetD.cells] at hpt
  have HPT := Lib.hid hpt
  clear hpt
  go_wp2_with (go_at_call 8; refine (Hid.out (p := _) ?_))
  refine Lib.hid ?_
  refine (HPT.out).mono ?_
  rintro e w6 ⟨rfl, O6, hc, ho, hbs⟩
  clear HPT
  have HB6 := Lib.hid (HN.out.2.1.trans (hbs.toBelow HO4.out HN.out.2.1.size))
  have HO6 := Lib.hid (show ∀ b, O6 b → w.heap.size ≤ b from fun b h => by
    rcases ho b h with h1 | h1
    · exact HO4.out b h1
    · exact Nat.le_trans HN.out.2.1.size h1)
  have HC6 := Lib.hid hc
  clear hc ho hbs
  simp only []
  clear HN
  have hg := rc_get c O6 2 1 m16 N16 1 9 w6 HC6.out (by decide) (by decide) (by decide)
  rw [ex16_3] at hg
  go_wp2_with (go_at_call 9; refine (Hid.out (p := _) ?_))
  refine Lib.hid ?_
  refine (hg).mono ?_
  rintro e w7 ⟨O7, ⟨hc, ho, hbs⟩, dv, sv, rfl, hdv, hsv⟩
  clear hg
  have HB7 := Lib.hid (HB6.out.trans (hbs.toBelow HO6.out HB6.out.size))
  have HO7 := Lib.hid (show ∀ b, O7 b → w.heap.size ≤ b from fun b h => by
    rcases ho b h with h1 | h1
    · exact HO6.out b h1
    · exact Nat.le_trans HB6.out.size h1)
  have HC7 := Lib.hid hc
  clear hc ho hbs
  simp only []
  obtain ⟨DA, dc, rfl, _⟩ := hdv
  obtain ⟨SA, sc, rfl, _⟩ := hsv
  simp only [Ent.told, Ent.v, Ent.cells, e16, oneS, show min ((15 : Int) - 9) 604800 = 6 by decide]
  have hg2 := fun W (h : CacheIs c O7 2 1 m16 W) => rc_get c O7 2 1 m16 n16 1 15 W h (by decide) (by decide) (by decide)
  simp only [ex16_4] at hg2
  have HG2 := Lib.hid hg2
  clear hg2
  go_wp2_with (go_at_call 9; refine (Hid.out (p := _) ?_))
  refine Lib.hid ?_
  have hx0 := Blk.new w7 #[.string ⟨#[1, 97, 0]⟩, .int .i64 1, .int .i64 1, .int .i64 6, .slice DA [(⟨#[10, 0, 0]⟩ ++ ⟨#[1]⟩ : ByteArray)].length dc, .slice SA ([] : List ByteArray).length sc, .int .i64 3, .int .i64 0, .int .i64 1, .int .i64 15] 37
  have hal := (Below.refl w7.heap.size w7).alloc (Nat.le_refl _) (.cells #[.string ⟨#[1, 97, 0]⟩, .int .i64 1, .int .i64 1, .int .i64 6, .slice DA [(⟨#[10, 0, 0]⟩ ++ ⟨#[1]⟩ : ByteArray)].length dc, .slice SA ([] : List ByteArray).length sc, .int .i64 3, .int .i64 0, .int .i64 1, .int .i64 15] 37)
  generalize (w7.alloc (.cells #[.string ⟨#[1, 97, 0]⟩, .int .i64 1, .int .i64 1, .int .i64 6, .slice DA [(⟨#[10, 0, 0]⟩ ++ ⟨#[1]⟩ : ByteArray)].length dc, .slice SA ([] : List ByteArray).length sc, .int .i64 3, .int .i64 0, .int .i64 1, .int .i64 15] 37)) = w8 at hx0 hal ⊢
  have hnx : ¬ O7 w7.heap.size := fun h => absurd (HC7.out.lt h) (Nat.lt_irrefl _)
  have HB8 := Lib.hid (HB7.out.trans (hal.mono HB7.out.size))
  refine (HG2.out w8 (HC7.out.below hal)).mono ?_
  rintro e w9 ⟨O9, ⟨hc, ho, hbs⟩, rfl⟩
  have hx9 := blk_bes hx0 hbs hnx
  have hnx9 := not_own hnx hx0.lt ho
  have HB9 := Lib.hid (HB8.out.trans (hbs.toBelow HO7.out HB8.out.size))
  have HO9 := Lib.hid (show ∀ b, O9 b → w.heap.size ≤ b from fun b h => by
    rcases ho b h with h1 | h1
    · exact HO7.out b h1
    · exact Nat.le_trans HB8.out.size h1)
  have HC9 := Lib.hid hc
  clear hc ho hbs
  simp only []
  have HX9 := Lib.hid (And.intro hx9 hnx9)
  generalize w7.heap.size = xb at *
  clear hx0 hal hnx hx9 hnx9 HG2
  simp only [Ent.v, Ent.cells, zeroEnt]
  go_wp2_with (go_at_call 8; refine (Hid.out (p := _) ?_))
  refine Lib.hid ?_
  have hz0 := Blk.new w9 #[.string ⟨#[]⟩, .int .i64 0, .int .i64 0, .int .i64 0, .slice none 0 0, .slice none 0 0, .int .i64 0, .int .i64 0, .int .i64 0, .int .i64 0] 37
  have hal := (Below.refl w9.heap.size w9).alloc (Nat.le_refl _) (.cells #[.string ⟨#[]⟩, .int .i64 0, .int .i64 0, .int .i64 0, .slice none 0 0, .slice none 0 0, .int .i64 0, .int .i64 0, .int .i64 0, .int .i64 0] 37)
  generalize (w9.alloc (.cells #[.string ⟨#[]⟩, .int .i64 0, .int .i64 0, .int .i64 0, .slice none 0 0, .slice none 0 0, .int .i64 0, .int .i64 0, .int .i64 0, .int .i64 0] 37)) = wa at hz0 hal ⊢
  have HBa := Lib.hid (HB9.out.trans (hal.mono HB9.out.size))
  have hpt := rc_put c O9 2 1 [] zeroEnt.set (.slice none 0 0) (.slice none 0 0) 1 0 0 wa (HC9.out.below hal) ⟨none, 0, rfl, fun h => absurd h (by decide)⟩ ⟨none, 0, rfl, fun h => absurd h (by decide)⟩ (by decide) (by decide) (by decide)
  rw [ex16_5] at hpt
  refine hpt.mono ?_
  rintro e wb ⟨rfl, Ob, hc, ho, hbs⟩
  have hxa := HX9.out.1.below hal HX9.out.1.lt
  have hxb := blk_bes hxa hbs HX9.out.2
  have HBb := Lib.hid (HBa.out.trans (hbs.toBelow HO9.out HBa.out.size))
  have HOb := Lib.hid (show ∀ b, Ob b → w.heap.size ≤ b from fun b h => by
    rcases ho b h with h1 | h1
    · exact HO9.out b h1
    · exact Nat.le_trans HBa.out.size h1)
  have HCb := Lib.hid hc
  clear hc ho hbs
  simp only []
  have d0 := hxb.cell 0; have d1 := hxb.cell 1; have d3 := hxb.cell 3; have d6 := hxb.cell 6; have d8 := hxb.cell 8
  have dl := hxb.lt
  have HLN := Lib.hid (rc_len c Ob 2 1 [] wb HCb.out)
  clear hz0 hal hpt hxa hxb
  go_wp2_with (go_at_call 12; refine HLN.out.mono ?_; rintro e wc ⟨rfl, rfl⟩)
  go_ret
  exact ⟨rfl, HBb.out⟩
end Go.Proofs.YtkhpcagoggglcaaGreatDoor

/- RrcacheRanks, walked: true. -/
namespace Go.Proofs.YtkhpcagoggglcaaGreatDoor
open Go.RowKit

theorem CacheIX.bes0 {c : Nat} {O X : Nat → Prop} {most last : Int} {w w' : World} {S : Nat → Prop} (h : CacheIX c O X most last [] w) (hb : Bes S w w') (hn : ∀ b, O b → ¬ S b) : CacheIX c O X most last [] w' := by
  obtain ⟨tb, mb, l, e, h⟩ := h
  obtain rfl : l = [] := by simpa using e
  have hk : ∀ b, O b → w'.heap[b]? = w.heap[b]? := fun b ho => hb.block b (h.lt ho) (hn b ho)
  refine ⟨tb, mb, [], rfl, h.own, ?_, h.apart, h.tab.keep (fun b hi => hk b ((h.own b).2 (.inr hi))) hb.size, by simp, fun b hb' => Nat.lt_of_lt_of_le (h.xlt b hb') hb.size, h.xno⟩
  unfold Blk; rw [hk c ((h.own c).2 (.inl rfl))]; exact h.cells
def rkE (a : SetD) (f now ver : Int) : Kv := ((nameLower a.name, a.kind), ⟨a, f, 0, ver, now + min a.ttl 604800⟩)
theorem rk_ttl {a : SetD} {f s now : Int} (h : putOk a f s now = true) : 0 ≤ a.ttl ∧ a.ttl ≤ 2147483647 ∧ 0 ≤ now ∧ now < 4294967296 ∧ rightS a = true := by
  simp only [putOk, isTimeR, Bool.and_eq_true, decide_eq_true_eq] at h
  have h0 := h.1.1.1.1.1.1
  have h1 := h0
  simp only [rightS, btw, Bool.and_eq_true, decide_eq_true_eq] at h1
  exact ⟨h1.1.1.1.1.1.1.1.2.1, h1.1.1.1.1.1.1.1.2.2, h.2.1, h.2.2, h0⟩
theorem rk_put1 (a : SetD) (f now : Int) : putR 5 0 [] a f 0 now = ([], 0, false, 1) ∨ putR 5 0 [] a f 0 now = ([], 0, false, 0) ∨ (putOk a f 0 now = true ∧ 1 ≤ a.ttl ∧ putR 5 0 [] a f 0 now = ([rkE a f now 1], 1, true, 0)) := by
  cases hok : putOk a f 0 now with
  | false => exact .inl (by rw [putR, if_pos hok])
  | true =>
    have ht := rk_ttl hok
    by_cases hz : min a.ttl 604800 = 0
    · exact .inr (.inl (by rw [putR, if_neg (by rw [hok]; simp), if_pos]; rw [putStay, decide_eq_true hz]; rfl))
    · refine .inr (.inr ⟨rfl, by omega, ?_⟩)
      rw [putR, if_neg (by rw [hok]; simp), if_neg]
      · rfl
      · rw [putStay, decide_eq_false hz]; simp [findPut]
theorem rk_isK (a : SetD) (f now ver : Int) : isK (nameLower a.name) a.kind (rkE a f now ver) = true := by simp [isK, rkE]
theorem rk_find (a : SetD) (f now ver : Int) : [rkE a f now ver].find? (isK (nameLower a.name) a.kind) = some (rkE a f now ver) := by rw [List.find?_cons, rk_isK]
theorem rk_get {a : SetD} {f now ver t : Int} (ht : isTimeR t = true) : getR [rkE a f now ver] (nameLower a.name) a.kind t = if now + min a.ttl 604800 ≤ t then ([], none) else ([rkE a f now ver], some (rkE a f now ver).2) := by
  rw [getR, rk_find]
  simp only []
  rw [if_neg (by rw [ht]; simp)]
  show (if now + min a.ttl 604800 ≤ t then _ else _) = _
  split
  · rw [List.eraseP_cons_of_pos (rk_isK a f now ver)]
  · rw [List.eraseP_cons_of_pos (rk_isK a f now ver)]
theorem rk_get0 (n : ByteArray) (k t : Int) : getR [] n k t = ([], none) := rfl
/-- The second Put, over a set that is there. -/
theorem rk_put2 {a b : SetD} {f g now t : Int} (hn : b.name = a.name) (hk : b.kind = a.kind) (hT : t < now + min a.ttl 604800) :
    putR 5 1 [rkE a f now 1] b g 0 t = ([rkE a f now 1], 1, false, 1) ∨ (putR 5 1 [rkE a f now 1] b g 0 t = ([rkE a f now 1], 1, false, 0) ∧ (b.ttl = 0 ∨ g < f)) ∨
    (putOk b g 0 t = true ∧ 1 ≤ b.ttl ∧ f ≤ g ∧ ∃ v l, 0 ≤ l ∧ l ≤ 2 ∧ putR 5 1 [rkE a f now 1] b g 0 t = ([rkE b g t v], l, true, 0)) := by
  cases hok : putOk b g 0 t with
  | false => exact .inl (by rw [putR, if_pos hok])
  | true =>
    have ht := rk_ttl hok
    have hfp : findPut [rkE a f now 1] (nameLower b.name) b.kind t g = decide (g < f) := by
      rw [findPut, hn, hk, rk_find]
      show (decide (t < now + min a.ttl 604800) && decide (g < f)) = _
      rw [decide_eq_true hT]; rfl
    by_cases hz : min b.ttl 604800 = 0
    · exact .inr (.inl ⟨by rw [putR, if_neg (by rw [hok]; simp), if_pos]; rw [putStay, decide_eq_true hz]; rfl, .inl (by omega)⟩)
    · by_cases hg : g < f
      · exact .inr (.inl ⟨by rw [putR, if_neg (by rw [hok]; simp), if_pos]; rw [putStay, hfp, decide_eq_true hg]; simp, .inr hg⟩)
      · refine .inr (.inr ⟨rfl, by omega, by omega, ?_⟩)
        have hm : ∀ e, putM 5 [rkE a f now 1] (nameLower b.name) b.kind e = [e] := fun e => by
          rw [putM, hn, hk, rk_find]
          simp only []
          rw [List.eraseP_cons_of_pos (rk_isK a f now 1)]
        refine ⟨(putE [rkE a f now 1] b g 0 t 1).2.ver, putL [rkE a f now 1] b 1, ?_, ?_, ?_⟩
        · unfold putL; split <;> omega
        · unfold putL; split <;> omega
        · rw [putR, if_neg (by rw [hok]; simp), if_neg (by rw [putStay, hfp, decide_eq_false hz, decide_eq_false hg]; simp), hm]
          rfl
/-- The second Put, where the first set is over. -/
theorem rk_put3 {b : SetD} {g t : Int} :
    putR 5 1 [] b g 0 t = ([], 1, false, 1) ∨ (putR 5 1 [] b g 0 t = ([], 1, false, 0) ∧ b.ttl = 0) ∨ (putOk b g 0 t = true ∧ 1 ≤ b.ttl ∧ putR 5 1 [] b g 0 t = ([rkE b g t 2], 2, true, 0)) := by
  cases hok : putOk b g 0 t with
  | false => exact .inl (by rw [putR, if_pos hok])
  | true =>
    have ht := rk_ttl hok
    by_cases hz : min b.ttl 604800 = 0
    · exact .inr (.inl ⟨by rw [putR, if_neg (by rw [hok]; simp), if_pos]; rw [putStay, decide_eq_true hz]; rfl, by omega⟩)
    · refine .inr (.inr ⟨rfl, by omega, ?_⟩)
      rw [putR, if_neg (by rw [hok]; simp), if_neg]
      · rfl
      · rw [putStay, decide_eq_false hz]; simp [findPut]
/-- A set whose TTL is another one, still right, is the same set. -/
theorem rk_same {a : SetD} {t : Int} (h : rightS a = true) (h0 : 0 ≤ t) (h1 : t ≤ 2147483647) : sameS { a with ttl := t } a = true ∧ sameS { a with ttl := t } { a with ttl := t } = true := by
  have hr : rightS { a with ttl := t } = true := by
    simp only [rightS, btw, Bool.and_eq_true, decide_eq_true_eq] at h ⊢
    obtain ⟨⟨⟨⟨⟨⟨⟨⟨⟨⟨x1, x2⟩, x3⟩, x4⟩, x5⟩, x6⟩, x7⟩, x8⟩, x9⟩, x10⟩, x11⟩ := h
    exact ⟨⟨⟨⟨⟨⟨⟨⟨⟨⟨x1, x2⟩, x3⟩, ⟨h0, h1⟩⟩, x5⟩, x6⟩, x7⟩, x8⟩, x9⟩, x10⟩, x11⟩
  have hn : nameRight a.name = true := by
    simp only [rightS, Bool.and_eq_true] at h
    exact h.1.1.1.1.1.1.1.1.1.1
  have he : nameEq a.name a.name = true := by simp [nameEq, hn]
  constructor
  · simp only [sameS, hr, h, he, decide_true, Bool.and_self, Bool.true_and]
    exact decide_eq_true rfl
  · simp only [sameS, hr, he, decide_true, Bool.and_self]
end Go.Proofs.YtkhpcagoggglcaaGreatDoor

/- What a cache tells of one version is one set: the plain law. -/
namespace Go.Proofs.YtkhpcagoggglcaaGreatDoor
open Go.RowKit

theorem sameS_trans {a b c : SetD} (h : sameS a b = true) (h' : sameS b c = true) : sameS a c = true := by
  rw [sameS_iff, nameEq_iff] at h h' ⊢
  obtain ⟨h1, h2, ⟨h3, h4, h5⟩, h6, h7, h8⟩ := h
  obtain ⟨g1, g2, ⟨g3, g4, g5⟩, g6, g7, g8⟩ := h'
  exact ⟨h1, g2, ⟨h3, g4, h5.trans g5⟩, h6.trans g6, h7.trans g7, h8.trans g8⟩
theorem sameS_self {a : SetD} (h : rightS a = true) : sameS a a = true := by
  have hn : nameRight a.name = true := by
    simp only [rightS, Bool.and_eq_true] at h
    exact h.1.1.1.1.1.1.1.1.1.1
  rw [sameS_iff, nameEq_iff]
  exact ⟨h, h, ⟨hn, hn, rfl⟩, rfl, rfl, rfl⟩
/-- What a cache knows and what it has told: one version is one set. -/
structure VersI (last : Int) (m : List Kv) (l : List Ent) : Prop where
  one : ∀ x ∈ m.map (·.2) ++ l, ∀ y ∈ m.map (·.2) ++ l, x.ver = y.ver → sameS x.set y.set = true
  ver : ∀ x ∈ m.map (·.2) ++ l, x.ver ≤ last
theorem VersI.sub {last : Int} {m m' : List Kv} {l : List Ent} (h : VersI last m l) (hs : ∀ x ∈ m', x ∈ m) : VersI last m' l := by
  have hm : ∀ x ∈ m'.map (·.2) ++ l, x ∈ m.map (·.2) ++ l := fun x hx => by
    rcases List.mem_append.1 hx with hx | hx
    · obtain ⟨y, hy, rfl⟩ := List.mem_map.1 hx
      exact List.mem_append.2 (.inl (List.mem_map.2 ⟨y, hs y hy, rfl⟩))
    · exact List.mem_append.2 (.inr hx)
  exact ⟨fun x hx y hy e => h.one x (hm x hx) y (hm y hy) e, fun x hx => h.ver x (hm x hx)⟩
theorem VersI.add {last last' : Int} {m m' : List Kv} {l : List Ent} {e : Kv} (h : VersI last m l) (hs : ∀ x ∈ m', x = e ∨ x ∈ m) (hl : last ≤ last') (hr : rightS e.2.set = true)
    (he : (e.2.ver = last + 1 ∧ last' = last + 1) ∨ (last' = last ∧ ∃ o ∈ m, e.2.ver = o.2.ver ∧ sameS o.2.set e.2.set = true)) : VersI last' m' l := by
  have hm : ∀ x ∈ m'.map (·.2) ++ l, x = e.2 ∨ x ∈ m.map (·.2) ++ l := fun x hx => by
    rcases List.mem_append.1 hx with hx | hx
    · obtain ⟨y, hy, rfl⟩ := List.mem_map.1 hx
      rcases hs y hy with rfl | hy
      · exact .inl rfl
      · exact .inr (List.mem_append.2 (.inl (List.mem_map.2 ⟨y, hy, rfl⟩)))
    · exact .inr (List.mem_append.2 (.inr hx))
  have key : ∀ x ∈ m.map (·.2) ++ l, x.ver = e.2.ver → sameS x.set e.2.set = true := fun x hx hv => by
    rcases he with ⟨h1, _⟩ | ⟨_, o, ho, h1, h2⟩
    · have := h.ver x hx; omega
    · exact sameS_trans (h.one x hx o.2 (List.mem_append.2 (.inl (List.mem_map.2 ⟨o, ho, rfl⟩))) (hv.trans h1)) h2
  refine ⟨fun x hx y hy hv => ?_, fun x hx => ?_⟩
  · rcases hm x hx with rfl | hx
    · rcases hm y hy with rfl | hy
      · exact sameS_self hr
      · exact sameS_symm (key y hy hv.symm)
    · rcases hm y hy with rfl | hy
      · exact key x hx hv
      · exact h.one x hx y hy hv
  · rcases hm x hx with rfl | hx
    · rcases he with ⟨h1, h2⟩ | ⟨h2, o, ho, h1, _⟩
      · omega
      · have := h.ver o.2 (List.mem_append.2 (.inl (List.mem_map.2 ⟨o, ho, rfl⟩))); omega
    · have := h.ver x hx; omega
theorem mem_putM {most : Int} {m : List Kv} {n : ByteArray} {k : Int} {e x : Kv} (h : x ∈ putM most m n k e) : x = e ∨ x ∈ m := by
  unfold putM at h
  split at h
  · rcases List.mem_cons.1 h with h | h
    · exact .inl h
    · exact .inr (List.mem_of_mem_eraseP h)
  · split at h
    · rcases List.mem_cons.1 h with h | h
      · exact .inl h
      · exact .inr h
    · rcases List.mem_cons.1 h with h | h
      · exact .inl h
      · exact .inr (List.dropLast_subset m h)
theorem len_putM {most : Int} {m : List Kv} {n : ByteArray} {k : Int} {e : Kv} (h1 : (m.length : Int) ≤ most) (h0 : 1 ≤ most) : ((putM most m n k e).length : Int) ≤ most ∧ (putM most m n k e).length ≤ m.length + 1 := by
  unfold putM
  split
  · rename_i o ho
    have hx := List.length_eraseP_of_mem (p := isK n k) (List.mem_of_find?_eq_some ho) (List.find?_some ho)
    have : 0 < m.length := List.length_pos_of_mem (List.mem_of_find?_eq_some ho)
    rw [List.length_cons, hx]; omega
  · split
    · rw [List.length_cons]; omega
    · rw [List.length_cons, List.length_dropLast]; omega
/-- What Put keeps of a cache. -/
theorem vers_put {most last : Int} {m : List Kv} {l : List Ent} {s : SetD} {rank sec now : Int} (h : VersI last m l) (h1 : (m.length : Int) ≤ most) (h0 : 1 ≤ most) :
    VersI (putR most last m s rank sec now).2.1 (putR most last m s rank sec now).1 l ∧ (((putR most last m s rank sec now).1.length : Int) ≤ most ∧ (putR most last m s rank sec now).1.length ≤ m.length + 1) ∧ last ≤ (putR most last m s rank sec now).2.1 ∧ (putR most last m s rank sec now).2.1 ≤ last + 1 := by
  cases hok : putOk s rank sec now with
  | false => rw [putR, if_pos hok]; exact ⟨h, ⟨h1, Nat.le_succ _⟩, Int.le_refl _, by show last ≤ last + 1; omega⟩
  | true =>
    cases hst : putStay m s rank now with
    | true => rw [putR, if_neg (by rw [hok]; simp), if_pos hst]; exact ⟨h, ⟨h1, Nat.le_succ _⟩, Int.le_refl _, by show last ≤ last + 1; omega⟩
    | false =>
      rw [putR, if_neg (by rw [hok]; simp), if_neg (by rw [hst]; simp)]
      have hb : last ≤ putL m s last ∧ putL m s last ≤ last + 1 := by unfold putL; split <;> omega
      refine ⟨h.add (fun x hx => mem_putM hx) hb.1 (rk_ttl hok).2.2.2.2 ?_, len_putM h1 h0, hb⟩
      show ((putE m s rank sec now last).2.ver = last + 1 ∧ putL m s last = last + 1) ∨ _
      unfold putE putL
      cases hs : samePut m (nameLower s.name) s.kind s with
      | none => exact .inl ⟨rfl, rfl⟩
      | some o =>
        refine .inr ⟨rfl, ?_⟩
        unfold samePut at hs
        split at hs
        · rename_i o' ho
          split at hs
          · rename_i hc
            obtain rfl := Option.some.inj hs
            rw [Bool.and_eq_true] at hc
            exact ⟨o', List.mem_of_find?_eq_some ho, rfl, hc.1⟩
          · cases hs
        · cases hs
theorem rightS_ttl {a : SetD} {t : Int} (h : rightS a = true) (h0 : 0 ≤ t) (h1 : t ≤ 2147483647) : sameS { a with ttl := t } a = true := (rk_same h h0 h1).1
/-- What Get keeps of a cache, and what it tells. -/
theorem vers_get {last : Int} {m : List Kv} {l : List Ent} {n : ByteArray} {k t : Int} (h : VersI last m l) :
    VersI last (getR m n k t).1 l ∧ (getR m n k t).1.length ≤ m.length ∧ ∀ x, (getR m n k t).2 = some x → VersI last (getR m n k t).1 (l ++ [x.told t]) ∧ (∀ y ∈ l, y.ver = (x.told t).ver → sameS y.set (x.told t).set = true) := by
  have hgen : ∀ m', (∀ x ∈ m', x ∈ m) → ∀ x : Ent, x ∈ m.map (·.2) → t < x.til → VersI last m' (l ++ [x.told t]) ∧ (∀ y ∈ l, y.ver = (x.told t).ver → sameS y.set (x.told t).set = true) := fun m' hs x hx ht => by
    have hxx := h.one x (List.mem_append.2 (.inl hx)) x (List.mem_append.2 (.inl hx)) rfl
    have hr := (sameS_iff.1 hxx).1
    have hto : sameS (x.told t).set x.set = true := rightS_ttl hr (by omega) (by omega)
    have hm : ∀ y ∈ m'.map (·.2) ++ (l ++ [x.told t]), y = x.told t ∨ y ∈ m.map (·.2) ++ l := fun y hy => by
      rw [← List.append_assoc] at hy
      rcases List.mem_append.1 hy with hy | hy
      · refine .inr ?_
        rcases List.mem_append.1 hy with hy | hy
        · obtain ⟨z, hz, rfl⟩ := List.mem_map.1 hy
          exact List.mem_append.2 (.inl (List.mem_map.2 ⟨z, hs z hz, rfl⟩))
        · exact List.mem_append.2 (.inr hy)
      · exact .inl (List.mem_singleton.1 hy)
    have key : ∀ y ∈ m.map (·.2) ++ l, y.ver = (x.told t).ver → sameS y.set (x.told t).set = true := fun y hy hv =>
      sameS_trans (h.one y hy x (List.mem_append.2 (.inl hx)) hv) (sameS_symm hto)
    refine ⟨⟨fun y hy z hz hv => ?_, fun y hy => ?_⟩, fun y hy hv => key y (List.mem_append.2 (.inr hy)) hv⟩
    · rcases hm y hy with rfl | hy
      · rcases hm z hz with rfl | hz
        · exact sameS_self (sameS_iff.1 hto).1
        · exact sameS_symm (key z hz hv.symm)
      · rcases hm z hz with rfl | hz
        · exact key y hy hv
        · exact h.one y hy z hz hv
    · rcases hm y hy with rfl | hy
      · exact h.ver x (List.mem_append.2 (.inl hx))
      · exact h.ver y hy
  unfold getR
  cases hf : m.find? (isK n k) with
  | none => exact ⟨h, Nat.le_refl _, fun x hx => by cases hx⟩
  | some e =>
    simp only []
    split
    · exact ⟨h, Nat.le_refl _, fun x hx => by cases hx⟩
    · have he : ∀ x ∈ m.eraseP (isK n k), x ∈ m := fun x hx => List.mem_of_mem_eraseP hx
      have hem := List.mem_of_find?_eq_some hf
      split
      · exact ⟨h.sub he, List.length_eraseP_le, fun x hx => by cases hx⟩
      · have hcons : ∀ x ∈ e :: m.eraseP (isK n k), x ∈ m := fun x hx => by
          rcases List.mem_cons.1 hx with rfl | hx
          · exact hem
          · exact he x hx
        refine ⟨h.sub hcons, ?_, fun x hx => ?_⟩
        · have := List.length_eraseP_of_mem hem (List.find?_some hf)
          have : 0 < m.length := List.length_pos_of_mem hem
          simp only [List.length_cons]; omega
        · obtain rfl := Option.some.inj hx
          exact hgen _ hcons e.2 (List.mem_map.2 ⟨e, hem, rfl⟩) (by omega)
theorem vers_nil : VersI 0 [] [] := ⟨by simp, by simp⟩
end Go.Proofs.YtkhpcagoggglcaaGreatDoor

/- A row of entries that a caller keeps beside a cache; a list of deeds. -/
namespace Go.Proofs.YtkhpcagoggglcaaGreatDoor
open Go.RowKit

theorem info_ent : (Tryz.prog.info? 37).map (fun i => (i.zero, i.size, i.bytes)) = some (some (.agg #[.string ⟨#[]⟩, .int .i64 0, .int .i64 0, .int .i64 0, .slice none 0 0, .slice none 0 0, .int .i64 0, .int .i64 0, .int .i64 0, .int .i64 0]), 10, 120) := by kernel_rfl
theorem ownsRow_bes {O : Nat → Prop} {base size n : Nat} {e : TypeId} {v : Value} {xs : List Value} {w w' : World} (h : w.ownsRow base e size v n xs) (hb : Bes O w w') (hn : ∀ b, v.ownBlock = some b → ¬ O b) : w'.ownsRow base e size v n xs := by
  refine ⟨h.1, ?_⟩
  rcases h.2 with h | ⟨g, cap, cur, rfl, hb1, hg, r⟩
  · exact .inl h
  · exact .inr ⟨g, cap, cur, rfl, hb1, by rw [hb.block g (lt_of_block hg) (hn g rfl)]; exact hg, r⟩
theorem Bes.of_grown {v : Value} {w w' : World} (h : w.grownBy w' v.ownBlock) : Bes (fun b => v.ownBlock = some b) w w' := ⟨h.os, h.tape, h.output, h.size, fun b hb hn => h.block b hb fun e => hn e.symm⟩
theorem flat_get {α β : Type} (f : α → List β) (n : Nat) : ∀ (l : List α), (∀ x ∈ l, (f x).length = n) → ∀ k i (hk : k < l.length), i < n → (l.flatMap f)[k * n + i]? = (f l[k])[i]?
  | [], _, k, _, hk, _ => by simp at hk
  | x :: l, hf, 0, i, _, hi => by
    rw [List.flatMap_cons, Nat.zero_mul, Nat.zero_add, List.getElem?_append_left (by rw [hf x (by simp)]; exact hi)]
    rfl
  | x :: l, hf, k + 1, i, hk, hi => by
    have hx := hf x (by simp)
    have e : (k + 1) * n + i - n = k * n + i := by rw [Nat.add_mul, Nat.one_mul]; omega
    rw [List.flatMap_cons, List.getElem?_append_right (by rw [hx, Nat.add_mul, Nat.one_mul]; omega), hx, e, flat_get f n l (fun y hy => hf y (by simp [hy])) k i (by simpa using hk) hi]
    rfl
/-- An entry that was told, with its two rows. -/
structure SE where
  ent : Ent
  dv : Value
  sv : Value
def SE.cells (x : SE) : List Value := (x.ent.cells x.dv x.sv).toList
/-- A row of entries of the call's own. -/
def OwnE (base : Nat) (v : Value) (l : List SE) (w : World) : Prop := w.ownsRow base 37 10 v l.length (l.flatMap SE.cells)
theorem ownE_cell {base : Nat} {g n cap : Nat} {l : List SE} {w : World} (h : OwnE base (.slice (some ⟨g, 0, none⟩) n cap) l w) (k : Nat) (hk : k < l.length) (i : Nat) (hi : i < 10) : w.cell? ⟨g, k * 10 + i, none⟩ = l[k].cells[i]? := by
  rcases h.2 with ⟨h0, _⟩ | ⟨g', cap', cur, e, hb, hg, hn, hm, hsz, htk⟩
  · cases h0
  · obtain ⟨rfl, rfl, rfl⟩ : g = g' ∧ n = l.length ∧ cap = cap' := by
      injection e with e1 e2 e3
      injection e1 with e1
      injection e1 with e1
      exact ⟨e1, e2, e3⟩
    rw [cell_of_row w g (k * 10 + i) cur 37 (0, 0) hg, ← flat_get SE.cells 10 l (fun x _ => rfl) k i hk hi, ← htk, List.getElem?_take_of_lt (by omega), Array.getElem?_toList]
theorem ent_one (x : SE) (h1 : x.dv.oneCell' = true) (h2 : x.sv.oneCell' = true) : ∀ u ∈ x.cells, u.oneCell' = true := by
  intro u hu
  simp only [SE.cells, Ent.cells, List.mem_cons, List.not_mem_nil, or_false] at hu
  rcases hu with rfl | rfl | rfl | rfl | rfl | rfl | rfl | rfl | rfl | rfl <;> first | rfl | assumption
theorem ownE_app {ops : Array Oper} {rest : List Oper} {o : Oper} {a : Act} {Q : Exit → Act → World → Prop} {base : Nat} {v : Value} {l : List SE} {W : World} (HO : OwnE base v l W) (hbase : base ≤ W.heap.size) (x : SE) (h1 : x.dv.oneCell' = true) (h2 : x.sv.oneCell' = true) (g c : Nat)
    (hsrc : Blk W g (x.ent.cells x.dv x.sv) 37) (hl : l.length ≤ 100000)
    (hgd : o.guard = none) (s y : Operand) (ho : o.op = .call { callee := .builtin .append, args := #[s, y], argTypes := #[43, 43] }) (hs : a.eval s = v) (hx : a.eval y = .slice (some ⟨g, 0, none⟩) 1 c)
    (h : ∀ v1 w1, OwnE base v1 (l ++ [x]) w1 → Bes (fun b => v.ownBlock = some b) W w1 → (∀ b, v1.ownBlock = some b → v.ownBlock = some b ∨ W.heap.size ≤ b) → (∃ g1 c1, v1 = .slice (some ⟨g1, 0, none⟩) (l.length + 1) c1) → wpList Tryz.prog ops Q rest (a.put o.dst v1) w1) : wpList Tryz.prog ops Q (o :: rest) a W := by
  obtain ⟨i0, hi, hzz⟩ := Option.map_eq_some_iff.1 info_ent
  simp only [Prod.mk.injEq] at hzz
  obtain ⟨hz0, hz1, hz2⟩ := hzz
  refine wpList_append_own_at W hgd s y 43 ho base 37 i0 _ 10 120 Tryz.underlying43 hi hz0 hz1 hz2 rfl (by omega) v l.length _ hs HO ⟨g, 0, none⟩ 1 c x.cells hx rfl
    (fun j u hj => by rw [show (⟨g, 0, none⟩ : Addr).add j = ⟨g, j, none⟩ from by unfold Addr.add; split <;> simp_all, hsrc.cell j, ← hj, SE.cells, Array.getElem?_toList]) (ent_one x h1 h2) (by simp only [maxLen]; omega) (by omega) hbase ?_
  intro v1 w1 hown hg _ hblk
  have hown' : OwnE base v1 (l ++ [x]) w1 := by
    unfold OwnE
    rw [List.length_append, List.flatMap_append, List.flatMap_singleton]; exact hown
  refine h v1 w1 hown' (Bes.of_grown hg) (fun b hb => ?_) ?_
  · rcases hblk with e | e
    · exact .inl (by rw [← e]; exact hb)
    · rw [e] at hb; injection hb with hb; exact .inr (by omega)
  · obtain ⟨g1, c1, e⟩ := Go.Joins.ownsRow_form hown (by omega)
    exact ⟨g1, c1, e⟩
/-- A cache, beside it the entries that it has told. -/
structure VSt (w0 : World) (c : Nat) (most last : Int) (j : Nat) (v : Value) (O : Nat → Prop) (m : List Kv) (l : List SE) (w : World) : Prop where
  cache : CacheIX c O (fun b => v.ownBlock = some b) most last m w
  new : ∀ b, O b → w0.heap.size ≤ b
  row : OwnE w0.heap.size v l w
  strs : ∀ x ∈ l, StrsN (fun g => ¬ O g ∧ v.ownBlock ≠ some g) x.dv x.ent.set.data w ∧ StrsN (fun g => ¬ O g ∧ v.ownBlock ≠ some g) x.sv x.ent.set.sigs w
  law : VersI last m (l.map SE.ent)
  len : l.length ≤ j ∧ m.length ≤ j ∧ (m.length : Int) ≤ most ∧ 1 ≤ most ∧ 0 ≤ last ∧ last ≤ j
  below : Below w0.heap.size w0 w
theorem VSt.next {w0 : World} {c : Nat} {most last : Int} {j : Nat} {v : Value} {O : Nat → Prop} {m : List Kv} {l : List SE} {w w' : World} (h : VSt w0 c most last j v O m l w) (hb : Below w.heap.size w w') : VSt w0 c most last j v O m l w' :=
  ⟨h.cache.below hb, h.new, ownsRow_bes h.row (Bes.of_below (S := fun _ => False) hb) (fun _ _ h => h), fun x hx => ⟨(h.strs x hx).1.below hb, (h.strs x hx).2.below hb⟩, h.law, h.len, h.below.trans (hb.mono h.below.size)⟩
theorem StrsN.apart {O O' X : Nat → Prop} {v : Value} {l : List ByteArray} {w w' : World} (h : StrsN (fun g => ¬ O g ∧ ¬ X g) v l w) (hb : Bes O w w') (ho : ∀ b, O' b → O b ∨ w.heap.size ≤ b) : StrsN (fun g => ¬ O' g ∧ ¬ X g) v l w' :=
  ((h.mono (T := fun g => (¬ O g ∧ ¬ X g) ∧ g < w.heap.size) fun _ hg hn => ⟨hn, hg⟩).keep (fun g _ hS => hb.block g hS.2 hS.1.1) hb.size).mono fun g _ hS => ⟨fun h => by
    rcases ho g h with h1 | h1
    · exact hS.1.1 h1
    · have := hS.2; omega, hS.1.2⟩
theorem VSt.turn {w0 : World} {c : Nat} {most last last' : Int} {j j' : Nat} {v : Value} {O O' : Nat → Prop} {m m' : List Kv} {l : List SE} {w w' : World} (h : VSt w0 c most last j v O m l w) (hB : BehindX c O (fun b => v.ownBlock = some b) most last' m' w w' O')
    (hl : VersI last' m' (l.map SE.ent)) (hlen : l.length ≤ j' ∧ m'.length ≤ j' ∧ (m'.length : Int) ≤ most ∧ 1 ≤ most ∧ 0 ≤ last' ∧ last' ≤ j') : VSt w0 c most last' j' v O' m' l w' := by
  obtain ⟨hc, ho, hbs⟩ := hB
  obtain ⟨tb, mb, L, e, hca⟩ := id h.cache
  exact ⟨hc, fun b hb => by
      rcases ho b hb with h1 | h1
      · exact h.new b h1
      · exact Nat.le_trans h.below.size h1, ownsRow_bes h.row hbs (fun b hb => hca.xno b hb), fun x hx => ⟨(h.strs x hx).1.apart hbs ho, (h.strs x hx).2.apart hbs ho⟩, hl, hlen,
    h.below.trans (hbs.toBelow h.new h.below.size)⟩
theorem VSt.put {w0 : World} {c : Nat} {most last : Int} {j : Nat} {v : Value} {O O' : Nat → Prop} {m : List Kv} {l : List SE} {w w' : World} {s : SetD} {rank sec now : Int} (h : VSt w0 c most last j v O m l w)
    (hB : BehindX c O (fun b => v.ownBlock = some b) most (putR most last m s rank sec now).2.1 (putR most last m s rank sec now).1 w w' O') : VSt w0 c most (putR most last m s rank sec now).2.1 (j + 1) v O' (putR most last m s rank sec now).1 l w' := by
  obtain ⟨h1, h2, h3, h4⟩ := vers_put (s := s) (rank := rank) (sec := sec) (now := now) h.law h.len.2.2.1 h.len.2.2.2.1
  have := h.len
  exact h.turn hB h1 ⟨by omega, by omega, h2.1, by omega, by omega, by omega⟩
theorem VSt.get {w0 : World} {c : Nat} {most last : Int} {j : Nat} {v : Value} {O O' : Nat → Prop} {m : List Kv} {l : List SE} {w w' : World} {n : ByteArray} {k t : Int} (h : VSt w0 c most last j v O m l w)
    (hB : BehindX c O (fun b => v.ownBlock = some b) most last (getR m n k t).1 w w' O') : VSt w0 c most last j v O' (getR m n k t).1 l w' := by
  obtain ⟨h1, h2, _⟩ := vers_get (n := n) (k := k) (t := t) h.law
  have := h.len
  exact h.turn hB h1 ⟨by omega, by omega, by omega, by omega, by omega, by omega⟩
/-- Behind the append of what was told. -/
theorem VSt.app {w0 : World} {c : Nat} {most last : Int} {j : Nat} {v v1 : Value} {O : Nat → Prop} {m : List Kv} {l : List SE} {w w1 : World} {x : SE} (h : VSt w0 c most last j v O m l w) (hl : VersI last m (l.map SE.ent ++ [x.ent])) (hj : l.length + 1 ≤ j)
    (hd : StrsN (fun g => ¬ O g ∧ v.ownBlock ≠ some g) x.dv x.ent.set.data w) (hs : StrsN (fun g => ¬ O g ∧ v.ownBlock ≠ some g) x.sv x.ent.set.sigs w)
    (hr : OwnE w0.heap.size v1 (l ++ [x]) w1) (hb : Bes (fun b => v.ownBlock = some b) w w1) (hv : ∀ b, v1.ownBlock = some b → v.ownBlock = some b ∨ w.heap.size ≤ b) : VSt w0 c most last j v1 O m (l ++ [x]) w1 := by
  have key : ∀ {u : Value} {q : List ByteArray}, StrsN (fun g => ¬ O g ∧ v.ownBlock ≠ some g) u q w → StrsN (fun g => ¬ O g ∧ v1.ownBlock ≠ some g) u q w1 := fun hu =>
    ((hu.mono (T := fun g => (¬ O g ∧ v.ownBlock ≠ some g) ∧ g < w.heap.size) fun _ hg hn => ⟨hn, hg⟩).keep (fun g _ hS => hb.block g hS.2 hS.1.2) hb.size).mono fun g _ hS => ⟨hS.1.1, fun e => by
      rcases hv g e with h1 | h1
      · exact hS.1.2 h1
      · have := hS.2; omega⟩
  have hlt : ∀ b, v1.ownBlock = some b → b < w1.heap.size := fun b hb => (hr.lt b hb).2
  have := h.len
  refine ⟨h.cache.step hb hv hlt, h.new, hr, fun y hy => ?_, by rw [List.map_append]; exact hl, by rw [List.length_append]; exact ⟨hj, by omega, by omega, by omega, by omega, by omega⟩, h.below.trans (hb.toBelow (fun b hb => (h.row.lt b hb).1) h.below.size)⟩
  rcases List.mem_append.1 hy with hy | hy
  · exact ⟨key (h.strs y hy).1, key (h.strs y hy).2⟩
  · obtain rfl := List.mem_singleton.1 hy
    exact ⟨key hd, key hs⟩
/-- A deed of the law's. -/
structure DeedD where
  kind : Int
  set : SetD
  rank : Int
  sec : Int
  ver : Int
  now : Int
def DeedD.cells (d : DeedD) (dv sv : Value) : Array Value := #[.int .i64 d.kind, .string d.set.name, .int .i64 d.set.kind, .int .i64 d.set.cls, .int .i64 d.set.ttl, dv, sv, .int .i64 d.rank, .int .i64 d.sec, .int .i64 d.ver, .int .i64 d.now]
def DeedD.Wf (d : DeedD) : Prop := d.set.name.size ≤ maxLen ∧ (Lit.int .i64 d.set.kind).wf = true ∧ (Lit.int .i64 d.now).wf = true ∧ (Lit.int .i64 d.rank).wf = true
structure DeedAt (g o : Nat) (d : DeedD) (dv sv : Value) (w : World) : Prop where
  lt : g < w.heap.size
  cells : ∀ i, i < 11 → w.cell? ⟨g, o + i, none⟩ = (d.cells dv sv)[i]?
  data : StrsAt dv d.set.data w
  sigs : StrsAt sv d.set.sigs w
  wf : d.Wf
theorem DeedAt.below {g o : Nat} {d : DeedD} {dv sv : Value} {w w' : World} (h : DeedAt g o d dv sv w) (hb : Below w.heap.size w w') : DeedAt g o d dv sv w' :=
  ⟨Nat.lt_of_lt_of_le h.lt hb.size, fun i hi => by rw [hb.cell (p := ⟨g, o + i, none⟩) h.lt]; exact h.cells i hi, h.data.below hb, h.sigs.below hb, h.wf⟩
def DeedsAt (v : Value) (l : List DeedD) (w : World) : Prop := ∃ A c, v = .slice A l.length c ∧ l.length ≤ 9223372036854775807 ∧ (0 < l.length → ∃ g f, A = some ⟨g, f, none⟩ ∧ ∀ j (h : j < l.length), ∃ dv sv, DeedAt g (f + j * 11) l[j] dv sv w)
end Go.Proofs.YtkhpcagoggglcaaGreatDoor

/- RrcacheVersions, walked: true. -/
namespace Go.Proofs.YtkhpcagoggglcaaGreatDoor
open Go.RowKit Go.BigFrame

/-- A told entry's cells in a row, and another one's block, in a world grown out of W0. -/
structure VqSt (W0 : World) (g n xb : Nat) (cy cx : Array Value) (W : World) : Prop where
  y : ∀ i, i < 10 → W.cell? ⟨g, n * 10 + i, none⟩ = cy.toList[i]?
  x : Blk W xb cx 37
  yl : g < W.heap.size
  below : Below W0.heap.size W0 W
theorem VqSt.next {W0 : World} {g n xb : Nat} {cy cx : Array Value} {W W' : World} (h : VqSt W0 g n xb cy cx W) (hb : Below W.heap.size W W') : VqSt W0 g n xb cy cx W' :=
  ⟨fun i hi => by rw [hb.cell (p := ⟨g, n * 10 + i, none⟩) h.yl]; exact h.y i hi, h.x.below hb h.x.lt, Nat.lt_of_lt_of_le h.yl hb.size, h.below.trans (hb.mono h.below.size)⟩
theorem set_load_off {w : World} {g o : Nat} {cs : List Value} {x0 x1 x2 x3 x4 x5 x6 x7 x8 x9 : Value} (h : ∀ i, i < 10 → w.cell? ⟨g, o + i, none⟩ = cs[i]?) (e : cs = [x0, x1, x2, x3, x4, x5, x6, x7, x8, x9]) : (loadVar 30 ⟨g, o, none⟩).run Tryz.prog w = .ok (.agg #[x0, x1, x2, x3, x4, x5]) w := by
  subst e
  have hl : (loadCells ⟨g, o, none⟩ 6).run Tryz.prog w = .ok #[x0, x1, x2, x3, x4, x5] w :=
    run_loadCells_list (P := Tryz.prog) w ⟨g, o, none⟩ [x0, x1, x2, x3, x4, x5] (fun j v hv => by
      have hadd : (⟨g, o, none⟩ : Addr).add j = ⟨g, o + j, none⟩ := by unfold Addr.add; split <;> simp_all
      have hj : j < 6 := by
        have := (List.getElem?_eq_some_iff.1 hv).1
        simpa using this
      rw [hadd, h j (by omega)]
      match j, hv with
      | 0, hv => exact hv
      | 1, hv => exact hv
      | 2, hv => exact hv
      | 3, hv => exact hv
      | 4, hv => exact hv
      | 5, hv => exact hv)
  obtain ⟨i, hi, hs⟩ := Option.map_eq_some_iff.1 info_Set
  have hagg : (isAgg 30).run Tryz.prog w = .ok true w := by
    unfold isAgg
    rw [Sem.run_bind, run_underlying Tryz.underlying30 w]
    rfl
  simp [loadVar, Sem.run_bind, hagg, sizeOf, typeInfo, hi, hs, hl]
set_option maxRecDepth 100000 in
set_option maxHeartbeats 4000000 in
theorem vers_any (most : Int) (l : List DeedD) (v : Value) (w : World) (hm : (Lit.int .i64 most).wf = true) (hv : DeedsAt v l w) : Calls Tryz.prog 4 #[.int .i64 most, v] w (BoolB true w) := by
  obtain ⟨A, cp, rfl, hlen, hd⟩ := hv
  have HD := Lib.hid hd
  obtain ⟨p0, hp0⟩ : ∃ p0, pickR most 9 = p0 := ⟨_, rfl⟩
  have bp := pickR_bd most 9 (by decide)
  have HP := Lib.hid (fun W => pick_any most 9 W (wf_bd hm) (by decide) (by decide))
  rw [hp0] at HP bp
  obtain ⟨bp1, bp2⟩ := bp
  clear hd hm hp0
  go_enter Tryz.func4, Tryz.ntmps4
  go_wp2_with (go_at_call 5; refine (Hid.out (p := _) ?_))
  refine Lib.hid ?_
  refine (examples16 _).mono ?_
  rintro e w1 ⟨rfl, hb1⟩
  have HB1 := Lib.hid hb1
  clear hb1
  simp only []
  go_wp2_with (go_at_call 7; refine (Hid.out (p := _) ?_))
  refine Lib.hid ?_
  refine (HP.out _).mono ?_
  rintro e w1' ⟨rfl, rfl⟩
  simp only []
  go_wp2_with (go_at_call 6; refine (Hid.out (p := _) ?_))
  refine Lib.hid ?_
  refine (rc_new (1 + p0) _ (by omega) (by omega)).mono ?_
  rintro e w2 ⟨hb2, c, O, rfl, hc, ho⟩
  have hV : VSt w1 c (1 + p0) 0 0 (.slice none 0 0) O [] [] w2 := ⟨hc.step (Bes.refl _ _) (fun b h => by simp [Value.ownBlock] at h) (fun b h => by simp [Value.ownBlock] at h), ho, World.ownsRow_nil _ _ _ _, by simp, vers_nil, ⟨by simp, by simp, by simp; omega, by omega, by omega, by omega⟩, hb2⟩
  have HV0 := Lib.hid hV
  clear hb2 hc ho hV
  simp only []
  go_wp2_with fail
  go_loopw [8, 9] (fun sv iv wr => ∃ (j : Nat) (SA : Option Addr) (sc : Nat) (sl : List SE) (O : Nat → Prop) (m : List Kv) (last : Int), sv = .slice SA sl.length sc ∧ iv = .int .i64 j ∧ j ≤ l.length ∧ j ≤ 60 ∧ Hid (VSt w1 c (1 + p0) last j (.slice SA sl.length sc) O m sl wr)) (fun _ iv _ => 60 - (intOf iv).toNat)
  case atStart => exact ⟨0, none, 0, [], O, [], 0, rfl, rfl, Nat.zero_le _, by omega, HV0⟩
  case round =>
    clear HV0
    obtain ⟨j, SA, sc, sl, O1, m, last, rfl, rfl, hj, hj60, HV⟩ := hrel
    by_cases hlt : j < l.length
    case neg =>
      obtain rfl : j = l.length := by omega
      go_wp2_with fail
      go_ret
      exact ⟨rfl, HB1.out.trans (HV.out.below.mono HB1.out.size)⟩
    by_cases h60 : j < 60
    case neg =>
      obtain rfl : j = 60 := by omega
      have q1 : ((60 : Nat) : Int) < (l.length : Int) := by omega
      go_wp2_with fail
      go_ret
      exact ⟨rfl, HB1.out.trans (HV.out.below.mono HB1.out.size)⟩
    obtain ⟨g, f, rfl, hdd⟩ := HD.out (by omega)
    obtain ⟨dv, sv, hda⟩ := hdd j hlt
    have q1 : (j : Int) < (l.length : Int) := by omega
    have q2 : (j : Int) < 60 := by omega
    generalize l[j] = d at hda
    replace hda := hda.below (HB1.out.trans (HV.out.below.mono HB1.out.size))
    obtain ⟨DA, dc, rfl, _⟩ := id hda.data
    obtain ⟨DB, dd, rfl, _⟩ := id hda.sigs
    have k0 : wr.cell? ⟨g, f + j * 11, none⟩ = some (.int .i64 d.kind) := hda.cells 0 (by omega)
    have k1 : wr.cell? ⟨g, f + j * 11 + 1, none⟩ = some (.string d.set.name) := hda.cells 1 (by omega)
    have k2 : wr.cell? ⟨g, f + j * 11 + 2, none⟩ = some (.int .i64 d.set.kind) := hda.cells 2 (by omega)
    have k3 : wr.cell? ⟨g, f + j * 11 + 3, none⟩ = some (.int .i64 d.set.cls) := hda.cells 3 (by omega)
    have k4 : wr.cell? ⟨g, f + j * 11 + 4, none⟩ = some (.int .i64 d.set.ttl) := hda.cells 4 (by omega)
    have k5 : wr.cell? ⟨g, f + j * 11 + 5, none⟩ = some (.slice DA d.set.data.length dc) := hda.cells 5 (by omega)
    have k6 : wr.cell? ⟨g, f + j * 11 + 6, none⟩ = some (.slice DB d.set.sigs.length dd) := hda.cells 6 (by omega)
    have k7 : wr.cell? ⟨g, f + j * 11 + 7, none⟩ = some (.int .i64 d.rank) := hda.cells 7 (by omega)
    have k8 : wr.cell? ⟨g, f + j * 11 + 8, none⟩ = some (.int .i64 d.sec) := hda.cells 8 (by omega)
    have k9 : wr.cell? ⟨g, f + j * 11 + 9, none⟩ = some (.int .i64 d.ver) := hda.cells 9 (by omega)
    have k10 : wr.cell? ⟨g, f + j * 11 + 10, none⟩ = some (.int .i64 d.now) := hda.cells 10 (by omega)
    have kl := hda.lt
    have HDA := Lib.hid hda
    clear hdd hda
    go_wp2_with (go_at_call 8; refine (Hid.out (p := _) ?_))
    refine Lib.hid ?_
    have hk := Blk.new wr #[.int .i64 d.kind, .string d.set.name, .int .i64 d.set.kind, .int .i64 d.set.cls, .int .i64 d.set.ttl, .slice DA d.set.data.length dc, .slice DB d.set.sigs.length dd, .int .i64 d.rank, .int .i64 d.sec, .int .i64 d.ver, .int .i64 d.now] 32
    have hal := (Below.refl wr.heap.size wr).alloc (Nat.le_refl _) (.cells #[.int .i64 d.kind, .string d.set.name, .int .i64 d.set.kind, .int .i64 d.set.cls, .int .i64 d.set.ttl, .slice DA d.set.data.length dc, .slice DB d.set.sigs.length dd, .int .i64 d.rank, .int .i64 d.sec, .int .i64 d.ver, .int .i64 d.now] 32)
    generalize (wr.alloc (.cells #[.int .i64 d.kind, .string d.set.name, .int .i64 d.set.kind, .int .i64 d.set.cls, .int .i64 d.set.ttl, .slice DA d.set.data.length dc, .slice DB d.set.sigs.length dd, .int .i64 d.rank, .int .i64 d.sec, .int .i64 d.ver, .int .i64 d.now] 32)) = W1 at hk hal ⊢
    have hV1 := HV.out.next hal
    have hno : ¬ O1 wr.heap.size := fun h => absurd (HV.out.cache.lt h) (Nat.lt_irrefl _)
    have hln := hV1.len
    have hpt := rc_putX c O1 _ (1 + p0) last m d.set (.slice DA d.set.data.length dc) (.slice DB d.set.sigs.length dd) d.rank d.sec d.now W1 hV1.cache (HDA.out.data.below hal) (HDA.out.sigs.below hal) HDA.out.wf.2.2.1 ⟨by omega, hln.2.2.1, hln.2.2.2.1⟩ ⟨by omega, by omega⟩
    simp only [SetD.v, SetD.cells] at hpt
    refine hpt.mono ?_
    rintro e W2 ⟨rfl, O2, hB⟩
    have hk2 := blk_bes hk hB.2.2 hno
    have hno2 := not_own hno hk.lt hB.2.1
    have hV2 := hV1.put hB
    obtain ⟨m2, last2, hV2⟩ : ∃ m2 last2, VSt w1 c (1 + p0) last2 (j + 1) (.slice SA sl.length sc) O2 m2 sl W2 := ⟨_, _, hV2⟩
    obtain ⟨db, hdb⟩ : ∃ db, wr.heap.size = db := ⟨_, rfl⟩
    rw [hdb] at hk hk2 hno hno2 ⊢
    have e1 := hk2.cell 1; have e2 := hk2.cell 2; have e10 := hk2.cell 10
    have el := hk2.lt
    have HV2 := Lib.hid hV2; have HK2 := Lib.hid (And.intro hk2 hno2)
    obtain ⟨r, hr⟩ : ∃ r, getR m2 (nameLower d.set.name) d.set.kind d.now = r := ⟨_, rfl⟩
    obtain ⟨m3, o⟩ := r
    have hgt := rc_getX c O2 _ (1 + p0) last2 m2 d.set.name d.set.kind d.now W2 hV2.cache HDA.out.wf.1 HDA.out.wf.2.1 HDA.out.wf.2.2.1
    have hvg := vers_get (n := nameLower d.set.name) (k := d.set.kind) (t := d.now) hV2.law
    have hvn := fun W3 O3 => hV2.get (n := nameLower d.set.name) (k := d.set.kind) (t := d.now) (w' := W3) (O' := O3)
    rw [hr] at hgt hvg hvn
    have HGT := Lib.hid hgt; have HVG := Lib.hid hvg.2.2; have HVN := Lib.hid hvn
    have nsl : sl.length ≤ j := HV.out.len.1
    clear k0 k1 k2 k3 k4 k5 k6 k7 k8 k9 k10 kl hk hal hV1 hno hln hpt hB hk2 hno2 hV2 hdb hr hgt hvg hvn HV
    simp only []
    go_wp2_with (go_at_call 9; refine (Hid.out (p := _) ?_))
    refine Lib.hid ?_
    cases o with
    | none =>
      refine HGT.out.mono ?_
      rintro e W3 ⟨O3, hB, rfl⟩
      have hV3 := HVN.out W3 O3 hB
      simp only [Ent.v, Ent.cells, zeroEnt]
      go_wp2_with (go_at_call 12; refine (Hid.out (p := _) ?_))
      refine Lib.hid ?_
      have hx := Blk.new W3 #[.string ⟨#[]⟩, .int .i64 0, .int .i64 0, .int .i64 0, .slice none 0 0, .slice none 0 0, .int .i64 0, .int .i64 0, .int .i64 0, .int .i64 0] 37
      have hal := (Below.refl W3.heap.size W3).alloc (Nat.le_refl _) (.cells #[.string ⟨#[]⟩, .int .i64 0, .int .i64 0, .int .i64 0, .slice none 0 0, .slice none 0 0, .int .i64 0, .int .i64 0, .int .i64 0, .int .i64 0] 37)
      generalize (W3.alloc (.cells #[.string ⟨#[]⟩, .int .i64 0, .int .i64 0, .int .i64 0, .slice none 0 0, .slice none 0 0, .int .i64 0, .int .i64 0, .int .i64 0, .int .i64 0] 37)) = W4 at hx hal ⊢
      have hV4 := hV3.next hal
      have hno4 : ¬ O3 W3.heap.size := fun h => absurd (hV3.cache.lt h) (Nat.lt_irrefl _)
      obtain ⟨xb, hxb⟩ : ∃ xb, W3.heap.size = xb := ⟨_, rfl⟩
      have HX := Lib.hid (And.intro hx hno4)
      have HAL := Lib.hid hal
      rw [hxb] at HX ⊢
      have HV4 := Lib.hid hV4
      have n1 : (m3.length : Int) ≤ 1 + p0 := hV4.len.2.2.1
      clear hx hal hV3 hV4 hno4 hxb hB
      refine (rc_len c O3 (1 + p0) last2 m3 W4 HV4.out.cache).mono ?_
      rintro e W5 ⟨rfl, rfl⟩
      have q3 : decide (1 + p0 < (m3.length : Int)) = false := decide_eq_false (by omega)
      have r3 : IntKind.i64.wrap (1 + p0) = 1 + p0 := IntWalk.i64_in _ (by omega)
      clear e1 e2 e10 el
      simp only []
      go_wp2_with (go_at_call 7; refine (Hid.out (p := _) ?_))
      refine Lib.hid ?_
      refine (HP.out _).mono ?_
      rintro e W5 ⟨rfl, rfl⟩
      simp only []
      go_wp2_with fail
      go_roundw
      case rel => exact ⟨j + 1, SA, sc, sl, O3, m3, last2, rfl, by go_num, by omega, by omega, HV4⟩
      case measure => simp [intOf]; omega
    | some x =>
      refine HGT.out.mono ?_
      rintro e W3 ⟨O3, hB, xdv, xsv, rfl, hxd, hxs⟩
      have hV3 := HVN.out W3 O3 hB
      have hap : ∀ g, W2.heap.size ≤ g ∧ ¬ O3 g → ¬ O3 g ∧ (Value.slice SA sl.length sc).ownBlock ≠ some g := fun g hg => ⟨hg.2, fun e => by have := (HV2.out.row.lt g e).2; omega⟩
      replace hxd := hxd.mono fun g _ h => hap g h
      replace hxs := hxs.mono fun g _ h => hap g h
      obtain ⟨XA, xc, rfl, _⟩ := id hxd
      obtain ⟨XB, xd, rfl, _⟩ := id hxs
      have HXV := Lib.hid (HVG.out x rfl)
      clear hap
      simp only [Ent.told, Ent.v, Ent.cells]
      obtain ⟨TX, hTX⟩ : ∃ TX, min (x.til - d.now) 604800 = TX := ⟨_, rfl⟩
      rw [hTX]
      go_wp2_with (go_at_call 12; refine (Hid.out (p := _) ?_))
      refine Lib.hid ?_
      have hx := Blk.new W3 #[.string x.set.name, .int .i64 x.set.kind, .int .i64 x.set.cls, .int .i64 TX, .slice XA x.set.data.length xc, .slice XB x.set.sigs.length xd, .int .i64 x.rank, .int .i64 x.sec, .int .i64 x.ver, .int .i64 x.til] 37
      have hal := (Below.refl W3.heap.size W3).alloc (Nat.le_refl _) (.cells #[.string x.set.name, .int .i64 x.set.kind, .int .i64 x.set.cls, .int .i64 TX, .slice XA x.set.data.length xc, .slice XB x.set.sigs.length xd, .int .i64 x.rank, .int .i64 x.sec, .int .i64 x.ver, .int .i64 x.til] 37)
      generalize (W3.alloc (.cells #[.string x.set.name, .int .i64 x.set.kind, .int .i64 x.set.cls, .int .i64 TX, .slice XA x.set.data.length xc, .slice XB x.set.sigs.length xd, .int .i64 x.rank, .int .i64 x.sec, .int .i64 x.ver, .int .i64 x.til] 37)) = W4 at hx hal ⊢
      have hV4 := hV3.next hal
      have hno4 : ¬ O3 W3.heap.size := fun h => absurd (hV3.cache.lt h) (Nat.lt_irrefl _)
      obtain ⟨xb, hxb⟩ : ∃ xb, W3.heap.size = xb := ⟨_, rfl⟩
      have HX := Lib.hid (And.intro hx hno4)
      have HAL := Lib.hid hal
      rw [hxb] at HX ⊢
      have HV4 := Lib.hid hV4
      have n1 : (m3.length : Int) ≤ 1 + p0 := hV4.len.2.2.1
      clear hx hal hV3 hV4 hno4 hxb hB
      refine (rc_len c O3 (1 + p0) last2 m3 W4 HV4.out.cache).mono ?_
      rintro e W5 ⟨rfl, rfl⟩
      have q3 : decide (1 + p0 < (m3.length : Int)) = false := decide_eq_false (by omega)
      have r3 : IntKind.i64.wrap (1 + p0) = 1 + p0 := IntWalk.i64_in _ (by omega)
      clear e1 e2 e10 el
      simp only []
      go_wp2_with (go_at_call 7; refine (Hid.out (p := _) ?_))
      refine Lib.hid ?_
      refine (HP.out _).mono ?_
      rintro e W5 ⟨rfl, rfl⟩
      simp only []
      have HTX := Lib.hid hTX
      have HXS := Lib.hid (And.intro hxd hxs)
      clear hTX hxd hxs
      go_wp2_with fail
      go_loopw [13] (fun k wr2 => ∃ n : Nat, k = .int .i64 n ∧ n ≤ sl.length ∧ Hid (Below W4.heap.size W4 wr2)) (fun k _ => sl.length - (intOf k).toNat)
      case atStart => exact ⟨0, rfl, Nat.zero_le _, Lib.hid (Below.refl _ _)⟩
      case round =>
        obtain ⟨n, rfl, hn, HB5⟩ := hrel
        have hx5 := HX.out.1.below HB5.out HX.out.1.lt
        have x0 := hx5.cell 0; have x1 := hx5.cell 1; have x2 := hx5.cell 2; have x3 := hx5.cell 3; have x4 := hx5.cell 4; have x5 := hx5.cell 5; have x8 := hx5.cell 8
        have xl := hx5.lt
        by_cases hlt2 : n < sl.length
        · have q4 : (n : Int) < (sl.length : Int) := by omega
          obtain ⟨g2, c2, hg2⟩ := Go.Joins.ownsRow_form HV4.out.row (by omega)
          obtain ⟨rfl, _⟩ : SA = some ⟨g2, 0, none⟩ ∧ sc = c2 := by injection hg2 with h1 h2 h3; exact ⟨h1, h3⟩
          have hlg := (HV4.out.row.lt g2 rfl).2
          have hyc := fun i (hi : i < 10) => (HB5.out.cell (p := ⟨g2, n * 10 + i, none⟩) hlg).trans (ownE_cell HV4.out.row n hlt2 i hi)
          have hmem := List.getElem_mem hlt2
          have hys := HV4.out.strs _ hmem
          have hyv := HXV.out.2 _ (List.mem_map.2 ⟨_, hmem, rfl⟩)
          generalize sl[n] = y at hyc hmem hys hyv
          obtain ⟨y, ydv, ysv⟩ := y
          obtain ⟨YA, yc, hy1, _⟩ := id hys.1
          obtain ⟨YB, yd, hy2, _⟩ := id hys.2
          simp only at hy1 hy2
          subst hy1 hy2
          have y0 : wr.cell? ⟨g2, n * 10, none⟩ = some (.string y.set.name) := hyc 0 (by omega)
          have y1 : wr.cell? ⟨g2, n * 10 + 1, none⟩ = some (.int .i64 y.set.kind) := hyc 1 (by omega)
          have y2 : wr.cell? ⟨g2, n * 10 + 2, none⟩ = some (.int .i64 y.set.cls) := hyc 2 (by omega)
          have y3 : wr.cell? ⟨g2, n * 10 + 3, none⟩ = some (.int .i64 y.set.ttl) := hyc 3 (by omega)
          have y4 : wr.cell? ⟨g2, n * 10 + 4, none⟩ = some (.slice YA y.set.data.length yc) := hyc 4 (by omega)
          have y5 : wr.cell? ⟨g2, n * 10 + 5, none⟩ = some (.slice YB y.set.sigs.length yd) := hyc 5 (by omega)
          have y8 : wr.cell? ⟨g2, n * 10 + 8, none⟩ = some (.int .i64 y.ver) := hyc 8 (by omega)
          have yl : g2 < wr.heap.size := Nat.lt_of_lt_of_le hlg HB5.out.size
          by_cases hve : y.ver = x.ver
          · have q5 : (y.ver == x.ver) = true := by rw [beq_iff_eq]; exact hve
            have hsm := fun W (hW : Below W4.heap.size W4 W) => same_any y.set { x.set with ttl := TX } (.slice YA y.set.data.length yc) (.slice YB y.set.sigs.length yd) (.slice XA x.set.data.length xc) (.slice XB x.set.sigs.length xd) W (hys.1.at.below hW) (hys.2.at.below hW) ((HXS.out.1.below HAL.out).at.below hW) ((HXS.out.2.below HAL.out).at.below hW)
            have hst : sameS y.set { x.set with ttl := TX } = true := by have := hyv hve; rw [← HTX.out]; exact this
            rw [hst] at hsm
            simp only [SetD.v, SetD.cells] at hsm
            have HSM := Lib.hid hsm
            have HYC := Lib.hid hyc; have HX5 := Lib.hid hx5
            clear hsm hst hve hyc hmem hys hyv hx5 x0 x1 x2 x3 x4 x5 x8 xl y0 y1 y2 y3 y4 y5 y8
            go_wp2_with fail
            --HERE
            have HQ0 := Lib.hid (show VqSt W4 g2 n xb #[.string y.set.name, .int .i64 y.set.kind, .int .i64 y.set.cls, .int .i64 y.set.ttl, .slice YA y.set.data.length yc, .slice YB y.set.sigs.length yd, .int .i64 y.rank, .int .i64 y.sec, .int .i64 y.ver, .int .i64 y.til] #[.string x.set.name, .int .i64 x.set.kind, .int .i64 x.set.cls, .int .i64 TX, .slice XA x.set.data.length xc, .slice XB x.set.sigs.length xd, .int .i64 x.rank, .int .i64 x.sec, .int .i64 x.ver, .int .i64 x.til] wr.drew from ⟨HYC.out, HX5.out, yl, HB5.out.drew⟩)
            refine wp_region_quiet (C := VqSt W4 g2 n xb #[.string y.set.name, .int .i64 y.set.kind, .int .i64 y.set.cls, .int .i64 y.set.ttl, .slice YA y.set.data.length yc, .slice YB y.set.sigs.length yd, .int .i64 y.rank, .int .i64 y.sec, .int .i64 y.ver, .int .i64 y.til] #[.string x.set.name, .int .i64 x.set.kind, .int .i64 x.set.cls, .int .i64 TX, .slice XA x.set.data.length xc, .slice XB x.set.sigs.length xd, .int .i64 x.rank, .int .i64 x.sec, .int .i64 x.ver, .int .i64 x.til]) (by kernel_rfl) (by kernel_rfl) HQ0.out ?_
            simp only []
            go_big_quiet_want
            refine qs_run (.slice (some ⟨g2, 0, none⟩) sl.length sc) (fun W hW => ?run) ?_
            case run => simp [go_sem, Act.eval]
            simp (maxSteps := 1000000) only [Act.put, List.setIfInBounds_toArray, List.set_cons_succ, List.set_cons_zero]
            go_big_quiet_on
            go_big_quiet_want
            refine qs_run (.int .i64 n) (fun W hW => ?run) ?_
            case run => simp [go_sem, Act.eval]
            simp (maxSteps := 1000000) only [Act.put, List.setIfInBounds_toArray, List.set_cons_succ, List.set_cons_zero]
            go_big_quiet_on
            go_big_quiet_want
            refine qs_run (.pointer (some ⟨g2, n * 10, none⟩)) (fun W hW => ?run) ?_
            case run => simp [go_sem, Act.eval, q4]
            simp (maxSteps := 1000000) only [Act.put, List.setIfInBounds_toArray, List.set_cons_succ, List.set_cons_zero]
            go_big_quiet_on
            go_big_quiet_want
            refine qs_run (.pointer (some ⟨g2, n * 10 + 8, none⟩)) (fun W hW => ?run) ?_
            case run => simp [go_sem, Act.eval]
            simp (maxSteps := 1000000) only [Act.put, List.setIfInBounds_toArray, List.set_cons_succ, List.set_cons_zero]
            go_big_quiet_on
            go_big_quiet_want
            refine qs_run (.int .i64 y.ver) (fun W hW => ?run) ?_
            case run =>
              have c := hW.y 8 (by decide)
              simp at c
              simp [go_sem, Act.eval, c]
            simp (maxSteps := 1000000) only [Act.put, List.setIfInBounds_toArray, List.set_cons_succ, List.set_cons_zero]
            go_big_quiet_on
            go_big_quiet_want
            refine qs_run (.pointer (some ⟨xb, 8, none⟩)) (fun W hW => ?run) ?_
            case run => simp [go_sem, Act.eval]
            simp (maxSteps := 1000000) only [Act.put, List.setIfInBounds_toArray, List.set_cons_succ, List.set_cons_zero]
            go_big_quiet_on
            go_big_quiet_want
            refine qs_run (.int .i64 x.ver) (fun W hW => ?run) ?_
            case run =>
              have c := hW.x.cell 8
              simp at c
              simp [go_sem, Act.eval, c]
            simp (maxSteps := 1000000) only [Act.put, List.setIfInBounds_toArray, List.set_cons_succ, List.set_cons_zero]
            go_big_quiet_on
            go_big_quiet_want
            refine qs_run (.bool true) (fun W hW => ?run) ?_
            case run => simp [go_sem, Act.eval, q5]
            simp (maxSteps := 1000000) only [Act.put, List.setIfInBounds_toArray, List.set_cons_succ, List.set_cons_zero]
            go_big_quiet_on
            go_big_quiet_want
            refine qs_run (.bool true) (fun W hW => ?run) ?_
            case run => simp [go_sem, Act.eval]
            simp (maxSteps := 1000000) only [Act.put, List.setIfInBounds_toArray, List.set_cons_succ, List.set_cons_zero]
            go_big_quiet_on
            go_big_quiet_want
            refine qs_run (.slice (some ⟨g2, 0, none⟩) sl.length sc) (fun W hW => ?run) ?_
            case run => simp [go_sem, Act.eval]
            simp (maxSteps := 1000000) only [Act.put, List.setIfInBounds_toArray, List.set_cons_succ, List.set_cons_zero]
            go_big_quiet_on
            go_big_quiet_want
            refine qs_run (.int .i64 n) (fun W hW => ?run) ?_
            case run => simp [go_sem, Act.eval]
            simp (maxSteps := 1000000) only [Act.put, List.setIfInBounds_toArray, List.set_cons_succ, List.set_cons_zero]
            go_big_quiet_on
            go_big_quiet_want
            refine qs_run (.pointer (some ⟨g2, n * 10, none⟩)) (fun W hW => ?run) ?_
            case run => simp [go_sem, Act.eval, q4]
            simp (maxSteps := 1000000) only [Act.put, List.setIfInBounds_toArray, List.set_cons_succ, List.set_cons_zero]
            go_big_quiet_on
            go_big_quiet_want
            refine qs_run (.pointer (some ⟨g2, n * 10, none⟩)) (fun W hW => ?run) ?_
            case run => simp [go_sem, Act.eval]
            simp (maxSteps := 1000000) only [Act.put, List.setIfInBounds_toArray, List.set_cons_succ, List.set_cons_zero]
            go_big_quiet_on
            go_big_quiet_want
            refine qs_load _ _ rfl ⟨g2, n * 10, none⟩ _ rfl (fun W hW => set_load_off hW.y rfl) ?_
            simp (maxSteps := 1000000) only [Act.put, List.setIfInBounds_toArray, List.set_cons_succ, List.set_cons_zero]
            go_big_quiet_on
            go_big_quiet_want
            refine qs_run (.pointer (some ⟨xb, 0, none⟩)) (fun W hW => ?run) ?_
            case run => simp [go_sem, Act.eval]
            simp (maxSteps := 1000000) only [Act.put, List.setIfInBounds_toArray, List.set_cons_succ, List.set_cons_zero]
            go_big_quiet_on
            go_big_quiet_want
            refine qs_load _ _ rfl ⟨xb, 0, none⟩ _ rfl (fun W hW => set_load_at hW.x) ?_
            simp (maxSteps := 1000000) only [Act.put, List.setIfInBounds_toArray, List.set_cons_succ, List.set_cons_zero]
            go_big_quiet_on
            go_big_quiet_want
            refine qs_call 11 _ _ (fun W hW => ?run) (fun W hW => (HSM.out W hW.below).mono fun e w' h => ⟨h.1, hW.next h.2⟩) ?_
            case run => simp [go_sem, Act.eval]
            simp (maxSteps := 1000000) only [Act.put, List.setIfInBounds_toArray, List.set_cons_succ, List.set_cons_zero]
            go_big_quiet_on
            go_big_quiet_want
            refine qs_run (.bool false) (fun W hW => ?run) ?_
            case run => simp [go_sem, Act.eval]
            simp (maxSteps := 1000000) only [Act.put, List.setIfInBounds_toArray, List.set_cons_succ, List.set_cons_zero]
            go_big_quiet_on
            go_big_quiet_want
            refine qs_run (.bool false) (fun W hW => ?run) ?_
            case run => simp [go_sem, Act.eval]
            simp (maxSteps := 1000000) only [Act.put, List.setIfInBounds_toArray, List.set_cons_succ, List.set_cons_zero]
            go_big_quiet_on
            refine wpQuiet_nil ?_
            intro W8 hW8
            have HB8 := Lib.hid hW8.below
            clear hW8 HQ0 HSM HYC HX5
            go_wp2_with fail
            go_roundw
            case rel => exact ⟨n + 1, by go_num, by omega, HB8⟩
            case measure => simp [intOf]; omega
          · have q5 : (y.ver == x.ver) = false := by rw [beq_eq_false_iff_ne]; exact hve
            clear hve hyc hmem hys hyv hx5
            go_wp2_with fail
            go_quiet (fail)
            go_wp2_with fail
            go_roundw
            case rel => exact ⟨n + 1, by go_num, by omega, Lib.hid ⟨HB5.out.os, HB5.out.tape, HB5.out.output, HB5.out.size, HB5.out.block⟩⟩
            case measure => simp [intOf]; omega
        · obtain rfl : n = sl.length := by omega
          have x6 := hx5.cell 6; have x7 := hx5.cell 7; have x9 := hx5.cell 9
          go_wp2_with (at_builtin; refine (Hid.out (p := _) ?_))
          refine Lib.hid ?_
          have hal6 := (Below.refl wr.heap.size wr).alloc (Nat.le_refl _) (.cells #[.string x.set.name, .int .i64 x.set.kind, .int .i64 x.set.cls, .int .i64 TX, .slice XA x.set.data.length xc, .slice XB x.set.sigs.length xd, .int .i64 x.rank, .int .i64 x.sec, .int .i64 x.ver, .int .i64 x.til] 37)
          have hk6 := Blk.new wr #[.string x.set.name, .int .i64 x.set.kind, .int .i64 x.set.cls, .int .i64 TX, .slice XA x.set.data.length xc, .slice XB x.set.sigs.length xd, .int .i64 x.rank, .int .i64 x.sec, .int .i64 x.ver, .int .i64 x.til] 37
          generalize (wr.alloc (.cells #[.string x.set.name, .int .i64 x.set.kind, .int .i64 x.set.cls, .int .i64 TX, .slice XA x.set.data.length xc, .slice XB x.set.sigs.length xd, .int .i64 x.rank, .int .i64 x.sec, .int .i64 x.ver, .int .i64 x.til] 37)) = W6 at hal6 hk6 ⊢
          have hb6 := HB5.out.trans (hal6.mono HB5.out.size)
          have hV6 := HV4.out.next hb6
          have hd6 := (HXS.out.1.below HAL.out).below hb6
          have hs6 := (HXS.out.2.below HAL.out).below hb6
          obtain ⟨sb, hsb⟩ : ∃ sb, wr.heap.size = sb := ⟨_, rfl⟩
          rw [hsb] at hk6 ⊢
          have hlv := HXV.out.1
          have htx := HTX.out
          refine ownE_app hV6.row hV6.below.size ⟨{ x with set := { x.set with ttl := TX } }, .slice XA x.set.data.length xc, .slice XB x.set.sigs.length xd⟩ rfl rfl sb 1 hk6 (by have := hV6.len; omega) rfl _ _ rfl rfl rfl ?_
          intro v1 W7 hr hbs hv ⟨g7, c7, hv7⟩
          subst hv7
          have hV7 := hV6.app (by rw [← htx]; exact hlv) (by omega) hd6 hs6 hr hbs hv
          have HV7 := Lib.hid (show VSt w1 c (1 + p0) last2 (j + 1) (.slice (some ⟨g7, 0, none⟩) (sl ++ [(⟨{ x with set := { x.set with ttl := TX } }, .slice XA x.set.data.length xc, .slice XB x.set.sigs.length xd⟩ : SE)]).length c7) O3 m3 _ W7 by rw [List.length_append]; exact hV7)
          clear hk6 hal6 hb6 hV6 hd6 hs6 hsb hlv htx hr hbs hv hV7 x0 x1 x2 x3 x4 x5 x6 x7 x8 x9 xl hx5
          go_wp2_with fail
          go_roundw
          case rel => exact ⟨j + 1, some ⟨g7, 0, none⟩, c7, sl ++ [(⟨{ x with set := { x.set with ttl := TX } }, .slice XA x.set.data.length xc, .slice XB x.set.sigs.length xd⟩ : SE)], O3, m3, last2, by rw [List.length_append]; rfl, by go_num, by omega, by omega, HV7⟩
          case measure => simp [intOf]; omega
end Go.Proofs.YtkhpcagoggglcaaGreatDoor

/- Arguments, opened: a set by value; rows of texts. -/
namespace Go.Proofs.YtkhpcagoggglcaaGreatDoor
open Go.RowKit Go.ChangeShapes Go.WideShapes Go.ChangeAt

theorem addr_of_cell {W : World} {a : Addr} {v : Value} (h : W.cell? (a.add 0) = some v) : a = ⟨a.block, a.off, none⟩ ∧ a.block < W.heap.size := by
  obtain ⟨b, o, s⟩ := a
  cases s with
  | none =>
    rw [Addr.add_mid] at h
    refine ⟨rfl, ?_⟩
    obtain ⟨cs, ty, fr, hq⟩ : ∃ cs ty fr, W.heap[b]? = some (.cells cs ty fr) := by
      unfold World.cell? at h
      split at h
      · rename_i c x y hq; exact ⟨c, x, y, hq⟩
      · cases h
    exact (Array.getElem?_eq_some_iff.1 hq).1
  | some t =>
    exfalso
    have e : (⟨b, o, some t⟩ : Addr).add 0 = ⟨b, o, some t⟩ := rfl
    rw [e] at h
    unfold World.cell? at h
    split at h
    · simp at h
    · cases h
theorem cell_of_add {W : World} {a : Addr} {v : Value} (ha : a = ⟨a.block, a.off, none⟩) (j : Nat) (h : W.cell? (a.add j) = some v) : W.cell? ⟨a.block, a.off + j, none⟩ = some v := by
  rw [ha, Addr.add_mid] at h
  exact h
section
variable {H : Type} {enc : TypeId × Value → H} {w : World} {base : Nat} {spare : Nat → Bool} {held : Bool}
theorem open_strsV {fuel : Nat} {v : Value} {y : DataW H × List MemPlace} (h : DataW.trod enc Tryz.prog w base spare held fuel 28 [v] = some y) : ∃ l : List ByteArray, StrsAt v l w ∧ l.length ≤ maxLen ∧ ∀ x ∈ l, x.size ≤ maxLen := by
  rcases Go.Deep.open_strs Tryz.underlying28 Tryz.underlying9 (by kernel_rfl) h with ⟨h1, _⟩ | ⟨a, len, cap, m, Sx, h1, _, hl, hm, hmm, _, hc⟩
  · obtain rfl : v = .slice none 0 0 := by simpa using h1
    exact ⟨[], ⟨none, 0, rfl, fun h => absurd h (by simp)⟩, by simp, by simp⟩
  · obtain rfl : v = .slice (some a) len cap := by simpa using h1
    have hlm : len ≤ m := by rw [hmm]; split <;> omega
    refine ⟨(List.range len).map Sx, ⟨some a, cap, by simp, fun h0 => ?_⟩, by simp; omega, ?_⟩
    · have h0' : 0 < len := by simpa using h0
      obtain ⟨e, hb⟩ := addr_of_cell (hc 0 (by omega)).1
      refine ⟨a.block, a.off, by rw [← e], hb, fun j hj => ?_⟩
      have hj' : j < len := by simpa using hj
      rw [cell_of_add e j (hc j (by omega)).1]
      simp
    · intro x hx
      obtain ⟨i, hi, rfl⟩ := List.mem_map.1 hx
      exact (hc i (by have := List.mem_range.1 hi; omega)).2
theorem array6 {α : Type} {cs : Array α} (h : cs.size = 6) : ∃ a b c d e f, cs = #[a, b, c, d, e, f] := by
  obtain ⟨l⟩ := cs
  match l, h with
  | [a, b, c, d, e, f], _ => exact ⟨a, b, c, d, e, f, rfl⟩
theorem set_cells6 : Tryz.prog.cellsOf 30 = 6 := by kernel_rfl
theorem strs_cells1 : Tryz.prog.cellsOf 28 = 1 := by kernel_rfl
theorem str_cells1 : Tryz.prog.cellsOf 9 = 1 := by kernel_rfl
theorem int_cells1 : Tryz.prog.cellsOf 3 = 1 := by kernel_rfl
theorem open_set_cells {fuel : Nat} {c0 c1 c2 c3 c4 c5 : Value} {y : DataW H × List MemPlace} (h : DataW.trod enc Tryz.prog w base spare held fuel 30 [c0, c1, c2, c3, c4, c5] = some y) :
    ∃ s : SetD, [c0, c1, c2, c3, c4, c5] = (s.cells c4 c5).toList ∧ StrsAt c4 s.data w ∧ StrsAt c5 s.sigs w ∧ s.name.size ≤ maxLen ∧ (Lit.int .i64 s.kind).wf = true ∧ (Lit.int .i64 s.cls).wf = true ∧ (Lit.int .i64 s.ttl).wf = true ∧ s.data.length ≤ maxLen ∧ s.sigs.length ≤ maxLen := by
  obtain ⟨xs, n, _, _, _, hxl, hx⟩ := DataW.trod_struct Tryz.underlying30 h
  have hxl' : xs.length = 6 := hxl
  have g0 := hx 0 _ rfl
  have g1 := hx 1 _ rfl
  have g2 := hx 2 _ rfl
  have g3 := hx 3 _ rfl
  have g4 := hx 4 _ rfl
  have g5 := hx 5 _ rfl
  simp [str_cells1, int_cells1, strs_cells1, List.drop_succ_cons, List.drop_zero, List.take_succ_cons, List.take_zero] at g0 g1 g2 g3 g4 g5
  rw [List.getElem?_eq_getElem (show 0 < xs.length by omega)] at g0
  rw [List.getElem?_eq_getElem (show 1 < xs.length by omega)] at g1
  rw [List.getElem?_eq_getElem (show 2 < xs.length by omega)] at g2
  rw [List.getElem?_eq_getElem (show 3 < xs.length by omega)] at g3
  rw [List.getElem?_eq_getElem (show 4 < xs.length by omega)] at g4
  rw [List.getElem?_eq_getElem (show 5 < xs.length by omega)] at g5
  obtain ⟨s, hs, _, hs2⟩ := DataW.trod_string Tryz.underlying9 g0
  obtain ⟨k, hk, _, hk2⟩ := DataW.trod_int Tryz.underlying3 g1
  obtain ⟨c, hc, _, hc2⟩ := DataW.trod_int Tryz.underlying3 g2
  obtain ⟨t, ht, _, ht2⟩ := DataW.trod_int Tryz.underlying3 g3
  obtain ⟨ld, hd, hd2, _⟩ := open_strsV g4
  obtain ⟨ls, hl, hl2, _⟩ := open_strsV g5
  simp only [List.cons.injEq, and_true] at hs hk hc ht
  subst hs hk hc ht
  exact ⟨⟨s, k, c, t, ld, ls⟩, rfl, hd, hl, hs2, hk2, hc2, ht2, hd2, hl2⟩
set_option maxRecDepth 100000 in
theorem open_set {r : Reach} {b0 : Nat} {v : Value} {d : DataW H} {p : List MemPlace} (hv : Value.okWide Tryz.prog w r b0 30 v) (h : DataW.Trod enc Tryz.prog w base spare held 30 v d p) :
    ∃ (s : SetD) (dv sv : Value), v = s.v dv sv ∧ StrsAt dv s.data w ∧ StrsAt sv s.sigs w := by
  obtain ⟨cs, rfl, hsz⟩ := okWide_struct Tryz.underlying30 hv
  obtain ⟨c0, c1, c2, c3, c4, c5, rfl⟩ := array6 (hsz.trans set_cells6)
  obtain ⟨fuel, hf⟩ := h
  obtain ⟨s, he, h4, h5, _⟩ := open_set_cells hf
  refine ⟨s, c4, c5, ?_, h4, h5⟩
  unfold SetD.v
  congr 1
  exact congrArg List.toArray he
end
end Go.Proofs.YtkhpcagoggglcaaGreatDoor

/- An argument, opened: a slice of deeds. -/
namespace Go.Proofs.YtkhpcagoggglcaaGreatDoor
open Go.RowKit Go.ChangeShapes Go.WideShapes Go.ChangeAt

theorem list11 {α : Type} {l : List α} (h : l.length = 11) : ∃ a b c d e f g i j k m, l = [a, b, c, d, e, f, g, i, j, k, m] := by
  match l, h with
  | [a, b, c, d, e, f, g, i, j, k, m], _ => exact ⟨a, b, c, d, e, f, g, i, j, k, m, rfl⟩
theorem deed_cells11 : Tryz.prog.cellsOf 32 = 11 := by kernel_rfl
section
variable {H : Type} {enc : TypeId × Value → H} {w : World} {base : Nat} {spare : Nat → Bool} {held : Bool}
theorem open_deed_cells {fuel : Nat} {k0 c0 c1 c2 c3 c4 c5 r0 s0 v0 n0 : Value} {y : DataW H × List MemPlace} (h : DataW.trod enc Tryz.prog w base spare held fuel 32 [k0, c0, c1, c2, c3, c4, c5, r0, s0, v0, n0] = some y) :
    ∃ d : DeedD, [k0, c0, c1, c2, c3, c4, c5, r0, s0, v0, n0] = (d.cells c4 c5).toList ∧ StrsAt c4 d.set.data w ∧ StrsAt c5 d.set.sigs w ∧ d.Wf := by
  obtain ⟨xs, n, _, _, _, hxl, hx⟩ := DataW.trod_struct Tryz.underlying32 h
  have hxl' : xs.length = 6 := hxl
  have g0 := hx 0 _ rfl
  have g1 := hx 1 _ rfl
  have g2 := hx 2 _ rfl
  have g3 := hx 3 _ rfl
  have g4 := hx 4 _ rfl
  have g5 := hx 5 _ rfl
  simp [set_cells6, int_cells1, List.drop_succ_cons, List.drop_zero, List.take_succ_cons, List.take_zero] at g0 g1 g2 g3 g4 g5
  rw [List.getElem?_eq_getElem (show 0 < xs.length by omega)] at g0
  rw [List.getElem?_eq_getElem (show 1 < xs.length by omega)] at g1
  rw [List.getElem?_eq_getElem (show 2 < xs.length by omega)] at g2
  rw [List.getElem?_eq_getElem (show 3 < xs.length by omega)] at g3
  rw [List.getElem?_eq_getElem (show 4 < xs.length by omega)] at g4
  rw [List.getElem?_eq_getElem (show 5 < xs.length by omega)] at g5
  obtain ⟨k, hk, _, _⟩ := DataW.trod_int Tryz.underlying3 g0
  obtain ⟨s, he, h4, h5, hs1, hs2, _⟩ := open_set_cells g1
  obtain ⟨r, hr, _, hr2⟩ := DataW.trod_int Tryz.underlying3 g2
  obtain ⟨sc, hsc, _, _⟩ := DataW.trod_int Tryz.underlying3 g3
  obtain ⟨ve, hve, _, _⟩ := DataW.trod_int Tryz.underlying3 g4
  obtain ⟨nw, hnw, _, hnw2⟩ := DataW.trod_int Tryz.underlying3 g5
  simp only [List.cons.injEq, and_true] at hk hr hsc hve hnw
  subst hk hr hsc hve hnw
  simp only [SetD.cells, List.cons.injEq, and_true] at he
  obtain ⟨rfl, rfl, rfl, rfl, _⟩ := he
  exact ⟨⟨k, s, r, sc, ve, nw⟩, rfl, h4, h5, hs1, hs2, hnw2, hr2⟩
set_option maxRecDepth 100000 in
theorem open_deeds {fuel : Nat} {v : Value} {y : DataW H × List MemPlace} (h : DataW.trod enc Tryz.prog w base spare held fuel 22 [v] = some y) : ∃ l : List DeedD, DeedsAt v l w := by
  rcases Go.Deep.open_slice Tryz.underlying22 h with ⟨h1, _⟩ | ⟨a, len, cap, m, n, D, Pl, h1, _, hl, hm, hmm, _, hx⟩
  · obtain rfl : v = .slice none 0 0 := by simpa using h1
    exact ⟨[], none, 0, rfl, by simp, fun h => absurd h (by simp)⟩
  · obtain rfl : v = .slice (some a) len cap := by simpa using h1
    have hlm : len ≤ m := by rw [hmm]; split <;> omega
    have each : ∀ i, i < len → ∃ q : DeedD × Value × Value, (∀ k, k < 11 → w.cell? ((a.add (i * 11)).add k) = (q.1.cells q.2.1 q.2.2)[k]?) ∧ StrsAt q.2.1 q.1.set.data w ∧ StrsAt q.2.2 q.1.set.sigs w ∧ q.1.Wf := by
      intro i hi
      obtain ⟨cs', h1, h2⟩ := hx i (by omega)
      rw [deed_cells11] at h1
      obtain ⟨_, hlen, hcell⟩ := World.cells?_some h1
      obtain ⟨k0, c0, c1, c2, c3, c4, c5, r0, s0, v0, n0, rfl⟩ := list11 hlen
      obtain ⟨d, he, h4, h5, hw⟩ := open_deed_cells h2
      exact ⟨(d, c4, c5), fun k hk => by rw [hcell k hk, he, Array.getElem?_toList], h4, h5, hw⟩
    have : Inhabited (DeedD × Value × Value) := ⟨(⟨0, zeroEnt.set, 0, 0, 0, 0⟩, .bool true, .bool true)⟩
    obtain ⟨q, hq⟩ := Go.Deep.choose_lt each
    refine ⟨(List.range len).map fun i => (q i).1, some a, cap, by simp, by simp only [maxLen] at hm; simp; omega, fun h0 => ?_⟩
    have h0' : 0 < len := by simpa using h0
    have hz := (hq 0 h0').1 0 (by omega)
    rw [Nat.zero_mul] at hz
    have hz2 : (a.add 0).add 0 = a.add 0 := by unfold Addr.add; split <;> simp_all
    rw [hz2] at hz
    obtain ⟨e, hb⟩ := addr_of_cell (v := .int .i64 (q 0).1.kind) hz
    refine ⟨a.block, a.off, by rw [← e], fun j hj => ?_⟩
    have hj' : j < len := by simpa using hj
    obtain ⟨k0, k1, k2, k3⟩ := hq j hj'
    refine ⟨(q j).2.1, (q j).2.2, hb, fun i hi => ?_, ?_, ?_, ?_⟩
    · have := k0 i hi
      rw [Go.Deep.add_add, e, Addr.add_mid, ← Nat.add_assoc] at this
      simpa using this
    · simpa using k1
    · simpa using k2
    · simpa using k3
end
end Go.Proofs.YtkhpcagoggglcaaGreatDoor

/- RrcacheVersions: one version is one set: two Gets that tell one version, with whatever between, tell the same data. Proved for every two arguments: the row and its tied card. -/
namespace Go.Proofs.YtkhpcagoggglcaaGreatDoor
open Go.ChangeShapes Go.WideShapes Go.ChangeAt Go.RowKit

theorem ownRrcacheVersions : ownKnob Tryz.prog.godebug = none := by kernel_rfl
set_option maxRecDepth 100000 in
theorem liftedRrcacheVersions (os : Os) (started : os.Started) (H : Type) (enc : TypeId × Value → H) :
    ReturnsInHanded {} Tryz.checked os 4 .any (fun w args => (Rows.rrcacheVersionsSpec.pre enc Tryz.prog Tryz.f4 [] false w args ∧ laidMetH Tryz.prog Rows.rrcacheVersionsRow.laid w) ∧ sizedMet enc Tryz.prog Tryz.f4 (OpenSpec.ofChange Rows.rrcacheVersionsSpec) false w args)
      (Rows.rrcacheVersionsSpec.post enc Tryz.prog Tryz.f4 false true false false) := by
  refine returnsInHanded_of_change_and (C := Tryz.checked) (X := fun w _ => laidMetH Tryz.prog Rows.rrcacheVersionsRow.laid w) (fun _ _ _ hh h => h.of_heap hh) ownRrcacheVersions started (by kernel_rfl) Tryz.func4
    (ChangeSpec.witness_shaped (enc := enc) (C := Tryz.checked) (os := os) (X := fun w _ => laidMetH Tryz.prog Rows.rrcacheVersionsRow.laid w) false (World.laidAll Tryz.prog os Rows.rrcacheVersionsRow.laid) #[.int .i64 0, .slice none 0 0] 8 (World.laidAll_os _ _ _)
      (World.shaped_of_ZipB (by kernel_rfl) (by kernel_rfl)) (by kernel_rfl) (by kernel_rfl) (by kernel_rfl)
      (by rw [MakeChecks.laidMetH_plain _ _ _ (by kernel_rfl)]; exact laidMet_laidAll _ (by kernel_rfl) (by kernel_rfl))) ?_
  intro W base args ds gs before hval0 hW _ _ _ _
  have hval : ∀ (j : Nat) t v, Tryz.f4.params[j]? = some t → args[j]? = some v → Value.okWide Tryz.prog W .any base t v := hval0
  have hW' := hW
  obtain ⟨p, q, hA0, hV, rfl, _, _⟩ := hW
  have hA : DataW.TrodAll enc Tryz.prog W 0 (fun _ => true) true Tryz.f4.params.toList args.toList ds p := hA0
  rw [Tryz.params4] at hA hval
  obtain ⟨args⟩ := args
  obtain ⟨v0, r0, d0, ds0, p0, q0, ha0, hd0, hp0, h0, hA⟩ := trodAll_cons hA
  obtain ⟨v1, r1, d1, ds1, p1, q1, ha1, hd1, hp1, h1, hA⟩ := trodAll_cons hA
  obtain ⟨rfl, rfl, rfl⟩ := trodAll_nil hA
  obtain ⟨rfl, rfl⟩ := trodVars_none hV
  simp only [] at ha0
  subst ha1 ha0 hd1 hd0 hp1 hp0
  obtain ⟨s0, rfl, rfl, rfl, ws0⟩ := open_int Tryz.underlying3 (hval 0 3 v0 rfl rfl) h0
  obtain ⟨a1, len1, cap1, rfl⟩ := okWide_slice Tryz.underlying22 (hval 1 22 v1 rfl rfl)
  obtain ⟨fuel1, hf1⟩ := id h1
  obtain ⟨s1, hs1⟩ := open_deeds hf1
  simp only [List.append_nil, List.nil_append] at hW'
  have hlt : ∀ x ∈ p1, x.block < W.heap.size := fun x hx => by simpa using hW'.lt x (by simp [hx])
  refine (vers_any s0 s1 (.slice a1 len1 cap1) W ws0 hs1).mono fun e W' ⟨he, hB⟩ => ?_
  subst he
  have hq := trodAll_mk2 (shut_int Tryz.underlying3 ws0) (Below.trod laidOut_here (by kernel_rfl) (of_decide_eq_true (by kernel_rfl)) h1 hB hlt)
  simp only [List.nil_append] at hq
  refine ⟨_, rfl, _, _, _, [], p1, [], hW', trodAll_mk1 (shut_bool Tryz.underlying4 _), hq, rfl, hB.frame _, fun h => by cases h⟩
end Go.Proofs.YtkhpcagoggglcaaGreatDoor

