import Derived.Test.YtkdpjbkaijakcaaGreatDoorRk12
import Derived.Deep.Cut
import Derived.Test.YtkdpjbkaijakcaaGreatDoorRk7
import Derived.ChangeSlices
import Derived.Deep.Strs
import Derived.Lib.SmallJoins
import Derived.ProofKit
import Derived.Deep.MidRow
import Derived.OpenShut
import Derived.Test.YtkdpjbkaijakcaaGreatDoorRows
import Derived.Test.YtkdpjbkaijakcaaGreatDoorTie
import Derived.Test.YtkdpjbkaijakcaaGreatDoorCards
import Derived.Carry
import Derived.LaidMore
import Derived.Lay
import Derived.SevenTiedAt
import Derived.Stop.Joined
/- guidepostlaw16's examples, pick and one, walked. -/
namespace Go.Proofs.YtkdpjbkaijakcaaGreatDoor
open Go.RowKit

def pickR (c n : Int) : Int := if c < 0 then (-(c + 1)) % n else c % n
theorem pickR_bd (c n : Int) (hn : 0 < n) : 0 ≤ pickR c n ∧ pickR c n < n := by
  unfold pickR
  split
  · exact ⟨Int.emod_nonneg _ (by omega), Int.emod_lt_of_pos _ hn⟩
  · exact ⟨Int.emod_nonneg _ (by omega), Int.emod_lt_of_pos _ hn⟩
theorem pick_any (c n : Int) (w : World) (hc : -9223372036854775808 ≤ c ∧ c ≤ 9223372036854775807) (hn : 0 < n) (hn2 : n ≤ 1000000) : Calls Tryz.prog 6 #[.int .i64 c, .int .i64 n] w fun e w' => e = .returned (.int .i64 (pickR c n)) ∧ w = w' := by
  have q0 : (n == 0) = false := by rw [beq_eq_false_iff_ne]; omega
  have q00 : ¬ n = 0 := by omega
  by_cases h : c < 0
  · have q1 : decide (c < 0) = true := decide_eq_true h
    have r1 : IntKind.i64.wrap (c + 1) = c + 1 := IntWalk.i64_in _ (by omega)
    have r2 : IntKind.i64.wrap (-(c + 1)) = -(c + 1) := IntWalk.i64_in _ (by omega)
    have e : pickR c n = (-(c + 1)) % n := by rw [pickR, if_pos h]
    have b0 := pickR_bd c n hn
    rw [e] at b0 ⊢
    have e2 : (-(c + 1)).tmod n = (-(c + 1)) % n := Int.tmod_eq_emod_of_nonneg (by omega)
    have r3 : IntKind.i64.wrap ((-(c + 1)) % n) = (-(c + 1)) % n := IntWalk.i64_in _ (by omega)
    clear e
    generalize (-(c + 1)) % n = z at *
    go_enter Tryz.func6, Tryz.ntmps6
    go_wp2
    go_ret
    exact ⟨rfl, rfl⟩
  · have q1 : decide (c < 0) = false := decide_eq_false h
    have e : pickR c n = c % n := by rw [pickR, if_neg h]
    have h0 : 0 ≤ c := by omega
    have b0 := pickR_bd c n hn
    rw [e] at b0 ⊢
    clear e
    go_enter Tryz.func6, Tryz.ntmps6
    go_wp2
    go_ret
    exact ⟨rfl, rfl⟩
def oneS (n l : ByteArray) (t : Int) : SetD := ⟨n, 1, 1, t, [⟨#[10, 0, 0]⟩ ++ l], []⟩
theorem one_any (n l : ByteArray) (t : Int) (w : World) (hl : l.size ≤ 1000) : Calls Tryz.prog 11 #[.string n, .string l, .int .i64 t] w fun e w' => ∃ g, e = .returned ((oneS n l t).v (.slice (some ⟨g, 0, none⟩) 1 1) (.slice none 0 0)) ∧ StrsAt (.slice (some ⟨g, 0, none⟩) 1 1) (oneS n l t).data w' ∧ Below w.heap.size w w' := by
  have n1 : ¬ 9223372036854775807 < ByteArray.size ⟨#[10, 0, 0]⟩ + l.size := by have : ByteArray.size ⟨#[10, 0, 0]⟩ = 3 := rfl; omega
  go_enter Tryz.func11, Tryz.ntmps11
  go_wp2
  have hs := (Blk.new w #[.string n, .int .i64 1, .int .i64 1, .int .i64 t, .slice (some ⟨w.heap.size + 1, 0, none⟩) 1 1, .slice none 0 0] 24).alloc (.cells #[.string (⟨#[10, 0, 0]⟩ ++ l)] 9)
  have hk := Blk.new (w.alloc (.cells #[.string n, .int .i64 1, .int .i64 1, .int .i64 t, .slice (some ⟨w.heap.size + 1, 0, none⟩) 1 1, .slice none 0 0] 24)) #[.string (⟨#[10, 0, 0]⟩ ++ l)] 9
  rw [show (w.alloc (.cells #[.string n, .int .i64 1, .int .i64 1, .int .i64 t, .slice (some ⟨w.heap.size + 1, 0, none⟩) 1 1, .slice none 0 0] 24)).heap.size = w.heap.size + 1 by simp] at hk
  refine bodyPost_ret (results1 rfl ⟨_, rfl, loadVar_blk hs Tryz.underlying24 rfl info_Set⟩) rfl ⟨w.heap.size + 1, rfl, ⟨_, _, rfl, fun _ => ⟨_, 0, rfl, hk.lt, fun j hj => ?_⟩⟩, ((Below.refl _ w).alloc (Nat.le_refl _) _).alloc (by simp) _⟩
  obtain rfl : j = 0 := by simpa [oneS] using hj
  exact hk.cell 0
abbrev n16 : ByteArray := ⟨#[1, 97, 0]⟩
abbrev N16 : ByteArray := ⟨#[1, 65, 0]⟩
def e16 : Ent := ⟨oneS n16 ⟨#[1]⟩ 10, 3, 0, 1, 15⟩
def m16 : List Kv := [((n16, 1), e16)]
theorem ex16_1 : putR 2 0 [] (oneS n16 ⟨#[1]⟩ 10) 3 0 5 = (m16, 1, true, 0) := by kernel_rfl
theorem ex16_2 : putR 2 1 m16 (oneS N16 ⟨#[2]⟩ 10) 1 0 6 = (m16, 1, false, 0) := by kernel_rfl
theorem ex16_3 : getR m16 (nameLower N16) 1 9 = (m16, some e16) := by kernel_rfl
theorem ex16_4 : getR m16 (nameLower n16) 1 15 = ([], none) := by kernel_rfl
theorem ex16_5 : putR 2 1 [] zeroEnt.set 1 0 0 = ([], 1, false, 1) := by kernel_rfl
theorem blk_bes {O : Nat → Prop} {w w' : World} {b : Nat} {cs : Array Value} {t : TypeId} (h : Blk w b cs t) (hb : Bes O w w') (hn : ¬ O b) : Blk w' b cs t := by unfold Blk; rw [hb.block b h.lt hn]; exact h
theorem not_own {O O' : Nat → Prop} {w : World} {b : Nat} (hn : ¬ O b) (hl : b < w.heap.size) (ho : ∀ b, O' b → O b ∨ w.heap.size ≤ b) : ¬ O' b := fun h => by
  rcases ho b h with h1 | h1
  · exact hn h1
  · omega
set_option maxRecDepth 100000 in
set_option maxHeartbeats 2000000 in
theorem examples16 (w : World) : Calls Tryz.prog 4 #[] w fun e w' => e = .returned (.bool true) ∧ Below w.heap.size w w' := by
  go_enter Tryz.func4, Tryz.ntmps4
  go_wp2_with (go_at_call 5; refine (Hid.out (p := _) ?_))
  refine Lib.hid ?_
  refine (rc_new 2 _ (by decide) (by decide)).mono ?_
  rintro e w1 ⟨hb, c, O, rfl, hc, ho⟩
  have HB := Lib.hid hb; have HC := Lib.hid hc; have HO := Lib.hid ho
  clear hb hc ho
  simp only []
  go_wp2_with (go_at_call 5; refine (Hid.out (p := _) ?_))
  refine Lib.hid ?_
  refine (rc_new_no 0 _ (by decide)).mono ?_
  rintro e w2 ⟨rfl, rfl⟩
  simp only []
  go_wp2_with (go_at_call 11; refine (Hid.out (p := _) ?_))
  refine Lib.hid ?_
  refine (one_any n16 ⟨#[1]⟩ 10 _ (by decide)).mono ?_
  rintro e w3 ⟨g, rfl, hd, hb1⟩
  have HN := Lib.hid (And.intro hd (And.intro (HB.out.trans (hb1.mono HB.out.size)) (HC.out.below hb1)))
  clear hd hb1
  simp only [SetD.v, SetD.cells]
  have hpt := rc_put c O 2 0 [] (oneS n16 ⟨#[1]⟩ 10) (.slice (some ⟨g, 0, none⟩) 1 1) (.slice none 0 0) 3 0 5 w3 HN.out.2.2 HN.out.1 ⟨none, 0, rfl, fun h => absurd h (by simp [oneS])⟩ (by decide) (by decide) (by decide)
  rw [ex16_1] at hpt
  simp only [SetD.v, SetD.cells] at hpt
  have HPT := Lib.hid hpt
  clear hpt
  go_wp2_with (go_at_call 7; refine (Hid.out (p := _) ?_))
  refine Lib.hid ?_
  refine (HPT.out).mono ?_
  rintro e w4 ⟨rfl, O4, hc, ho, hbs⟩
  clear HPT
  have HB4 := Lib.hid (HN.out.2.1.trans (hbs.toBelow HO.out HN.out.2.1.size))
  have HO4 := Lib.hid (show ∀ b, O4 b → w.heap.size ≤ b from fun b h => by
    rcases ho b h with h1 | h1
    · exact HO.out b h1
    · exact Nat.le_trans HN.out.2.1.size h1)
  have HC4 := Lib.hid hc
  clear hc ho hbs
  simp only []
  clear HN
  go_wp2_with (go_at_call 11; refine (Hid.out (p := _) ?_))
  refine Lib.hid ?_
  refine (one_any N16 ⟨#[2]⟩ 10 _ (by decide)).mono ?_
  rintro e w5 ⟨g, rfl, hd, hb1⟩
  have HN := Lib.hid (And.intro hd (And.intro (HB4.out.trans (hb1.mono HB4.out.size)) (HC4.out.below hb1)))
  clear hd hb1
  simp only [SetD.v, SetD.cells]
  have hpt := rc_put c O4 2 1 m16 (oneS N16 ⟨#[2]⟩ 10) (.slice (some ⟨g, 0, none⟩) 1 1) (.slice none 0 0) 1 0 6 w5 HN.out.2.2 HN.out.1 ⟨none, 0, rfl, fun h => absurd h (by simp [oneS])⟩ (by decide) (by decide) (by decide)
  rw [ex16_2] at hpt
  simp only [SetD.v, SetD.cells] at hpt
  have HPT := Lib.hid hpt
  clear hpt
  go_wp2_with (go_at_call 7; refine (Hid.out (p := _) ?_))
  refine Lib.hid ?_
  refine (HPT.out).mono ?_
  rintro e w6 ⟨rfl, O6, hc, ho, hbs⟩
  clear HPT
  have HB6 := Lib.hid (HN.out.2.1.trans (hbs.toBelow HO4.out HN.out.2.1.size))
  have HO6 := Lib.hid (show ∀ b, O6 b → w.heap.size ≤ b from fun b h => by
    rcases ho b h with h1 | h1
    · exact HO4.out b h1
    · exact Nat.le_trans HN.out.2.1.size h1)
  have HC6 := Lib.hid hc
  clear hc ho hbs
  simp only []
  clear HN
  have hg := rc_get c O6 2 1 m16 N16 1 9 w6 HC6.out (by decide) (by decide) (by decide)
  rw [ex16_3] at hg
  go_wp2_with (go_at_call 9; refine (Hid.out (p := _) ?_))
  refine Lib.hid ?_
  refine (hg).mono ?_
  rintro e w7 ⟨O7, ⟨hc, ho, hbs⟩, dv, sv, rfl, hdv, hsv⟩
  clear hg
  have HB7 := Lib.hid (HB6.out.trans (hbs.toBelow HO6.out HB6.out.size))
  have HO7 := Lib.hid (show ∀ b, O7 b → w.heap.size ≤ b from fun b h => by
    rcases ho b h with h1 | h1
    · exact HO6.out b h1
    · exact Nat.le_trans HB6.out.size h1)
  have HC7 := Lib.hid hc
  clear hc ho hbs
  simp only []
  obtain ⟨DA, dc, rfl, _⟩ := hdv
  obtain ⟨SA, sc, rfl, _⟩ := hsv
  simp only [Ent.told, Ent.v, Ent.cells, e16, oneS, show min ((15 : Int) - 9) 604800 = 6 by decide]
  have hg2 := fun W (h : CacheIs c O7 2 1 m16 W) => rc_get c O7 2 1 m16 n16 1 15 W h (by decide) (by decide) (by decide)
  simp only [ex16_4] at hg2
  have HG2 := Lib.hid hg2
  clear hg2
  go_wp2_with (go_at_call 9; refine (Hid.out (p := _) ?_))
  refine Lib.hid ?_
  have hx0 := Blk.new w7 #[.string ⟨#[1, 97, 0]⟩, .int .i64 1, .int .i64 1, .int .i64 6, .slice DA [(⟨#[10, 0, 0]⟩ ++ ⟨#[1]⟩ : ByteArray)].length dc, .slice SA ([] : List ByteArray).length sc, .int .i64 3, .int .i64 0, .int .i64 1, .int .i64 15] 35
  have hal := (Below.refl w7.heap.size w7).alloc (Nat.le_refl _) (.cells #[.string ⟨#[1, 97, 0]⟩, .int .i64 1, .int .i64 1, .int .i64 6, .slice DA [(⟨#[10, 0, 0]⟩ ++ ⟨#[1]⟩ : ByteArray)].length dc, .slice SA ([] : List ByteArray).length sc, .int .i64 3, .int .i64 0, .int .i64 1, .int .i64 15] 35)
  generalize (w7.alloc (.cells #[.string ⟨#[1, 97, 0]⟩, .int .i64 1, .int .i64 1, .int .i64 6, .slice DA [(⟨#[10, 0, 0]⟩ ++ ⟨#[1]⟩ : ByteArray)].length dc, .slice SA ([] : List ByteArray).length sc, .int .i64 3, .int .i64 0, .int .i64 1, .int .i64 15] 35)) = w8 at hx0 hal ⊢
  have hnx : ¬ O7 w7.heap.size := fun h => absurd (HC7.out.lt h) (Nat.lt_irrefl _)
  have HB8 := Lib.hid (HB7.out.trans (hal.mono HB7.out.size))
  refine (HG2.out w8 (HC7.out.below hal)).mono ?_
  rintro e w9 ⟨O9, ⟨hc, ho, hbs⟩, rfl⟩
  have hx9 := blk_bes hx0 hbs hnx
  have hnx9 := not_own hnx hx0.lt ho
  have HB9 := Lib.hid (HB8.out.trans (hbs.toBelow HO7.out HB8.out.size))
  have HO9 := Lib.hid (show ∀ b, O9 b → w.heap.size ≤ b from fun b h => by
    rcases ho b h with h1 | h1
    · exact HO7.out b h1
    · exact Nat.le_trans HB8.out.size h1)
  have HC9 := Lib.hid hc
  clear hc ho hbs
  simp only []
  have HX9 := Lib.hid (And.intro hx9 hnx9)
  generalize w7.heap.size = xb at *
  clear hx0 hal hnx hx9 hnx9 HG2
  simp only [Ent.v, Ent.cells, zeroEnt]
  go_wp2_with (go_at_call 7; refine (Hid.out (p := _) ?_))
  refine Lib.hid ?_
  have hz0 := Blk.new w9 #[.string ⟨#[]⟩, .int .i64 0, .int .i64 0, .int .i64 0, .slice none 0 0, .slice none 0 0, .int .i64 0, .int .i64 0, .int .i64 0, .int .i64 0] 35
  have hal := (Below.refl w9.heap.size w9).alloc (Nat.le_refl _) (.cells #[.string ⟨#[]⟩, .int .i64 0, .int .i64 0, .int .i64 0, .slice none 0 0, .slice none 0 0, .int .i64 0, .int .i64 0, .int .i64 0, .int .i64 0] 35)
  generalize (w9.alloc (.cells #[.string ⟨#[]⟩, .int .i64 0, .int .i64 0, .int .i64 0, .slice none 0 0, .slice none 0 0, .int .i64 0, .int .i64 0, .int .i64 0, .int .i64 0] 35)) = wa at hz0 hal ⊢
  have HBa := Lib.hid (HB9.out.trans (hal.mono HB9.out.size))
  have hpt := rc_put c O9 2 1 [] zeroEnt.set (.slice none 0 0) (.slice none 0 0) 1 0 0 wa (HC9.out.below hal) ⟨none, 0, rfl, fun h => absurd h (by decide)⟩ ⟨none, 0, rfl, fun h => absurd h (by decide)⟩ (by decide) (by decide) (by decide)
  rw [ex16_5] at hpt
  refine hpt.mono ?_
  rintro e wb ⟨rfl, Ob, hc, ho, hbs⟩
  have hxa := HX9.out.1.below hal HX9.out.1.lt
  have hxb := blk_bes hxa hbs HX9.out.2
  have HBb := Lib.hid (HBa.out.trans (hbs.toBelow HO9.out HBa.out.size))
  have HOb := Lib.hid (show ∀ b, Ob b → w.heap.size ≤ b from fun b h => by
    rcases ho b h with h1 | h1
    · exact HO9.out b h1
    · exact Nat.le_trans HBa.out.size h1)
  have HCb := Lib.hid hc
  clear hc ho hbs
  simp only []
  have d0 := hxb.cell 0; have d1 := hxb.cell 1; have d3 := hxb.cell 3; have d6 := hxb.cell 6; have d8 := hxb.cell 8
  have dl := hxb.lt
  have HLN := Lib.hid (rc_len c Ob 2 1 [] wb HCb.out)
  clear hz0 hal hpt hxa hxb
  go_wp2_with (go_at_call 8; refine HLN.out.mono ?_; rintro e wc ⟨rfl, rfl⟩)
  go_ret
  exact ⟨rfl, HBb.out⟩
end Go.Proofs.YtkdpjbkaijakcaaGreatDoor

/- RrcacheRanks, walked: true. -/
namespace Go.Proofs.YtkdpjbkaijakcaaGreatDoor
open Go.RowKit

theorem CacheIX.bes0 {c : Nat} {O X : Nat → Prop} {most last : Int} {w w' : World} {S : Nat → Prop} (h : CacheIX c O X most last [] w) (hb : Bes S w w') (hn : ∀ b, O b → ¬ S b) : CacheIX c O X most last [] w' := by
  obtain ⟨tb, mb, l, e, h⟩ := h
  obtain rfl : l = [] := by simpa using e
  have hk : ∀ b, O b → w'.heap[b]? = w.heap[b]? := fun b ho => hb.block b (h.lt ho) (hn b ho)
  refine ⟨tb, mb, [], rfl, h.own, ?_, h.apart, h.tab.keep (fun b hi => hk b ((h.own b).2 (.inr hi))) hb.size, by simp, fun b hb' => Nat.lt_of_lt_of_le (h.xlt b hb') hb.size, h.xno⟩
  unfold Blk; rw [hk c ((h.own c).2 (.inl rfl))]; exact h.cells
def rkE (a : SetD) (f now ver : Int) : Kv := ((nameLower a.name, a.kind), ⟨a, f, 0, ver, now + min a.ttl 604800⟩)
theorem rk_ttl {a : SetD} {f s now : Int} (h : putOk a f s now = true) : 0 ≤ a.ttl ∧ a.ttl ≤ 2147483647 ∧ 0 ≤ now ∧ now < 4294967296 ∧ rightS a = true := by
  simp only [putOk, isTimeR, Bool.and_eq_true, decide_eq_true_eq] at h
  have h0 := h.1.1.1.1.1.1
  have h1 := h0
  simp only [rightS, btw, Bool.and_eq_true, decide_eq_true_eq] at h1
  exact ⟨h1.1.1.1.1.1.1.1.2.1, h1.1.1.1.1.1.1.1.2.2, h.2.1, h.2.2, h0⟩
theorem rk_put1 (a : SetD) (f now : Int) : putR 5 0 [] a f 0 now = ([], 0, false, 1) ∨ putR 5 0 [] a f 0 now = ([], 0, false, 0) ∨ (putOk a f 0 now = true ∧ 1 ≤ a.ttl ∧ putR 5 0 [] a f 0 now = ([rkE a f now 1], 1, true, 0)) := by
  cases hok : putOk a f 0 now with
  | false => exact .inl (by rw [putR, if_pos hok])
  | true =>
    have ht := rk_ttl hok
    by_cases hz : min a.ttl 604800 = 0
    · exact .inr (.inl (by rw [putR, if_neg (by rw [hok]; simp), if_pos]; rw [putStay, decide_eq_true hz]; rfl))
    · refine .inr (.inr ⟨rfl, by omega, ?_⟩)
      rw [putR, if_neg (by rw [hok]; simp), if_neg]
      · rfl
      · rw [putStay, decide_eq_false hz]; simp [findPut]
theorem rk_isK (a : SetD) (f now ver : Int) : isK (nameLower a.name) a.kind (rkE a f now ver) = true := by simp [isK, rkE]
theorem rk_find (a : SetD) (f now ver : Int) : [rkE a f now ver].find? (isK (nameLower a.name) a.kind) = some (rkE a f now ver) := by rw [List.find?_cons, rk_isK]
theorem rk_get {a : SetD} {f now ver t : Int} (ht : isTimeR t = true) : getR [rkE a f now ver] (nameLower a.name) a.kind t = if now + min a.ttl 604800 ≤ t then ([], none) else ([rkE a f now ver], some (rkE a f now ver).2) := by
  rw [getR, rk_find]
  simp only []
  rw [if_neg (by rw [ht]; simp)]
  show (if now + min a.ttl 604800 ≤ t then _ else _) = _
  split
  · rw [List.eraseP_cons_of_pos (rk_isK a f now ver)]
  · rw [List.eraseP_cons_of_pos (rk_isK a f now ver)]
theorem rk_get0 (n : ByteArray) (k t : Int) : getR [] n k t = ([], none) := rfl
/-- The second Put, over a set that is there. -/
theorem rk_put2 {a b : SetD} {f g now t : Int} (hn : b.name = a.name) (hk : b.kind = a.kind) (hT : t < now + min a.ttl 604800) :
    putR 5 1 [rkE a f now 1] b g 0 t = ([rkE a f now 1], 1, false, 1) ∨ (putR 5 1 [rkE a f now 1] b g 0 t = ([rkE a f now 1], 1, false, 0) ∧ (b.ttl = 0 ∨ g < f)) ∨
    (putOk b g 0 t = true ∧ 1 ≤ b.ttl ∧ f ≤ g ∧ ∃ v l, 0 ≤ l ∧ l ≤ 2 ∧ putR 5 1 [rkE a f now 1] b g 0 t = ([rkE b g t v], l, true, 0)) := by
  cases hok : putOk b g 0 t with
  | false => exact .inl (by rw [putR, if_pos hok])
  | true =>
    have ht := rk_ttl hok
    have hfp : findPut [rkE a f now 1] (nameLower b.name) b.kind t g = decide (g < f) := by
      rw [findPut, hn, hk, rk_find]
      show (decide (t < now + min a.ttl 604800) && decide (g < f)) = _
      rw [decide_eq_true hT]; rfl
    by_cases hz : min b.ttl 604800 = 0
    · exact .inr (.inl ⟨by rw [putR, if_neg (by rw [hok]; simp), if_pos]; rw [putStay, decide_eq_true hz]; rfl, .inl (by omega)⟩)
    · by_cases hg : g < f
      · exact .inr (.inl ⟨by rw [putR, if_neg (by rw [hok]; simp), if_pos]; rw [putStay, hfp, decide_eq_true hg]; simp, .inr hg⟩)
      · refine .inr (.inr ⟨rfl, by omega, by omega, ?_⟩)
        have hm : ∀ e, putM 5 [rkE a f now 1] (nameLower b.name) b.kind e = [e] := fun e => by
          rw [putM, hn, hk, rk_find]
          simp only []
          rw [List.eraseP_cons_of_pos (rk_isK a f now 1)]
        refine ⟨(putE [rkE a f now 1] b g 0 t 1).2.ver, putL [rkE a f now 1] b 1, ?_, ?_, ?_⟩
        · unfold putL; split <;> omega
        · unfold putL; split <;> omega
        · rw [putR, if_neg (by rw [hok]; simp), if_neg (by rw [putStay, hfp, decide_eq_false hz, decide_eq_false hg]; simp), hm]
          rfl
/-- The second Put, where the first set is over. -/
theorem rk_put3 {b : SetD} {g t : Int} :
    putR 5 1 [] b g 0 t = ([], 1, false, 1) ∨ (putR 5 1 [] b g 0 t = ([], 1, false, 0) ∧ b.ttl = 0) ∨ (putOk b g 0 t = true ∧ 1 ≤ b.ttl ∧ putR 5 1 [] b g 0 t = ([rkE b g t 2], 2, true, 0)) := by
  cases hok : putOk b g 0 t with
  | false => exact .inl (by rw [putR, if_pos hok])
  | true =>
    have ht := rk_ttl hok
    by_cases hz : min b.ttl 604800 = 0
    · exact .inr (.inl ⟨by rw [putR, if_neg (by rw [hok]; simp), if_pos]; rw [putStay, decide_eq_true hz]; rfl, by omega⟩)
    · refine .inr (.inr ⟨rfl, by omega, ?_⟩)
      rw [putR, if_neg (by rw [hok]; simp), if_neg]
      · rfl
      · rw [putStay, decide_eq_false hz]; simp [findPut]
/-- A set whose TTL is another one, still right, is the same set. -/
theorem rk_same {a : SetD} {t : Int} (h : rightS a = true) (h0 : 0 ≤ t) (h1 : t ≤ 2147483647) : sameS { a with ttl := t } a = true ∧ sameS { a with ttl := t } { a with ttl := t } = true := by
  have hr : rightS { a with ttl := t } = true := by
    simp only [rightS, btw, Bool.and_eq_true, decide_eq_true_eq] at h ⊢
    obtain ⟨⟨⟨⟨⟨⟨⟨⟨⟨⟨x1, x2⟩, x3⟩, x4⟩, x5⟩, x6⟩, x7⟩, x8⟩, x9⟩, x10⟩, x11⟩ := h
    exact ⟨⟨⟨⟨⟨⟨⟨⟨⟨⟨x1, x2⟩, x3⟩, ⟨h0, h1⟩⟩, x5⟩, x6⟩, x7⟩, x8⟩, x9⟩, x10⟩, x11⟩
  have hn : nameRight a.name = true := by
    simp only [rightS, Bool.and_eq_true] at h
    exact h.1.1.1.1.1.1.1.1.1.1
  have he : nameEq a.name a.name = true := by simp [nameEq, hn]
  constructor
  · simp only [sameS, hr, h, he, decide_true, Bool.and_self, Bool.true_and]
    exact decide_eq_true rfl
  · simp only [sameS, hr, he, decide_true, Bool.and_self]
end Go.Proofs.YtkdpjbkaijakcaaGreatDoor

/- RrcacheRanks, walked: true. -/
namespace Go.Proofs.YtkdpjbkaijakcaaGreatDoor
open Go.RowKit

theorem StrsN.bes {O O' : Nat → Prop} {v : Value} {l : List ByteArray} {w w' : World} (h : StrsN (fun g => ¬ O g) v l w) (hb : Bes O w w') (ho : ∀ b, O' b → O b ∨ w.heap.size ≤ b) : StrsN (fun g => ¬ O' g) v l w' :=
  ((h.mono (T := fun g => ¬ O g ∧ g < w.heap.size) fun _ hg hn => ⟨hn, hg⟩).keep (fun g _ hS => hb.block g hS.2 hS.1) hb.size).mono fun _ _ hS => not_own hS.1 hS.2 ho
theorem wf_of {n : Int} (h1 : -9223372036854775808 ≤ n) (h2 : n ≤ 9223372036854775807) : (Lit.int .i64 n).wf = true := by
  simp only [Lit.wf, Bool.and_eq_true, decide_eq_true_eq]
  have e1 : IntKind.i64.min = -9223372036854775808 := by decide
  have e2 : IntKind.i64.max = 9223372036854775807 := by decide
  omega
theorem rk_names {a : SetD} (h : rightS a = true) : a.name.size ≤ maxLen ∧ (Lit.int .i64 a.kind).wf = true := by
  simp only [rightS, btw, Bool.and_eq_true, decide_eq_true_eq] at h
  have hn := h.1.1.1.1.1.1.1.1.1.1
  have hk := h.1.1.1.1.1.1.1.1.1.2
  have hs : a.name.size ≤ 255 := by simp only [nameRight, Bool.and_eq_true, decide_eq_true_eq] at hn; omega
  exact ⟨by simp only [maxLen]; omega, wf_of (by omega) (by omega)⟩
def rkB (a b : SetD) : SetD := { b with name := a.name, kind := a.kind }
set_option maxRecDepth 100000 in
set_option maxHeartbeats 8000000 in
theorem ranks_any (a b : SetD) (da sa db sb : Value) (one two now later : Int) (w : World) (hda : StrsAt da a.data w) (hsa : StrsAt sa a.sigs w) (hdb : StrsAt db b.data w) (hsb : StrsAt sb b.sigs w)
    (h1 : (Lit.int .i64 one).wf = true) (h2 : (Lit.int .i64 two).wf = true) (hnow : (Lit.int .i64 now).wf = true) (hlat : (Lit.int .i64 later).wf = true) :
    Calls Tryz.prog 3 #[a.v da sa, b.v db sb, .int .i64 one, .int .i64 two, .int .i64 now, .int .i64 later] w (BoolB true w) := by
  obtain ⟨A, c1, rfl, _⟩ := id hda
  obtain ⟨B, c2, rfl, _⟩ := id hsa
  obtain ⟨C, c3, rfl, _⟩ := id hdb
  obtain ⟨D, c4, rfl, _⟩ := id hsb
  have HDS := Lib.hid (And.intro hda (And.intro hsa (And.intro hdb hsb)))
  have HWF := Lib.hid (And.intro (wf_bd h1) (And.intro (wf_bd h2) (And.intro hnow (wf_bd hlat))))
  obtain ⟨f0, hf0⟩ : ∃ f0, pickR one 4 = f0 := ⟨_, rfl⟩
  obtain ⟨g0, hg0⟩ : ∃ g0, pickR two 4 = g0 := ⟨_, rfl⟩
  obtain ⟨p0, hp0⟩ : ∃ p0, pickR later 100 = p0 := ⟨_, rfl⟩
  have bf := pickR_bd one 4 (by decide); have bg := pickR_bd two 4 (by decide); have bp := pickR_bd later 100 (by decide)
  have HP1 := Lib.hid (fun W => pick_any one 4 W HWF.out.1 (by decide) (by decide))
  have HP2 := Lib.hid (fun W => pick_any two 4 W HWF.out.2.1 (by decide) (by decide))
  have HP3 := Lib.hid (fun W => pick_any later 100 W HWF.out.2.2.2 (by decide) (by decide))
  rw [hf0] at HP1 bf; rw [hg0] at HP2 bg; rw [hp0] at HP3 bp
  obtain ⟨bf1, bf2⟩ := bf; obtain ⟨bg1, bg2⟩ := bg; obtain ⟨bp1, bp2⟩ := bp
  clear hda hsa hdb hsb h1 h2 hnow hlat hf0 hg0 hp0
  simp only [SetD.v, SetD.cells]
  go_enter Tryz.func3, Tryz.ntmps3
  go_wp2_with (go_at_call 4; refine (Hid.out (p := _) ?_))
  refine Lib.hid ?_
  refine (examples16 _).mono ?_
  have hka := (Blk.new w #[.string a.name, .int .i64 a.kind, .int .i64 a.cls, .int .i64 a.ttl, .slice A a.data.length c1, .slice B a.sigs.length c2] 24).alloc (.cells #[.string b.name, .int .i64 b.kind, .int .i64 b.cls, .int .i64 b.ttl, .slice C b.data.length c3, .slice D b.sigs.length c4] 24)
  have hkb := Blk.new (w.alloc (.cells #[.string a.name, .int .i64 a.kind, .int .i64 a.cls, .int .i64 a.ttl, .slice A a.data.length c1, .slice B a.sigs.length c2] 24)) #[.string b.name, .int .i64 b.kind, .int .i64 b.cls, .int .i64 b.ttl, .slice C b.data.length c3, .slice D b.sigs.length c4] 24
  rw [show (w.alloc (.cells #[.string a.name, .int .i64 a.kind, .int .i64 a.cls, .int .i64 a.ttl, .slice A a.data.length c1, .slice B a.sigs.length c2] 24)).heap.size = w.heap.size + 1 by simp] at hkb
  have hb0 := ((Below.refl _ w).alloc (Nat.le_refl _) (.cells #[.string a.name, .int .i64 a.kind, .int .i64 a.cls, .int .i64 a.ttl, .slice A a.data.length c1, .slice B a.sigs.length c2] 24)).alloc (by simp) (.cells #[.string b.name, .int .i64 b.kind, .int .i64 b.cls, .int .i64 b.ttl, .slice C b.data.length c3, .slice D b.sigs.length c4] 24)
  rintro e w1 ⟨rfl, hb1⟩
  replace hka := hka.below hb1 hka.lt
  replace hkb := hkb.below hb1 hkb.lt
  replace hb0 := hb0.trans (hb1.mono hb0.size)
  clear hb1
  simp only []
  go_wp2_with (go_at_call 5; refine (Hid.out (p := _) ?_))
  refine Lib.hid ?_
  refine (rc_new 5 _ (by decide) (by decide)).mono ?_
  rintro e w2 ⟨hb2, c, O, rfl, hc, ho⟩
  have hla := hka.lt; have hlb := hkb.lt
  replace hka := hka.below hb2 hka.lt
  replace hkb := hkb.below hb2 hkb.lt
  replace hb0 := hb0.trans (hb2.mono hb0.size)
  have HO := Lib.hid (show ∀ b, O b → w.heap.size + 2 ≤ b from fun b h => by have := ho b h; omega)
  have a0 : w2.cell? ⟨w.heap.size, 0, none⟩ = some (.string a.name) := hka.cell 0
  have a1 : w2.cell? ⟨w.heap.size, 1, none⟩ = some (.int .i64 a.kind) := hka.cell 1
  have b0 : w2.cell? ⟨w.heap.size + 1, 0, none⟩ = some (.string b.name) := hkb.cell 0
  have b1 : w2.cell? ⟨w.heap.size + 1, 1, none⟩ = some (.int .i64 b.kind) := hkb.cell 1
  have fb := fun j => hkb.free j
  have la := hka.lt; have lb := hkb.lt
  have H2 := Lib.hid (And.intro hka (And.intro hkb (And.intro hb0 hc)))
  clear hka hkb hb0 hc ho hb2 hla hlb
  simp only []
  go_wp2_with (go_at_call 6; refine (Hid.out (p := _) ?_))
  refine Lib.hid ?_
  refine (HP1.out _).mono ?_
  have hs3 := ((Bes.refl (fun b => b = w.heap.size + 1) w2).setCell (p := ⟨w.heap.size + 1, 0, none⟩) rfl (.string a.name)).setCell (p := ⟨w.heap.size + 1, 1, none⟩) rfl (.int .i64 a.kind)
  have hkb3 : Blk ((w2.setCell ⟨w.heap.size + 1, 0, none⟩ (.string a.name)).setCell ⟨w.heap.size + 1, 1, none⟩ (.int .i64 a.kind)) (w.heap.size + 1) #[.string a.name, .int .i64 a.kind, .int .i64 b.cls, .int .i64 b.ttl, .slice C b.data.length c3, .slice D b.sigs.length c4] 24 := by simpa using (H2.out.2.1.set 0 (.string a.name)).set 1 (.int .i64 a.kind)
  generalize ((w2.setCell ⟨w.heap.size + 1, 0, none⟩ (.string a.name)).setCell ⟨w.heap.size + 1, 1, none⟩ (.int .i64 a.kind)) = w3 at hs3 hkb3 ⊢
  have hka3 : Blk w3 w.heap.size #[.string a.name, .int .i64 a.kind, .int .i64 a.cls, .int .i64 a.ttl, .slice A a.data.length c1, .slice B a.sigs.length c2] 24 := blk_bes H2.out.1 hs3 (by omega)
  have hb3 := H2.out.2.2.1.trans (hs3.toBelow (B := w.heap.size) (fun b h => by omega) H2.out.2.2.1.size)
  have hc3 := H2.out.2.2.2.bes0 hs3 (fun b h e => by have := HO.out b h; omega)
  have H3 := Lib.hid (And.intro hka3 (And.intro hkb3 (And.intro hb3 hc3)))
  clear hs3 hkb3 hka3 hb3 hc3 a0 a1 b0 b1 fb la lb H2
  rintro e w3' ⟨rfl, rfl⟩
  simp only []
  go_wp2_with (go_at_call 6; refine (Hid.out (p := _) ?_))
  refine Lib.hid ?_
  refine (HP2.out _).mono ?_
  rintro e w3' ⟨rfl, rfl⟩
  simp only []
  have a0 := H3.out.1.cell 0; have a1 := H3.out.1.cell 1; have a2 := H3.out.1.cell 2; have a3 := H3.out.1.cell 3; have a4 := H3.out.1.cell 4; have a5 := H3.out.1.cell 5
  have la := H3.out.1.lt
  have hpt := rc_put c O 5 0 [] a (.slice A a.data.length c1) (.slice B a.sigs.length c2) (1 + f0) 0 now w3 H3.out.2.2.2 (HDS.out.1.below H3.out.2.2.1) (HDS.out.2.1.below H3.out.2.2.1) HWF.out.2.2.1 (by decide) (by decide)
  simp only [SetD.v, SetD.cells] at hpt
  rcases rk_put1 a (1 + f0) now with e | e | ⟨hok, htt, e⟩
  · rw [e] at hpt
    have HPT := Lib.hid hpt
    clear hpt
    go_wp2_with (go_at_call 7; refine (Hid.out (p := _) ?_))
    refine Lib.hid ?_
    refine (HPT.out).mono ?_
    rintro e w4 ⟨rfl, O4, hc, ho, hbs⟩
    have hb4 := H3.out.2.2.1.trans (hbs.toBelow (B := w.heap.size) (fun b h => by have := HO.out b h; omega) H3.out.2.2.1.size)
    have HLN := Lib.hid (rc_len c O4 5 0 [] w4 hc)
    have HB4 := Lib.hid hb4
    clear hb4 hc ho hbs HPT a0 a1 a2 a3 a4 a5 la
    simp only []
    go_wp2_with (go_at_call 8; refine HLN.out.mono ?_; rintro e w5 ⟨rfl, rfl⟩)
    go_ret
    exact ⟨rfl, HB4.out⟩
  · rw [e] at hpt
    have HPT := Lib.hid hpt
    clear hpt
    go_wp2_with (go_at_call 7; refine (Hid.out (p := _) ?_))
    refine Lib.hid ?_
    refine (HPT.out).mono ?_
    rintro e w4 ⟨rfl, O4, hc, ho, hbs⟩
    have hb4 := H3.out.2.2.1.trans (hbs.toBelow (B := w.heap.size) (fun b h => by have := HO.out b h; omega) H3.out.2.2.1.size)
    have HLN := Lib.hid (rc_len c O4 5 0 [] w4 hc)
    have HB4 := Lib.hid hb4
    clear hb4 hc ho hbs HPT a0 a1 a2 a3 a4 a5 la
    simp only []
    go_wp2_with (go_at_call 8; refine HLN.out.mono ?_; rintro e w5 ⟨rfl, rfl⟩)
    go_ret
    exact ⟨rfl, HB4.out⟩
  have hrt := rk_ttl hok
  have HOK := Lib.hid hok
  rw [e] at hpt
  have HPT := Lib.hid hpt
  have HRT := Lib.hid (And.intro hrt htt)
  have hkey := rk_get (a := a) (f := 1 + f0) (now := now) (ver := 1) (t := now + p0)
  have HKEY := Lib.hid hkey
  have r1 : IntKind.i64.wrap (now + p0) = now + p0 := IntWalk.i64_in _ (by omega)
  obtain ⟨n0, n1⟩ : 0 ≤ now ∧ now < 4294967296 := ⟨hrt.2.2.1, hrt.2.2.2.1⟩
  clear hpt e hok htt hrt hkey
  go_wp2_with (go_at_call 7; refine (Hid.out (p := _) ?_))
  refine Lib.hid ?_
  refine (HPT.out).mono ?_
  rintro e w4 ⟨rfl, O4, hc, ho, hbs⟩
  have HO4 := Lib.hid (show ∀ b, O4 b → w.heap.size + 2 ≤ b from fun b h => by
    rcases ho b h with h1 | h1
    · exact HO.out b h1
    · have := H3.out.2.1.lt; omega)
  have H4 := Lib.hid (And.intro (blk_bes H3.out.1 hbs (fun h => by have := HO.out _ h; omega)) (And.intro (blk_bes H3.out.2.1 hbs (fun h => by have := HO.out _ h; omega)) (And.intro (H3.out.2.2.1.trans (hbs.toBelow (B := w.heap.size) (fun b h => by have := HO.out b h; omega) H3.out.2.2.1.size)) hc)))
  clear hc ho hbs HPT a0 a1 a2 a3 a4 a5 la
  simp only []
  go_wp2_with (go_at_call 6; refine (Hid.out (p := _) ?_))
  refine Lib.hid ?_
  refine (HP3.out _).mono ?_
  rintro e w4' ⟨rfl, rfl⟩
  simp only []
  by_cases hov : 4294967296 ≤ now + p0
  · have q1 : decide ((4294967296 : Int) ≤ now + p0) = true := decide_eq_true hov
    go_wp2_with fail
    go_ret
    exact ⟨rfl, H4.out.2.2.1⟩
  have q1 : decide ((4294967296 : Int) ≤ now + p0) = false := decide_eq_false hov
  have hit : isTimeR (now + p0) = true := by rw [isTimeR, decide_eq_true (by omega), decide_eq_true (by omega)]; rfl
  have HIT := Lib.hid hit
  have a0 := H4.out.1.cell 0; have a1 := H4.out.1.cell 1
  have la := H4.out.1.lt
  have hwl : (Lit.int .i64 (now + p0)).wf = true := wf_of (by omega) (by omega)
  have HWL := Lib.hid hwl
  have hgt := rc_get c O4 5 1 [rkE a (1 + f0) now 1] a.name a.kind (now + p0) w4 H4.out.2.2.2 (rk_names HRT.out.1.2.2.2.2).1 (rk_names HRT.out.1.2.2.2.2).2 hwl
  rw [HKEY.out hit] at hgt
  by_cases hT : now + min a.ttl 604800 ≤ now + p0
  · rw [if_pos hT] at hgt
    have HGT := Lib.hid hgt
    clear hgt hit hov hT hwl
    go_wp2_with (go_at_call 9; refine (Hid.out (p := _) ?_))
    refine Lib.hid ?_
    refine (HGT.out).mono ?_
    rintro e w5 ⟨O5, ⟨hc, ho, hbs⟩, rfl⟩
    have HO5 := Lib.hid (show ∀ b, O5 b → w.heap.size + 2 ≤ b from fun b h => by
      rcases ho b h with h1 | h1
      · exact HO4.out b h1
      · have := H4.out.2.1.lt; omega)
    have H5 := Lib.hid (And.intro (blk_bes H4.out.1 hbs (fun h => by have := HO4.out _ h; omega)) (And.intro (blk_bes H4.out.2.1 hbs (fun h => by have := HO4.out _ h; omega)) (And.intro (H4.out.2.2.1.trans (hbs.toBelow (B := w.heap.size) (fun b h => by have := HO4.out b h; omega) H4.out.2.2.1.size)) hc)))
    have b0 := H5.out.2.1.cell 0; have b1 := H5.out.2.1.cell 1; have b2 := H5.out.2.1.cell 2; have b3 := H5.out.2.1.cell 3; have b4 := H5.out.2.1.cell 4; have b5 := H5.out.2.1.cell 5
    have lb := H5.out.2.1.lt
    clear hc ho hbs HGT a0 a1 la
    simp only [Ent.v, Ent.cells, zeroEnt]
    go_wp2_with (go_at_call 7; refine (Hid.out (p := _) ?_))
    refine Lib.hid ?_
    have hx0 := Blk.new w5 #[.string ⟨#[]⟩, .int .i64 0, .int .i64 0, .int .i64 0, .slice none 0 0, .slice none 0 0, .int .i64 0, .int .i64 0, .int .i64 0, .int .i64 0] 35
    have hal := (Below.refl w5.heap.size w5).alloc (Nat.le_refl _) (.cells #[.string ⟨#[]⟩, .int .i64 0, .int .i64 0, .int .i64 0, .slice none 0 0, .slice none 0 0, .int .i64 0, .int .i64 0, .int .i64 0, .int .i64 0] 35)
    generalize (w5.alloc (.cells #[.string ⟨#[]⟩, .int .i64 0, .int .i64 0, .int .i64 0, .slice none 0 0, .slice none 0 0, .int .i64 0, .int .i64 0, .int .i64 0, .int .i64 0] 35)) = w6 at hx0 hal ⊢
    have H6 := Lib.hid (And.intro (H5.out.1.below hal H5.out.1.lt) (And.intro (H5.out.2.1.below hal H5.out.2.1.lt) (And.intro (H5.out.2.2.1.trans (hal.mono H5.out.2.2.1.size)) (H5.out.2.2.2.below hal))))
    have HX := Lib.hid (And.intro hx0 (show ¬ O5 w5.heap.size from fun h => absurd (H5.out.2.2.2.lt h) (Nat.lt_irrefl _)))
    generalize w5.heap.size = xb at *
    clear hx0 hal b0 b1 b2 b3 b4 b5 lb
    rcases rk_put3 (b := rkB a b) (g := 1 + g0) (t := now + p0) with e | ⟨e, h0⟩ | ⟨hok2, ht2, e⟩
    · have hpt2 := rc_put c O5 5 1 [] (rkB a b) (.slice C b.data.length c3) (.slice D b.sigs.length c4) (1 + g0) 0 (now + p0) w6 H6.out.2.2.2 (HDS.out.2.2.1.below H6.out.2.2.1) (HDS.out.2.2.2.below H6.out.2.2.1) HWL.out ⟨by simp, by simp, by decide⟩ (by decide)
      rw [e] at hpt2
      simp only [SetD.v, SetD.cells, rkB] at hpt2
      refine hpt2.mono ?_
      clear hpt2
      rintro e w7 ⟨rfl, O7, hc, ho, hbs⟩
      have hx7 := blk_bes HX.out.1 hbs HX.out.2
      have hnx7 := not_own HX.out.2 HX.out.1.lt ho
      have HO7 := Lib.hid (show ∀ b, O7 b → w.heap.size + 2 ≤ b from fun b h => by
        rcases ho b h with h1 | h1
        · exact HO5.out b h1
        · have := H6.out.2.1.lt; omega)
      have H7 := Lib.hid (And.intro (blk_bes H6.out.1 hbs (fun h => by have := HO5.out _ h; omega)) (And.intro (blk_bes H6.out.2.1 hbs (fun h => by have := HO5.out _ h; omega)) (And.intro (H6.out.2.2.1.trans (hbs.toBelow (B := w.heap.size) (fun b h => by have := HO5.out b h; omega) H6.out.2.2.1.size)) hc)))
      have HX7 := Lib.hid (And.intro hx7 hnx7)
      clear hc ho hbs hx7 hnx7 e
      have a0 := H7.out.1.cell 0; have a1 := H7.out.1.cell 1
      have la := H7.out.1.lt
      have hg2 := rc_get c O7 5 1 [] a.name a.kind (now + p0) w7 H7.out.2.2.2 (rk_names HRT.out.1.2.2.2.2).1 (rk_names HRT.out.1.2.2.2.2).2 HWL.out
      rw [rk_get0] at hg2
      have HG2 := Lib.hid hg2
      clear hg2
      simp only []
      go_wp2_with (go_at_call 9; refine (Hid.out (p := _) ?_))
      refine Lib.hid ?_
      refine (HG2.out).mono ?_
      rintro e w8 ⟨O8, ⟨hc, ho, hbs⟩, rfl⟩
      have hx8 := blk_bes HX7.out.1 hbs HX7.out.2
      have hk8 := blk_bes H7.out.2.1 hbs (fun h => by have := HO7.out _ h; omega)
      have hb8 := H7.out.2.2.1.trans (hbs.toBelow (B := w.heap.size) (fun b h => by have := HO7.out b h; omega) H7.out.2.2.1.size)
      have HB8 := Lib.hid hb8
      have x0 := hx8.cell 0; have x1 := hx8.cell 1; have x2 := hx8.cell 2; have x3 := hx8.cell 3; have x4 := hx8.cell 4; have x5 := hx8.cell 5; have x8 := hx8.cell 8
      have xl := hx8.lt
      have b0 := hk8.cell 0; have b1 := hk8.cell 1; have b2 := hk8.cell 2; have b3 := hk8.cell 3; have b4 := hk8.cell 4; have b5 := hk8.cell 5
      have bl := hk8.lt
      clear hx8 hk8 hb8 a0 a1 la hc ho
      clear hbs HG2
      simp only [Ent.v, Ent.cells, zeroEnt]
      go_wp2_with fail
      go_ret
      exact ⟨rfl, HB8.out.alloc HB8.out.size _⟩
    · have hpt2 := rc_put c O5 5 1 [] (rkB a b) (.slice C b.data.length c3) (.slice D b.sigs.length c4) (1 + g0) 0 (now + p0) w6 H6.out.2.2.2 (HDS.out.2.2.1.below H6.out.2.2.1) (HDS.out.2.2.2.below H6.out.2.2.1) HWL.out ⟨by simp, by simp, by decide⟩ (by decide)
      rw [e] at hpt2
      simp only [SetD.v, SetD.cells, rkB] at hpt2
      refine hpt2.mono ?_
      clear hpt2
      rintro e w7 ⟨rfl, O7, hc, ho, hbs⟩
      have hx7 := blk_bes HX.out.1 hbs HX.out.2
      have hnx7 := not_own HX.out.2 HX.out.1.lt ho
      have HO7 := Lib.hid (show ∀ b, O7 b → w.heap.size + 2 ≤ b from fun b h => by
        rcases ho b h with h1 | h1
        · exact HO5.out b h1
        · have := H6.out.2.1.lt; omega)
      have H7 := Lib.hid (And.intro (blk_bes H6.out.1 hbs (fun h => by have := HO5.out _ h; omega)) (And.intro (blk_bes H6.out.2.1 hbs (fun h => by have := HO5.out _ h; omega)) (And.intro (H6.out.2.2.1.trans (hbs.toBelow (B := w.heap.size) (fun b h => by have := HO5.out b h; omega) H6.out.2.2.1.size)) hc)))
      have HX7 := Lib.hid (And.intro hx7 hnx7)
      clear hc ho hbs hx7 hnx7 e
      have a0 := H7.out.1.cell 0; have a1 := H7.out.1.cell 1
      have la := H7.out.1.lt
      have hg2 := rc_get c O7 5 1 [] a.name a.kind (now + p0) w7 H7.out.2.2.2 (rk_names HRT.out.1.2.2.2.2).1 (rk_names HRT.out.1.2.2.2.2).2 HWL.out
      rw [rk_get0] at hg2
      have HG2 := Lib.hid hg2
      clear hg2
      have q9 : (b.ttl == 0) = true := by rw [beq_iff_eq]; exact h0
      clear h0
      simp only []
      go_wp2_with (go_at_call 9; refine (Hid.out (p := _) ?_))
      refine Lib.hid ?_
      refine (HG2.out).mono ?_
      rintro e w8 ⟨O8, ⟨hc, ho, hbs⟩, rfl⟩
      have hx8 := blk_bes HX7.out.1 hbs HX7.out.2
      have hk8 := blk_bes H7.out.2.1 hbs (fun h => by have := HO7.out _ h; omega)
      have hb8 := H7.out.2.2.1.trans (hbs.toBelow (B := w.heap.size) (fun b h => by have := HO7.out b h; omega) H7.out.2.2.1.size)
      have HB8 := Lib.hid hb8
      have x0 := hx8.cell 0; have x1 := hx8.cell 1; have x2 := hx8.cell 2; have x3 := hx8.cell 3; have x4 := hx8.cell 4; have x5 := hx8.cell 5; have x8 := hx8.cell 8
      have xl := hx8.lt
      have b0 := hk8.cell 0; have b1 := hk8.cell 1; have b2 := hk8.cell 2; have b3 := hk8.cell 3; have b4 := hk8.cell 4; have b5 := hk8.cell 5
      have bl := hk8.lt
      clear hx8 hk8 hb8 a0 a1 la hc ho
      clear hbs HG2
      simp only [Ent.v, Ent.cells, zeroEnt]
      go_wp2_with fail
      go_ret
      exact ⟨rfl, HB8.out.alloc HB8.out.size _⟩
    · have HOK2 := Lib.hid hok2
      have HLIVE := Lib.hid (show 1 ≤ (rkB a b).ttl from ht2)
      have hpt2 := rc_put c O5 5 1 [] (rkB a b) (.slice C b.data.length c3) (.slice D b.sigs.length c4) (1 + g0) 0 (now + p0) w6 H6.out.2.2.2 (HDS.out.2.2.1.below H6.out.2.2.1) (HDS.out.2.2.2.below H6.out.2.2.1) HWL.out ⟨by simp, by simp, by decide⟩ (by decide)
      rw [e] at hpt2
      simp only [SetD.v, SetD.cells, rkB] at hpt2
      refine hpt2.mono ?_
      clear hpt2
      rintro e w7 ⟨rfl, O7, hc, ho, hbs⟩
      have hx7 := blk_bes HX.out.1 hbs HX.out.2
      have hnx7 := not_own HX.out.2 HX.out.1.lt ho
      have HO7 := Lib.hid (show ∀ b, O7 b → w.heap.size + 2 ≤ b from fun b h => by
        rcases ho b h with h1 | h1
        · exact HO5.out b h1
        · have := H6.out.2.1.lt; omega)
      have H7 := Lib.hid (And.intro (blk_bes H6.out.1 hbs (fun h => by have := HO5.out _ h; omega)) (And.intro (blk_bes H6.out.2.1 hbs (fun h => by have := HO5.out _ h; omega)) (And.intro (H6.out.2.2.1.trans (hbs.toBelow (B := w.heap.size) (fun b h => by have := HO5.out b h; omega) H6.out.2.2.1.size)) hc)))
      have HX7 := Lib.hid (And.intro hx7 hnx7)
      clear hc ho hbs hx7 hnx7 e hok2
      have q9 : (b.ttl == 0) = false := by rw [beq_eq_false_iff_ne]; have := HLIVE.out; simp only [rkB] at this; omega
      clear ht2
      have hg2 := rc_get c O7 5 2 [rkE (rkB a b) (1 + g0) (now + p0) 2] a.name a.kind (now + p0) w7 H7.out.2.2.2 (rk_names HRT.out.1.2.2.2.2).1 (rk_names HRT.out.1.2.2.2.2).2 HWL.out
      have hk2 := rk_get (a := rkB a b) (f := 1 + g0) (now := now + p0) (ver := 2) HIT.out
      rw [if_neg (by have := HLIVE.out; (try unfold rkB at *); omega)] at hk2
      change getR [rkE (rkB a b) (1 + g0) (now + p0) 2] (nameLower a.name) a.kind (now + p0) = _ at hk2
      rw [hk2] at hg2
      have HG2 := Lib.hid hg2
      clear hg2 hk2
      have a0 := H7.out.1.cell 0; have a1 := H7.out.1.cell 1
      have la := H7.out.1.lt
      simp only []
      go_wp2_with (go_at_call 9; refine (Hid.out (p := _) ?_))
      refine Lib.hid ?_
      refine (HG2.out).mono ?_
      rintro e w8 ⟨O8, ⟨hc, ho, hbs⟩, ydv, ysv, rfl, hyd, hys⟩
      have hx8 := blk_bes HX7.out.1 hbs HX7.out.2
      have hk8 := blk_bes H7.out.2.1 hbs (fun h => by have := HO7.out _ h; omega)
      have hb8 := H7.out.2.2.1.trans (hbs.toBelow (B := w.heap.size) (fun b h => by have := HO7.out b h; omega) H7.out.2.2.1.size)
      have HB8 := Lib.hid hb8
      have x0 := hx8.cell 0; have x1 := hx8.cell 1; have x2 := hx8.cell 2; have x3 := hx8.cell 3; have x4 := hx8.cell 4; have x5 := hx8.cell 5; have x8 := hx8.cell 8
      have xl := hx8.lt
      have b0 := hk8.cell 0; have b1 := hk8.cell 1; have b2 := hk8.cell 2; have b3 := hk8.cell 3; have b4 := hk8.cell 4; have b5 := hk8.cell 5
      have bl := hk8.lt
      clear hx8 hk8 hb8 a0 a1 la hc ho
      obtain ⟨YA, yc, rfl, _⟩ := id hyd
      obtain ⟨YB, yd, rfl, _⟩ := id hys
      have HY := Lib.hid (And.intro hyd.at hys.at)
      clear HG2 hyd hys
      simp only [Ent.told, Ent.v, Ent.cells, rkE]
      try unfold rkB
      clear hbs
      obtain ⟨TT, hTT⟩ : ∃ TT, min (now + p0 + min b.ttl 604800 - (now + p0)) 604800 = TT := ⟨_, rfl⟩
      rw [hTT]
      have hTB : 0 ≤ TT ∧ TT ≤ 2147483647 := by have := HLIVE.out; simp only [rkB] at this; omega
      have HRS := Lib.hid (rk_same (a := rkB a b) (rk_ttl HOK2.out).2.2.2.2 hTB.1 hTB.2)
      clear hTT hTB
      go_wp2_with (go_at_call 10; refine (Hid.out (p := _) ?_))
      refine Lib.hid ?_
      have hyb := (Below.refl w8.heap.size w8).alloc (Nat.le_refl _) (.cells #[.string a.name, .int .i64 a.kind, .int .i64 b.cls, .int .i64 TT, .slice YA b.data.length yc, .slice YB b.sigs.length yd, .int .i64 (1 + g0), .int .i64 0, .int .i64 2, .int .i64 (now + p0 + min b.ttl 604800)] 35)
      have hsm := same_any { rkB a b with ttl := TT } (rkB a b) (.slice YA b.data.length yc) (.slice YB b.sigs.length yd) (.slice C b.data.length c3) (.slice D b.sigs.length c4) (w8.alloc (.cells #[.string a.name, .int .i64 a.kind, .int .i64 b.cls, .int .i64 TT, .slice YA b.data.length yc, .slice YB b.sigs.length yd, .int .i64 (1 + g0), .int .i64 0, .int .i64 2, .int .i64 (now + p0 + min b.ttl 604800)] 35)) (StrsAt.below HY.out.1 hyb) (StrsAt.below HY.out.2 hyb) (HDS.out.2.2.1.below (HB8.out.trans (hyb.mono HB8.out.size))) (HDS.out.2.2.2.below (HB8.out.trans (hyb.mono HB8.out.size)))
      rw [HRS.out.1] at hsm
      simp only [SetD.v, SetD.cells, rkB] at hsm
      refine hsm.mono ?_
      rintro e w9 ⟨rfl, hb9⟩
      have HB9 := Lib.hid ((HB8.out.trans (hyb.mono HB8.out.size)).trans (hb9.mono (HB8.out.trans (hyb.mono HB8.out.size)).size))
      clear hsm hb9 hyb
      simp only []
      go_wp2_with fail
      go_ret
      exact ⟨rfl, HB9.out⟩
  · rw [if_neg hT] at hgt
    have HGT := Lib.hid hgt
    have HTT := Lib.hid hT
    clear hgt hit hov hT hwl
    go_wp2_with (go_at_call 9; refine (Hid.out (p := _) ?_))
    refine Lib.hid ?_
    refine (HGT.out).mono ?_
    rintro e w5 ⟨O5, ⟨hc, ho, hbs⟩, xdv, xsv, rfl, hxd, hxs⟩
    have HO5 := Lib.hid (show ∀ b, O5 b → w.heap.size + 2 ≤ b from fun b h => by
      rcases ho b h with h1 | h1
      · exact HO4.out b h1
      · have := H4.out.2.1.lt; omega)
    have H5 := Lib.hid (And.intro (blk_bes H4.out.1 hbs (fun h => by have := HO4.out _ h; omega)) (And.intro (blk_bes H4.out.2.1 hbs (fun h => by have := HO4.out _ h; omega)) (And.intro (H4.out.2.2.1.trans (hbs.toBelow (B := w.heap.size) (fun b h => by have := HO4.out b h; omega) H4.out.2.2.1.size)) hc)))
    have b0 := H5.out.2.1.cell 0; have b1 := H5.out.2.1.cell 1; have b2 := H5.out.2.1.cell 2; have b3 := H5.out.2.1.cell 3; have b4 := H5.out.2.1.cell 4; have b5 := H5.out.2.1.cell 5
    have lb := H5.out.2.1.lt
    obtain ⟨XA, xc, rfl, _⟩ := id hxd
    obtain ⟨XB, xd, rfl, _⟩ := id hxs
    have hxd5 : StrsN (fun g => ¬ O5 g) (.slice XA a.data.length xc) a.data w5 := StrsN.mono hxd fun g _ h => h.2
    have hxs5 : StrsN (fun g => ¬ O5 g) (.slice XB a.sigs.length xd) a.sigs w5 := StrsN.mono hxs fun g _ h => h.2
    have HXD := Lib.hid (And.intro hxd5 hxs5)
    clear hc ho hbs HGT a0 a1 la hxd hxs hxd5 hxs5
    simp only [Ent.told, Ent.v, Ent.cells, rkE]
    obtain ⟨TX, hTX⟩ : ∃ TX, min (now + min a.ttl 604800 - (now + p0)) 604800 = TX := ⟨_, rfl⟩
    rw [hTX]
    have hTXB : 0 ≤ TX ∧ TX ≤ 2147483647 := by have := HTT.out; have := HRT.out.1; omega
    have HRSX := Lib.hid (rk_same (a := a) HRT.out.1.2.2.2.2 hTXB.1 hTXB.2)
    have HTX := Lib.hid hTX
    clear hTX hTXB
    go_wp2_with (go_at_call 7; refine (Hid.out (p := _) ?_))
    refine Lib.hid ?_
    have hx0 := Blk.new w5 #[.string a.name, .int .i64 a.kind, .int .i64 a.cls, .int .i64 TX, .slice XA a.data.length xc, .slice XB a.sigs.length xd, .int .i64 (1 + f0), .int .i64 0, .int .i64 1, .int .i64 (now + min a.ttl 604800)] 35
    have hal := (Below.refl w5.heap.size w5).alloc (Nat.le_refl _) (.cells #[.string a.name, .int .i64 a.kind, .int .i64 a.cls, .int .i64 TX, .slice XA a.data.length xc, .slice XB a.sigs.length xd, .int .i64 (1 + f0), .int .i64 0, .int .i64 1, .int .i64 (now + min a.ttl 604800)] 35)
    generalize (w5.alloc (.cells #[.string a.name, .int .i64 a.kind, .int .i64 a.cls, .int .i64 TX, .slice XA a.data.length xc, .slice XB a.sigs.length xd, .int .i64 (1 + f0), .int .i64 0, .int .i64 1, .int .i64 (now + min a.ttl 604800)] 35)) = w6 at hx0 hal ⊢
    have H6 := Lib.hid (And.intro (H5.out.1.below hal H5.out.1.lt) (And.intro (H5.out.2.1.below hal H5.out.2.1.lt) (And.intro (H5.out.2.2.1.trans (hal.mono H5.out.2.2.1.size)) (H5.out.2.2.2.below hal))))
    have HX := Lib.hid (And.intro hx0 (show ¬ O5 w5.heap.size from fun h => absurd (H5.out.2.2.2.lt h) (Nat.lt_irrefl _)))
    have HXD6 := Lib.hid (And.intro (HXD.out.1.below hal) (HXD.out.2.below hal))
    generalize w5.heap.size = xb at *
    clear hx0 hal b0 b1 b2 b3 b4 b5 lb HXD
    rcases rk_put2 (a := a) (b := rkB a b) (f := 1 + f0) (g := 1 + g0) (now := now) (t := now + p0) rfl rfl (by have := HTT.out; omega) with e | ⟨e, hor⟩ | ⟨hok2, ht2, hfg, v, lv, hl0, hl2, e⟩
    · have HLIVE := Lib.hid HTT.out
      have hpt2 := rc_put c O5 5 1 [rkE a (1 + f0) now 1] (rkB a b) (.slice C b.data.length c3) (.slice D b.sigs.length c4) (1 + g0) 0 (now + p0) w6 H6.out.2.2.2 (HDS.out.2.2.1.below H6.out.2.2.1) (HDS.out.2.2.2.below H6.out.2.2.1) HWL.out ⟨by simp, by simp, by decide⟩ (by decide)
      rw [e] at hpt2
      simp only [SetD.v, SetD.cells, rkB] at hpt2
      refine hpt2.mono ?_
      clear hpt2
      rintro e w7 ⟨rfl, O7, hc, ho, hbs⟩
      have hx7 := blk_bes HX.out.1 hbs HX.out.2
      have hnx7 := not_own HX.out.2 HX.out.1.lt ho
      have HO7 := Lib.hid (show ∀ b, O7 b → w.heap.size + 2 ≤ b from fun b h => by
        rcases ho b h with h1 | h1
        · exact HO5.out b h1
        · have := H6.out.2.1.lt; omega)
      have H7 := Lib.hid (And.intro (blk_bes H6.out.1 hbs (fun h => by have := HO5.out _ h; omega)) (And.intro (blk_bes H6.out.2.1 hbs (fun h => by have := HO5.out _ h; omega)) (And.intro (H6.out.2.2.1.trans (hbs.toBelow (B := w.heap.size) (fun b h => by have := HO5.out b h; omega) H6.out.2.2.1.size)) hc)))
      have HX7 := Lib.hid (And.intro hx7 hnx7)
      clear hc ho hbs hx7 hnx7 e
      have hg2 := rc_get c O7 5 1 [rkE (a) (1 + f0) (now) 1] a.name a.kind (now + p0) w7 H7.out.2.2.2 (rk_names HRT.out.1.2.2.2.2).1 (rk_names HRT.out.1.2.2.2.2).2 HWL.out
      have hk2 := rk_get (a := a) (f := 1 + f0) (now := now) (ver := 1) HIT.out
      rw [if_neg (by have := HLIVE.out; (try unfold rkB at *); omega)] at hk2
      change getR [rkE (a) (1 + f0) (now) 1] (nameLower a.name) a.kind (now + p0) = _ at hk2
      rw [hk2] at hg2
      have HG2 := Lib.hid hg2
      clear hg2 hk2
      have a0 := H7.out.1.cell 0; have a1 := H7.out.1.cell 1
      have la := H7.out.1.lt
      simp only []
      go_wp2_with (go_at_call 9; refine (Hid.out (p := _) ?_))
      refine Lib.hid ?_
      refine (HG2.out).mono ?_
      rintro e w8 ⟨O8, ⟨hc, ho, hbs⟩, ydv, ysv, rfl, hyd, hys⟩
      have hx8 := blk_bes HX7.out.1 hbs HX7.out.2
      have hk8 := blk_bes H7.out.2.1 hbs (fun h => by have := HO7.out _ h; omega)
      have hb8 := H7.out.2.2.1.trans (hbs.toBelow (B := w.heap.size) (fun b h => by have := HO7.out b h; omega) H7.out.2.2.1.size)
      have HB8 := Lib.hid hb8
      have x0 := hx8.cell 0; have x1 := hx8.cell 1; have x2 := hx8.cell 2; have x3 := hx8.cell 3; have x4 := hx8.cell 4; have x5 := hx8.cell 5; have x8 := hx8.cell 8
      have xl := hx8.lt
      have b0 := hk8.cell 0; have b1 := hk8.cell 1; have b2 := hk8.cell 2; have b3 := hk8.cell 3; have b4 := hk8.cell 4; have b5 := hk8.cell 5
      have bl := hk8.lt
      clear hx8 hk8 hb8 a0 a1 la hc ho
      obtain ⟨YA, yc, rfl, _⟩ := id hyd
      obtain ⟨YB, yd, rfl, _⟩ := id hys
      have HY := Lib.hid (And.intro hyd.at hys.at)
      clear HG2 hyd hys
      simp only [Ent.told, Ent.v, Ent.cells, rkE]
      try unfold rkB
      clear hbs
      rw [HTX.out]
      go_wp2_with fail
      go_ret
      exact ⟨rfl, HB8.out.alloc HB8.out.size _⟩
    · have HLIVE := Lib.hid HTT.out
      have hpt2 := rc_put c O5 5 1 [rkE a (1 + f0) now 1] (rkB a b) (.slice C b.data.length c3) (.slice D b.sigs.length c4) (1 + g0) 0 (now + p0) w6 H6.out.2.2.2 (HDS.out.2.2.1.below H6.out.2.2.1) (HDS.out.2.2.2.below H6.out.2.2.1) HWL.out ⟨by simp, by simp, by decide⟩ (by decide)
      rw [e] at hpt2
      simp only [SetD.v, SetD.cells, rkB] at hpt2
      refine hpt2.mono ?_
      clear hpt2
      rintro e w7 ⟨rfl, O7, hc, ho, hbs⟩
      have hx7 := blk_bes HX.out.1 hbs HX.out.2
      have hnx7 := not_own HX.out.2 HX.out.1.lt ho
      have HO7 := Lib.hid (show ∀ b, O7 b → w.heap.size + 2 ≤ b from fun b h => by
        rcases ho b h with h1 | h1
        · exact HO5.out b h1
        · have := H6.out.2.1.lt; omega)
      have H7 := Lib.hid (And.intro (blk_bes H6.out.1 hbs (fun h => by have := HO5.out _ h; omega)) (And.intro (blk_bes H6.out.2.1 hbs (fun h => by have := HO5.out _ h; omega)) (And.intro (H6.out.2.2.1.trans (hbs.toBelow (B := w.heap.size) (fun b h => by have := HO5.out b h; omega) H6.out.2.2.1.size)) hc)))
      have HX7 := Lib.hid (And.intro hx7 hnx7)
      have HXD7 := Lib.hid (And.intro (HXD6.out.1.bes hbs ho) (HXD6.out.2.bes hbs ho))
      clear hc ho hbs hx7 hnx7 e
      have HOR := Lib.hid (show b.ttl = 0 ∨ 1 + g0 < 1 + f0 from hor)
      clear hor
      have hg2 := rc_get c O7 5 1 [rkE (a) (1 + f0) (now) 1] a.name a.kind (now + p0) w7 H7.out.2.2.2 (rk_names HRT.out.1.2.2.2.2).1 (rk_names HRT.out.1.2.2.2.2).2 HWL.out
      have hk2 := rk_get (a := a) (f := 1 + f0) (now := now) (ver := 1) HIT.out
      rw [if_neg (by have := HLIVE.out; (try unfold rkB at *); omega)] at hk2
      change getR [rkE (a) (1 + f0) (now) 1] (nameLower a.name) a.kind (now + p0) = _ at hk2
      rw [hk2] at hg2
      have HG2 := Lib.hid hg2
      clear hg2 hk2
      have a0 := H7.out.1.cell 0; have a1 := H7.out.1.cell 1
      have la := H7.out.1.lt
      simp only []
      go_wp2_with (go_at_call 9; refine (Hid.out (p := _) ?_))
      refine Lib.hid ?_
      refine (HG2.out).mono ?_
      rintro e w8 ⟨O8, ⟨hc, ho, hbs⟩, ydv, ysv, rfl, hyd, hys⟩
      have hx8 := blk_bes HX7.out.1 hbs HX7.out.2
      have hk8 := blk_bes H7.out.2.1 hbs (fun h => by have := HO7.out _ h; omega)
      have hb8 := H7.out.2.2.1.trans (hbs.toBelow (B := w.heap.size) (fun b h => by have := HO7.out b h; omega) H7.out.2.2.1.size)
      have HB8 := Lib.hid hb8
      have x0 := hx8.cell 0; have x1 := hx8.cell 1; have x2 := hx8.cell 2; have x3 := hx8.cell 3; have x4 := hx8.cell 4; have x5 := hx8.cell 5; have x8 := hx8.cell 8
      have xl := hx8.lt
      have b0 := hk8.cell 0; have b1 := hk8.cell 1; have b2 := hk8.cell 2; have b3 := hk8.cell 3; have b4 := hk8.cell 4; have b5 := hk8.cell 5
      have bl := hk8.lt
      clear hx8 hk8 hb8 a0 a1 la hc ho
      obtain ⟨YA, yc, rfl, _⟩ := id hyd
      obtain ⟨YB, yd, rfl, _⟩ := id hys
      have HY := Lib.hid (And.intro hyd.at hys.at)
      clear HG2 hyd hys
      simp only [Ent.told, Ent.v, Ent.cells, rkE]
      try unfold rkB
      have HXD8 := Lib.hid (And.intro (HXD7.out.1.keep (fun g hg hS => hbs.block g hg hS) hbs.size).at (HXD7.out.2.keep (fun g hg hS => hbs.block g hg hS) hbs.size).at)
      clear hbs
      rw [HTX.out]
      by_cases hz : b.ttl = 0
      · have q9 : (b.ttl == 0) = true := by rw [beq_iff_eq]; exact hz
        clear hz
        go_wp2_with fail
        go_ret
        exact ⟨rfl, HB8.out.alloc HB8.out.size _⟩
      · have q9 : (b.ttl == 0) = false := by rw [beq_eq_false_iff_ne]; exact hz
        have q12 : g0 < f0 := by rcases HOR.out with h | h; exact absurd h hz; omega
        have q11 : decide (g0 < f0) = true := decide_eq_true q12
        have q10 : decide (1 + g0 < 1 + f0) = true := decide_eq_true (by omega)
        clear hz
        go_wp2_with (go_at_call 10; refine (Hid.out (p := _) ?_))
        refine Lib.hid ?_
        have hyb := (Below.refl w8.heap.size w8).alloc (Nat.le_refl _) (.cells #[.string a.name, .int .i64 a.kind, .int .i64 a.cls, .int .i64 TX, .slice YA a.data.length yc, .slice YB a.sigs.length yd, .int .i64 (1 + f0), .int .i64 0, .int .i64 1, .int .i64 (now + min a.ttl 604800)] 35)
        have hsm := same_any { a with ttl := TX } { a with ttl := TX } (.slice YA a.data.length yc) (.slice YB a.sigs.length yd) (.slice XA a.data.length xc) (.slice XB a.sigs.length xd) (w8.alloc (.cells #[.string a.name, .int .i64 a.kind, .int .i64 a.cls, .int .i64 TX, .slice YA a.data.length yc, .slice YB a.sigs.length yd, .int .i64 (1 + f0), .int .i64 0, .int .i64 1, .int .i64 (now + min a.ttl 604800)] 35)) (StrsAt.below HY.out.1 hyb) (StrsAt.below HY.out.2 hyb) (StrsAt.below HXD8.out.1 hyb) (StrsAt.below HXD8.out.2 hyb)
        rw [HRSX.out.2] at hsm
        simp only [SetD.v, SetD.cells] at hsm
        refine hsm.mono ?_
        rintro e w9 ⟨rfl, hb9⟩
        have HB9 := Lib.hid ((HB8.out.trans (hyb.mono HB8.out.size)).trans (hb9.mono (HB8.out.trans (hyb.mono HB8.out.size)).size))
        clear hsm hb9 hyb
        simp only []
        go_wp2_with fail
        go_ret
        exact ⟨rfl, HB9.out⟩
    · have HOK2 := Lib.hid hok2
      have HLIVE := Lib.hid (show 1 ≤ (rkB a b).ttl from ht2)
      have hpt2 := rc_put c O5 5 1 [rkE a (1 + f0) now 1] (rkB a b) (.slice C b.data.length c3) (.slice D b.sigs.length c4) (1 + g0) 0 (now + p0) w6 H6.out.2.2.2 (HDS.out.2.2.1.below H6.out.2.2.1) (HDS.out.2.2.2.below H6.out.2.2.1) HWL.out ⟨by simp, by simp, by decide⟩ (by decide)
      rw [e] at hpt2
      simp only [SetD.v, SetD.cells, rkB] at hpt2
      refine hpt2.mono ?_
      clear hpt2
      rintro e w7 ⟨rfl, O7, hc, ho, hbs⟩
      have hx7 := blk_bes HX.out.1 hbs HX.out.2
      have hnx7 := not_own HX.out.2 HX.out.1.lt ho
      have HO7 := Lib.hid (show ∀ b, O7 b → w.heap.size + 2 ≤ b from fun b h => by
        rcases ho b h with h1 | h1
        · exact HO5.out b h1
        · have := H6.out.2.1.lt; omega)
      have H7 := Lib.hid (And.intro (blk_bes H6.out.1 hbs (fun h => by have := HO5.out _ h; omega)) (And.intro (blk_bes H6.out.2.1 hbs (fun h => by have := HO5.out _ h; omega)) (And.intro (H6.out.2.2.1.trans (hbs.toBelow (B := w.heap.size) (fun b h => by have := HO5.out b h; omega) H6.out.2.2.1.size)) hc)))
      have HX7 := Lib.hid (And.intro hx7 hnx7)
      clear hc ho hbs hx7 hnx7 e hok2
      have q9 : (b.ttl == 0) = false := by rw [beq_eq_false_iff_ne]; have := HLIVE.out; simp only [rkB] at this; omega
      have q11 : decide (g0 < f0) = false := decide_eq_false (by omega)
      have q10 : decide (1 + g0 < 1 + f0) = false := decide_eq_false (by omega)
      clear ht2 hfg
      have hg2 := rc_get c O7 5 lv [rkE (rkB a b) (1 + g0) (now + p0) v] a.name a.kind (now + p0) w7 H7.out.2.2.2 (rk_names HRT.out.1.2.2.2.2).1 (rk_names HRT.out.1.2.2.2.2).2 HWL.out
      have hk2 := rk_get (a := rkB a b) (f := 1 + g0) (now := now + p0) (ver := v) HIT.out
      rw [if_neg (by have := HLIVE.out; (try unfold rkB at *); omega)] at hk2
      change getR [rkE (rkB a b) (1 + g0) (now + p0) v] (nameLower a.name) a.kind (now + p0) = _ at hk2
      rw [hk2] at hg2
      have HG2 := Lib.hid hg2
      clear hg2 hk2
      have a0 := H7.out.1.cell 0; have a1 := H7.out.1.cell 1
      have la := H7.out.1.lt
      simp only []
      go_wp2_with (go_at_call 9; refine (Hid.out (p := _) ?_))
      refine Lib.hid ?_
      refine (HG2.out).mono ?_
      rintro e w8 ⟨O8, ⟨hc, ho, hbs⟩, ydv, ysv, rfl, hyd, hys⟩
      have hx8 := blk_bes HX7.out.1 hbs HX7.out.2
      have hk8 := blk_bes H7.out.2.1 hbs (fun h => by have := HO7.out _ h; omega)
      have hb8 := H7.out.2.2.1.trans (hbs.toBelow (B := w.heap.size) (fun b h => by have := HO7.out b h; omega) H7.out.2.2.1.size)
      have HB8 := Lib.hid hb8
      have x0 := hx8.cell 0; have x1 := hx8.cell 1; have x2 := hx8.cell 2; have x3 := hx8.cell 3; have x4 := hx8.cell 4; have x5 := hx8.cell 5; have x8 := hx8.cell 8
      have xl := hx8.lt
      have b0 := hk8.cell 0; have b1 := hk8.cell 1; have b2 := hk8.cell 2; have b3 := hk8.cell 3; have b4 := hk8.cell 4; have b5 := hk8.cell 5
      have bl := hk8.lt
      clear hx8 hk8 hb8 a0 a1 la hc ho
      obtain ⟨YA, yc, rfl, _⟩ := id hyd
      obtain ⟨YB, yd, rfl, _⟩ := id hys
      have HY := Lib.hid (And.intro hyd.at hys.at)
      clear HG2 hyd hys
      simp only [Ent.told, Ent.v, Ent.cells, rkE]
      try unfold rkB
      clear hbs
      obtain ⟨TT, hTT⟩ : ∃ TT, min (now + p0 + min b.ttl 604800 - (now + p0)) 604800 = TT := ⟨_, rfl⟩
      rw [hTT]
      have hTB : 0 ≤ TT ∧ TT ≤ 2147483647 := by have := HLIVE.out; simp only [rkB] at this; omega
      have HRS := Lib.hid (rk_same (a := rkB a b) (rk_ttl HOK2.out).2.2.2.2 hTB.1 hTB.2)
      clear hTT hTB
      go_wp2_with (go_at_call 10; refine (Hid.out (p := _) ?_))
      refine Lib.hid ?_
      have hyb := (Below.refl w8.heap.size w8).alloc (Nat.le_refl _) (.cells #[.string a.name, .int .i64 a.kind, .int .i64 b.cls, .int .i64 TT, .slice YA b.data.length yc, .slice YB b.sigs.length yd, .int .i64 (1 + g0), .int .i64 0, .int .i64 v, .int .i64 (now + p0 + min b.ttl 604800)] 35)
      have hsm := same_any { rkB a b with ttl := TT } (rkB a b) (.slice YA b.data.length yc) (.slice YB b.sigs.length yd) (.slice C b.data.length c3) (.slice D b.sigs.length c4) (w8.alloc (.cells #[.string a.name, .int .i64 a.kind, .int .i64 b.cls, .int .i64 TT, .slice YA b.data.length yc, .slice YB b.sigs.length yd, .int .i64 (1 + g0), .int .i64 0, .int .i64 v, .int .i64 (now + p0 + min b.ttl 604800)] 35)) (StrsAt.below HY.out.1 hyb) (StrsAt.below HY.out.2 hyb) (HDS.out.2.2.1.below (HB8.out.trans (hyb.mono HB8.out.size))) (HDS.out.2.2.2.below (HB8.out.trans (hyb.mono HB8.out.size)))
      rw [HRS.out.1] at hsm
      simp only [SetD.v, SetD.cells, rkB] at hsm
      refine hsm.mono ?_
      rintro e w9 ⟨rfl, hb9⟩
      have HB9 := Lib.hid ((HB8.out.trans (hyb.mono HB8.out.size)).trans (hb9.mono (HB8.out.trans (hyb.mono HB8.out.size)).size))
      clear hsm hb9 hyb
      simp only []
      go_wp2_with fail
      go_ret
      exact ⟨rfl, HB9.out⟩
end Go.Proofs.YtkdpjbkaijakcaaGreatDoor

/- Arguments, opened: a set by value; rows of texts. -/
namespace Go.Proofs.YtkdpjbkaijakcaaGreatDoor
open Go.RowKit Go.ChangeShapes Go.WideShapes Go.ChangeAt

theorem addr_of_cell {W : World} {a : Addr} {v : Value} (h : W.cell? (a.add 0) = some v) : a = ⟨a.block, a.off, none⟩ ∧ a.block < W.heap.size := by
  obtain ⟨b, o, s⟩ := a
  cases s with
  | none =>
    rw [Addr.add_mid] at h
    refine ⟨rfl, ?_⟩
    obtain ⟨cs, ty, fr, hq⟩ : ∃ cs ty fr, W.heap[b]? = some (.cells cs ty fr) := by
      unfold World.cell? at h
      split at h
      · rename_i c x y hq; exact ⟨c, x, y, hq⟩
      · cases h
    exact (Array.getElem?_eq_some_iff.1 hq).1
  | some t =>
    exfalso
    have e : (⟨b, o, some t⟩ : Addr).add 0 = ⟨b, o, some t⟩ := rfl
    rw [e] at h
    unfold World.cell? at h
    split at h
    · simp at h
    · cases h
theorem cell_of_add {W : World} {a : Addr} {v : Value} (ha : a = ⟨a.block, a.off, none⟩) (j : Nat) (h : W.cell? (a.add j) = some v) : W.cell? ⟨a.block, a.off + j, none⟩ = some v := by
  rw [ha, Addr.add_mid] at h
  exact h
section
variable {H : Type} {enc : TypeId × Value → H} {w : World} {base : Nat} {spare : Nat → Bool} {held : Bool}
theorem open_strsV {fuel : Nat} {v : Value} {y : DataW H × List MemPlace} (h : DataW.trod enc Tryz.prog w base spare held fuel 22 [v] = some y) : ∃ l : List ByteArray, StrsAt v l w ∧ l.length ≤ maxLen ∧ ∀ x ∈ l, x.size ≤ maxLen := by
  rcases Go.Deep.open_strs Tryz.underlying22 Tryz.underlying9 (by kernel_rfl) h with ⟨h1, _⟩ | ⟨a, len, cap, m, Sx, h1, _, hl, hm, hmm, _, hc⟩
  · obtain rfl : v = .slice none 0 0 := by simpa using h1
    exact ⟨[], ⟨none, 0, rfl, fun h => absurd h (by simp)⟩, by simp, by simp⟩
  · obtain rfl : v = .slice (some a) len cap := by simpa using h1
    have hlm : len ≤ m := by rw [hmm]; split <;> omega
    refine ⟨(List.range len).map Sx, ⟨some a, cap, by simp, fun h0 => ?_⟩, by simp; omega, ?_⟩
    · have h0' : 0 < len := by simpa using h0
      obtain ⟨e, hb⟩ := addr_of_cell (hc 0 (by omega)).1
      refine ⟨a.block, a.off, by rw [← e], hb, fun j hj => ?_⟩
      have hj' : j < len := by simpa using hj
      rw [cell_of_add e j (hc j (by omega)).1]
      simp
    · intro x hx
      obtain ⟨i, hi, rfl⟩ := List.mem_map.1 hx
      exact (hc i (by have := List.mem_range.1 hi; omega)).2
theorem array6 {α : Type} {cs : Array α} (h : cs.size = 6) : ∃ a b c d e f, cs = #[a, b, c, d, e, f] := by
  obtain ⟨l⟩ := cs
  match l, h with
  | [a, b, c, d, e, f], _ => exact ⟨a, b, c, d, e, f, rfl⟩
theorem set_cells6 : Tryz.prog.cellsOf 24 = 6 := by kernel_rfl
theorem strs_cells1 : Tryz.prog.cellsOf 22 = 1 := by kernel_rfl
theorem str_cells1 : Tryz.prog.cellsOf 9 = 1 := by kernel_rfl
theorem int_cells1 : Tryz.prog.cellsOf 3 = 1 := by kernel_rfl
theorem open_set_cells {fuel : Nat} {c0 c1 c2 c3 c4 c5 : Value} {y : DataW H × List MemPlace} (h : DataW.trod enc Tryz.prog w base spare held fuel 24 [c0, c1, c2, c3, c4, c5] = some y) :
    ∃ s : SetD, [c0, c1, c2, c3, c4, c5] = (s.cells c4 c5).toList ∧ StrsAt c4 s.data w ∧ StrsAt c5 s.sigs w ∧ s.name.size ≤ maxLen ∧ (Lit.int .i64 s.kind).wf = true ∧ (Lit.int .i64 s.cls).wf = true ∧ (Lit.int .i64 s.ttl).wf = true ∧ s.data.length ≤ maxLen ∧ s.sigs.length ≤ maxLen := by
  obtain ⟨xs, n, _, _, _, hxl, hx⟩ := DataW.trod_struct Tryz.underlying24 h
  have hxl' : xs.length = 6 := hxl
  have g0 := hx 0 _ rfl
  have g1 := hx 1 _ rfl
  have g2 := hx 2 _ rfl
  have g3 := hx 3 _ rfl
  have g4 := hx 4 _ rfl
  have g5 := hx 5 _ rfl
  simp [str_cells1, int_cells1, strs_cells1, List.drop_succ_cons, List.drop_zero, List.take_succ_cons, List.take_zero] at g0 g1 g2 g3 g4 g5
  rw [List.getElem?_eq_getElem (show 0 < xs.length by omega)] at g0
  rw [List.getElem?_eq_getElem (show 1 < xs.length by omega)] at g1
  rw [List.getElem?_eq_getElem (show 2 < xs.length by omega)] at g2
  rw [List.getElem?_eq_getElem (show 3 < xs.length by omega)] at g3
  rw [List.getElem?_eq_getElem (show 4 < xs.length by omega)] at g4
  rw [List.getElem?_eq_getElem (show 5 < xs.length by omega)] at g5
  obtain ⟨s, hs, _, hs2⟩ := DataW.trod_string Tryz.underlying9 g0
  obtain ⟨k, hk, _, hk2⟩ := DataW.trod_int Tryz.underlying3 g1
  obtain ⟨c, hc, _, hc2⟩ := DataW.trod_int Tryz.underlying3 g2
  obtain ⟨t, ht, _, ht2⟩ := DataW.trod_int Tryz.underlying3 g3
  obtain ⟨ld, hd, hd2, _⟩ := open_strsV g4
  obtain ⟨ls, hl, hl2, _⟩ := open_strsV g5
  simp only [List.cons.injEq, and_true] at hs hk hc ht
  subst hs hk hc ht
  exact ⟨⟨s, k, c, t, ld, ls⟩, rfl, hd, hl, hs2, hk2, hc2, ht2, hd2, hl2⟩
set_option maxRecDepth 100000 in
theorem open_set {r : Reach} {b0 : Nat} {v : Value} {d : DataW H} {p : List MemPlace} (hv : Value.okWide Tryz.prog w r b0 24 v) (h : DataW.Trod enc Tryz.prog w base spare held 24 v d p) :
    ∃ (s : SetD) (dv sv : Value), v = s.v dv sv ∧ StrsAt dv s.data w ∧ StrsAt sv s.sigs w := by
  obtain ⟨cs, rfl, hsz⟩ := okWide_struct Tryz.underlying24 hv
  obtain ⟨c0, c1, c2, c3, c4, c5, rfl⟩ := array6 (hsz.trans set_cells6)
  obtain ⟨fuel, hf⟩ := h
  obtain ⟨s, he, h4, h5, _⟩ := open_set_cells hf
  refine ⟨s, c4, c5, ?_, h4, h5⟩
  unfold SetD.v
  congr 1
  exact congrArg List.toArray he
end
end Go.Proofs.YtkdpjbkaijakcaaGreatDoor

/- RrcacheRanks: a set that is not over stays as it is, whatever is put in its place with a lesser rank; one of its rank or a greater one takes its place. Proved for every six arguments: the row and its tied card. -/
namespace Go.Proofs.YtkdpjbkaijakcaaGreatDoor
open Go.ChangeShapes Go.WideShapes Go.ChangeAt Go.RowKit

theorem ownRrcacheRanks : ownKnob Tryz.prog.godebug = none := by kernel_rfl
set_option maxRecDepth 100000 in
theorem liftedRrcacheRanks (os : Os) (started : os.Started) (H : Type) (enc : TypeId × Value → H) :
    ReturnsInHanded {} Tryz.checked os 3 .any (fun w args => (Rows.rrcacheRanksSpec.pre enc Tryz.prog Tryz.f3 [] false w args ∧ laidMetH Tryz.prog Rows.rrcacheRanksRow.laid w) ∧ sizedMet enc Tryz.prog Tryz.f3 (OpenSpec.ofChange Rows.rrcacheRanksSpec) false w args)
      (Rows.rrcacheRanksSpec.post enc Tryz.prog Tryz.f3 false true false false) := by
  refine returnsInHanded_of_change_and (C := Tryz.checked) (X := fun w _ => laidMetH Tryz.prog Rows.rrcacheRanksRow.laid w) (fun _ _ _ hh h => h.of_heap hh) ownRrcacheRanks started (by kernel_rfl) Tryz.func3
    (ChangeSpec.witness_shaped (enc := enc) (C := Tryz.checked) (os := os) (X := fun w _ => laidMetH Tryz.prog Rows.rrcacheRanksRow.laid w) false (World.laidAll Tryz.prog os Rows.rrcacheRanksRow.laid) #[.agg #[.string ⟨#[]⟩, .int .i64 0, .int .i64 0, .int .i64 0, .slice none 0 0, .slice none 0 0], .agg #[.string ⟨#[]⟩, .int .i64 0, .int .i64 0, .int .i64 0, .slice none 0 0, .slice none 0 0], .int .i64 0, .int .i64 0, .int .i64 0, .int .i64 0] 8 (World.laidAll_os _ _ _)
      (World.shaped_of_ZipB (by kernel_rfl) (by kernel_rfl)) (by kernel_rfl) (by kernel_rfl) (by kernel_rfl)
      (by rw [MakeChecks.laidMetH_plain _ _ _ (by kernel_rfl)]; exact laidMet_laidAll _ (by kernel_rfl) (by kernel_rfl))) ?_
  intro W base args ds gs before hval0 hW _ _ _ _
  have hval : ∀ (j : Nat) t v, Tryz.f3.params[j]? = some t → args[j]? = some v → Value.okWide Tryz.prog W .any base t v := hval0
  have hW' := hW
  obtain ⟨p, q, hA0, hV, rfl, _, _⟩ := hW
  have hA : DataW.TrodAll enc Tryz.prog W 0 (fun _ => true) true Tryz.f3.params.toList args.toList ds p := hA0
  rw [Tryz.params3] at hA hval
  obtain ⟨args⟩ := args
  obtain ⟨v0, r0, d0, ds0, p0, q0, ha0, hd0, hp0, h0, hA⟩ := trodAll_cons hA
  obtain ⟨v1, r1, d1, ds1, p1, q1, ha1, hd1, hp1, h1, hA⟩ := trodAll_cons hA
  obtain ⟨v2, r2, d2, ds2, p2, q2, ha2, hd2, hp2, h2, hA⟩ := trodAll_cons hA
  obtain ⟨v3, r3, d3, ds3, p3, q3, ha3, hd3, hp3, h3, hA⟩ := trodAll_cons hA
  obtain ⟨v4, r4, d4, ds4, p4, q4, ha4, hd4, hp4, h4, hA⟩ := trodAll_cons hA
  obtain ⟨v5, r5, d5, ds5, p5, q5, ha5, hd5, hp5, h5, hA⟩ := trodAll_cons hA
  obtain ⟨rfl, rfl, rfl⟩ := trodAll_nil hA
  obtain ⟨rfl, rfl⟩ := trodVars_none hV
  simp only [] at ha0
  subst ha5 ha4 ha3 ha2 ha1 ha0 hd5 hd4 hd3 hd2 hd1 hd0 hp5 hp4 hp3 hp2 hp1 hp0
  obtain ⟨s0, dv0, sv0, hv0, hd0', hs0'⟩ := open_set (hval 0 24 v0 rfl rfl) h0
  obtain ⟨s1, dv1, sv1, hv1, hd1', hs1'⟩ := open_set (hval 1 24 v1 rfl rfl) h1
  obtain ⟨s2, rfl, rfl, rfl, ws2⟩ := open_int Tryz.underlying3 (hval 2 3 v2 rfl rfl) h2
  obtain ⟨s3, rfl, rfl, rfl, ws3⟩ := open_int Tryz.underlying3 (hval 3 3 v3 rfl rfl) h3
  obtain ⟨s4, rfl, rfl, rfl, ws4⟩ := open_int Tryz.underlying3 (hval 4 3 v4 rfl rfl) h4
  obtain ⟨s5, rfl, rfl, rfl, ws5⟩ := open_int Tryz.underlying3 (hval 5 3 v5 rfl rfl) h5
  simp only [List.append_nil] at hW'
  have hlt0 : ∀ x ∈ p0, x.block < W.heap.size := fun x hx => by simpa using hW'.lt x (by simp [hx])
  have hlt1 : ∀ x ∈ p1, x.block < W.heap.size := fun x hx => by simpa using hW'.lt x (by simp [hx])
  have hrun := ranks_any s0 s1 dv0 sv0 dv1 sv1 s2 s3 s4 s5 W hd0' hs0' hd1' hs1' ws2 ws3 ws4 ws5
  rw [← hv0, ← hv1] at hrun
  refine hrun.mono fun e W' ⟨he, hB⟩ => ?_
  subst he
  have hq := trodAll_cons_mk (Below.trod laidOut_here (by kernel_rfl) (of_decide_eq_true (by kernel_rfl)) h0 hB hlt0) (trodAll_cons_mk (Below.trod laidOut_here (by kernel_rfl) (of_decide_eq_true (by kernel_rfl)) h1 hB hlt1) (trodAll_mk4 (shut_int Tryz.underlying3 ws2) (shut_int Tryz.underlying3 ws3) (shut_int Tryz.underlying3 ws4) (shut_int Tryz.underlying3 ws5)))
  simp only [List.append_nil] at hq
  refine ⟨_, rfl, _, _, _, [], p0 ++ p1, [], hW', trodAll_mk1 (shut_bool Tryz.underlying4 _), hq, rfl, hB.frame _, fun h => by cases h⟩

end Go.Proofs.YtkdpjbkaijakcaaGreatDoor

