/- data.Right at DNSKEY, and keys.Tag. -/
import Derived.Test.YtdmfbcfhfopipaaGreatDoorTake
import Derived.Laws.EntriesVeiled
namespace Go.Proofs.YtdmfbcfhfopipaaGreatDoor
open Go.RowKit

theorem is_key (g : Nat) (w : World) : Calls Tryz.prog 134 #[.func (.func g) #[] #[]] w fun e w' => e = .returned (.func (.func 208) #[] #[.pointer (some ⟨w.heap.size, 0, none⟩)]) ∧ w' = w.alloc (.cells #[.func (.func g) #[] #[]] 75) := by
  have hmf := makeFunc_run
  go_enter Tryz.func134, Tryz.ntmps134
  go_wp2
  go_ret
  exact ⟨rfl, rfl⟩

theorem is_key1 (d : ByteArray) (c : Nat) (w : World) (hc : Blk w c #[.func (.func 38) #[] #[]] 75) :
    Calls Tryz.prog 208 #[.string d, .pointer (some ⟨c, 0, none⟩)] w fun e w' => e = .returned (.bool (keyRight d)) ∧ Below w.heap.size w w' := by
  have hk := fun w => data_key d w
  have c0 : w.cell? ⟨c, 0, none⟩ = some (.func (.func 38) #[] #[]) := hc.cell 0
  clear hc
  obtain ⟨f, p, a, q, hv⟩ : ∃ f p a q, (if keyRight d then keyOf d else KeyD.none).v = .agg #[.int .i64 f, .int .i64 p, .int .i64 a, .string q] := ⟨_, _, _, _, rfl⟩
  rw [hv] at hk
  have HK := Lib.hid hk; clear hv hk
  cases hr : keyRight d
  all_goals
    rw [hr] at HK
    have HR := Lib.hid hr; clear hr
    simp only [if_true, Bool.false_eq_true, if_false] at HK
    go_enter Tryz.func208, Tryz.ntmps208
    go_wp2_with fail
    refine (HK.out _).mono ?_
    rintro e w1 ⟨rfl, hb⟩
    go_wp2
    go_ret
    exact ⟨rfl, hb.alloc hb.size _⟩

theorem info_form : (Tryz.prog.info? 90).map (·.size) = some 4 := by kernel_rfl

set_option maxRecDepth 100000 in
theorem form_key (w : World) : Calls Tryz.prog 51 #[.int .i64 48] w fun e w' =>
    ∃ c, e = .returned (.agg #[.func (.func 208) #[] #[.pointer (some ⟨c, 0, none⟩)], .func (.func 135) #[] #[], .func (.func 136) #[] #[], .nilFunc]) ∧
      Blk w' c #[.func (.func 38) #[] #[]] 75 ∧ Below w.heap.size w w' := by
  go_enter Tryz.func51, Tryz.ntmps51
  go_wp2_with (go_at_call 134; refine (is_key _ _).mono ?_; rintro e w' ⟨rfl, rfl⟩)
  refine bodyPost_ret (results1 rfl ⟨_, rfl, loadVar_blk (cs := #[.func (.func 208) #[] #[.pointer (some ⟨w.heap.size + 1 + 1, 0, none⟩)], .func (.func 135) #[] #[], .func (.func 136) #[] #[], .nilFunc]) (t := 90) ?_ Tryz.underlying90 rfl info_form⟩) rfl ⟨w.heap.size + 1 + 1, rfl, ?_, ?_⟩
  · exact ((Blk.new w _ _).alloc _).alloc _
  · have := Blk.new ((w.alloc (.cells #[.func (.func 208) #[] #[.pointer (some ⟨w.heap.size + 1 + 1, 0, none⟩)], .func (.func 135) #[] #[], .func (.func 136) #[] #[], .nilFunc] 90)).alloc (.cells #[.func (.func 32) #[] #[], .func (.func 92) #[] #[], .func (.func 94) #[] #[], .func (.func 97) #[] #[]] 90)) #[.func (.func 38) #[] #[]] 75
    simpa using this
  · exact (((Below.refl _ w).alloc (Nat.le_refl _) _).alloc (by simp) _).alloc (by simp; omega) _

theorem form_field0 (a b c d : Value) (w : World) : (Instr.field 90 (.agg #[a, b, c, d]) 0).run Tryz.prog w = .ok a w := by kernel_rfl

set_option maxRecDepth 100000 in
theorem right_key (d : ByteArray) (w : World) : Calls Tryz.prog 24 #[.int .i64 48, .string d] w fun e w' => e = .returned (.bool (keyRight d)) ∧ Below w.heap.size w w' := by
  by_cases hd : d.size ≤ 2000
  · have hd' : decide ((d.size : Int) ≤ 2000) = true := by simp; omega
    clear hd
    have hfl := form_field0
    go_enter Tryz.func24, Tryz.ntmps24
    go_wp2_with (first | (go_at_call 50; refine (isType_any _ _).mono ?_; rintro e w' ⟨rfl, rfl⟩) | (go_at_call 51; refine (form_key _).mono ?_; rintro e w1 ⟨c, rfl, hc, hb⟩; have HC := Lib.hid hc; clear hc) | (go_at_call 208; refine (is_key1 _ _ _ HC.out).mono ?_; rintro e w2 ⟨rfl, hb2⟩))
    go_ret
    exact ⟨rfl, hb.trans (hb2.mono hb.size)⟩
  · have hd' : decide ((d.size : Int) ≤ 2000) = false := by simp; omega
    have hk : keyRight d = false := by simp [keyRight, hd]
    rw [hk]
    clear hd hk
    go_enter Tryz.func24, Tryz.ntmps24
    go_wp2_with (go_at_call 50; refine (isType_any _ _).mono ?_; rintro e w' ⟨rfl, rfl⟩)
    go_ret
    exact ⟨rfl, Below.refl _ _⟩

/-- A key's tag. -/
def tagSum : List UInt8 → Nat → Int
  | [], _ => 0
  | b :: l, i => (if i % 2 = 0 then 256 * (b.toNat : Int) else (b.toNat : Int)) + tagSum l (i + 1)
def tagOf (d : ByteArray) : Int := (tagSum d.data.toList 0 + tagSum d.data.toList 0 / 65536) % 65536

theorem tagSum_bd : ∀ (l : List UInt8) (i : Nat), 0 ≤ tagSum l i ∧ tagSum l i ≤ 65280 * l.length := by
  intro l
  induction l with
  | nil => intro i; simp [tagSum]
  | cons b l ih =>
    intro i
    have := ih (i + 1)
    have hb := b.toNat_lt
    simp only [tagSum, List.length_cons]
    split <;> omega
theorem tagSum_drop (l : List UInt8) (k : Nat) (h : k < l.length) : tagSum (l.drop k) k = (if k % 2 = 0 then 256 * ((l.getD k 0).toNat : Int) else ((l.getD k 0).toNat : Int)) + tagSum (l.drop (k + 1)) (k + 1) := by
  rw [List.drop_eq_getElem_cons h]
  simp [tagSum, List.getD, List.getElem?_eq_getElem h]
theorem i64_and1_even (k : Nat) (h : k % 2 = 0) (hk : k < 9223372036854775808) : bits .and .i64 (k : Int) 1 = 0 := by
  have := i64_and_nat k 1 hk (by omega)
  rw [show ((1 : Nat) : Int) = 1 from rfl] at this
  rw [this, Nat.and_one_is_mod]; omega
theorem i64_and1_odd (k : Nat) (h : ¬ k % 2 = 0) (hk : k < 9223372036854775808) : bits .and .i64 (k : Int) 1 = 1 := by
  have := i64_and_nat k 1 hk (by omega)
  rw [show ((1 : Nat) : Int) = 1 from rfl] at this
  rw [this, Nat.and_one_is_mod]; omega

theorem tag_no (d : ByteArray) (w : World) (h : keyRight d = false) : Calls Tryz.prog 10 #[.string d] w fun e w' => e = .returned (.tuple #[.int .i64 0, .int .i64 6]) ∧ Below w.heap.size w w' := by
  have hr := fun w => right_key d w
  rw [h] at hr
  have HR := Lib.hid hr; clear hr h
  go_enter Tryz.func10, Tryz.ntmps10
  go_wp2_with (go_at_call 24; refine (HR.out _).mono ?_; rintro e w1 ⟨rfl, hb⟩)
  go_ret2
  exact ⟨rfl, hb⟩

set_option maxRecDepth 100000 in
theorem tag_yes (d : ByteArray) (w : World) (h : keyRight d = true) : Calls Tryz.prog 10 #[.string d] w fun e w' => e = .returned (.tuple #[.int .i64 (tagOf d), .int .i64 0]) ∧ Below w.heap.size w w' := by
  have hr := fun w => right_key d w
  rw [h] at hr
  have hd : d.size ≤ 2000 := by simp [keyRight] at h; omega
  have HR := Lib.hid hr; clear hr h
  have hcv := conv_string_bytes
  go_enter Tryz.func10, Tryz.ntmps10
  go_wp2_with (go_at_call 24; refine (HR.out _).mono ?_; rintro e w1 ⟨rfl, hb⟩)
  go_loop [4, 13] (fun v i => ∃ (k : Nat) (a : Int), k ≤ d.size ∧ i = .int .i64 k ∧ v = .int .u32 a ∧ 0 ≤ a ∧ Hid (a + tagSum (d.data.toList.drop k) k = tagSum d.data.toList 0)) (fun _ i => d.size - (intOf i).toNat)
  case atStart => exact ⟨0, 0, Nat.zero_le _, rfl, rfl, by omega, by simp [Hid]⟩
  case round =>
    obtain ⟨k, a, hk, rfl, rfl, ha, hs⟩ := hrel
    have hbd := tagSum_bd d.data.toList 0
    have hbd2 := tagSum_bd (d.data.toList.drop k) k
    have hlen : d.data.toList.length = d.size := by simp
    have hau : a ≤ 130560000 := by have := hs.out; omega
    by_cases hlt : k < d.size
    · have hcell := Lib.bytesWorld_cell w1 5 d k hlt
      have hbyte := (d.data.toList.getD k 0).toNat_lt
      have htd := tagSum_drop d.data.toList k (by omega)
      have hs2 := Lib.hid hs.out
      have HT := Lib.hid htd
      clear hbd hbd2 hlen htd hs
      have hge : d.data.toList.getD k 0 = d.data[k]'(by simpa using hlt) := by simp [List.getD, List.getElem?_eq_getElem (show k < d.data.toList.length by simpa using hlt)]
      have HG := Lib.hid hge; clear hge
      by_cases h2 : k % 2 = 0
      · have hand := i64_and1_even k h2 (by omega)
        go_wp2
        go_round
        case rel =>
          have e1 := HT.out; have e2 := hs2.out; have e3 := HG.out
          rw [if_pos h2] at e1
          rw [e3] at e1 hbyte
          refine ⟨k + 1, a + 256 * ((d.data[k]'(by simpa using hlt)).toNat : Int), by omega, by go_num, ?_, by omega, by unfold Hid; omega⟩
          have : (a + (((d.data[k]'(by simpa using hlt)).toNat : Nat) : Int) % 4294967296 * 256 % 4294967296) % 4294967296 = a + 256 * ((d.data[k]'(by simpa using hlt)).toNat : Int) := by omega
          rw [this]
        case measure => simp [intOf]; omega
      · have hand := i64_and1_odd k h2 (by omega)
        go_wp2
        go_round
        case rel =>
          have e1 := HT.out; have e2 := hs2.out; have e3 := HG.out
          rw [if_neg h2] at e1
          rw [e3] at e1 hbyte
          refine ⟨k + 1, a + ((d.data[k]'(by simpa using hlt)).toNat : Int), by omega, by go_num, ?_, by omega, by unfold Hid; omega⟩
          have : (a + (((d.data[k]'(by simpa using hlt)).toNat : Nat) : Int) % 4294967296) % 4294967296 = a + ((d.data[k]'(by simpa using hlt)).toNat : Int) := by omega
          first | rw [this] | (simp; omega)
        case measure => simp [intOf]; omega
    · obtain rfl : k = d.size := by omega
      have e := hs.out
      rw [List.drop_of_length_le (by omega)] at e
      simp only [tagSum, Int.add_zero] at e
      have HE := Lib.hid e
      have hm : ∀ x : Int, 0 ≤ x → x < 4294967296 → bits .and .u32 x 65535 = x % 65536 := by
        intro x h0 h1
        have := u32_and x 65535 h0 h1 (by omega) (by omega)
        rw [this, show (65535 : Int).toNat = 2 ^ 16 - 1 from rfl, Nat.and_two_pow_sub_one_eq_mod]
        omega
      have HM := Lib.hid hm
      clear e hs hbd hbd2 hlen hm
      go_wp2
      go_ret2
      refine ⟨?_, hb.trans ((below_bytesWorld _ _ _).mono hb.size)⟩
      have e2 : wrap64 (bits BinOp.and IntKind.u32 (a + a / 65536) 65535) = tagOf d := by
        rw [HM.out _ (by omega) (by omega)]
        unfold tagOf wrap64
        rw [← HE.out]
        omega
      show Ending.returned (Value.tuple #[Value.int IntKind.i64 (wrap64 (bits BinOp.and IntKind.u32 (a + a / 65536) 65535)), Value.int IntKind.i64 0]) = _
      rw [e2]

theorem key_tag (d : ByteArray) (w : World) : Calls Tryz.prog 10 #[.string d] w fun e w' => e = .returned (.tuple #[.int .i64 (if keyRight d then tagOf d else 0), .int .i64 (if keyRight d then 0 else 6)]) ∧ Below w.heap.size w w' := by
  cases h : keyRight d
  · simpa using tag_no d w h
  · simpa using tag_yes d w h
end Go.Proofs.YtdmfbcfhfopipaaGreatDoor
