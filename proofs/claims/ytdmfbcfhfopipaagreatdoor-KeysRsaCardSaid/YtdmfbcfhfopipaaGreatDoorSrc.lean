/- data's source: bytes that are taken one behind the other; too few end in the panic of data.stop. -/
import Derived.Test.YtdmfbcfhfopipaaGreatDoorBase
import Derived.Test.YtdmfbcfhfopipaaGreatDoorBits
namespace Go.Proofs.YtdmfbcfhfopipaaGreatDoor
open Go.RowKit

theorem isType_any (n : Int) (w : World) : Calls Tryz.prog 50 #[.int .i64 n] w fun e w' => e = .returned (.bool (decide (0 ≤ n) && decide (n < 65536))) ∧ w = w' := by
  go_enter Tryz.func50, Tryz.ntmps50
  by_cases h : 0 ≤ n
  · have h' : decide (0 ≤ n) = true := by simpa using h
    go_wp2
    go_ret
    exact ⟨by simp [h], rfl⟩
  · have h' : decide (0 ≤ n) = false := by simpa using h
    go_wp2
    go_ret
    exact ⟨by simp, rfl⟩

def stopC : List PanicEntry := [{ v := .iface 191 (.agg #[]), recovered := false }]

theorem must_ok (p : Value) (w : World) : Calls Tryz.prog 154 #[p, .bool true] w fun e w' => e = .returned (.tuple #[]) ∧ w = w' := by
  go_enter Tryz.func154, Tryz.ntmps154
  go_wp2
  go_end0
  exact ⟨rfl, rfl⟩

theorem must_no (p : Value) (w : World) : Calls Tryz.prog 154 #[p, .bool false] w fun e w' => e = .panicked stopC ∧ w = w' := by
  go_enter Tryz.func154, Tryz.ntmps154
  go_wp2
  exact ⟨rfl, rfl, rfl⟩

/-- A source over s, in block b. -/
def Src (b : Nat) (s : ByteArray) (w : World) : Prop := Blk w b #[.string s] 194

theorem bytes_ok (b : Nat) (s : ByteArray) (n : Int) (w : World) (hS : Src b s w) (h0 : 0 ≤ n) (hn : n ≤ s.size) :
    Calls Tryz.prog 155 #[.pointer (some ⟨b, 0, none⟩), .int .i64 n] w fun e w' => e = .returned (.string (s.extract 0 n.toNat)) ∧ Src b (s.extract n.toNat s.size) w' ∧ Only b w w' := by
  have hc : w.cell? ⟨b, 0, none⟩ = some (.string s) := hS.cell 0
  have hf := hS.free 0
  have hq : Src b (s.extract n.toNat s.size) (w.setCell ⟨b, 0, none⟩ (.string (s.extract n.toNat s.size))) := hS.set 0 _
  clear hS
  have HQ := Lib.hid hq; clear hq
  go_enter Tryz.func155, Tryz.ntmps155
  go_wp2_with (go_at_call 154; refine (must_ok _ _).mono ?_; rintro e w' ⟨rfl, rfl⟩)
  go_ret
  exact ⟨rfl, HQ.out, Only.setCell ⟨b, 0, none⟩ rfl _⟩

theorem bytes_no (b : Nat) (s : ByteArray) (n : Int) (w : World) (hS : Src b s w) (hn : (s.size : Int) < n) :
    Calls Tryz.prog 155 #[.pointer (some ⟨b, 0, none⟩), .int .i64 n] w fun e w' => e = .panicked stopC ∧ w = w' := by
  have hc : w.cell? ⟨b, 0, none⟩ = some (.string s) := hS.cell 0
  clear hS
  have hd : decide (n ≤ (s.size : Int)) = false := by simpa using hn
  go_enter Tryz.func155, Tryz.ntmps155
  go_wp2_with (go_at_call 154; refine (must_no _ _).mono ?_; rintro e w' ⟨rfl, rfl⟩)
  exact ⟨rfl, rfl, rfl⟩

/-- A number of the bytes of a text, the great ones first. -/
def numL (l : List UInt8) : Int := l.foldl (fun (v : Int) (b : UInt8) => v * 256 + b.toNat) 0
def numOf (s : ByteArray) : Int := numL s.data.toList

theorem numOf_take (s : ByteArray) (k : Nat) (h : k < s.size) : numL (s.data.toList.take (k + 1)) = numL (s.data.toList.take k) * 256 + (s.data.toList.getD k 0).toNat := by
  unfold numL
  rw [List.take_succ_eq_append_getElem (by simpa using h), List.foldl_append]
  simp [List.getD, List.getElem?_eq_getElem (show k < s.data.toList.length by simpa using h)]

theorem numFold_bd : ∀ (l : List UInt8), 0 ≤ numL l ∧ numL l < 256 ^ l.length := by
  have key : ∀ (l : List UInt8) (a m : Int), 0 ≤ a → a < m → 0 ≤ l.foldl (fun (v : Int) (b : UInt8) => v * 256 + b.toNat) a ∧ l.foldl (fun (v : Int) (b : UInt8) => v * 256 + b.toNat) a < m * 256 ^ l.length := by
    intro l
    induction l with
    | nil => intro a m h0 h1; simpa using ⟨h0, h1⟩
    | cons x l ih =>
      intro a m h0 h1
      have hx : (x.toNat : Int) < 256 := by have := x.toNat_lt; omega
      have := ih (a * 256 + x.toNat) (m * 256) (by omega) (by omega)
      simp only [List.foldl_cons, List.length_cons]
      refine ⟨this.1, ?_⟩
      have e : m * 256 * 256 ^ l.length = m * 256 ^ (l.length + 1) := by rw [Int.pow_succ]; rw [Int.mul_assoc, Int.mul_comm 256]
      rw [← e]; exact this.2
  intro l
  have := key l 0 1 (by omega) (by omega)
  simpa [numL] using this

set_option maxRecDepth 100000 in
theorem number_ok (b : Nat) (s : ByteArray) (n : Int) (w : World) (hS : Src b s w) (h0 : 0 ≤ n) (h7 : n ≤ 7) (hn : n ≤ s.size) :
    Calls Tryz.prog 74 #[.pointer (some ⟨b, 0, none⟩), .int .i64 n] w fun e w' => e = .returned (.int .i64 (numOf (s.extract 0 n.toNat))) ∧ Src b (s.extract n.toNat s.size) w' ∧ Only b w w' := by
  have hct := bytes_ok b s n w hS h0 hn
  clear hS
  obtain ⟨t, ht⟩ : ∃ t, t = s.extract 0 n.toNat := ⟨_, rfl⟩
  rw [← ht] at hct ⊢
  have hts : t.size ≤ 7 := by rw [ht, ByteArray.size_extract]; omega
  clear ht
  obtain ⟨r, hr⟩ : ∃ r, r = s.extract n.toNat s.size := ⟨_, rfl⟩
  rw [← hr] at hct ⊢
  clear hr h0 h7 hn
  have hcv := conv_string_bytes
  go_enter Tryz.func74, Tryz.ntmps74
  go_wp2_with (go_at_call 155; refine hct.mono ?_; clear hct; rintro e w1 ⟨rfl, hS1, hB1⟩)
  go_loop [5, 13] (fun v i => ∃ k : Nat, k ≤ t.size ∧ i = .int .i64 k ∧ v = .int .i64 (numL (t.data.toList.take k))) (fun _ i => t.size - (intOf i).toNat)
  case atStart => exact ⟨0, Nat.zero_le _, rfl, rfl⟩
  case round =>
    obtain ⟨k, hk, rfl, rfl⟩ := hrel
    have hbd := numFold_bd (t.data.toList.take k)
    have hlen : (t.data.toList.take k).length ≤ 6 ∨ k = t.size := by rw [List.length_take]; simp; omega
    by_cases hlt : k < t.size
    · have hcell := Lib.bytesWorld_cell w1 5 t k hlt
      have hs : numL (t.data.toList.take k) < 281474976710656 := by
        have h6 : (t.data.toList.take k).length ≤ 6 := by omega
        have : (256 : Int) ^ (t.data.toList.take k).length ≤ 256 ^ 6 := by
          have := Nat.pow_le_pow_right (show 256 > 0 by omega) h6
          exact_mod_cast this
        omega
      have hso := shl8_or _ (t.data.toList.getD k 0).toNat hbd.1 (by omega) (by omega) (by have := (t.data.toList.getD k 0).toNat_lt; omega)
      rw [← numOf_take t k hlt] at hso
      have HS := Lib.hid hso; clear hso hbd hs hlen
      go_wp2
      go_round
      case rel =>
        refine ⟨k + 1, by omega, by go_num, ?_⟩
        rw [← HS.out]
        simp [List.getD, List.getElem?_eq_getElem (show k < t.data.toList.length by simpa using hlt)]
      case measure => simp [intOf]; omega
    · obtain rfl : k = t.size := by omega
      clear hbd hlen
      go_wp2
      go_ret
      refine ⟨ret_int ?_, hS1.below (below_bytesWorld _ _ _) hS1.lt, hB1.trans (Only.of_below (below_bytesWorld _ _ _))⟩
      rw [List.take_of_length_le (by simp)]; rfl

theorem number_no (b : Nat) (s : ByteArray) (n : Int) (w : World) (hS : Src b s w) (hn : (s.size : Int) < n) :
    Calls Tryz.prog 74 #[.pointer (some ⟨b, 0, none⟩), .int .i64 n] w fun e w' => e = .panicked stopC ∧ w = w' := by
  have hct := bytes_no b s n w hS hn
  clear hS hn
  go_enter Tryz.func74, Tryz.ntmps74
  go_wp2_with (go_at_call 155; refine hct.mono ?_; clear hct; rintro e w1 ⟨rfl, rfl⟩)
  exact ⟨rfl, rfl, rfl⟩

theorem toList_isEmpty {s : ByteArray} (h : s.size ≠ 0) : s.toList.isEmpty = false := by
  rw [ByteArray.toList_eq]
  cases hs : s.data.toList with
  | nil =>
    have := congrArg List.length hs
    simp at this
    exact absurd (by simp [this]) h
  | cons x l => rfl

theorem size_empty {s : ByteArray} (h : s.size = 0) : s = ⟨#[]⟩ := by
  cases s with
  | mk d =>
    have : d = #[] := by simpa [ByteArray.size] using h
    rw [this]

theorem rest_ok (b : Nat) (s : ByteArray) (w : World) (hS : Src b s w) (hn : s.size ≠ 0) :
    Calls Tryz.prog 75 #[.pointer (some ⟨b, 0, none⟩)] w fun e w' => e = .returned (.string s) ∧ Src b ⟨#[]⟩ w' ∧ Only b w w' := by
  have hct := bytes_ok b s s.size w hS (by omega) (by omega)
  have e1 : s.extract 0 (s.size : Int).toNat = s := by simp
  have e2 : s.extract (s.size : Int).toNat s.size = ⟨#[]⟩ := size_empty (by simp)
  rw [e1, e2] at hct
  clear e1 e2
  have hc : w.cell? ⟨b, 0, none⟩ = some (.string s) := hS.cell 0
  have he := toList_isEmpty hn
  clear hS hn
  go_enter Tryz.func75, Tryz.ntmps75
  go_wp2_with (first | (go_at_call 154; refine (must_ok _ _).mono ?_; rintro e w' ⟨rfl, rfl⟩) | (go_at_call 155; refine hct.mono ?_; clear hct; rintro e w1 ⟨rfl, hS1, hB1⟩))
  go_ret
  exact ⟨rfl, hS1, hB1⟩

set_option maxRecDepth 100000 in
theorem rest_no (b : Nat) (w : World) (hS : Src b ⟨#[]⟩ w) :
    Calls Tryz.prog 75 #[.pointer (some ⟨b, 0, none⟩)] w fun e w' => e = .panicked stopC ∧ w = w' := by
  have hc : w.cell? ⟨b, 0, none⟩ = some (.string ⟨#[]⟩) := hS.cell 0
  clear hS
  go_enter Tryz.func75, Tryz.ntmps75
  go_wp2_with (go_at_call 154; refine (must_no _ _).mono ?_; rintro e w' ⟨rfl, rfl⟩)
  exact ⟨rfl, rfl, rfl⟩

/-- What a taker tells: a value and what is left; or the panic. -/
def Taken (b : Nat) (w : World) (ok : Prop) (v : Value) (r : ByteArray) (e : Ending) (w' : World) : Prop :=
  (ok ∧ e = .returned v ∧ Src b r w' ∧ Only b w w') ∨ (¬ ok ∧ e = .panicked stopC ∧ Only b w w')

theorem number_any (b : Nat) (s : ByteArray) (n : Int) (w : World) (hS : Src b s w) (h0 : 0 ≤ n) (h7 : n ≤ 7) :
    Calls Tryz.prog 74 #[.pointer (some ⟨b, 0, none⟩), .int .i64 n] w (Taken b w (n ≤ s.size) (.int .i64 (numOf (s.extract 0 n.toNat))) (s.extract n.toNat s.size)) := by
  by_cases h : n ≤ s.size
  · exact (number_ok b s n w hS h0 h7 h).mono fun e w' ⟨h1, h2, h3⟩ => .inl ⟨h, h1, h2, h3⟩
  · exact (number_no b s n w hS (by omega)).mono fun e w' ⟨h1, h2⟩ => .inr ⟨h, h1, h2 ▸ Only.refl _ _⟩

theorem bytes_any (b : Nat) (s : ByteArray) (n : Int) (w : World) (hS : Src b s w) (h0 : 0 ≤ n) :
    Calls Tryz.prog 155 #[.pointer (some ⟨b, 0, none⟩), .int .i64 n] w (Taken b w (n ≤ s.size) (.string (s.extract 0 n.toNat)) (s.extract n.toNat s.size)) := by
  by_cases h : n ≤ s.size
  · exact (bytes_ok b s n w hS h0 h).mono fun e w' ⟨h1, h2, h3⟩ => .inl ⟨h, h1, h2, h3⟩
  · exact (bytes_no b s n w hS (by omega)).mono fun e w' ⟨h1, h2⟩ => .inr ⟨h, h1, h2 ▸ Only.refl _ _⟩

theorem rest_any (b : Nat) (s : ByteArray) (w : World) (hS : Src b s w) :
    Calls Tryz.prog 75 #[.pointer (some ⟨b, 0, none⟩)] w (Taken b w (s.size ≠ 0) (.string s) ⟨#[]⟩) := by
  by_cases h : s.size ≠ 0
  · exact (rest_ok b s w hS h).mono fun e w' ⟨h1, h2, h3⟩ => .inl ⟨h, h1, h2, h3⟩
  · obtain rfl : s = ⟨#[]⟩ := size_empty (by omega)
    exact (rest_no b w hS).mono fun e w' ⟨h1, h2⟩ => .inr ⟨h, h1, h2 ▸ Only.refl _ _⟩
end Go.Proofs.YtdmfbcfhfopipaaGreatDoor
