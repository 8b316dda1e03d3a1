import Derived.Test.YtdflhnbpcnmpfaaGreatDoorSo7
import Derived.Maps.OwnSet
import Derived.Test.YtdflhnbpcnmpfaaGreatDoorSo4
/- data.Lower at every kind of data: what it is, its contract. -/
namespace Go.Proofs.YtdflhnbpcnmpfaaGreatDoor
open Go.RowKit

theorem numT_split {n : Nat} {s : ByteArray} {x : Int} {r : ByteArray} (h : numT n s = some (x, r)) : s.data.toList = s.data.toList.take n ++ r.data.toList ∧ n ≤ s.size ∧ r.size + n = s.size := by
  unfold numT at h
  split at h
  · rename_i h1
    cases h
    refine ⟨?_, h1, by rw [ByteArray.size_extract]; omega⟩
    have e : (s.extract n s.size).data.toList = s.data.toList.drop n := by simp; rw [List.take_of_length_le (by simp)]
    rw [e, List.take_append_drop]
  · cases h
theorem nameT_split {s : ByteArray} {x : ByteArray} {r : ByteArray} (h : nameT s = some (x, r)) : s.data.toList = x.data.toList ++ r.data.toList ∧ 0 < x.size ∧ x.size + r.size = s.size ∧ nameRight x = true := by
  unfold nameT at h
  split at h
  · rename_i h1
    split at h
    · rename_i h2
      cases h
      generalize nskip s s.size 0 + 1 = n at h1 h2 ⊢
      have e0 : (s.extract 0 n).data.toList = s.data.toList.take n := by simp
      have e1 : (s.extract n s.size).data.toList = s.data.toList.drop n := by simp; rw [List.take_of_length_le (by simp)]
      refine ⟨by rw [e0, e1, List.take_append_drop], ?_, by rw [ByteArray.size_extract, ByteArray.size_extract]; omega, h2⟩
      simp only [nameRight, Bool.and_eq_true, decide_eq_true_eq] at h2
      omega
    · cases h
  · cases h
theorem restT_split {s : ByteArray} {x : ByteArray} {r : ByteArray} (h : restT s = some (x, r)) : x = s ∧ 0 < s.size := by
  unfold restT at h
  split at h
  · cases h; exact ⟨rfl, by omega⟩
  · cases h
theorem takeR_inv {α : Type} {f : ByteArray → Option (α × ByteArray)} {d : ByteArray} {x : α} (h : takeR f d = some x) : d.size ≤ 2000 ∧ ∃ r, f d = some (x, r) ∧ r.size = 0 := by
  unfold takeR at h
  split at h
  · rename_i h0
    split at h
    · rename_i y r hf
      split at h
      · cases h; exact ⟨h0, r, hf, by assumption⟩
      · cases h
    · cases h
  · cases h
theorem soa_split {d : ByteArray} {x : SoaR} (h : takeR soaT d = some x) : d.data.toList = (x.primary.data.toList ++ x.mail.data.toList) ++ d.data.toList.drop (x.primary.size + x.mail.size) ∧ 0 < x.primary.size ∧ 0 < x.mail.size ∧ nameRight x.primary = true ∧ nameRight x.mail = true := by
  obtain ⟨_, r, hf, _⟩ := takeR_inv h
  unfold soaT at hf
  split at hf
  · cases hf
  rename_i a1 s1 h1
  split at hf
  · cases hf
  rename_i a2 s2 h2
  obtain ⟨e1, p1, z1, r1⟩ := nameT_split h1
  obtain ⟨e2, p2, z2, r2⟩ := nameT_split h2
  have hx : x.primary = a1 ∧ x.mail = a2 := by
    repeat (split at hf; · cases hf)
    cases hf
    exact ⟨rfl, rfl⟩
  rw [hx.1, hx.2]
  refine ⟨?_, p1, p2, r1, r2⟩
  have l1 : a1.data.toList.length = a1.size := by simp
  have l2 : a2.data.toList.length = a2.size := by simp
  have hd : d.data.toList = (a1.data.toList ++ a2.data.toList) ++ s2.data.toList := by rw [e1, e2, List.append_assoc]
  rw [hd, List.drop_left' (by rw [List.length_append, l1, l2])]
theorem mail_split {d : ByteArray} {x : mailR} (h : takeR mailT d = some x) : 3 ≤ d.size ∧ nameRight (d.extract 2 d.size) = true := by
  obtain ⟨_, r, hf, hr⟩ := takeR_inv h
  unfold mailT at hf
  split at hf
  · cases hf
  rename_i a1 s1 h1
  split at hf
  · cases hf
  rename_i a2 s2 h2
  cases hf
  obtain ⟨e1, p1, z1⟩ := numT_split h1
  obtain ⟨e2, p2, z2, r2⟩ := nameT_split h2
  have hs1 : s1 = d.extract 2 d.size := by
    unfold numT at h1
    rw [if_pos p1] at h1
    cases h1; rfl
  have ha : a2 = s1 := by
    have hs2 : r.data.toList = [] := List.eq_nil_of_length_eq_zero (by simpa using hr)
    rw [hs2, List.append_nil] at e2
    exact (bytes_toList_ext e2).symm
  exact ⟨by omega, by rw [← hs1, ← ha]; exact r2⟩
theorem sig_split {d : ByteArray} {x : SigR} (h : takeR sigT d = some x) : x.signer.size + x.sign.size ≤ 2000 ∧ nameRight x.signer = true ∧ 0 < x.sign.size := by
  obtain ⟨hz, r, hf, hr⟩ := takeR_inv h
  unfold sigT at hf
  split at hf
  · cases hf
  rename_i a1 s1 h1
  split at hf
  · cases hf
  rename_i a2 s2 h2
  split at hf
  · cases hf
  rename_i a3 s3 h3
  split at hf
  · cases hf
  rename_i a4 s4 h4
  split at hf
  · cases hf
  rename_i a5 s5 h5
  split at hf
  · cases hf
  rename_i a6 s6 h6
  split at hf
  · cases hf
  rename_i a7 s7 h7
  split at hf
  · cases hf
  rename_i a8 s8 h8
  split at hf
  · cases hf
  rename_i a9 s9 h9
  cases hf
  have := numT_le h1; have := numT_le h2; have := numT_le h3; have := numT_le h4; have := numT_le h5; have := numT_le h6; have := numT_le h7
  obtain ⟨e2, p2, z2, r2⟩ := nameT_split h8
  obtain ⟨e3, p3⟩ := restT_split h9
  subst e3
  exact ⟨by show a8.size + a9.size ≤ 2000; omega, r2, p3⟩

/-- The names in data that are right; what stands ahead of them, and behind. -/
def namesD (k : Int) (d : ByteArray) : List ByteArray :=
  if k = 2 then [d] else if k = 5 then [d] else if k = 39 then [d] else if k = 6 then (match takeR soaT d with | some x => [x.primary, x.mail] | none => []) else if k = 15 then [d.extract 2 d.size] else []
def preD (k : Int) (d : ByteArray) : List UInt8 := if k = 15 then d.data.toList.take 2 else []
def postD (k : Int) (d : ByteArray) : List UInt8 := d.data.toList.drop ((preD k d).length + (flat (namesD k d)).length)
def dataLower (k : Int) (d : ByteArray) : ByteArray :=
  if dataRight k d = false then d else if k = 46 then (match takeR sigT d with | some x => (ofSig { x with signer := nameLower x.signer }).getD ⟨#[]⟩ | none => d) else
  bsOf (lowAtI (preD k d) (postD k d) (namesD k d) (namesD k d).length)

theorem dataRight_form {k : Int} {d : ByteArray} (h : dataRight k d = true) : 0 ≤ k ∧ k < 65536 ∧ d.size ≤ 2000 ∧ formRight k d = true := by
  simp only [dataRight, Bool.and_eq_true, decide_eq_true_eq] at h
  exact ⟨h.1.1.1, h.1.1.2, h.1.2, h.2⟩
theorem lower_wrong (k : Int) (d : ByteArray) (w : World) (h : dataRight k d = false) : Calls Tryz.prog 65 #[.int .i64 k, .string d] w fun e w' => e = .returned (.string d) ∧ Below w.heap.size w w' := by
  have hrc := fun w => right_any k d w
  rw [h] at hrc
  have HR := Lib.hid hrc
  clear hrc h
  go_enter Tryz.func65, Tryz.ntmps65
  go_wp2_with (go_at_call 64; refine (HR.out _).mono ?_; rintro e w1 ⟨rfl, hb1⟩)
  go_ret
  exact ⟨rfl, hb1⟩
set_option maxRecDepth 100000 in
set_option maxHeartbeats 1000000 in
theorem lower_sig (d : ByteArray) (x : SigR) (w : World) (h : dataRight 46 d = true) (hx : takeR sigT d = some x) :
    Calls Tryz.prog 65 #[.int .i64 46, .string d] w fun e w' => e = .returned (.string ((ofSig { x with signer := nameLower x.signer }).getD ⟨#[]⟩)) ∧ Below w.heap.size w w' := by
  have hrc := fun w => right_any 46 d w
  rw [h] at hrc
  have HR := Lib.hid hrc
  have HX := Lib.hid hx
  have hsz := (sig_split hx).1
  have hof := fun w => data_ofSig { x with signer := nameLower x.signer } w (by show (nameLower x.signer).size + x.sign.size ≤ _; rw [size_nameLower]; omega)
  have HO := Lib.hid hof
  clear hrc h hx hsz hof
  generalize ofSig { x with signer := nameLower x.signer } = q at HO ⊢
  go_enter Tryz.func65, Tryz.ntmps65
  go_wp2_with (first | (go_at_call 64; refine (HR.out _).mono ?_; rintro e w1 ⟨rfl, hb1⟩) | (go_at_call 66; refine (Hid.out (p := _) ?_)))
  refine Lib.hid ?_
  refine (data_sig d _).mono ?_
  rintro e w2 ⟨hb2, h⟩
  rw [HX.out] at h
  obtain ⟨v, hv, rfl⟩ := h
  obtain rfl : v = x.v := hv
  have HB2 := Lib.hid (hb1.trans (hb2.mono hb1.size))
  clear hb1 hb2
  obtain ⟨xc, xa, xl, xt, xf, xb, xg, xn, xs⟩ := x
  simp only [SigR.v] at *
  go_wp2_with (go_at_call 20; refine (Hid.out (p := _) ?_))
  refine Lib.hid ?_
  refine (name_lower xn _).mono ?_
  rintro e w3 ⟨rfl, hb3⟩
  have hk := (Blk.new w2 #[.int .i64 xc, .int .i64 xa, .int .i64 xl, .int .i64 xt, .int .i64 xf, .int .i64 xb, .int .i64 xg, .string xn, .string xs] 110).below hb3 (by simp)
  have d0 := hk.cell 0; have d1 := hk.cell 1; have d2 := hk.cell 2; have d3 := hk.cell 3; have d4 := hk.cell 4; have d5 := hk.cell 5; have d6 := hk.cell 6; have d7 := hk.cell 7; have d8 := hk.cell 8
  have f0 := fun j => hk.free j
  have hb4 := HB2.out.alloc HB2.out.size (.cells #[.int .i64 xc, .int .i64 xa, .int .i64 xl, .int .i64 xt, .int .i64 xf, .int .i64 xb, .int .i64 xg, .string xn, .string xs] 110)
  have HB4 := Lib.hid (hb4.trans (hb3.mono hb4.size))
  have HBS := Lib.hid HB2.out.size
  clear hk hb3 hb4 HB2
  generalize nameLower xn = yn at *
  simp only []
  go_wp2_with (go_at_call 82; refine (Hid.out (p := _) ?_))
  refine Lib.hid ?_
  refine (HO.out _).mono ?_
  rintro e w5 ⟨rfl, hb5⟩
  have HB5 := Lib.hid ((Below.setCell (p := ⟨w2.heap.size, 7, none⟩) HB4.out HBS.out (.string yn)).trans (hb5.mono (by simpa using HB4.out.size)))
  clear hb5 HB4 d0 d1 d2 d3 d4 d5 d6 d7 d8 f0 HO
  cases q with
  | none =>
    simp only [Option.getD, Option.isSome, Bool.false_eq_true, if_false]
    go_wp2
    go_ret
    exact ⟨rfl, HB5.out⟩
  | some q =>
    simp only [Option.getD, Option.isSome, if_true]
    go_wp2
    go_ret
    exact ⟨rfl, HB5.out⟩

theorem lower_data (k : Int) (d : ByteArray) (w : World) : Calls Tryz.prog 65 #[.int .i64 k, .string d] w fun e w' => e = .returned (.string (dataLower k d)) ∧ Below w.heap.size w w' := by
  cases hr : dataRight k d with
  | false => rw [dataLower, if_pos hr]; exact lower_wrong k d w hr
  | true =>
    obtain ⟨h0, h1, hz, hf⟩ := dataRight_form hr
    have hl : d.data.toList.length = d.size := by simp
    by_cases h46 : k = 46
    · subst h46
      have hs : (takeR sigT d).isSome = true := hf
      obtain ⟨x, hx⟩ := Option.isSome_iff_exists.1 hs
      have e : dataLower 46 d = (ofSig { x with signer := nameLower x.signer }).getD ⟨#[]⟩ := by rw [dataLower, if_neg (by rw [hr]; simp), if_pos rfl, hx]
      rw [e]
      exact lower_sig d x w hr hx
    rw [dataLower, if_neg (by rw [hr]; simp), if_neg h46]
    have hk : (k == 46) = false := by rw [beq_eq_false_iff_ne]; exact h46
    have key : ∀ (l : List ByteArray) (a0 : Nat), namesD k d = l → (preD k d).length = a0 → (k == 15) = decide (a0 = 2) → (a0 = 0 ∨ a0 = 2) → (∀ x ∈ l, 0 < x.size) → l.length ≤ 2 → d.data.toList = preD k d ++ flat l ++ d.data.toList.drop (a0 + (flat l).length) →
        (∀ W, Calls Tryz.prog 83 #[.int .i64 k, .string d] W (NamesP l W)) → Calls Tryz.prog 65 #[.int .i64 k, .string d] w fun e w' => e = .returned (.string (bsOf (lowAtI (preD k d) (postD k d) (namesD k d) (namesD k d).length))) ∧ Below w.heap.size w w' := by
      intro l a0 hn ha hk2 ha2 hne hll hd hc
      have hp : postD k d = d.data.toList.drop (a0 + (flat l).length) := by rw [postD, ha, hn]
      rw [hp, hn]
      exact lower_any k d w l (preD k d) _ a0 hr hz hk (by simp only [lowAtI, List.take_zero, List.map_nil, List.drop_zero, flat, List.flatMap_nil, List.append_nil]; exact hd) ha hk2 ha2 hne hll hc
    have one : ∀ kk : Int, kk ≠ 15 → k = kk → namesD k d = [d] → nameRight d = true → (∀ W, Calls Tryz.prog 83 #[.int .i64 k, .string d] W (NamesP [d] W)) → Calls Tryz.prog 65 #[.int .i64 k, .string d] w fun e w' => e = .returned (.string (bsOf (lowAtI (preD k d) (postD k d) (namesD k d) (namesD k d).length))) ∧ Below w.heap.size w w' := by
      intro kk hkk hkx hn hnr hc
      have hp : preD k d = [] := by rw [preD, if_neg (by omega)]
      have hpos : 0 < d.size := by simp only [nameRight, Bool.and_eq_true, decide_eq_true_eq] at hnr; omega
      refine key [d] 0 hn (by rw [hp]; rfl) (by rw [beq_eq_false_iff_ne.2 (by omega)]; rfl) (.inl rfl) (by intro x hx; simp at hx; subst hx; exact hpos) (by simp) ?_ hc
      rw [hp, flat_cons]
      simp [flat]
    by_cases h2 : k = 2
    · subst h2; exact one 2 (by omega) rfl rfl hf (fun W => names_ns d W hr)
    by_cases h5 : k = 5
    · subst h5; exact one 5 (by omega) rfl rfl hf (fun W => names_cname d W hr)
    by_cases h39 : k = 39
    · subst h39; exact one 39 (by omega) rfl rfl hf (fun W => names_dname d W hr)
    by_cases h6 : k = 6
    · subst h6
      have hs : (takeR soaT d).isSome = true := hf
      obtain ⟨x, hx⟩ := Option.isSome_iff_exists.1 hs
      obtain ⟨e, p1, p2, _, _⟩ := soa_split hx
      have l1 : x.primary.data.toList.length = x.primary.size := by simp
      have l2 : x.mail.data.toList.length = x.mail.size := by simp
      have hfl : flat [x.primary, x.mail] = x.primary.data.toList ++ x.mail.data.toList := by simp [flat]
      refine key [x.primary, x.mail] 0 (by show (match takeR soaT d with | some x => [x.primary, x.mail] | none => []) = _; rw [hx]) rfl rfl (.inl rfl) (by intro y hy; simp at hy; rcases hy with rfl | rfl <;> assumption) (by simp) ?_ (fun W => names_soa d W x hr hx)
      rw [hfl]
      show d.data.toList = [] ++ _ ++ _
      rw [List.nil_append, List.length_append, l1, l2, Nat.zero_add]
      exact e
    by_cases h15 : k = 15
    · subst h15
      have hs : (takeR mailT d).isSome = true := hf
      obtain ⟨x, hx⟩ := Option.isSome_iff_exists.1 hs
      have h3 := (mail_split hx).1
      have e1 : (d.extract 2 d.size).data.toList = d.data.toList.drop 2 := by simp; rw [List.take_of_length_le (by simp)]
      refine key [d.extract 2 d.size] 2 rfl (by show (d.data.toList.take 2).length = 2; rw [List.length_take]; omega) rfl (.inr rfl) (by intro y hy; simp at hy; subst hy; rw [ByteArray.size_extract]; omega) (by simp) ?_ (fun W => names_mail d W hr (by omega))
      rw [flat_cons, e1]
      show d.data.toList = d.data.toList.take 2 ++ (d.data.toList.drop 2 ++ flat []) ++ _
      rw [show flat [] = [] from rfl, List.append_nil, List.take_append_drop, List.drop_of_length_le (by rw [List.length_drop]; omega), List.append_nil]
    have hn : namesD k d = [] := by rw [namesD, if_neg h2, if_neg h5, if_neg h39, if_neg h6, if_neg h15]
    have hp : preD k d = [] := by rw [preD, if_neg h15]
    have nil : (∀ W, Calls Tryz.prog 83 #[.int .i64 k, .string d] W (NamesP [] W)) → Calls Tryz.prog 65 #[.int .i64 k, .string d] w fun e w' => e = .returned (.string (bsOf (lowAtI (preD k d) (postD k d) (namesD k d) (namesD k d).length))) ∧ Below w.heap.size w w' := fun hc =>
      key [] 0 hn (by rw [hp]; rfl) (by rw [beq_eq_false_iff_ne.2 h15]; rfl) (.inl rfl) (by simp) (by simp) (by rw [hp]; simp [flat]) hc
    by_cases c1 : k = 1
    · subst c1; exact nil (fun W => names_four d W)
    by_cases c28 : k = 28
    · subst c28; exact nil (fun W => names_sixteen d W)
    by_cases c16 : k = 16
    · subst c16; exact nil (fun W => names_texts d W)
    by_cases c43 : k = 43
    · subst c43; exact nil (fun W => names_ds d W)
    by_cases c47 : k = 47
    · subst c47; exact nil (fun W => names_nsec d W)
    by_cases c48 : k = 48
    · subst c48; exact nil (fun W => names_key d W)
    by_cases c50 : k = 50
    · subst c50; exact nil (fun W => names_nsec3 d W)
    exact nil (fun W => names_other k d W ⟨c1, c28, h2, h5, h39, h6, h15, c16, c43, h46, c47, c48, c50⟩)

theorem dataLower_small {k : Int} {d : ByteArray} (h : dataRight k d = true) : (dataLower k d).size ≤ 6100 := by
  obtain ⟨_, _, hz, hf⟩ := dataRight_form h
  rw [dataLower, if_neg (by rw [h]; simp)]
  split
  · rename_i h46
    subst h46
    split
    · rename_i x hx
      generalize hq : ofSig { x with signer := nameLower x.signer } = q
      cases q with
      | none => show (⟨#[]⟩ : ByteArray).size ≤ _; exact Nat.zero_le _
      | some q =>
        unfold ofSig doneR at hq
        split at hq
        · rename_i h1
          cases hq
          show (bsOf _).size ≤ _
          have : (bsOf (sigL { x with signer := nameLower x.signer })).size = (sigL { x with signer := nameLower x.signer }).length := by simp [bsOf, ByteArray.size]
          rw [this]; omega
        · cases hq
    · omega
  · have hl := lowAtI_len (preD k d) (postD k d) (namesD k d) (namesD k d).length
    have hs : (bsOf (lowAtI (preD k d) (postD k d) (namesD k d) (namesD k d).length)).size = (lowAtI (preD k d) (postD k d) (namesD k d) (namesD k d).length).length := by simp [bsOf, ByteArray.size]
    have hdl : d.data.toList.length = d.size := by simp
    have hp : (preD k d).length ≤ 2 := by
      unfold preD
      split
      · rw [List.length_take]; omega
      · simp
    have hpo : (postD k d).length ≤ d.size := by unfold postD; rw [List.length_drop]; omega
    have hfl : (flat (namesD k d)).length ≤ 4000 := by
      have one : (flat [d]).length = d.size := by simp [flat]
      unfold namesD
      split
      · omega
      split
      · omega
      split
      · omega
      split
      · split
        · rename_i x hx
          have e := (soa_split hx).1
          have := congrArg List.length e
          simp only [List.length_append] at this
          have h2 : (flat [x.primary, x.mail]).length = x.primary.data.toList.length + x.mail.data.toList.length := by simp [flat]
          omega
        · simp [flat]
      split
      · have : (flat [d.extract 2 d.size]).length = (d.extract 2 d.size).size := by simp [flat]
        rw [this, ByteArray.size_extract]; omega
      · simp [flat]
    rw [hs, hl]; omega
end Go.Proofs.YtdflhnbpcnmpfaaGreatDoor

/- rrset.Right: whether a set is right. -/
namespace Go.Proofs.YtdflhnbpcnmpfaaGreatDoor
open Go.RowKit Go.Maps

/-- A set of records. -/
structure SetD where
  name : ByteArray
  kind : Int
  cls : Int
  ttl : Int
  data : List ByteArray
  sigs : List ByteArray
def SetD.cells (s : SetD) (dv sv : Value) : Array Value := #[.string s.name, .int .i64 s.kind, .int .i64 s.cls, .int .i64 s.ttl, dv, sv]
def SetD.v (s : SetD) (dv sv : Value) : Value := .agg (s.cells dv sv)
/-- v is a slice that reads as these texts. -/
def StrsAt (v : Value) (l : List ByteArray) (w : World) : Prop :=
  ∃ A c, v = .slice A l.length c ∧ (0 < l.length → ∃ g o, A = some ⟨g, o, none⟩ ∧ g < w.heap.size ∧ ∀ j (h : j < l.length), w.cell? ⟨g, o + j, none⟩ = some (.string l[j]))
theorem StrsAt.below {v : Value} {l : List ByteArray} {w w' : World} (h : StrsAt v l w) (hb : Below w.heap.size w w') : StrsAt v l w' := by
  obtain ⟨A, c, rfl, h⟩ := h
  refine ⟨A, c, rfl, fun h0 => ?_⟩
  obtain ⟨g, o, e, hg, hc⟩ := h h0
  exact ⟨g, o, e, Nat.lt_of_lt_of_le hg hb.size, fun j hj => by rw [hb.cell (p := ⟨g, o + j, none⟩) hg]; exact hc j hj⟩
theorem OwnS.strs {base : Nat} {v : Value} {l : List ByteArray} {w : World} (h : OwnS base v l w) : StrsAt v l w := by
  obtain ⟨A, c, rfl⟩ := OwnS.len h
  refine ⟨A, c, rfl, fun h0 => ?_⟩
  obtain ⟨g, c', e, _, hg, hc⟩ := OwnS.get h h0
  injection e with e1
  exact ⟨g, 0, e1, hg, fun j hj => by rw [Nat.zero_add]; exact hc j hj⟩

def btw (n a b : Int) : Bool := decide (a ≤ n) && decide (n ≤ b)
theorem between_any (n a b : Int) (w : World) : Calls Tryz.prog 63 #[.int .i64 n, .int .i64 a, .int .i64 b] w fun e w' => e = .returned (.bool (btw n a b)) ∧ w = w' := by
  unfold btw
  by_cases h : a ≤ n
  · have h1 : decide (a ≤ n) = true := by simpa using h
    go_enter Tryz.func63, Tryz.ntmps63
    go_wp2
    go_ret
    exact ⟨by simp [h], rfl⟩
  · have h1 : decide (a ≤ n) = false := by simpa using h
    go_enter Tryz.func63, Tryz.ntmps63
    go_wp2
    go_ret
    exact ⟨by simp, rfl⟩

/-- The different ones among some texts, in the order in which they come. -/
def uniq (l : List ByteArray) : List ByteArray := l.foldl (fun acc x => if acc.any (fun y => decide (y = x)) then acc else acc ++ [x]) []
theorem uniq_snoc (l : List ByteArray) (x : ByteArray) : uniq (l ++ [x]) = if (uniq l).any (fun y => decide (y = x)) then uniq l else uniq l ++ [x] := by unfold uniq; rw [List.foldl_append]; rfl
def sigCov (k : Int) (g : ByteArray) : Bool := match takeR sigT g with | some x => decide (x.covered = k) | none => false
def rightS (s : SetD) : Bool :=
  nameRight s.name && btw s.kind 0 65535 && btw s.cls 0 65535 && btw s.ttl 0 2147483647 && !decide (s.kind = 46) && !decide (s.kind = 41) && btw (s.data.length : Int) 1 200 && decide (s.sigs.length ≤ 200) &&
    s.data.all (dataRight s.kind) && s.sigs.all (sigCov s.kind) && decide ((uniq (s.data.map (dataLower s.kind))).length = s.data.length)

def BoolB (b : Bool) (w : World) (e : Ending) (w' : World) : Prop := e = .returned (.bool b) ∧ Below w.heap.size w w'

set_option maxRecDepth 100000 in
set_option maxHeartbeats 1000000 in
theorem setRight_no (s : SetD) (A B : Option Addr) (c1 c2 : Nat) (w : World) (h : ¬ (nameRight s.name = true ∧ btw s.kind 0 65535 = true ∧ btw s.cls 0 65535 = true ∧ btw s.ttl 0 2147483647 = true ∧ s.kind ≠ 46 ∧ s.kind ≠ 41 ∧ btw (s.data.length : Int) 1 200 = true ∧ s.sigs.length ≤ 200)) :
    Calls Tryz.prog 41 #[s.v (.slice A s.data.length c1) (.slice B s.sigs.length c2)] w (BoolB (rightS s) w) := by
  have hf : rightS s = false := by
    rw [Bool.eq_false_iff]
    intro h2
    simp only [rightS, Bool.and_eq_true, Bool.not_eq_true', decide_eq_true_eq, decide_eq_false_iff_not] at h2
    exact h ⟨h2.1.1.1.1.1.1.1.1.1.1, h2.1.1.1.1.1.1.1.1.1.2, h2.1.1.1.1.1.1.1.1.2, h2.1.1.1.1.1.1.1.2, h2.1.1.1.1.1.1.2, h2.1.1.1.1.1.2, h2.1.1.1.1.2, h2.1.1.1.2⟩
  have HF := Lib.hid hf
  clear hf
  have hrc := fun w => name_right s.name w
  obtain ⟨xn, xk, xc, xt, xd, xs⟩ := s
  simp only [SetD.v, SetD.cells] at *
  generalize nameRight xn = q0 at *
  have HR := Lib.hid hrc
  clear hrc
  cases q0 with
  | false =>
    clear h
    go_enter Tryz.func41, Tryz.ntmps41
    go_wp2_with (first | (go_at_call 19; refine (HR.out _).mono ?_; rintro e w1 ⟨rfl, hb1⟩; have hk := (Blk.new w #[.string xn, .int .i64 xk, .int .i64 xc, .int .i64 xt, (.slice A xd.length c1), (.slice B xs.length c2)] 40).below hb1 (by simp); have d1 := hk.cell 1; have d2 := hk.cell 2; have d3 := hk.cell 3; have d4 := hk.cell 4; have d5 := hk.cell 5; have lt1 := hk.lt; have HK := Lib.hid hk; clear hk) | (go_at_call 63; refine (between_any _ _ _ _).mono ?_; rintro e w' ⟨rfl, rfl⟩))
    go_ret
    refine ⟨?_, ((Below.refl _ w).alloc (Nat.le_refl _) _).trans (hb1.mono (by simp))⟩
    rw [HF.out]
    rfl
  | true =>
  cases h1 : btw xk 0 65535 with
  | false =>
    clear h
    go_enter Tryz.func41, Tryz.ntmps41
    go_wp2_with (first | (go_at_call 19; refine (HR.out _).mono ?_; rintro e w1 ⟨rfl, hb1⟩; have hk := (Blk.new w #[.string xn, .int .i64 xk, .int .i64 xc, .int .i64 xt, (.slice A xd.length c1), (.slice B xs.length c2)] 40).below hb1 (by simp); have d1 := hk.cell 1; have d2 := hk.cell 2; have d3 := hk.cell 3; have d4 := hk.cell 4; have d5 := hk.cell 5; have lt1 := hk.lt; have HK := Lib.hid hk; clear hk) | (go_at_call 63; refine (between_any _ _ _ _).mono ?_; rintro e w' ⟨rfl, rfl⟩))
    go_ret
    refine ⟨?_, ((Below.refl _ w).alloc (Nat.le_refl _) _).trans (hb1.mono (by simp))⟩
    rw [HF.out]
    rfl
  | true =>
  cases h2 : btw xc 0 65535 with
  | false =>
    clear h
    go_enter Tryz.func41, Tryz.ntmps41
    go_wp2_with (first | (go_at_call 19; refine (HR.out _).mono ?_; rintro e w1 ⟨rfl, hb1⟩; have hk := (Blk.new w #[.string xn, .int .i64 xk, .int .i64 xc, .int .i64 xt, (.slice A xd.length c1), (.slice B xs.length c2)] 40).below hb1 (by simp); have d1 := hk.cell 1; have d2 := hk.cell 2; have d3 := hk.cell 3; have d4 := hk.cell 4; have d5 := hk.cell 5; have lt1 := hk.lt; have HK := Lib.hid hk; clear hk) | (go_at_call 63; refine (between_any _ _ _ _).mono ?_; rintro e w' ⟨rfl, rfl⟩))
    go_ret
    refine ⟨?_, ((Below.refl _ w).alloc (Nat.le_refl _) _).trans (hb1.mono (by simp))⟩
    rw [HF.out]
    rfl
  | true =>
  cases h3 : btw xt 0 2147483647 with
  | false =>
    clear h
    go_enter Tryz.func41, Tryz.ntmps41
    go_wp2_with (first | (go_at_call 19; refine (HR.out _).mono ?_; rintro e w1 ⟨rfl, hb1⟩; have hk := (Blk.new w #[.string xn, .int .i64 xk, .int .i64 xc, .int .i64 xt, (.slice A xd.length c1), (.slice B xs.length c2)] 40).below hb1 (by simp); have d1 := hk.cell 1; have d2 := hk.cell 2; have d3 := hk.cell 3; have d4 := hk.cell 4; have d5 := hk.cell 5; have lt1 := hk.lt; have HK := Lib.hid hk; clear hk) | (go_at_call 63; refine (between_any _ _ _ _).mono ?_; rintro e w' ⟨rfl, rfl⟩))
    go_ret
    refine ⟨?_, ((Below.refl _ w).alloc (Nat.le_refl _) _).trans (hb1.mono (by simp))⟩
    rw [HF.out]
    rfl
  | true =>
  by_cases h4 : xk = 46
  · have t4 : (xk == 46) = true := by rw [beq_iff_eq]; exact h4
    clear h h4
    go_enter Tryz.func41, Tryz.ntmps41
    go_wp2_with (first | (go_at_call 19; refine (HR.out _).mono ?_; rintro e w1 ⟨rfl, hb1⟩; have hk := (Blk.new w #[.string xn, .int .i64 xk, .int .i64 xc, .int .i64 xt, (.slice A xd.length c1), (.slice B xs.length c2)] 40).below hb1 (by simp); have d1 := hk.cell 1; have d2 := hk.cell 2; have d3 := hk.cell 3; have d4 := hk.cell 4; have d5 := hk.cell 5; have lt1 := hk.lt; have HK := Lib.hid hk; clear hk) | (go_at_call 63; refine (between_any _ _ _ _).mono ?_; rintro e w' ⟨rfl, rfl⟩))
    go_ret
    refine ⟨?_, ((Below.refl _ w).alloc (Nat.le_refl _) _).trans (hb1.mono (by simp))⟩
    rw [HF.out]
    rfl
  have t4 : (xk == 46) = false := by rw [beq_eq_false_iff_ne]; exact h4
  by_cases h5 : xk = 41
  · have t5 : (xk == 41) = true := by rw [beq_iff_eq]; exact h5
    clear h h4 h5
    go_enter Tryz.func41, Tryz.ntmps41
    go_wp2_with (first | (go_at_call 19; refine (HR.out _).mono ?_; rintro e w1 ⟨rfl, hb1⟩; have hk := (Blk.new w #[.string xn, .int .i64 xk, .int .i64 xc, .int .i64 xt, (.slice A xd.length c1), (.slice B xs.length c2)] 40).below hb1 (by simp); have d1 := hk.cell 1; have d2 := hk.cell 2; have d3 := hk.cell 3; have d4 := hk.cell 4; have d5 := hk.cell 5; have lt1 := hk.lt; have HK := Lib.hid hk; clear hk) | (go_at_call 63; refine (between_any _ _ _ _).mono ?_; rintro e w' ⟨rfl, rfl⟩))
    go_ret
    refine ⟨?_, ((Below.refl _ w).alloc (Nat.le_refl _) _).trans (hb1.mono (by simp))⟩
    rw [HF.out]
    rfl
  have t5 : (xk == 41) = false := by rw [beq_eq_false_iff_ne]; exact h5
  cases h6 : btw (xd.length : Int) 1 200 with
  | false =>
    clear h h4 h5
    go_enter Tryz.func41, Tryz.ntmps41
    go_wp2_with (first | (go_at_call 19; refine (HR.out _).mono ?_; rintro e w1 ⟨rfl, hb1⟩; have hk := (Blk.new w #[.string xn, .int .i64 xk, .int .i64 xc, .int .i64 xt, (.slice A xd.length c1), (.slice B xs.length c2)] 40).below hb1 (by simp); have d1 := hk.cell 1; have d2 := hk.cell 2; have d3 := hk.cell 3; have d4 := hk.cell 4; have d5 := hk.cell 5; have lt1 := hk.lt; have HK := Lib.hid hk; clear hk) | (go_at_call 63; refine (between_any _ _ _ _).mono ?_; rintro e w' ⟨rfl, rfl⟩))
    go_ret
    refine ⟨?_, ((Below.refl _ w).alloc (Nat.le_refl _) _).trans (hb1.mono (by simp))⟩
    rw [HF.out]
    rfl
  | true =>
    have h7 : decide ((200 : Int) < (xs.length : Int)) = true := decide_eq_true (by have : ¬ xs.length ≤ 200 := fun hh => h ⟨rfl, h1, h2, h3, h4, h5, h6, hh⟩; omega)
    clear h h4 h5
    go_enter Tryz.func41, Tryz.ntmps41
    go_wp2_with (first | (go_at_call 19; refine (HR.out _).mono ?_; rintro e w1 ⟨rfl, hb1⟩; have hk := (Blk.new w #[.string xn, .int .i64 xk, .int .i64 xc, .int .i64 xt, (.slice A xd.length c1), (.slice B xs.length c2)] 40).below hb1 (by simp); have d1 := hk.cell 1; have d2 := hk.cell 2; have d3 := hk.cell 3; have d4 := hk.cell 4; have d5 := hk.cell 5; have lt1 := hk.lt; have HK := Lib.hid hk; clear hk) | (go_at_call 63; refine (between_any _ _ _ _).mono ?_; rintro e w' ⟨rfl, rfl⟩))
    go_ret
    refine ⟨?_, ((Below.refl _ w).alloc (Nat.le_refl _) _).trans (hb1.mono (by simp))⟩
    rw [HF.out]
    rfl

theorem keyed_str : Keyed Tryz.prog 9 := string_keyed Tryz.underlying9
theorem zero_int (w : World) : (zeroValue 3).run Tryz.prog w = .ok (.int .i64 0) w := by kernel_rfl
def kl (x : ByteArray) : Lit := .string x.data.toList
theorem kl_ne {x y : ByteArray} (h : x ≠ y) : kl x ≠ kl y := fun e => h (by injection e with e; cases x; cases y; simp only at e; rw [Array.toList_inj.1 e])
theorem key_of (x : ByteArray) (h : x.size ≤ 6100) : Go.keyOf Tryz.prog 9 (.string x) = some (kl x) := Go.WideMaps.keyOf_string_mk Tryz.underlying9 (by simp only [maxLen]; omega)
/-- The map counts these texts. -/
structure Cnt (D : DataW Unit) (l : List ByteArray) : Prop where
  size : Maps.size D = (uniq l).length
  has : ∀ x, Maps.has D (kl x) = (uniq l).any (fun y => decide (y = x))
theorem Cnt.nil : Cnt (.map []) [] := ⟨rfl, fun _ => rfl⟩
theorem Cnt.put {D : DataW Unit} {l : List ByteArray} (h : Cnt D l) (ht : Tidy D) (x : ByteArray) (d : DataW Unit) : Cnt (D.put (kl x) d) (l ++ [x]) := by
  have hk : WideAt.IsKeyLit (kl x) := trivial
  refine ⟨?_, fun y => ?_⟩
  · rw [size_put ht, h.has x, uniq_snoc, h.size]
    split
    · rfl
    · simp
  · rw [uniq_snoc]
    by_cases e : y = x
    · subst e
      rw [has_put_same ht.isMap hk]
      split
      · rename_i h1; exact h1.symm
      · simp
    · rw [has_put_other (kl_ne e), h.has y]
      split
      · rfl
      · rw [List.any_append]
        have : decide (x = y) = false := decide_eq_false (fun h => e h.symm)
        simp [this]
theorem grown_of_below {w w' : World} (hb : Below w.heap.size w w') : w.grownBy w' none := ⟨hb.os, hb.tape, hb.output, hb.size, fun k hk _ => hb.block k hk⟩

/-- The world inside of the loops. -/
structure RSt (w : World) (cs : Array Value) (B n : Nat) (l : List ByteArray) (W : World) : Prop where
  own : ∃ D : DataW Unit, W.ownsMap Tryz.prog 9 (plainElem Tryz.prog 3) B n D ∧ Cnt D l
  box : Blk W w.heap.size cs 40
  below : Below w.heap.size w W
  base : w.heap.size < B
theorem RSt.below' {w : World} {cs : Array Value} {B n : Nat} {l : List ByteArray} {W W' : World} (h : RSt w cs B n l W) (hb : Below W.heap.size W W') : RSt w cs B n l W' := by
  obtain ⟨D, h1, h2⟩ := h.own
  exact ⟨⟨D, h1.kept (grown_of_below hb) (by simp), h2⟩, h.box.below hb h.box.lt, h.below.trans (hb.mono h.below.size), h.base⟩
theorem RSt.put {w : World} {cs : Array Value} {B n : Nat} {l : List ByteArray} {W W' : World} (h : RSt w cs B n l W) (x : ByteArray) {D : DataW Unit} {d : DataW Unit} (hD : W.ownsMap Tryz.prog 9 (plainElem Tryz.prog 3) B n D) (hc : Cnt D l)
    (h1 : W'.ownsMap Tryz.prog 9 (plainElem Tryz.prog 3) B (n + 1) (D.put (kl x) d)) (hg : W.grownBy W' (some B)) : RSt w cs B (n + 1) (l ++ [x]) W' := by
  refine ⟨⟨_, h1, hc.put (hD.tidy keyed_str) x d⟩, ?_, ?_, h.base⟩
  · unfold Blk
    rw [hg.block _ h.box.lt (by intro e; injection e with e; have := h.base; omega)]
    exact h.box
  · exact h.below.grown hg h.below.size (fun k hk => by injection hk with hk; have := h.base; omega)

set_option maxRecDepth 100000 in
set_option maxHeartbeats 4000000 in
theorem setRight_main (s : SetD) (A B : Option Addr) (c1 c2 : Nat) (w : World) (hn : nameRight s.name = true) (b1 : btw s.kind 0 65535 = true) (b2 : btw s.cls 0 65535 = true) (b3 : btw s.ttl 0 2147483647 = true) (k46 : s.kind ≠ 46) (k41 : s.kind ≠ 41) (b4 : btw (s.data.length : Int) 1 200 = true) (hsl : s.sigs.length ≤ 200)
    (hd : StrsAt (.slice A s.data.length c1) s.data w) (hs : StrsAt (.slice B s.sigs.length c2) s.sigs w) :
    Calls Tryz.prog 41 #[s.v (.slice A s.data.length c1) (.slice B s.sigs.length c2)] w (BoolB (rightS s) w) := by
  have hfin : rightS s = (s.data.all (dataRight s.kind) && s.sigs.all (sigCov s.kind) && decide ((uniq (s.data.map (dataLower s.kind))).length = s.data.length)) := by
    rw [rightS, hn, b1, b2, b3, decide_eq_false k46, decide_eq_false k41, b4, decide_eq_true hsl]; rfl
  have HF := Lib.hid hfin
  have t4 : (s.kind == 46) = false := by rw [beq_eq_false_iff_ne]; exact k46
  have t5 : (s.kind == 41) = false := by rw [beq_eq_false_iff_ne]; exact k41
  have t6 : decide ((200 : Int) < (s.sigs.length : Int)) = false := decide_eq_false (by omega)
  have hdl : s.data.length ≤ 200 := by simp [btw] at b4; omega
  have hrc := fun w => name_right s.name w
  rw [hn] at hrc
  have HR := Lib.hid hrc; have HD := Lib.hid hd; have HS := Lib.hid hs
  clear hfin hrc hd hs k46 k41 hn
  obtain ⟨xn, xk, xc, xt, xd, xs⟩ := s
  simp only [SetD.v, SetD.cells] at *
  have hmm := @run_makeMap Tryz.prog
  go_enter Tryz.func41, Tryz.ntmps41
  go_wp2_with (first | (go_at_call 19; refine (HR.out _).mono ?_; rintro e w1 ⟨rfl, hb1⟩; have hk := (Blk.new w #[.string xn, .int .i64 xk, .int .i64 xc, .int .i64 xt, (.slice A xd.length c1), (.slice B xs.length c2)] 40).below hb1 (by simp); have d1 := hk.cell 1; have d2 := hk.cell 2; have d3 := hk.cell 3; have d4 := hk.cell 4; have d5 := hk.cell 5; have lt1 := hk.lt; have HK := Lib.hid hk; clear hk) | (go_at_call 63; refine (between_any _ _ _ _).mono ?_; rintro e w' ⟨rfl, rfl⟩))
  have hB0 : Below w.heap.size w w1 := ((Below.refl _ w).alloc (Nat.le_refl _) _).trans (hb1.mono (by simp))
  have H0 : Hid (RSt w #[.string xn, .int .i64 xk, .int .i64 xc, .int .i64 xt, (.slice A xd.length c1), (.slice B xs.length c2)] w1.heap.size 0 [] (w1.alloc (.map #[] 0))) :=
    Lib.hid ⟨⟨_, World.ownsMap_made _ _ _ _, Cnt.nil⟩, HK.out.alloc _, hB0.alloc hB0.size _, HK.out.lt⟩
  clear HK hB0 hb1 HR
  go_loopw [58] (fun i wr => ∃ q : Nat, q ≤ xd.length ∧ i = .int .i64 q ∧ Hid (∀ j (h : j < q) (h2 : j < xd.length), dataRight xk xd[j] = true) ∧ Hid (RSt w #[.string xn, .int .i64 xk, .int .i64 xc, .int .i64 xt, (.slice A xd.length c1), (.slice B xs.length c2)] w1.heap.size q ((xd.take q).map (dataLower xk)) wr)) (fun i _ => xd.length - (intOf i).toNat)
  case atStart => exact ⟨0, Nat.zero_le _, rfl, Lib.hid (fun j h => absurd h (by omega)), H0⟩
  case round =>
    obtain ⟨q, hq, rfl, HRT, HW⟩ := hrel
    have d1 := HW.out.box.cell 1
    by_cases hlt : q < xd.length
    · obtain ⟨g, o, rfl, hg, hc⟩ : ∃ g o, A = some ⟨g, o, none⟩ ∧ g < w.heap.size ∧ ∀ j (h : j < xd.length), w.cell? ⟨g, o + j, none⟩ = some (.string xd[j]) := by
        obtain ⟨A', c', e, h⟩ := HD.out
        injection e with e1 e2 e3
        subst e1
        exact h (by omega)
      have hcq : wr.cell? ⟨g, o + q, none⟩ = some (.string xd[q]) := by rw [HW.out.below.cell (p := ⟨g, o + q, none⟩) hg]; exact hc q hlt
      have hrq := fun w => right_any xk xd[q] w
      have hlq := fun w => lower_data xk xd[q] w
      have hsm : dataRight xk (xd[q]'hlt) = true → (dataLower xk (xd[q]'hlt)).size ≤ 6100 := dataLower_small
      have htk : (xd.take (q + 1)).map (dataLower xk) = (xd.take q).map (dataLower xk) ++ [dataLower xk xd[q]] := by rw [List.take_succ_eq_append_getElem hlt, List.map_append]; rfl
      have hqx := Lib.hid (show ∃ (h : q < xd.length), dataRight xk xd[q] = dataRight xk xd[q] from ⟨hlt, rfl⟩)
      have hdr : dataRight xk (xd[q]'hlt) = true ∨ dataRight xk (xd[q]'hlt) = false := by cases dataRight xk xd[q] <;> simp
      have HX := Lib.hid (show ∀ b, dataRight xk (xd[q]'hlt) = b → xd.all (dataRight xk) = true → b = true from fun b hb h => by rw [← hb]; exact List.all_eq_true.1 h _ (List.getElem_mem hlt))
      have HN := Lib.hid (show dataRight xk (xd[q]'hlt) = true → ∀ j (h : j < q + 1) (h2 : j < xd.length), dataRight xk xd[j] = true from fun hh j h h2 => by
        by_cases e : j < q
        · exact HRT.out j e h2
        · obtain rfl : j = q := by omega
          exact hh)
      generalize dataLower xk xd[q] = y at hlq hsm htk
      generalize dataRight xk xd[q] = r at hrq hsm hdr HX HN
      generalize xd[q] = x at hcq hrq hlq
      have HRQ := Lib.hid hrq; have HLQ := Lib.hid hlq; have HTK := Lib.hid htk; have HSM := Lib.hid hsm
      clear hrq hlq htk hsm hc hg hqx
      rcases hdr with rfl | rfl
      · have hkey := key_of y (HSM.out rfl)
        have HKY := Lib.hid hkey
        clear hkey
        go_wp2_with (go_at_call 64; refine (Hid.out (p := _) ?_))
        refine Lib.hid ?_
        refine (HRQ.out _).mono ?_
        rintro e w2 ⟨rfl, hb2⟩
        have HW2 := Lib.hid (HW.out.below' hb2)
        clear hb2 d1
        have d1 := HW2.out.box.cell 1
        simp only []
        go_wp2_with (go_at_call 65; refine (Hid.out (p := _) ?_))
        refine Lib.hid ?_
        refine (HLQ.out _).mono ?_
        rintro e w3 ⟨rfl, hb3⟩
        have HW3 := Lib.hid (HW2.out.below' hb3)
        clear hb3 d1 HW2
        obtain ⟨D, hown, hcn⟩ := HW3.out.own
        have HOW := Lib.hid hown; have HCN := Lib.hid hcn
        clear hown hcn
        simp only []
        go_wp2_with (first
          | (at_lookup; refine wpList_lookup_own_int _ rfl _ _ 107 rfl 9 3 .i64 keyed_str Tryz.underlying107 Tryz.underlying3 (zero_int _) w1.heap.size q D rfl HOW.out _ _ rfl HKY.out ?_; intro c hat hwc; clear hat hwc)
          | (at_mapUpdate; refine wpList_mapUpdate_own _ rfl _ _ _ 107 rfl 9 3 keyed_str Tryz.underlying107 (plainElem Tryz.prog 3) w1.heap.size q D rfl HOW.out (by simp only [maxLen]; omega) _ _ _ rfl rfl HKY.out _ [] (plainElem_int Tryz.underlying3 (wrap64_wf _)) ?_; intro w4 hown4 hg4; have HW4 := Lib.hid (HW3.out.put y HOW.out HCN.out hown4 hg4); clear hown4 hg4))
        go_roundw
        case rel => exact ⟨q + 1, by omega, by go_num, Lib.hid (HN.out (by simp)), by rw [HTK.out]; exact HW4⟩
        case measure => simp [intOf]; omega
      · go_wp2_with (go_at_call 64; refine (HRQ.out _).mono ?_; rintro e w2 ⟨rfl, hb2⟩)
        go_ret
        have hf : rightS ⟨xn, xk, xc, xt, xd, xs⟩ = false := by
          rw [HF.out, Bool.eq_false_iff]
          intro h
          simp only [Bool.and_eq_true] at h
          exact absurd (HX.out false rfl h.1.1) (by simp)
        refine ⟨?_, (HW.out.below' hb2).below⟩
        rw [hf]; rfl
    · obtain rfl : q = xd.length := by omega
      have hall : xd.all (dataRight xk) = true := List.all_eq_true.2 fun x hx => by
        obtain ⟨j, hj, rfl⟩ := List.getElem_of_mem hx
        exact HRT.out j hj hj
      have HALL := Lib.hid hall
      have HW0 : Hid (RSt w #[.string xn, .int .i64 xk, .int .i64 xc, .int .i64 xt, (.slice A xd.length c1), (.slice B xs.length c2)] w1.heap.size xd.length (xd.map (dataLower xk)) wr) := Lib.hid (by have := HW.out; rwa [List.take_length] at this)
      clear hall HRT HW d1
      have d5 := HW0.out.box.cell 5
      go_wp2_with fail
      clear d5
      go_loopw [78] (fun i wr => ∃ q : Nat, q ≤ xs.length ∧ i = .int .i64 q ∧ Hid (∀ j (h : j < q) (h2 : j < xs.length), sigCov xk xs[j] = true) ∧ Hid (RSt w #[.string xn, .int .i64 xk, .int .i64 xc, .int .i64 xt, (.slice A xd.length c1), (.slice B xs.length c2)] w1.heap.size xd.length (xd.map (dataLower xk)) wr)) (fun i _ => xs.length - (intOf i).toNat)
      case atStart => exact ⟨0, Nat.zero_le _, rfl, Lib.hid (fun j h => absurd h (by omega)), HW0⟩
      case round =>
        obtain ⟨q, hq, rfl, HRT, HW⟩ := hrel
        by_cases hlt : q < xs.length
        · obtain ⟨g, o, rfl, hg, hc⟩ : ∃ g o, B = some ⟨g, o, none⟩ ∧ g < w.heap.size ∧ ∀ j (h : j < xs.length), w.cell? ⟨g, o + j, none⟩ = some (.string xs[j]) := by
            obtain ⟨A', c', e, h⟩ := HS.out
            injection e with e1 e2 e3
            subst e1
            exact h (by omega)
          have hcq := HW.out.below.cell (p := ⟨g, o + q, none⟩) hg
          rw [hc q hlt] at hcq
          have HX := Lib.hid (show xs.all (sigCov xk) = true → sigCov xk (xs[q]'hlt) = true from fun h => List.all_eq_true.1 h _ (List.getElem_mem hlt))
          have HN := Lib.hid (show sigCov xk (xs[q]'hlt) = true → ∀ j (h : j < q + 1) (h2 : j < xs.length), sigCov xk xs[j] = true from fun hh j h h2 => by
            by_cases e : j < q
            · exact HRT.out j e h2
            · obtain rfl : j = q := by omega
              exact hh)
          generalize xs[q] = x at hcq HX HN
          clear hc hg
          go_wp2_with (go_at_call 66; refine (Hid.out (p := _) ?_))
          refine Lib.hid ?_
          refine (data_sig x _).mono ?_
          rintro e W2 ⟨hb2, h⟩
          have HW2 := Lib.hid (HW.out.below' hb2)
          clear hb2 hcq
          have d1 := HW2.out.box.cell 1
          have lt2 := HW2.out.box.lt
          have bad : sigCov xk x = false → rightS ⟨xn, xk, xc, xt, xd, xs⟩ = false := fun h => by
            rw [HF.out, Bool.eq_false_iff]
            intro h2
            simp only [Bool.and_eq_true] at h2
            rw [HX.out h2.1.2] at h
            cases h
          have HBAD := Lib.hid bad
          clear bad
          rcases h1 : takeR sigT x with _ | y
          · rw [h1] at h
            obtain rfl := h
            have hf := HBAD.out (by rw [sigCov, h1])
            have HF0 := Lib.hid hf
            clear hf h1
            simp only []
            go_wp2
            go_ret
            refine ⟨?_, HW2.out.below.alloc HW2.out.below.size _⟩
            rw [HF0.out]; rfl
          · rw [h1] at h
            obtain ⟨v, hv, rfl⟩ := h
            obtain rfl : v = y.v := hv
            have H1 := Lib.hid h1
            clear h1
            by_cases hcv : y.covered = xk
            · have hyes := HN.out (by rw [sigCov, H1.out]; simp [hcv])
              have HY := Lib.hid hyes
              have t7 : (y.covered != xk) = false := by rw [bne_eq_false_iff_eq]; exact hcv
              clear hyes hcv HX HN HBAD H1
              simp only [SigR.v]
              go_wp2
              go_roundw
              case rel => exact ⟨q + 1, by omega, by go_num, HY, Lib.hid (HW2.out.below' ((Below.refl _ _).alloc (Nat.le_refl _) _))⟩
              case measure => simp [intOf]; omega
            · have hf := HBAD.out (by rw [sigCov, H1.out]; simp [hcv])
              have HF0 := Lib.hid hf
              have t7 : (y.covered != xk) = true := by rw [bne_iff_ne]; exact hcv
              clear hf hcv HX HN HBAD H1
              simp only [SigR.v]
              go_wp2
              go_ret
              refine ⟨?_, HW2.out.below.alloc HW2.out.below.size _⟩
              rw [HF0.out]; rfl
        · obtain rfl : q = xs.length := by omega
          have hall2 : xs.all (sigCov xk) = true := List.all_eq_true.2 fun x hx => by
            obtain ⟨j, hj, rfl⟩ := List.getElem_of_mem hx
            exact HRT.out j hj hj
          have hfin : rightS ⟨xn, xk, xc, xt, xd, xs⟩ = decide ((uniq (xd.map (dataLower xk))).length = xd.length) := by
            rw [HF.out, HALL.out, hall2]; rfl
          have HFIN := Lib.hid hfin
          clear hall2 hfin HRT
          obtain ⟨D, hown, hcn⟩ := HW.out.own
          have HOW := Lib.hid hown
          have hsz := hcn.size
          have HSZ := Lib.hid hsz
          have d4 := HW.out.box.cell 4
          have HB := Lib.hid HW.out.below
          clear hown hcn hsz HW
          by_cases hu : (uniq (xd.map (dataLower xk))).length = xd.length
          · have t8 : ((Maps.size D : Int) == (xd.length : Int)) = true := by rw [beq_iff_eq, HSZ.out, hu]
            have HU := Lib.hid hu
            clear hu
            go_wp2_with (at_len; refine wpList_len_own _ rfl _ 107 rfl 9 3 Tryz.underlying107 _ w1.heap.size xd.length D rfl HOW.out ?_)
            go_ret
            refine ⟨?_, HB.out⟩
            rw [HFIN.out, decide_eq_true HU.out]; rfl
          · have t8 : ((Maps.size D : Int) == (xd.length : Int)) = false := by rw [beq_eq_false_iff_ne, HSZ.out]; omega
            have HU := Lib.hid hu
            clear hu
            go_wp2_with (at_len; refine wpList_len_own _ rfl _ 107 rfl 9 3 Tryz.underlying107 _ w1.heap.size xd.length D rfl HOW.out ?_)
            go_ret
            refine ⟨?_, HB.out⟩
            rw [HFIN.out, decide_eq_false HU.out]; rfl

/-- rrset.Right. -/
theorem rrset_right (s : SetD) (dv sv : Value) (w : World) (hd : StrsAt dv s.data w) (hs : StrsAt sv s.sigs w) : Calls Tryz.prog 41 #[s.v dv sv] w (BoolB (rightS s) w) := by
  obtain ⟨A, c1, rfl, hd'⟩ := hd
  obtain ⟨B, c2, rfl, hs'⟩ := hs
  by_cases h : nameRight s.name = true ∧ btw s.kind 0 65535 = true ∧ btw s.cls 0 65535 = true ∧ btw s.ttl 0 2147483647 = true ∧ s.kind ≠ 46 ∧ s.kind ≠ 41 ∧ btw (s.data.length : Int) 1 200 = true ∧ s.sigs.length ≤ 200
  · exact setRight_main s A B c1 c2 w h.1 h.2.1 h.2.2.1 h.2.2.2.1 h.2.2.2.2.1 h.2.2.2.2.2.1 h.2.2.2.2.2.2.1 h.2.2.2.2.2.2.2 ⟨A, c1, rfl, hd'⟩ ⟨B, c2, rfl, hs'⟩
  · exact setRight_no s A B c1 c2 w h
end Go.Proofs.YtdflhnbpcnmpfaaGreatDoor

/- name.Equal. -/
namespace Go.Proofs.YtdflhnbpcnmpfaaGreatDoor
open Go.RowKit

theorem toList_ne {x y : ByteArray} (h : x ≠ y) : ¬ x.toList = y.toList := by
  rw [ByteArray.toList_eq, ByteArray.toList_eq]
  exact fun e => h (bytes_toList_ext e)
def nameEq (a b : ByteArray) : Bool := nameRight a && nameRight b && decide (nameLower a = nameLower b)
theorem name_equal (a b : ByteArray) (w : World) : Calls Tryz.prog 7 #[.string a, .string b] w fun e w' => e = .returned (.bool (nameEq a b)) ∧ Below w.heap.size w w' := by
  have h1 := fun w => name_right a w
  have h2 := fun w => name_right b w
  have h3 := fun w => name_lower a w
  have h4 := fun w => name_lower b w
  have hr : nameEq a b = (nameRight a && nameRight b && decide (nameLower a = nameLower b)) := rfl
  have HE := Lib.hid hr
  clear hr
  generalize nameLower a = x at *
  generalize nameLower b = y at *
  generalize nameRight a = p at *
  generalize nameRight b = q at *
  have H1 := Lib.hid h1; have H2 := Lib.hid h2; have H3 := Lib.hid h3; have H4 := Lib.hid h4
  clear h1 h2 h3 h4
  cases p with
  | false =>
    go_enter Tryz.func7, Tryz.ntmps7
    go_wp2_with (go_at_call 19; refine (H1.out _).mono ?_; rintro e w1 ⟨rfl, hb1⟩)
    go_ret
    exact ⟨by rw [HE.out]; rfl, hb1⟩
  | true =>
    go_enter Tryz.func7, Tryz.ntmps7
    go_wp2_with (go_at_call 19; refine (Hid.out (p := _) ?_))
    refine Lib.hid ?_
    refine (H1.out _).mono ?_
    rintro e w1 ⟨rfl, hb1⟩
    simp only []
    go_wp2_with (go_at_call 19; refine (Hid.out (p := _) ?_))
    refine Lib.hid ?_
    refine (H2.out _).mono ?_
    rintro e w2 ⟨rfl, hb2⟩
    have HB2 := Lib.hid (hb1.trans (hb2.mono hb1.size))
    clear hb1 hb2
    simp only []
    cases q with
    | false =>
      go_wp2_with fail
      go_ret
      exact ⟨by rw [HE.out]; rfl, HB2.out⟩
    | true =>
      go_wp2_with (go_at_call 20; refine (Hid.out (p := _) ?_))
      refine Lib.hid ?_
      refine (H3.out _).mono ?_
      rintro e w3 ⟨rfl, hb3⟩
      simp only []
      go_wp2_with (go_at_call 20; refine (Hid.out (p := _) ?_))
      refine Lib.hid ?_
      refine (H4.out _).mono ?_
      rintro e w4 ⟨rfl, hb4⟩
      have HB3 := Lib.hid (HB2.out.trans (hb3.mono HB2.out.size))
      have HB4 := Lib.hid (HB3.out.trans (hb4.mono HB3.out.size))
      clear hb3 hb4
      simp only []
      by_cases hxy : x = y
      · have HX := Lib.hid hxy
        subst hxy
        go_wp2_with fail
        go_ret
        exact ⟨by rw [HE.out]; simp, HB4.out⟩
      · have hne := toList_ne hxy
        go_wp2_with fail
        go_ret
        exact ⟨by rw [HE.out]; simp [hxy, hne], HB4.out⟩
end Go.Proofs.YtdflhnbpcnmpfaaGreatDoor

/- The labels of a name in small letters: the same law for every text. -/
namespace Go.Proofs.YtdflhnbpcnmpfaaGreatDoor
open Go.RowKit

theorem smallB_le (b : UInt8) (h : b.toNat ≤ 63) : smallB b = b := by
  rw [smallB, if_neg]
  intro hc
  have := UInt8.le_iff_toNat_le.1 hc.1
  simp at this
  omega
theorem smallB_gt (b : UInt8) (h : 63 < b.toNat) : 63 < (smallB b).toNat := by
  have key : ∀ n : Fin 256, 63 < n.val → 63 < (smallB (UInt8.ofNat n.val)).toNat := by decide +kernel
  have := key ⟨b.toNat, b.toNat_lt⟩ h
  simpa using this
theorem lowS_extract (s : ByteArray) (a b : Nat) : (lowS s).extract a b = lowS (s.extract a b) := by
  apply ByteArray.ext
  simp only [lowS, ByteArray.data_extract]
  simp
theorem labs_lowS (s : ByteArray) : ∀ (f p : Nat), labs (lowS s) f p = (labs s f p).map fun x => (x.1, lowS x.2) := by
  intro f
  induction f with
  | zero => intro p; rfl
  | succ f ih =>
    intro p
    rw [labs, labs, size_lowS]
    by_cases hp : p < s.size
    · rw [byt_lowS s p hp]
      by_cases h63 : (byt s p).toNat ≤ 63
      · rw [smallB_le _ h63]
        split
        · rw [ih, lowS_extract]; rfl
        · rfl
      · have := smallB_gt _ (by omega : 63 < (byt s p).toNat)
        rw [if_neg (by omega), if_neg (by omega)]; rfl
    · rw [if_neg (by omega), if_neg (by omega)]; rfl
theorem labels_lowS (s : ByteArray) : labels (lowS s) = (labels s).map fun x => (x.1, lowS x.2) := by
  rw [labels, size_lowS, labs_lowS]; rfl
theorem nameEnd_lowS (s : ByteArray) : nameEnd (lowS s) = nameEnd s := by
  rw [nameEnd, nameEnd, labels_lowS, endOf, endOf, List.getLast?_map]
  cases (labels s).getLast? with
  | none => rfl
  | some x => simp [size_lowS]
theorem right_lowS (s : ByteArray) : nameRight (lowS s) = nameRight s := by
  rw [nameRight, nameRight, nameEnd_lowS, size_lowS]
  by_cases h : nameEnd s + 1 = s.size
  · rw [byt_lowS s _ (by omega)]
    congr 1
    rw [Bool.eq_iff_iff]
    simp only [beq_iff_eq]
    constructor
    · intro e
      by_cases h63 : (byt s (nameEnd s)).toNat ≤ 63
      · rwa [smallB_le _ h63] at e
      · have := smallB_gt _ (by omega : 63 < (byt s (nameEnd s)).toNat)
        rw [e] at this; simp at this
    · intro e; rw [e]; rfl
  · simp [h]
theorem right_lower (s : ByteArray) : nameRight (nameLower s) = nameRight s := by
  rw [nameLower]; split
  · exact right_lowS s
  · rfl
theorem labels_lower (s : ByteArray) (h : nameRight s = true) : (labels (nameLower s)).map (·.2) = ((labels s).map (·.2)).map lowS := by
  rw [nameLower, if_pos h, labels_lowS]; simp
end Go.Proofs.YtdflhnbpcnmpfaaGreatDoor

/- name.Under. -/
namespace Go.Proofs.YtdflhnbpcnmpfaaGreatDoor
open Go.RowKit Go.Shelf
attribute [local go_sem] Oper.semAt_some

def anyFrom (low up : ByteArray) (l : List (Nat × ByteArray)) : Bool := l.any fun x => decide (low.extract x.1 low.size = up)
def underB (a b : ByteArray) : Bool := nameRight a && nameRight b && (decide (nameLower a = nameLower b) || decide (nameLower b = ⟨#[0]⟩) || anyFrom (nameLower a) (nameLower b) (labels (nameLower a)))

theorem loadVar_one {P : Program} {w : World} {g : Nat} {t ty : TypeId} {v : Value} {d : TypeDesc} (hg : Blk w g #[v] t) (hu : P.underlying ty = some d) (hd : (match d with | .struct _ | .array _ _ => true | _ => false) = false) : (loadVar ty ⟨g, 0, none⟩).run P w = .ok v w := by
  have hagg : (isAgg ty).run P w = .ok false w := by
    unfold isAgg
    rw [Sem.run_bind, run_underlying hu w]
    cases d <;> first | rfl | exact absurd hd (by simp)
  have hc : w.cell? ⟨g, 0, none⟩ = some v := hg.cell 0
  simp [loadVar, Sem.run_bind, hagg, go_sem, hc]
theorem anyFrom_snoc {low up : ByteArray} {l : List (Nat × ByteArray)} (x : Nat × ByteArray) : anyFrom low up (l ++ [x]) = (anyFrom low up l || decide (low.extract x.1 low.size = up)) := by simp [anyFrom]
theorem anyFrom_pre {low up : ByteArray} {l m : List (Nat × ByteArray)} (h : l <+: m) (hl : anyFrom low up l = true) : anyFrom low up m = true := by
  obtain ⟨r, rfl⟩ := h
  simp only [anyFrom, List.any_append, Bool.or_eq_true]
  exact .inl hl
set_option maxRecDepth 100000 in
theorem under_in (a b low up : ByteArray) (w : World) (h1 : ∀ w, Calls Tryz.prog 19 #[.string a] w fun e w' => e = .returned (.bool true) ∧ Below w.heap.size w w') (h2 : ∀ w, Calls Tryz.prog 19 #[.string b] w fun e w' => e = .returned (.bool true) ∧ Below w.heap.size w w')
    (h3 : ∀ w, Calls Tryz.prog 20 #[.string a] w fun e w' => e = .returned (.string low) ∧ Below w.heap.size w w') (h4 : ∀ w, Calls Tryz.prog 20 #[.string b] w fun e w' => e = .returned (.string up) ∧ Below w.heap.size w w') (h255 : low.size ≤ 255) (hne : low ≠ up) (h0 : up ≠ ⟨#[0]⟩) :
    CallsIn Fence.wide 4 Tryz.prog 22 #[.string a, .string b] w fun e w' => e = .returned (.bool (anyFrom low up (labels low))) ∧ Below w.heap.size w w' := by
  have H1 := Lib.hid h1; have H2 := Lib.hid h2; have H3 := Lib.hid h3; have H4 := Lib.hid h4
  have n1 : (low.toList == up.toList) = false := beq_eq_false_iff_ne.2 (toList_ne hne)
  have n2 : (up.toList == [0]) = false := beq_eq_false_iff_ne.2 (fun e => toList_ne h0 (e.trans (by rw [ByteArray.toList_eq])))
  clear h1 h2 h3 h4 hne h0
  have hro : Fence.wide.round = none := rfl
  have hn1 : 1 ≤ 4 := by omega
  refine callsIn_of_wp_marks Tryz.func22 rfl trivial ?_ hro
  simp only [Tryz.ntmps22, List.size_toArray, List.length_cons, List.length_nil, Nat.reduceAdd, Nat.reduceSub, Array.replicate_succ, Array.replicate_zero, List.push_toArray, List.append_toArray, List.nil_append, List.cons_append]
  gi_wp2_with (refine ⟨trivial, ?_⟩; gi_at_call 19; refine (Hid.out (p := _) ?_))
  refine Lib.hid ?_
  refine (callsIn_wide.2 (H1.out _)).mono ?_
  rintro e w1 ⟨rfl, hb1⟩
  simp only []
  gi_wp2_with (refine ⟨trivial, ?_⟩; gi_at_call 19; refine (Hid.out (p := _) ?_))
  refine Lib.hid ?_
  refine (callsIn_wide.2 (H2.out _)).mono ?_
  rintro e w2 ⟨rfl, hb2⟩
  simp only []
  gi_wp2_with (refine ⟨trivial, ?_⟩; gi_at_call 20; refine (Hid.out (p := _) ?_))
  refine Lib.hid ?_
  refine (callsIn_wide.2 (H3.out _)).mono ?_
  rintro e w3 ⟨rfl, hb3⟩
  simp only []
  gi_wp2_with (refine ⟨trivial, ?_⟩; gi_at_call 20; refine (Hid.out (p := _) ?_))
  refine Lib.hid ?_
  refine (callsIn_wide.2 (H4.out _)).mono ?_
  rintro e w4 ⟨rfl, hb4⟩
  simp only []
  have hb0 := (Blk.new w #[.bool false] 4)
  have bl4 : Below (w.heap.size + 1) (w.alloc (.cells #[.bool false] 4)) w4 := by
    have z1 := hb1.size; have z2 := hb2.size; have z3 := hb3.size
    refine Below.mono (B := (w.alloc (.cells #[.bool false] 4)).heap.size) ?_ (by simp)
    exact ((hb1.trans (hb2.mono z1)).trans (hb3.mono (Nat.le_trans z1 z2))).trans (hb4.mono (Nat.le_trans z1 (Nat.le_trans z2 z3)))
  clear hb1 hb2 hb3 hb4 H1 H2 H3 H4
  gi_wp2_with (refine ⟨trivial, ?_⟩; gi_at_call 39; refine (callsIn_wide.2 (labels_any _ _)).mono ?_; rintro e w' ⟨rfl, rfl⟩)
  have bA : Blk w4 w.heap.size #[.bool false] 4 := hb0.below bl4 (by omega)
  have hs4 : w.heap.size < w4.heap.size := bA.lt
  have hB0 : Below w.heap.size w (((w4.alloc (.cells #[.string low] 9)).alloc (.cells #[.string up] 9)).alloc (.cells #[.string low] 9)) :=
    ((((((Below.refl _ w).alloc (Nat.le_refl _) _).trans (bl4.mono (by omega)))).alloc (by omega) _).alloc (by simp; omega) _).alloc (by simp; omega) _
  have e0 : Blk (((w4.alloc (.cells #[.string low] 9)).alloc (.cells #[.string up] 9)).alloc (.cells #[.string low] 9)) w.heap.size #[.bool false] 4 := ((bA.alloc _).alloc _).alloc _
  have e1 : Blk (((w4.alloc (.cells #[.string low] 9)).alloc (.cells #[.string up] 9)).alloc (.cells #[.string low] 9)) w4.heap.size #[.string low] 9 := ((Blk.new w4 _ _).alloc _).alloc _
  have e2 : Blk (((w4.alloc (.cells #[.string low] 9)).alloc (.cells #[.string up] 9)).alloc (.cells #[.string low] 9)) (w4.heap.size + 1) #[.string up] 9 := by
    have := (Blk.new (w4.alloc (.cells #[.string low] 9)) #[.string up] 9).alloc (.cells #[.string low] 9)
    simpa using this
  have e3 : Blk (((w4.alloc (.cells #[.string low] 9)).alloc (.cells #[.string up] 9)).alloc (.cells #[.string low] 9)) (w4.heap.size + 1 + 1) #[.string low] 9 := by
    have := (Blk.new ((w4.alloc (.cells #[.string low] 9)).alloc (.cells #[.string up] 9)) #[.string low] 9)
    simpa using this
  clear hb0 bl4 bA
  refine wpIn_rangeFunc_ownF (α := Lab low) (ps := #[29, 30]) hro hn1 (gf := 62) (lb := #[.pointer (some ⟨w4.heap.size + 1 + 1, 0, none⟩)]) rfl trivial (enters_of Tryz.func62 (by kernel_rfl) rfl)
    (labels1_stops Fence.wide 3 trivial hro (by omega) (w4.heap.size + 1 + 1) low _ (by omega) e3) keepsBlk_t keepsBlk_b (Below.refl _ _) (fun _ => rfl)
    (fun pre W => anyFrom low up (labPre pre) = false ∧ ((Blk W w.heap.size #[.bool false] 4 ∧ Blk W w4.heap.size #[.string low] 9 ∧ Blk W (w4.heap.size + 1) #[.string up] 9) ∧ Below w.heap.size w W))
    (fun c pre W => (c = .ret ∧ anyFrom low up (labPre pre) = true) ∧ (Blk W w.heap.size #[.bool true] 4 ∧ Below w.heap.size w W))
    (OwnFrom.and (fun _ _ _ _ h _ _ => h) (OwnFrom.and (Own.from (fun s A B row hs hg hr => ⟨hs.1.kept hg hr, hs.2.1.kept hg hr, hs.2.2.kept hg hr⟩) _) (ownFrom_below (Nat.le_refl _) (by simp; omega))))
    (fun c => OwnFrom.and (fun _ _ _ _ h _ _ => h) (OwnFrom.and (Own.from (fun s A B row hs hg hr => hs.kept hg hr) _) (ownFrom_below (Nat.le_refl _) (by simp; omega))))
    ⟨rfl, ⟨e0, e1, e2⟩, hB0⟩
    (fun x => { tmps := #[.string a, .string b, undef, undef, .pointer (some ⟨w.heap.size, 0, none⟩), .pointer (some ⟨w4.heap.size, 0, none⟩), .pointer (some ⟨w4.heap.size + 1, 0, none⟩), .int .i64 (x.1.1 : Int), .string a, .bool true, .bool false, .bool false, .string b, .bool true, .bool false, .bool false, .string a, .string low, .string b, .string up, .string low, .string up, .bool false, .bool false, .string up, .bool false, .bool false, .string low, .func (.func 62) #[] #[.pointer (some ⟨w4.heap.size + 1 + 1, 0, none⟩)], .int .i64 (x.1.1 : Int), .string x.1.2, undef, undef, undef, undef, undef], defers := [] }) ?assign ?body ?done ?stop
  case assign =>
    intro l x W K hK
    simp only [encLab]
    gi_wp2
    exact hK
  case body =>
    rintro l pre x W ⟨hf, ⟨b0, b1, b2⟩, hB⟩ _
    have hx := (labels_le low x.1 x.2).1
    have c1 : W.cell? ⟨w4.heap.size, 0, none⟩ = some (.string low) := b1.cell 0
    have c2 : W.cell? ⟨w4.heap.size + 1, 0, none⟩ = some (.string up) := b2.cell 0
    have c0 : W.cell? ⟨w.heap.size, 0, none⟩ = some (.bool false) := b0.cell 0
    have f0 := b0.free 0
    have hmix : Tryz.prog.follows .mixedOrders = true := by kernel_rfl
    have q1 : (x.1.1 : Int) ≤ (low.size : Int) := by omega
    have hti : ((x.1.1 : Int)).toNat = x.1.1 := by omega
    have hsn := anyFrom_snoc (low := low) (up := up) (l := labPre pre) x.1
    rw [← labPre_snoc, hf, Bool.false_or] at hsn
    have HB := Lib.hid hB; have B0 := Lib.hid b0; have B1 := Lib.hid b1; have B2 := Lib.hid b2
    clear hx hB b0 b1 b2 hf
    by_cases he : low.extract x.1.1 low.size = up
    · have hq : ((low.extract x.1.1 low.size).toList == up.toList) = true := by rw [he]; exact beq_self_eq_true _
      rw [decide_eq_true he] at hsn
      have HS := Lib.hid hsn
      clear hsn he
      gi_wp2
      gi_region_with_o (fail)
      all_goals
        gi_wp2
        refine ⟨?_, ⟨rfl, HS.out⟩, B0.out.drew.set 0 _, HB.out.drew.setCell (p := ⟨w.heap.size, 0, none⟩) (Nat.le_refl _) _⟩
        exact (KeepsOthers.drew W).trans (KeepsOthers.setCell _ _ _)
    · have hq : ((low.extract x.1.1 low.size).toList == up.toList) = false := beq_eq_false_iff_ne.2 (toList_ne he)
      rw [decide_eq_false he] at hsn
      have HS := Lib.hid hsn
      clear hsn he
      gi_wp2
      gi_region_with_o (fail)
      all_goals
        gi_wp2
        exact ⟨KeepsOthers.drew W, fun _ _ h => h, HS.out, ⟨B0.out, B1.out, B2.out⟩, HB.out.drew⟩
  case done =>
    rintro D ys W hD hS ⟨hf, ⟨b0, b1, b2⟩, hB⟩ hK
    have c0 : W.cell? ⟨w.heap.size, 0, none⟩ = some (.bool false) := b0.cell 0
    have f0 := b0.free 0
    rw [hS] at hf
    have B0 := Lib.hid b0; have HF := Lib.hid hf
    clear hS b0 b1 b2 hf
    gi_wp2
    have hD' : w.heap.size < D := by simp at hD; omega
    have hK2 : (W.setCell ⟨w.heap.size, 0, none⟩ (.bool false)).heap[D]? = some (.deferred (some [])) := (heap_setCell_other _ _ _ _ (by simp; omega)).trans hK
    have b2 := (B0.out.set 0 (.bool false)).kept (grownBy_putObj' _ D (.deferred none)) (fun r e => by cases e; exact ⟨_, hK2, rfl⟩)
    refine ⟨by simp, .inl ⟨_, _, rfl, run_takeDeferred hK2, ?_⟩⟩
    refine ⟨_, results1 rfl ⟨_, rfl, loadVar_one b2 Tryz.underlying4 rfl⟩, by rw [HF.out], ?_⟩
    exact (hB.setCell (p := ⟨w.heap.size, 0, none⟩) (Nat.le_refl _) _).trans (belowK_b (w := w) (Nat.le_refl _) _ D _ _ (by omega) hK2 rfl rfl)
  case stop =>
    rintro D c pre W hD hp ⟨⟨rfl, ht⟩, b0, hB⟩ hK
    have HT := Lib.hid (anyFrom_pre hp ht)
    clear hp ht
    gi_wp2
    have hD' : w.heap.size < D := by simp at hD; omega
    have b2 := b0.kept (grownBy_putObj' _ D (.deferred none)) (fun r e => by cases e; exact ⟨_, hK, rfl⟩)
    refine ⟨by simp, .inl ⟨_, _, rfl, run_takeDeferred hK, ?_⟩⟩
    refine ⟨_, results1 rfl ⟨_, rfl, loadVar_one b2 Tryz.underlying4 rfl⟩, by rw [HT.out], ?_⟩
    exact hB.trans (belowK_b (w := w) (Nat.le_refl _) _ D _ _ (by omega) hK rfl rfl)

/-- name.Under. -/
theorem name_under (a b : ByteArray) (w : World) : Calls Tryz.prog 22 #[.string a, .string b] w fun e w' => e = .returned (.bool (underB a b)) ∧ Below w.heap.size w w' := by
  have h1 := fun w => name_right a w
  have h2 := fun w => name_right b w
  have h3 := fun w => name_lower a w
  have h4 := fun w => name_lower b w
  have hr : underB a b = (nameRight a && nameRight b && (decide (nameLower a = nameLower b) || decide (nameLower b = ⟨#[0]⟩) || anyFrom (nameLower a) (nameLower b) (labels (nameLower a)))) := rfl
  have hz : nameRight a = true → (nameLower a).size ≤ 255 := fun ha => by
    have h : nameRight (nameLower a) = true := by rw [right_lower, ha]
    simp [nameRight] at h; omega
  by_cases hin : (nameRight a = true ∧ nameRight b = true) ∧ nameLower a ≠ nameLower b ∧ nameLower b ≠ ⟨#[0]⟩
  · obtain ⟨⟨ha, hb⟩, hc, hd⟩ := hin
    rw [ha] at h1 hr; rw [hb] at h2 hr
    rw [decide_eq_false hc, decide_eq_false hd] at hr
    rw [hr]
    simp only [Bool.true_and, Bool.false_or]
    exact callsIn_wide.1 (under_in a b _ _ w h1 h2 h3 h4 (hz ha) hc hd)
  clear hz
  generalize anyFrom (nameLower a) (nameLower b) (labels (nameLower a)) = af at hr
  generalize nameLower a = low at *
  generalize nameLower b = up at *
  generalize nameRight a = p at *
  generalize nameRight b = q at *
  cases p with
  | false =>
    clear hin
    have H1 := Lib.hid h1; have H2 := Lib.hid h2; have HR := Lib.hid hr; have H3 := Lib.hid h3; have H4 := Lib.hid h4
    clear h1 h2 hr h3 h4
    go_enter Tryz.func22, Tryz.ntmps22
    go_wp2_with (go_at_call 19; refine (Hid.out (a := _) ?_))
    refine Lib.hid ?_
    refine (H1.out _).mono ?_
    rintro e w1 ⟨rfl, hb1⟩
    simp only []
    have k := (Blk.new w #[.bool false] 4).below hb1 (by simp)
    have c0 : w1.cell? ⟨w.heap.size, 0, none⟩ = some (.bool false) := k.cell 0
    have f0 := k.free 0
    have lt0 := k.lt
    have HK := Lib.hid k
    clear k
    go_wp2_with fail
    refine bodyPost_ret (results1 rfl ⟨_, rfl, loadVar_one (HK.out.set 0 (.bool false)) Tryz.underlying4 rfl⟩) rfl ⟨by rw [HR.out]; simp, ?_⟩
    exact (((Below.refl _ w).alloc (Nat.le_refl _) _).trans (hb1.mono (by simp))).setCell (p := ⟨w.heap.size, 0, none⟩) (Nat.le_refl _) _
  | true =>
  cases q with
  | false =>
    clear hin
    have H1 := Lib.hid h1; have H2 := Lib.hid h2; have HR := Lib.hid hr; have H3 := Lib.hid h3; have H4 := Lib.hid h4
    clear h1 h2 hr h3 h4
    go_enter Tryz.func22, Tryz.ntmps22
    go_wp2_with (go_at_call 19; refine (Hid.out (a := _) ?_))
    refine Lib.hid ?_
    refine (H1.out _).mono ?_
    rintro e w1 ⟨rfl, hb1⟩
    simp only []
    go_wp2_with (go_at_call 19; refine (Hid.out (a := _) ?_))
    refine Lib.hid ?_
    refine (H2.out _).mono ?_
    rintro e w2 ⟨rfl, hb2⟩
    replace hb1 := hb1.trans (hb2.mono hb1.size)
    clear hb2
    simp only []
    have k := (Blk.new w #[.bool false] 4).below hb1 (by simp)
    have c0 : w2.cell? ⟨w.heap.size, 0, none⟩ = some (.bool false) := k.cell 0
    have f0 := k.free 0
    have lt0 := k.lt
    have HK := Lib.hid k
    clear k
    go_wp2_with fail
    refine bodyPost_ret (results1 rfl ⟨_, rfl, loadVar_one (HK.out.set 0 (.bool false)) Tryz.underlying4 rfl⟩) rfl ⟨by rw [HR.out]; simp, ?_⟩
    exact (((Below.refl _ w).alloc (Nat.le_refl _) _).trans (hb1.mono (by simp))).setCell (p := ⟨w.heap.size, 0, none⟩) (Nat.le_refl _) _
  | true =>
  by_cases hc : low = up
  · subst hc
    clear hin
    have q1 : (low.toList == low.toList) = true := beq_self_eq_true _
    have H1 := Lib.hid h1; have H2 := Lib.hid h2; have HR := Lib.hid hr; have H3 := Lib.hid h3; have H4 := Lib.hid h4
    clear h1 h2 hr h3 h4
    go_enter Tryz.func22, Tryz.ntmps22
    go_wp2_with (go_at_call 19; refine (Hid.out (a := _) ?_))
    refine Lib.hid ?_
    refine (H1.out _).mono ?_
    rintro e w1 ⟨rfl, hb1⟩
    simp only []
    go_wp2_with (go_at_call 19; refine (Hid.out (a := _) ?_))
    refine Lib.hid ?_
    refine (H2.out _).mono ?_
    rintro e w2 ⟨rfl, hb2⟩
    replace hb1 := hb1.trans (hb2.mono hb1.size)
    clear hb2
    simp only []
    go_wp2_with (go_at_call 20; refine (Hid.out (a := _) ?_))
    refine Lib.hid ?_
    refine (H3.out _).mono ?_
    rintro e w3 ⟨rfl, hb3⟩
    replace hb1 := hb1.trans (hb3.mono hb1.size)
    clear hb3
    simp only []
    go_wp2_with (go_at_call 20; refine (Hid.out (a := _) ?_))
    refine Lib.hid ?_
    refine (H4.out _).mono ?_
    rintro e w4 ⟨rfl, hb4⟩
    replace hb1 := hb1.trans (hb4.mono hb1.size)
    clear hb4
    simp only []
    have k := (Blk.new w #[.bool false] 4).below hb1 (by simp)
    have c0 : w4.cell? ⟨w.heap.size, 0, none⟩ = some (.bool false) := k.cell 0
    have f0 := k.free 0
    have lt0 := k.lt
    have HK := Lib.hid k
    clear k
    go_wp2_with fail
    refine bodyPost_ret (results1 rfl ⟨_, rfl, loadVar_one (((HK.out.set 0 (.bool true)).alloc _).alloc _) Tryz.underlying4 rfl⟩) rfl ⟨by rw [HR.out] <;> simp, ?_⟩
    exact (((((Below.refl _ w).alloc (Nat.le_refl _) _).trans (hb1.mono (by simp))).setCell (p := ⟨w.heap.size, 0, none⟩) (Nat.le_refl _) _).alloc (by simp; omega) _).alloc (by simp; omega) _
  · have hd : up = ⟨#[0]⟩ := Decidable.by_contra fun h => hin ⟨⟨rfl, rfl⟩, hc, h⟩
    have q1 : (low.toList == up.toList) = false := beq_eq_false_iff_ne.2 (toList_ne hc)
    have q2 : (up.toList == [0]) = true := beq_iff_eq.2 (by rw [hd, ByteArray.toList_eq])
    have HD := Lib.hid hd
    clear hin hc hd
    have H1 := Lib.hid h1; have H2 := Lib.hid h2; have HR := Lib.hid hr; have H3 := Lib.hid h3; have H4 := Lib.hid h4
    clear h1 h2 hr h3 h4
    go_enter Tryz.func22, Tryz.ntmps22
    go_wp2_with (go_at_call 19; refine (Hid.out (a := _) ?_))
    refine Lib.hid ?_
    refine (H1.out _).mono ?_
    rintro e w1 ⟨rfl, hb1⟩
    simp only []
    go_wp2_with (go_at_call 19; refine (Hid.out (a := _) ?_))
    refine Lib.hid ?_
    refine (H2.out _).mono ?_
    rintro e w2 ⟨rfl, hb2⟩
    replace hb1 := hb1.trans (hb2.mono hb1.size)
    clear hb2
    simp only []
    go_wp2_with (go_at_call 20; refine (Hid.out (a := _) ?_))
    refine Lib.hid ?_
    refine (H3.out _).mono ?_
    rintro e w3 ⟨rfl, hb3⟩
    replace hb1 := hb1.trans (hb3.mono hb1.size)
    clear hb3
    simp only []
    go_wp2_with (go_at_call 20; refine (Hid.out (a := _) ?_))
    refine Lib.hid ?_
    refine (H4.out _).mono ?_
    rintro e w4 ⟨rfl, hb4⟩
    replace hb1 := hb1.trans (hb4.mono hb1.size)
    clear hb4
    simp only []
    have k := (Blk.new w #[.bool false] 4).below hb1 (by simp)
    have c0 : w4.cell? ⟨w.heap.size, 0, none⟩ = some (.bool false) := k.cell 0
    have f0 := k.free 0
    have lt0 := k.lt
    have HK := Lib.hid k
    clear k
    go_wp2_with fail
    refine bodyPost_ret (results1 rfl ⟨_, rfl, loadVar_one (((HK.out.set 0 (.bool true)).alloc _).alloc _) Tryz.underlying4 rfl⟩) rfl ⟨by rw [HR.out, decide_eq_true HD.out] <;> simp, ?_⟩
    exact (((((Below.refl _ w).alloc (Nat.le_refl _) _).trans (hb1.mono (by simp))).setCell (p := ⟨w.heap.size, 0, none⟩) (Nat.le_refl _) _).alloc (by simp; omega) _).alloc (by simp; omega) _
end Go.Proofs.YtdflhnbpcnmpfaaGreatDoor

/- name.Parent, name.Child. -/
namespace Go.Proofs.YtdflhnbpcnmpfaaGreatDoor
open Go.RowKit

/-- name.Parent: the name, and the error. -/
def parentR (n : ByteArray) : ByteArray × Int :=
  if nameRight n = false then (⟨#[]⟩, 2) else if n = ⟨#[0]⟩ then (⟨#[]⟩, 1) else (n.extract (1 + (byt n 0).toNat) n.size, 0)
def PairP (p : ByteArray × Int) (w : World) (e : Ending) (w' : World) : Prop := e = .returned (.tuple #[.string p.1, .int .i64 p.2]) ∧ Below w.heap.size w w'

theorem right_size0 {n : ByteArray} (h : nameRight n = true) : 0 < n.size ∧ n.size ≤ 255 := by simp [nameRight] at h; omega
/-- The first byte of a name that is not the root's: the length of its first label. -/
theorem right_first {n : ByteArray} (h : nameRight n = true) (h0 : n ≠ ⟨#[0]⟩) : 1 ≤ (byt n 0).toNat ∧ (byt n 0).toNat ≤ 63 ∧ 1 + (byt n 0).toNat < n.size := by
  have hs := right_size0 h
  simp only [nameRight, Bool.and_eq_true, decide_eq_true_eq, beq_iff_eq] at h
  by_cases hc : 0 < n.size ∧ byt n 0 ≠ 0 ∧ (byt n 0).toNat ≤ 63 ∧ 0 + 1 + (byt n 0).toNat ≤ n.size
  · have hz : (byt n 0).toNat ≠ 0 := fun h => hc.2.1 (UInt8.toNat_inj.1 (by rw [h]; rfl))
    have hm : (0, n.extract (0 + 1) (0 + 1 + (byt n 0).toNat)) ∈ labels n := by
      rw [labels, labs, if_pos hc]; simp
    have hle : endOf (labels n) + 1 = n.size := h.1.2
    have hge : 1 + (byt n 0).toNat ≤ endOf (labels n) := by
      rw [labels, labs, if_pos hc]
      have e : (n.extract (0 + 1) (0 + 1 + (byt n 0).toNat)).size = (byt n 0).toNat := by rw [ByteArray.size_extract]; omega
      rw [endOf_cons]
      split
      · simp only [e]; omega
      · rename_i hne
        obtain ⟨x, hx⟩ : ∃ x, (labs n n.size (0 + 1 + (byt n 0).toNat)).getLast? = some x := by
          cases hl : (labs n n.size (0 + 1 + (byt n 0).toNat)).getLast? with
          | none => exact absurd (List.getLast?_eq_none_iff.1 hl) hne
          | some x => exact ⟨x, rfl⟩
        have := (labs_le n _ _ x (List.mem_of_getLast? hx)).1
        rw [endOf, hx]
        show _ ≤ x.1 + 1 + x.2.size
        omega
    omega
  · have e : labels n = [] := by rw [labels, labs, if_neg hc]
    have h1 : n.size = 1 := by have := h.1.2; rw [nameEnd, e] at this; simp [endOf] at this; omega
    have h2 : byt n 0 = 0 := by have := h.2; rw [nameEnd, e] at this; exact this
    exact absurd (bytes_ext (t := ⟨#[0]⟩) (by rw [h1]; rfl) (fun j hj => (show j = 0 by omega) ▸ h2)) h0

theorem name_parent (n : ByteArray) (w : World) : Calls Tryz.prog 48 #[.string n] w (PairP (parentR n) w) := by
  have h1 := fun w => name_right n w
  by_cases hr : nameRight n = true
  · rw [hr] at h1
    have HR := Lib.hid h1
    clear h1
    by_cases h0 : n = ⟨#[0]⟩
    · have e : parentR n = (⟨#[]⟩, 1) := by rw [parentR, hr, if_pos h0]; rfl
      have q : (n.toList == [0]) = true := beq_iff_eq.2 (by rw [h0, ByteArray.toList_eq])
      rw [e]
      clear e h0
      go_enter Tryz.func48, Tryz.ntmps48
      go_wp2_with (go_at_call 19; refine (HR.out _).mono ?_; rintro e w1 ⟨rfl, hb1⟩)
      go_ret2
      exact ⟨rfl, hb1⟩
    · have e : parentR n = (n.extract (1 + (byt n 0).toNat) n.size, 0) := by rw [parentR, hr, if_neg h0]; rfl
      have q : (n.toList == [0]) = false := beq_eq_false_iff_ne.2 (fun e => toList_ne h0 (e.trans (by rw [ByteArray.toList_eq])))
      have hf := right_first hr h0
      have hs := right_size0 hr
      have hg : n[0]'hs.1 = byt n 0 := byt_get n 0 hs.1
      rw [e]
      rw [← hg] at hf ⊢
      have HE := Lib.hid e
      obtain ⟨s1, s2⟩ := hs
      obtain ⟨f1, f2, f3⟩ := hf
      have r1 : IntKind.u8.wrap ((1 : Int) + ((n[0]).toNat : Int)) = (1 : Int) + ((n[0]).toNat : Int) := IntWalk.u8_in _ (by omega)
      have r2 : ((1 : Int) + ((n[0]).toNat : Int)) ≤ (n.size : Int) := by omega
      have r3 : ((1 : Int) + ((n[0]).toNat : Int)).toNat = 1 + (n[0]).toNat := by omega
      clear e h0 hg hr
      go_enter Tryz.func48, Tryz.ntmps48
      go_wp2_with (go_at_call 19; refine (HR.out _).mono ?_; rintro e w1 ⟨rfl, hb1⟩)
      go_ret2
      exact ⟨rfl, hb1⟩
  · have e : parentR n = (⟨#[]⟩, 2) := by rw [parentR, if_pos (by simpa using hr)]
    rw [show nameRight n = false by simpa using hr] at h1
    have HR := Lib.hid h1
    rw [e]
    clear h1 hr e
    go_enter Tryz.func48, Tryz.ntmps48
    go_wp2_with (go_at_call 19; refine (HR.out _).mono ?_; rintro e w1 ⟨rfl, hb1⟩)
    go_ret2
    exact ⟨rfl, hb1⟩

def bs1 (n : Nat) : ByteArray := ⟨#[UInt8.ofNat n]⟩
/-- name.Child: the name, and the error. -/
def childR (l n : ByteArray) : ByteArray × Int :=
  if nameRight n = false ∨ l.size < 1 ∨ 63 < l.size then (⟨#[]⟩, 2) else if 255 < n.size + 1 + l.size then (⟨#[]⟩, 3) else ((bs1 l.size ++ l) ++ n, 0)
theorem conv_bs1 (k : Nat) (W : World) (g : Nat) (hc : W.cell? ⟨g, 0, none⟩ = some (.int .u8 (k : Int))) :
    (convert 69 9 (.slice (some ⟨g, 0, none⟩) 1 1)).run Tryz.prog W = .ok (.string (bs1 k)) W := by
  have := run_convert_bytes_arg (P := Tryz.prog) W 69 5 Tryz.underlying69 Tryz.underlying5 g 0 1 1 [(k : Int)] (by simp) (by
    intro i hi
    obtain rfl : i = 0 := by omega
    rw [Nat.zero_add, hc]; rfl) 9 Tryz.underlying9
  rw [this]
  rfl
theorem name_child (l n : ByteArray) (w : World) : Calls Tryz.prog 12 #[.string l, .string n] w (PairP (childR l n) w) := by
  have h1 := fun w => name_right n w
  cases hr : nameRight n with
  | false =>
    rw [show childR l n = (⟨#[]⟩, 2) from if_pos (.inl hr)]
    rw [hr] at h1
    have HR := Lib.hid h1
    clear h1 hr
    go_enter Tryz.func12, Tryz.ntmps12
    go_wp2_with (go_at_call 19; refine (HR.out _).mono ?_; rintro e w1 ⟨rfl, hb1⟩)
    go_ret2
    exact ⟨rfl, hb1⟩
  | true =>
  rw [hr] at h1
  have hs := (right_size0 hr).2
  have HR := Lib.hid h1
  clear h1
  by_cases c1 : l.size < 1
  · rw [show childR l n = (⟨#[]⟩, 2) from if_pos (.inr (.inl c1))]
    have q1 : decide ((l.size : Int) < 1) = true := decide_eq_true (by omega)
    clear hr c1
    go_enter Tryz.func12, Tryz.ntmps12
    go_wp2_with (go_at_call 19; refine (HR.out _).mono ?_; rintro e w1 ⟨rfl, hb1⟩)
    go_ret2
    exact ⟨rfl, hb1⟩
  have q1 : decide ((l.size : Int) < 1) = false := decide_eq_false (by omega)
  by_cases c2 : 63 < l.size
  · rw [show childR l n = (⟨#[]⟩, 2) from if_pos (.inr (.inr c2))]
    have q2 : decide ((63 : Int) < (l.size : Int)) = true := decide_eq_true (by omega)
    clear hr c1 c2
    go_enter Tryz.func12, Tryz.ntmps12
    go_wp2_with (go_at_call 19; refine (HR.out _).mono ?_; rintro e w1 ⟨rfl, hb1⟩)
    go_ret2
    exact ⟨rfl, hb1⟩
  have q2 : decide ((63 : Int) < (l.size : Int)) = false := decide_eq_false (by omega)
  have hx : ¬ (nameRight n = false ∨ l.size < 1 ∨ 63 < l.size) := by rintro (h | h | h) <;> first | omega | (rw [hr] at h; cases h)
  by_cases c3 : 255 < n.size + 1 + l.size
  · rw [show childR l n = (⟨#[]⟩, 3) by rw [childR, if_neg hx, if_pos c3]]
    have q3 : decide ((255 : Int) < (n.size : Int) + 1 + (l.size : Int)) = true := decide_eq_true (by omega)
    have q5 : (l.size : Int) ≤ 63 := by omega
    clear hr c1 c2 c3 hx
    go_enter Tryz.func12, Tryz.ntmps12
    go_wp2_with (go_at_call 19; refine (HR.out _).mono ?_; rintro e w1 ⟨rfl, hb1⟩)
    go_ret2
    exact ⟨rfl, hb1⟩
  rw [show childR l n = ((bs1 l.size ++ l) ++ n, 0) by rw [childR, if_neg hx, if_neg c3]]
  have q3 : decide ((255 : Int) < (n.size : Int) + 1 + (l.size : Int)) = false := decide_eq_false (by omega)
  have q5 : (l.size : Int) ≤ 63 := by omega
  have r1 : IntKind.u8.wrap (l.size : Int) = (l.size : Int) := IntWalk.u8_in _ (by omega)
  have hcv := fun W : World => conv_bs1 l.size (W.alloc (.cells #[.int .u8 (l.size : Int)] 5)) W.heap.size ((Blk.new W _ _).cell 0)
  have hz1 : (bs1 l.size ++ l).size = 1 + l.size := by rw [ByteArray.size_append]; rfl
  have hz0 : (bs1 l.size).size = 1 := rfl
  have n1 : ¬ 9223372036854775807 < (bs1 l.size).size + l.size := by omega
  have n2 : ¬ 9223372036854775807 < (bs1 l.size ++ l).size + n.size := by omega
  have HE := Lib.hid (show l.size ≤ 63 by omega)
  clear hr c1 c2 c3 hx hz1 hz0
  go_enter Tryz.func12, Tryz.ntmps12
  go_wp2_with (go_at_call 19; refine (HR.out _).mono ?_; rintro e w1 ⟨rfl, hb1⟩)
  go_ret2
  exact ⟨rfl, hb1.alloc hb1.size _⟩
end Go.Proofs.YtdflhnbpcnmpfaaGreatDoor

