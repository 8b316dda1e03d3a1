import Derived.Test.YtdflhnbpcnmpfaaGreatDoorSo10
/- A set of an NSEC that was made: right, and what is read of it. A plain law. -/
namespace Go.Proofs.YtdflhnbpcnmpfaaGreatDoor
open Go.RowKit

def endP (p : Nat) (l : List (Nat × ByteArray)) : Nat := if l = [] then p else endOf l
theorem endOf_next (x : Nat × ByteArray) (l : List (Nat × ByteArray)) : endOf (x :: l) = endP (x.1 + 1 + x.2.size) l := by
  cases l with
  | nil => rfl
  | cons y l => rw [endP, if_neg (by simp), endOf, endOf, List.getLast?_cons_cons]
theorem endP_le (s : ByteArray) (f p : Nat) : p ≤ endP p (labs s f p) := by
  rw [endP]
  split
  · exact Nat.le_refl _
  · rename_i h
    rw [endOf, List.getLast?_eq_some_getLast h]
    have := (labs_le s f p _ (List.getLast_mem h)).1
    simp only
    omega
theorem byt_append (n : ByteArray) (r : List UInt8) (i : Nat) (h : i < n.size) : byt (bs (n.data.toList ++ r)) i = byt n i := by
  have h' : i < n.data.toList.length := by simpa using h
  simp only [byt, bs, List.getD]
  rw [List.getElem?_append_left h']
theorem nskip_append (n : ByteArray) (r : List UInt8) (e : Nat) (he : e + 1 = n.size) (h0 : byt n e = 0) : ∀ f p F, n.size < p + f → p ≤ e → n.size ≤ p + F → endP p (labs n f p) = e → nskip (bs (n.data.toList ++ r)) F p = e := by
  intro f
  induction f with
  | zero => intro p F h1 h2 h3 _; omega
  | succ f ih =>
    intro p F h1 h2 h3 h4
    have hsz : (bs (n.data.toList ++ r)).size = n.size + r.length := by rw [bs_size]; simp
    obtain ⟨F, rfl⟩ : ∃ F', F = F' + 1 := ⟨F - 1, by omega⟩
    rw [labs] at h4
    by_cases hc : p < n.size ∧ byt n p ≠ 0 ∧ (byt n p).toNat ≤ 63 ∧ p + 1 + (byt n p).toNat ≤ n.size
    · rw [if_pos hc, endP, if_neg (by simp), endOf_next] at h4
      have e1 : (n.extract (p + 1) (p + 1 + (byt n p).toNat)).size = (byt n p).toNat := by rw [ByteArray.size_extract]; omega
      rw [e1] at h4
      have hb := byt_append n r p hc.1
      have hne : (byt n p).toNat ≠ 0 := fun h => hc.2.1 (UInt8.toNat_inj.1 (by simpa using h))
      rw [nskip, if_pos ⟨by omega, by rw [hb]; exact hne⟩, hb, show p + 1 + (byt n p).toNat = p + 1 + (byt n p).toNat from rfl]
      exact ih _ F (by omega) (by rw [← h4]; exact endP_le n f _) (by omega) h4
    · rw [if_neg hc, endP, if_pos rfl] at h4
      subst h4
      rw [nskip_end]
      rw [byt_append n r p (by omega), h0]
      simp
theorem nameT_append (n : ByteArray) (r : List UInt8) (h : nameRight n = true) : nameT (bs (n.data.toList ++ r)) = some (n, bs r) := by
  have hr := h
  simp only [nameRight, Bool.and_eq_true, decide_eq_true_eq, beq_iff_eq] at h
  obtain ⟨⟨⟨h1, h2⟩, h3⟩, h4⟩ := h
  have hsz : (bs (n.data.toList ++ r)).size = n.size + r.length := by rw [bs_size]; simp
  have hend : endP 0 (labs n (n.size + 1) 0) = nameEnd n := by
    rw [endP]
    split
    · rename_i h
      show 0 = endOf (labs n (n.size + 1) 0)
      rw [h]; rfl
    · rfl
  have hk := nskip_append n r (nameEnd n) h3 h4 (n.size + 1) 0 (bs (n.data.toList ++ r)).size (by omega) (Nat.zero_le _) (by omega) hend
  have hl : n.data.toList.length = n.size := by simp
  have e1 : (bs (n.data.toList ++ r)).extract 0 n.size = n := by
    rw [bs_tk, ← hl, List.take_left']
    · exact bs_toList n
    · rfl
  have e2 : (bs (n.data.toList ++ r)).extract n.size (n.size + r.length) = bs r := by
    have := bs_drop (n.data.toList ++ r) n.size
    rw [List.length_append, hl] at this
    rw [this, ← hl, List.drop_left']
    rfl
  rw [nameT, hk, h3, hsz, if_pos (by omega), e1, if_pos hr, e2]
theorem ofNsec_take (n : ByteArray) (ns : List Nat) (h : nameRight n = true) (hs : ns.Pairwise (· < ·)) (hb : ∀ x ∈ ns, x < 65536) :
    nsecT (bs (n.data.toList ++ encT ns.length ns)) = some (⟨n, nI ns⟩, ⟨#[]⟩) := by
  rw [nsecT, nameT_append n _ h]
  simp only
  rw [typesT_enc ns hs hb]
theorem encT_len (c : Nat) : ∀ (k : Nat) (ns : List Nat) (lo : Nat), ns.Pairwise (· < ·) → (∀ x ∈ ns, lo ≤ x / 256 ∧ x / 256 < c) → (encT k ns).length ≤ 34 * (c - lo) := by
  intro k
  induction k with
  | zero => intro ns lo _ _; exact Nat.zero_le _
  | succ k ih =>
    intro ns lo hs hb
    cases ns with
    | nil => rw [encT]; exact Nat.zero_le _
    | cons x t =>
      obtain ⟨g, h1, h2, h3, _, _, _, h7⟩ := win_enc x t hs
      have hx := hb x (by simp)
      rw [encT, List.length_append]
      have h8 := winE_len (x / 256) (bmG (x / 256) zero32 0 (x :: t)) h3
      generalize bmG (x / 256) zero32 0 (x :: t) = r at *
      have hs2 : r.2.2.Pairwise (· < ·) := by rw [h1, List.pairwise_append] at hs; exact hs.2.1
      have hb2 : ∀ y ∈ r.2.2, x / 256 + 1 ≤ y / 256 ∧ y / 256 < c := fun y hy => by
        refine ⟨?_, (hb y (by rw [h1]; exact List.mem_append_right _ hy)).2⟩
        cases hr : r.2.2 with
        | nil => rw [hr] at hy; cases hy
        | cons z t' =>
          have h9 := h7 z t' hr
          rw [hr] at hy hs2
          rcases List.mem_cons.1 hy with e | e
          · rw [e]; omega
          · have := (List.pairwise_cons.1 hs2).1 y e
            omega
      have := ih r.2.2 (x / 256 + 1) hs2 hb2
      omega
/-- Types that a zone of the law has: below 300, each greater than the one before. -/
def tyL (ns : List Nat) : Prop := ns.Pairwise (· < ·) ∧ ∀ x ∈ ns, x < 300
def nsecB (n : ByteArray) (ns : List Nat) : ByteArray := bs (n.data.toList ++ encT ns.length ns)
def nsecSet (o n : ByteArray) (ns : List Nat) : SetD := ⟨o, 47, 1, 0, [nsecB n ns], []⟩
theorem nsecB_size {n : ByteArray} {ns : List Nat} (h : nameRight n = true) (ht : tyL ns) : (nsecB n ns).size ≤ 400 := by
  simp only [nameRight, Bool.and_eq_true, decide_eq_true_eq, beq_iff_eq] at h
  have := encT_len 2 ns.length ns 0 ht.1 (fun x hx => by have := ht.2 x hx; omega)
  rw [nsecB, bs_size, List.length_append]
  have hl : n.data.toList.length = n.size := by simp
  omega
theorem ofNsec_some {n : ByteArray} {ns : List Nat} (h : nameRight n = true) (ht : tyL ns) : ofNsec n ns = some (nsecB n ns) := by
  have h1 := nsecB_size h ht
  rw [nsecB, bs_size] at h1
  rw [ofNsec, doneR, if_pos ⟨rfl, by omega⟩]
  rfl
theorem takeR_nsec {n : ByteArray} {ns : List Nat} (h : nameRight n = true) (ht : tyL ns) : takeR nsecT (nsecB n ns) = some ⟨n, nI ns⟩ :=
  takeR_some (Nat.le_trans (nsecB_size h ht) (by omega)) (ofNsec_take n ns h ht.1 fun x hx => by have := ht.2 x hx; omega) rfl
theorem nsecSet_right {o n : ByteArray} {ns : List Nat} (ho : nameRight o = true) (h : nameRight n = true) (ht : tyL ns) : rightS (nsecSet o n ns) = true := by
  have h1 := takeR_nsec h ht
  have h2 := nsecB_size h ht
  have h3 : dataRight 47 (nsecB n ns) = true := by
    have h4 : formRight 47 (nsecB n ns) = (takeR nsecT (nsecB n ns)).isSome := by simp [formRight]
    rw [dataRight, h4, h1, decide_eq_true (show (nsecB n ns).size ≤ 2000 by omega)]
    rfl
  simp [rightS, nsecSet, ho, btw, h3, uniq]
theorem nsecSet_prf {o n : ByteArray} {ns : List Nat} (h : nameRight n = true) (ht : tyL ns) : nsecPrf (nsecSet o n ns) = ⟨o, n, ⟨#[]⟩, nI ns, false⟩ := by
  have h1 := takeR_nsec h ht
  simp [nsecPrf, nsecSet, h1]
theorem nsecSet_read {o n apex : ByteArray} {ns : List Nat} (ho : nameRight o = true) (h : nameRight n = true) (ht : tyL ns) (hu : underB o apex = true) : readC apex (nsecSet o n ns) = true := by
  rw [readC, nsecSet_right ho h ht]
  simp [nsecSet, hu]
end Go.Proofs.YtdflhnbpcnmpfaaGreatDoor

/- denial.Name, over sets of NSEC. -/
namespace Go.Proofs.YtdflhnbpcnmpfaaGreatDoor
open Go.RowKit

def nameR (ps : List PrfD) (n apex : ByteArray) : Int :=
  if underB n apex = false then 0 else match ps.find? (coverQ n) with
    | none => 0
    | some p => if underB p.next n = true then 0 else if (wildR ps coverQ (p.encl n)).isSome = true then 1 else 0
theorem worth_plain (ok : Bool) : worthI ok zPrf = if ok = true then 1 else 0 := by cases ok <;> rfl
set_option maxRecDepth 100000 in
set_option maxHeartbeats 1000000 in
theorem den_name (l : List SetD) (v : Value) (n apex : ByteArray) (w : World) (hl : SetsAt v l w) (h47 : ∀ s ∈ l, s.kind = 47) (hne : readN l apex ≠ []) :
    Calls Tryz.prog 8 #[v, .string n, .string apex] w fun e w' => e = .returned (.int .i64 (nameR (readN l apex) n apex)) ∧ Below w.heap.size w w' := by
  have h1 := den_read l v apex w hl h47 hne
  have h2 : ∀ W, Calls Tryz.prog 22 #[.string n, .string apex] W (BoolB (underB n apex) W) := fun W => name_under n apex W
  obtain ⟨A, c, rfl, _⟩ := hl
  generalize readN l apex = ps at *
  have H1 := Lib.hid h1; have H2 := Lib.hid h2
  clear h1 h2 h47 hne
  cases hu : underB n apex with
  | false =>
    rw [hu] at H2
    have e : nameR ps n apex = 0 := by rw [nameR, if_pos hu]
    rw [e]
    clear hu e
    go_enter Tryz.func8, Tryz.ntmps8
    go_wp2_with (go_at_call 21; refine (Hid.out (p := _) ?_))
    refine Lib.hid ?_
    refine (H1.out).mono ?_
    rintro e w1 ⟨hb, b, rfl, hp⟩
    simp only []
    go_wp2_with (go_at_call 22; refine (H2.out _).mono ?_; rintro e w2 ⟨rfl, hb2⟩)
    go_ret
    exact ⟨rfl, hb.trans (hb2.mono hb.size)⟩
  | true =>
  rw [hu] at H2
  have hcv : ∀ b w0 W, PsAt b ps apex w0 → Below w0.heap.size w0 W → Calls Tryz.prog 27 #[.pointer (some ⟨b, 0, none⟩), .string n] W (GivesQ (coverQ n) W) := fun b w0 W h hb => den_covers b ps apex n W (h.below hb)
  have hfi : ∀ b w0 W, PsAt b ps apex w0 → Below w0.heap.size w0 W → ∀ k bnd, AsksP k bnd (coverQ n) W → Calls Tryz.prog 23 #[.pointer (some ⟨b, 0, none⟩), .func (.func k) #[] bnd] W (FirstP (ps.find? (coverQ n)) w0 W) := fun b w0 W h hb k bnd ha => den_first b ps apex k bnd (coverQ n) w0 W h hb ha
  have HC := Lib.hid hcv; have HF := Lib.hid hfi
  clear hcv hfi
  have hnr : nameR ps n apex = (match ps.find? (coverQ n) with
    | none => 0
    | some p => if underB p.next n = true then 0 else if (wildR ps coverQ (p.encl n)).isSome = true then 1 else 0) := by rw [nameR, hu]; rfl
  rw [hnr]
  clear hnr hu
  generalize ps.find? (coverQ n) = r at *
  cases r with
  | none =>
    go_enter Tryz.func8, Tryz.ntmps8
    go_wp2_with (go_at_call 21; refine (Hid.out (p := _) ?_))
    refine Lib.hid ?_
    refine (H1.out).mono ?_
    rintro e w1 ⟨hb, b, rfl, hp⟩
    have bl := hb
    simp only []
    go_wp2_with (go_at_call 22; refine (Hid.out (p := _) ?_))
    refine Lib.hid ?_
    refine (H2.out _).mono ?_
    rintro e w2 ⟨rfl, hb2⟩
    simp only []
    obtain ⟨lv, hx, _⟩ := id hp
    have d1 := (hx.below hb2 hx.lt).cell 1
    replace bl := bl.trans (hb2.mono bl.size)
    have HP := Lib.hid hp
    clear hx hp H1 H2
    go_wp2_with (go_at_call 27; refine (Hid.out (p := _) ?_))
    refine Lib.hid ?_
    refine (HC.out _ _ _ HP.out hb2).mono ?_
    rintro e w3 ⟨hb3, k, bnd, rfl, ha⟩
    have hb23 := hb2.trans (hb3.mono hb2.size)
    replace bl := bl.trans (hb3.mono bl.size)
    clear hb hb2 hb3
    simp only []
    have HFF := Lib.hid (HF.out _ _ _ HP.out hb23 k bnd ha)
    clear ha HC HF d1
    go_wp2_with (go_at_call 23; refine (Hid.out (p := _) ?_))
    refine Lib.hid ?_
    refine (HFF.out).mono ?_
    rintro e w4 ⟨hb4, tv, he, hti⟩
    replace bl := bl.trans (hb4.mono bl.size)
    have b14 := hb23.trans (hb4.mono hb23.size)
    clear hb4 hb23 HFF
    obtain ⟨A2, c2, rfl, _⟩ := hti
    simp only [Option.getD_none, zPrf, PrfD.v, Option.isSome_none] at he
    subst he
    simp only []
    go_wp2_with fail
    go_ret
    exact ⟨rfl, bl.alloc bl.size _⟩
  | some p =>
    have hen : ∀ W tv, IntsAt tv p.types W → Calls Tryz.prog 29 #[p.v tv, .string n] W fun e w' => e = .returned (.string (p.encl n)) ∧ Below W.heap.size W w' := fun W tv h => prf_encloser p tv n W h
    have hwl : ∀ b W, PsAt b ps apex W → Calls Tryz.prog 26 #[.pointer (some ⟨b, 0, none⟩), .string (p.encl n), .func (.func 27) #[.pointer (some ⟨b, 0, none⟩)] #[]] W (FirstP (wildR ps coverQ (p.encl n)) W W) := fun b W h => den_wild b ps apex (p.encl n) 27 coverQ W h (meth_covers b ps apex W h)
    simp only []
    generalize p.encl n = en at *
    generalize wildR ps coverQ en = wr at *
    obtain ⟨x0, x1, x2, x3, x4⟩ := p
    have hu2 : ∀ W, Calls Tryz.prog 22 #[.string x1, .string n] W (BoolB (underB x1 n) W) := fun W => name_under x1 n W
    simp only []
    generalize hun : underB x1 n = un at *
    have HU2 := Lib.hid hu2; have HEN := Lib.hid hen; have HWL := Lib.hid hwl
    clear hu2 hen hwl hun
    have hmf := makeFunc_run
    cases un with
    | true =>
      go_enter Tryz.func8, Tryz.ntmps8
      go_wp2_with (go_at_call 21; refine (Hid.out (p := _) ?_))
      refine Lib.hid ?_
      refine (H1.out).mono ?_
      rintro e w1 ⟨hb, b, rfl, hp⟩
      have bl := hb
      simp only []
      go_wp2_with (go_at_call 22; refine (Hid.out (p := _) ?_))
      refine Lib.hid ?_
      refine (H2.out _).mono ?_
      rintro e w2 ⟨rfl, hb2⟩
      simp only []
      obtain ⟨lv, hx, _⟩ := id hp
      have d1 := (hx.below hb2 hx.lt).cell 1
      replace bl := bl.trans (hb2.mono bl.size)
      have HP := Lib.hid hp
      clear hx hp H1 H2
      go_wp2_with (go_at_call 27; refine (Hid.out (p := _) ?_))
      refine Lib.hid ?_
      refine (HC.out _ _ _ HP.out hb2).mono ?_
      rintro e w3 ⟨hb3, k, bnd, rfl, ha⟩
      have hb23 := hb2.trans (hb3.mono hb2.size)
      replace bl := bl.trans (hb3.mono bl.size)
      clear hb hb2 hb3
      simp only []
      have HFF := Lib.hid (HF.out _ _ _ HP.out hb23 k bnd ha)
      clear ha HC HF d1
      go_wp2_with (go_at_call 23; refine (Hid.out (p := _) ?_))
      refine Lib.hid ?_
      refine (HFF.out).mono ?_
      rintro e w4 ⟨hb4, tv, he, hti⟩
      replace bl := bl.trans (hb4.mono bl.size)
      have b14 := hb23.trans (hb4.mono hb23.size)
      clear hb4 hb23 HFF
      obtain ⟨A2, c2, rfl, hti⟩ := hti
      simp only [Option.getD_some, PrfD.v, Option.isSome_some] at he
      subst he
      simp only []
      have bA := bl.alloc bl.size (.cells #[.string x0, .string x1, .string x2, .slice A2 x3.length c2, .bool x4] 58)
      go_wp2_with (go_at_call 22; refine (HU2.out _).mono ?_; rintro e w5 ⟨rfl, hb5⟩; replace bA := bA.trans (hb5.mono bA.size))
      go_ret
      exact ⟨rfl, bA⟩
    | false =>
      cases hws : wr.isSome
      all_goals
        go_enter Tryz.func8, Tryz.ntmps8
        go_wp2_with (go_at_call 21; refine (Hid.out (p := _) ?_))
        refine Lib.hid ?_
        refine (H1.out).mono ?_
        rintro e w1 ⟨hb, b, rfl, hp⟩
        have bl := hb
        simp only []
        go_wp2_with (go_at_call 22; refine (Hid.out (p := _) ?_))
        refine Lib.hid ?_
        refine (H2.out _).mono ?_
        rintro e w2 ⟨rfl, hb2⟩
        simp only []
        obtain ⟨lv, hx, _⟩ := id hp
        have d1 := (hx.below hb2 hx.lt).cell 1
        replace bl := bl.trans (hb2.mono bl.size)
        have HP := Lib.hid hp
        clear hx hp H1 H2
        go_wp2_with (go_at_call 27; refine (Hid.out (p := _) ?_))
        refine Lib.hid ?_
        refine (HC.out _ _ _ HP.out hb2).mono ?_
        rintro e w3 ⟨hb3, k, bnd, rfl, ha⟩
        have hb23 := hb2.trans (hb3.mono hb2.size)
        replace bl := bl.trans (hb3.mono bl.size)
        clear hb hb2 hb3
        simp only []
        have HFF := Lib.hid (HF.out _ _ _ HP.out hb23 k bnd ha)
        clear ha HC HF d1
        go_wp2_with (go_at_call 23; refine (Hid.out (p := _) ?_))
        refine Lib.hid ?_
        refine (HFF.out).mono ?_
        rintro e w4 ⟨hb4, tv, he, hti⟩
        replace bl := bl.trans (hb4.mono bl.size)
        have b14 := hb23.trans (hb4.mono hb23.size)
        clear hb4 hb23 HFF
        have hti0 := hti
        obtain ⟨A2, c2, rfl, hti⟩ := hti
        simp only [Option.getD_some, PrfD.v, Option.isSome_some] at he
        subst he
        simp only []
        have bA := bl.alloc bl.size (.cells #[.string x0, .string x1, .string x2, .slice A2 x3.length c2, .bool x4] 58)
        have bB := b14.alloc b14.size (.cells #[.string x0, .string x1, .string x2, .slice A2 x3.length c2, .bool x4] 58)
        have hN := Blk.new w4 #[.string x0, .string x1, .string x2, .slice A2 x3.length c2, .bool x4] 58
        go_wp2_with (go_at_call 22; refine (Hid.out (p := _) ?_))
        refine Lib.hid ?_
        refine (HU2.out _).mono ?_
        rintro e w5 ⟨rfl, hb5⟩
        replace bA := bA.trans (hb5.mono bA.size)
        replace bB := bB.trans (hb5.mono bB.size)
        replace hN := hN.below hb5 hN.lt
        clear hb5
        have c0 := hN.cell 0; have c1 := hN.cell 1; have c2' := hN.cell 2; have c3 := hN.cell 3; have c4 := hN.cell 4
        simp only []
        have HE5 := Lib.hid (HEN.out w5 _ (hti0.below bB))
        go_wp2_with (go_at_call 29; refine (Hid.out (p := _) ?_))
        refine Lib.hid ?_
        refine (HE5.out).mono ?_
        rintro e w6 ⟨rfl, hb6⟩
        replace bA := bA.trans (hb6.mono bA.size)
        replace bB := bB.trans (hb6.mono bB.size)
        clear hb6 c0 c1 c2' c3 c4 hN
        simp only []
        have HW6 := Lib.hid (HWL.out b w6 (HP.out.below bB))
        go_wp2_with (go_at_call 26; refine (Hid.out (p := _) ?_))
        refine Lib.hid ?_
        refine (HW6.out).mono ?_
        rintro e w7 ⟨hb7, tv7, he7, hti7⟩
        replace bA := bA.trans (hb7.mono bA.size)
        rw [hws] at he7
        subst he7
        simp only []
        have HW8 := Lib.hid (fun ok => den_worth ok zPrf (.slice none 0 0) w7 (IntsAt.nil _))
        go_wp2_with (go_at_call 28; refine (Hid.out (p := _) ?_))
        refine Lib.hid ?_
        refine (HW8.out _).mono ?_
        rintro e w8 ⟨rfl, hb8⟩
        replace bA := bA.trans (hb8.mono bA.size)
        simp only []
        go_wp2_with fail
        go_ret
        exact ⟨rfl, bA⟩
end Go.Proofs.YtdflhnbpcnmpfaaGreatDoor

/- denial.Type and denial.Cut, over sets of NSEC, for a name that has one. -/
namespace Go.Proofs.YtdflhnbpcnmpfaaGreatDoor
open Go.RowKit

set_option maxRecDepth 100000 in
set_option maxHeartbeats 1000000 in
theorem den_type (l : List SetD) (v : Value) (n apex : ByteArray) (kind : Int) (p : PrfD) (w : World) (hl : SetsAt v l w) (h47 : ∀ s ∈ l, s.kind = 47) (hne : readN l apex ≠ []) (hu : underB n apex = true) (hk0 : 0 ≤ kind) (hk1 : kind ≤ 65535) (hm : (readN l apex).find? (matchQ n) = some p) :
    Calls Tryz.prog 10 #[v, .string n, .int .i64 kind, .string apex] w fun e w' => e = .returned (.int .i64 (worthI (p.lacks kind) zPrf)) ∧ Below w.heap.size w w' := by
  have h1 := den_read l v apex w hl h47 hne
  have h2 : ∀ W, Calls Tryz.prog 22 #[.string n, .string apex] W (BoolB (underB n apex) W) := fun W => name_under n apex W
  rw [hu] at h2
  obtain ⟨A, c, rfl, _⟩ := hl
  generalize readN l apex = ps at *
  have hcv : ∀ b w0 W, PsAt b ps apex w0 → Below w0.heap.size w0 W → Calls Tryz.prog 24 #[.pointer (some ⟨b, 0, none⟩), .string n] W (GivesQ (matchQ n) W) := fun b w0 W h hb => den_matches b ps apex n W (h.below hb)
  have hfi : ∀ b w0 W, PsAt b ps apex w0 → Below w0.heap.size w0 W → ∀ k bnd, AsksP k bnd (matchQ n) W → Calls Tryz.prog 23 #[.pointer (some ⟨b, 0, none⟩), .func (.func k) #[] bnd] W (FirstP (some p) w0 W) := fun b w0 W h hb k bnd ha => by
    have := den_first b ps apex k bnd (matchQ n) w0 W h hb ha
    rw [hm] at this; exact this
  have hlk : ∀ W tv, IntsAt tv p.types W → Calls Tryz.prog 31 #[p.v tv, .int .i64 kind] W (BoolB (p.lacks kind) W) := fun W tv h => prf_lacks p tv kind W h
  generalize p.lacks kind = lk at *
  obtain ⟨x0, x1, x2, x3, x4⟩ := p
  have H1 := Lib.hid h1; have H2 := Lib.hid h2; have HC := Lib.hid hcv; have HF := Lib.hid hfi; have HL := Lib.hid hlk
  clear h1 h2 hcv hfi hlk hm hu h47 hne
  have q1 : decide (kind < 0) = false := decide_eq_false (by omega)
  have q2 : decide ((65535 : Int) < kind) = false := decide_eq_false (by omega)
  go_enter Tryz.func10, Tryz.ntmps10
  go_wp2_with (go_at_call 21; refine (Hid.out (p := _) ?_))
  refine Lib.hid ?_
  refine (H1.out).mono ?_
  rintro e w1 ⟨hb, b, rfl, hp⟩
  have bl := hb
  simp only []
  go_wp2_with (go_at_call 22; refine (Hid.out (p := _) ?_))
  refine Lib.hid ?_
  refine (H2.out _).mono ?_
  rintro e w2 ⟨rfl, hb2⟩
  simp only []
  replace bl := bl.trans (hb2.mono bl.size)
  have HP := Lib.hid hp
  clear hp H1 H2
  go_wp2_with (go_at_call 24; refine (Hid.out (p := _) ?_))
  refine Lib.hid ?_
  refine (HC.out _ _ _ HP.out hb2).mono ?_
  rintro e w3 ⟨hb3, k, bnd, rfl, ha⟩
  have hb23 := hb2.trans (hb3.mono hb2.size)
  replace bl := bl.trans (hb3.mono bl.size)
  clear hb hb2 hb3
  simp only []
  have HFF := Lib.hid (HF.out _ _ _ HP.out hb23 k bnd ha)
  clear ha HC HF
  go_wp2_with (go_at_call 23; refine (Hid.out (p := _) ?_))
  refine Lib.hid ?_
  refine (HFF.out).mono ?_
  rintro e w4 ⟨hb4, tv, he, hti⟩
  replace bl := bl.trans (hb4.mono bl.size)
  have b14 := hb23.trans (hb4.mono hb23.size)
  clear hb4 hb23 HFF
  have hti0 := hti
  obtain ⟨A2, c2, rfl, hti⟩ := hti
  simp only [Option.getD_some, PrfD.v, Option.isSome_some] at he
  subst he
  simp only []
  have bA := bl.alloc bl.size (.cells #[.string x0, .string x1, .string x2, .slice A2 x3.length c2, .bool x4] 58)
  have bB := b14.alloc b14.size (.cells #[.string x0, .string x1, .string x2, .slice A2 x3.length c2, .bool x4] 58)
  have HL4 := Lib.hid (HL.out _ _ (hti0.below bB))
  go_wp2_with (go_at_call 31; refine (Hid.out (p := _) ?_))
  refine Lib.hid ?_
  refine (HL4.out).mono ?_
  rintro e w5 ⟨rfl, hb5⟩
  replace bA := bA.trans (hb5.mono bA.size)
  clear hb5
  simp only []
  have HW8 := Lib.hid (fun ok => den_worth ok zPrf (.slice none 0 0) w5 (IntsAt.nil _))
  go_wp2_with (go_at_call 28; refine (Hid.out (p := _) ?_))
  refine Lib.hid ?_
  refine (HW8.out _).mono ?_
  rintro e w6 ⟨rfl, hb6⟩
  replace bA := bA.trans (hb6.mono bA.size)
  simp only []
  go_wp2_with fail
  go_ret
  exact ⟨rfl, bA⟩
set_option maxRecDepth 100000 in
set_option maxHeartbeats 1000000 in
theorem den_cut (l : List SetD) (v : Value) (n apex : ByteArray) (p : PrfD) (w : World) (hl : SetsAt v l w) (h47 : ∀ s ∈ l, s.kind = 47) (hne : readN l apex ≠ []) (hu : underB n apex = true) (hm : (readN l apex).find? (matchQ n) = some p) :
    Calls Tryz.prog 9 #[v, .string n, .string apex] w fun e w' => e = .returned (.int .i64 (if nameEq n apex = true then 0 else worthI p.bare zPrf)) ∧ Below w.heap.size w w' := by
  have h1 := den_read l v apex w hl h47 hne
  have h2 : ∀ W, Calls Tryz.prog 22 #[.string n, .string apex] W (BoolB (underB n apex) W) := fun W => name_under n apex W
  have h3 : ∀ W, Calls Tryz.prog 7 #[.string n, .string apex] W (BoolB (nameEq n apex) W) := fun W => name_equal n apex W
  rw [hu] at h2
  obtain ⟨A, c, rfl, _⟩ := hl
  generalize readN l apex = ps at *
  generalize nameEq n apex = ne at *
  have hcv : ∀ b w0 W, PsAt b ps apex w0 → Below w0.heap.size w0 W → Calls Tryz.prog 24 #[.pointer (some ⟨b, 0, none⟩), .string n] W (GivesQ (matchQ n) W) := fun b w0 W h hb => den_matches b ps apex n W (h.below hb)
  have hfi : ∀ b w0 W, PsAt b ps apex w0 → Below w0.heap.size w0 W → ∀ k bnd, AsksP k bnd (matchQ n) W → Calls Tryz.prog 23 #[.pointer (some ⟨b, 0, none⟩), .func (.func k) #[] bnd] W (FirstP (some p) w0 W) := fun b w0 W h hb k bnd ha => by
    have := den_first b ps apex k bnd (matchQ n) w0 W h hb ha
    rw [hm] at this; exact this
  have hlk : ∀ W tv, IntsAt tv p.types W → Calls Tryz.prog 30 #[p.v tv] W (BoolB p.bare W) := fun W tv h => prf_bare p tv W h
  generalize p.bare = lk at *
  obtain ⟨x0, x1, x2, x3, x4⟩ := p
  have H1 := Lib.hid h1; have H2 := Lib.hid h2; have H3 := Lib.hid h3; have HC := Lib.hid hcv; have HF := Lib.hid hfi; have HL := Lib.hid hlk
  clear h1 h2 h3 hcv hfi hlk hm hu h47 hne
  cases ne with
  | true =>
    go_enter Tryz.func9, Tryz.ntmps9
    go_wp2_with (go_at_call 21; refine (Hid.out (p := _) ?_))
    refine Lib.hid ?_
    refine (H1.out).mono ?_
    rintro e w1 ⟨hb, b, rfl, hp⟩
    have bl := hb
    simp only []
    go_wp2_with (go_at_call 22; refine (Hid.out (p := _) ?_))
    refine Lib.hid ?_
    refine (H2.out _).mono ?_
    rintro e w2 ⟨rfl, hb2⟩
    simp only []
    replace bl := bl.trans (hb2.mono bl.size)
    go_wp2_with (go_at_call 7; refine (Hid.out (p := _) ?_))
    refine Lib.hid ?_
    refine (H3.out _).mono ?_
    rintro e w3 ⟨rfl, hb3⟩
    replace bl := bl.trans (hb3.mono bl.size)
    simp only []
    go_wp2_with fail
    go_ret
    exact ⟨rfl, bl⟩
  | false =>
    go_enter Tryz.func9, Tryz.ntmps9
    go_wp2_with (go_at_call 21; refine (Hid.out (p := _) ?_))
    refine Lib.hid ?_
    refine (H1.out).mono ?_
    rintro e w1 ⟨hb, b, rfl, hp⟩
    have bl := hb
    simp only []
    go_wp2_with (go_at_call 22; refine (Hid.out (p := _) ?_))
    refine Lib.hid ?_
    refine (H2.out _).mono ?_
    rintro e w2 ⟨rfl, hb2⟩
    simp only []
    replace bl := bl.trans (hb2.mono bl.size)
    go_wp2_with (go_at_call 7; refine (Hid.out (p := _) ?_))
    refine Lib.hid ?_
    refine (H3.out _).mono ?_
    rintro e w9 ⟨rfl, hb9⟩
    replace bl := bl.trans (hb9.mono bl.size)
    replace hb2 := hb2.trans (hb9.mono hb2.size)
    clear hb9
    simp only []
    have HP := Lib.hid hp
    clear hp H1 H2
    go_wp2_with (go_at_call 24; refine (Hid.out (p := _) ?_))
    refine Lib.hid ?_
    refine (HC.out _ _ _ HP.out hb2).mono ?_
    rintro e w3 ⟨hb3, k, bnd, rfl, ha⟩
    have hb23 := hb2.trans (hb3.mono hb2.size)
    replace bl := bl.trans (hb3.mono bl.size)
    clear hb hb2 hb3
    simp only []
    have HFF := Lib.hid (HF.out _ _ _ HP.out hb23 k bnd ha)
    clear ha HC HF
    go_wp2_with (go_at_call 23; refine (Hid.out (p := _) ?_))
    refine Lib.hid ?_
    refine (HFF.out).mono ?_
    rintro e w4 ⟨hb4, tv, he, hti⟩
    replace bl := bl.trans (hb4.mono bl.size)
    have b14 := hb23.trans (hb4.mono hb23.size)
    clear hb4 hb23 HFF
    have hti0 := hti
    obtain ⟨A2, c2, rfl, hti⟩ := hti
    simp only [Option.getD_some, PrfD.v, Option.isSome_some] at he
    subst he
    simp only []
    have bA := bl.alloc bl.size (.cells #[.string x0, .string x1, .string x2, .slice A2 x3.length c2, .bool x4] 58)
    have bB := b14.alloc b14.size (.cells #[.string x0, .string x1, .string x2, .slice A2 x3.length c2, .bool x4] 58)
    have HL4 := Lib.hid (HL.out _ _ (hti0.below bB))
    go_wp2_with (go_at_call 30; refine (Hid.out (p := _) ?_))
    refine Lib.hid ?_
    refine (HL4.out).mono ?_
    rintro e w5 ⟨rfl, hb5⟩
    replace bA := bA.trans (hb5.mono bA.size)
    clear hb5
    simp only []
    have HW8 := Lib.hid (fun ok => den_worth ok zPrf (.slice none 0 0) w5 (IntsAt.nil _))
    go_wp2_with (go_at_call 28; refine (Hid.out (p := _) ?_))
    refine Lib.hid ?_
    refine (HW8.out _).mono ?_
    rintro e w6 ⟨rfl, hb6⟩
    replace bA := bA.trans (hb6.mono bA.size)
    simp only []
    go_wp2_with fail
    go_ret
    exact ⟨rfl, bA⟩
end Go.Proofs.YtdflhnbpcnmpfaaGreatDoor

/- A zone's names in a row, and the NSECs between them: a plain law. -/
namespace Go.Proofs.YtdflhnbpcnmpfaaGreatDoor
open Go.RowKit

/-- x. or a name right under it. -/
def Zn (n : ByteArray) : Prop := n = xB ∨ ∃ l, labOk l ∧ n = kid l
theorem Zn.right {n : ByteArray} (h : Zn n) : nameRight n = true := by
  rcases h with rfl | ⟨l, h, rfl⟩
  · exact xB_right
  · exact kid_right h
theorem Zn.under {n : ByteArray} (h : Zn n) : underB n xB = true := by
  rcases h with rfl | ⟨l, h, rfl⟩
  · exact under_xx
  · exact under_x h
theorem nameEq_symm {a b : ByteArray} : nameEq a b = nameEq b a := by
  unfold nameEq
  rw [Bool.and_comm (nameRight a), show decide (nameLower a = nameLower b) = decide (nameLower b = nameLower a) from decide_eq_decide.2 eq_comm]
theorem Zn.notUnder {p : ByteArray} (h : Zn p) {l : ByteArray} (k : labOk l) (hne : nameEq p (kid l) = false) : underB p (kid l) = false := by
  rcases h with rfl | ⟨m, h, rfl⟩
  · exact under_no k
  · exact under_kid h k hne
theorem common_kid {l : ByteArray} (k : labOk l) {p : ByteArray} (h : Zn p) (hne : nameEq p (kid l) = false) : commonR (kid l) p = (xB, 0) := by
  rw [commonR, if_pos ⟨kid_right k, h.right⟩, kid_labels k, commonL]
  have e6 : (kid l).extract 0 (kid l).size = kid l := by apply bytes_toList_ext; simp
  simp only
  rw [e6, h.notUnder k hne, commonL]
  simp only
  rw [kid_ext, h.under]
  rfl
theorem encl_kid {l : ByteArray} (k : labOk l) {p : PrfD} (ho : Zn p.owner) (hn : Zn p.next) (h1 : nameEq p.owner (kid l) = false) (h2 : nameEq p.next (kid l) = false) : p.encl (kid l) = xB := by
  rw [PrfD.encl, common_kid k ho h1, common_kid k hn h2]
  simp

def nm (z : List (ByteArray × List Nat)) (i : Nat) : ByteArray := (z.getD i (xB, [])).1
def ty (z : List (ByteArray × List Nat)) (i : Nat) : List Nat := (z.getD i (xB, [])).2
/-- A zone: the apex, and names right under it, in order; no cuts, no DNAMEs. -/
structure Zone (z : List (ByteArray × List Nat)) : Prop where
  pos : 0 < z.length
  name0 : nm z 0 = xB
  types0 : ty z 0 = [2, 6, 47]
  kids : ∀ i, 0 < i → i < z.length → ∃ l, labOk l ∧ nm z i = kid l
  types : ∀ i, 0 < i → i < z.length → tyL (ty z i) ∧ ∀ t ∈ ty z i, 2 < t ∧ t ≠ 6 ∧ t ≠ 39
  order : ∀ i j, i < j → j < z.length → nameCmp (nm z i) (nm z j) < 0
theorem Zone.zn {z : List (ByteArray × List Nat)} (h : Zone z) {i : Nat} (hi : i < z.length) : Zn (nm z i) := by
  rcases Nat.eq_zero_or_pos i with rfl | h0
  · exact .inl h.name0
  · exact .inr (h.kids i h0 hi)
theorem Zone.tyL {z : List (ByteArray × List Nat)} (h : Zone z) {i : Nat} (hi : i < z.length) : tyL (ty z i) := by
  rcases Nat.eq_zero_or_pos i with rfl | h0
  · rw [h.types0]; exact ⟨by decide, by decide⟩
  · exact (h.types i h0 hi).1
def nxt (z : List (ByteArray × List Nat)) (i : Nat) : Nat := (i + 1) % z.length
theorem nxt_lt {z : List (ByteArray × List Nat)} (h : 0 < z.length) (i : Nat) : nxt z i < z.length := Nat.mod_lt _ h
def zoneSets (z : List (ByteArray × List Nat)) : List SetD := (List.range z.length).map fun i => nsecSet (nm z i) (nm z (nxt z i)) (ty z i)
def zonePrf (z : List (ByteArray × List Nat)) (i : Nat) : PrfD := ⟨nm z i, nm z (nxt z i), ⟨#[]⟩, nI (ty z i), false⟩
def zonePrfs (z : List (ByteArray × List Nat)) : List PrfD := (List.range z.length).map (zonePrf z)
theorem zone_read {z : List (ByteArray × List Nat)} (h : Zone z) : readN (zoneSets z) xB = zonePrfs z := by
  have hf : (zoneSets z).filter (readC xB) = zoneSets z := by
    rw [List.filter_eq_self]
    intro s hs
    obtain ⟨i, hi, rfl⟩ := List.mem_map.1 hs
    have hi := List.mem_range.1 hi
    exact nsecSet_read (h.zn hi).right (h.zn (nxt_lt h.pos i)).right (h.tyL hi) (h.zn hi).under
  rw [readN, hf, zoneSets, zonePrfs, List.map_map]
  refine List.map_congr_left fun i hi => ?_
  have hi := List.mem_range.1 hi
  exact nsecSet_prf (h.zn (nxt_lt h.pos i)).right (h.tyL hi)
theorem zone_47 (z : List (ByteArray × List Nat)) : ∀ s ∈ zoneSets z, s.kind = 47 := by
  intro s hs
  obtain ⟨i, _, rfl⟩ := List.mem_map.1 hs
  rfl
theorem zone_ne {z : List (ByteArray × List Nat)} (h : Zone z) : readN (zoneSets z) xB ≠ [] := by
  rw [zone_read h]
  intro e
  have := congrArg List.length e
  have hp := h.pos
  simp [zonePrfs] at this
  rw [this] at hp
  exact absurd hp (by decide)
theorem has_nI (o n hs : ByteArray) (ns : List Nat) (b : Bool) (k : Nat) : (PrfD.mk o n hs (nI ns) b).has (k : Int) = decide (k ∈ ns) := by
  rw [PrfD.has, Bool.eq_iff_iff, List.contains_iff_mem, decide_eq_true_eq, nI, List.mem_map]
  constructor
  · rintro ⟨m, hm, e⟩
    obtain rfl : m = k := by omega
    exact hm
  · exact fun hm => ⟨k, hm, rfl⟩
theorem zone_closed {z : List (ByteArray × List Nat)} (h : Zone z) {i : Nat} (hi : i < z.length) : ((zonePrf z i).has 2 && !(zonePrf z i).has 6 || (zonePrf z i).has 39) = false := by
  have e2 := has_nI (nm z i) (nm z (nxt z i)) ⟨#[]⟩ (ty z i) false 2
  have e6 := has_nI (nm z i) (nm z (nxt z i)) ⟨#[]⟩ (ty z i) false 6
  have e39 := has_nI (nm z i) (nm z (nxt z i)) ⟨#[]⟩ (ty z i) false 39
  rw [show ((2 : Nat) : Int) = 2 from rfl] at e2
  rw [show ((6 : Nat) : Int) = 6 from rfl] at e6
  rw [show ((39 : Nat) : Int) = 39 from rfl] at e39
  rw [zonePrf, e2, e6, e39]
  rcases Nat.eq_zero_or_pos i with rfl | h0
  · rw [h.types0]; decide
  · have ht := (h.types i h0 hi).2
    have n2 : 2 ∉ ty z i := fun hm => by have := ht 2 hm; omega
    have n39 : 39 ∉ ty z i := fun hm => (ht 39 hm).2.2 rfl
    simp [n2, n39]
theorem zone_cover {z : List (ByteArray × List Nat)} (h : Zone z) (n : ByteArray) {i : Nat} (hi : i < z.length) : coverQ n (zonePrf z i) = btwB (nm z i) n (nm z (nxt z i)) := by
  rw [coverQ, zone_closed h hi]
  simp [zonePrf]
theorem last_with (P : Nat → Prop) [DecidablePred P] : ∀ n, 0 < n → P 0 → ∃ i, i < n ∧ P i ∧ (i + 1 < n → ¬ P (i + 1)) := by
  intro n
  induction n with
  | zero => intro h; omega
  | succ n ih =>
    intro _ h0
    by_cases hn : n = 0
    · subst hn; exact ⟨0, by omega, h0, by omega⟩
    · by_cases hp : P n
      · exact ⟨n, by omega, hp, by omega⟩
      · obtain ⟨i, h1, h2, h3⟩ := ih (by omega) h0
        refine ⟨i, by omega, h2, fun h4 => ?_⟩
        by_cases h5 : i + 1 < n
        · exact h3 h5
        · rw [show i + 1 = n by omega]; exact hp
theorem nameCmp_cong {a b c : ByteArray} (h : nameEq b c = true) : nameCmp a b = nameCmp a c ∧ nameCmp b a = nameCmp c a := by
  have h' := h
  simp only [nameEq, Bool.and_eq_true, decide_eq_true_eq] at h'
  obtain ⟨⟨h1, h2⟩, h3⟩ := h'
  have e : backLabels b = backLabels c := by rw [backLabels, backLabels, h3]
  unfold nameCmp
  rw [h1, h2, e]
  exact ⟨rfl, rfl⟩
theorem zone_in {z : List (ByteArray × List Nat)} (h : Zone z) {n : ByteArray} {j : Nat} (hj : j < z.length) (he : nameEq (nm z j) n = true) : ∀ i, i < z.length → btwB (nm z i) n (nm z (nxt z i)) = false := by
  intro i hi
  have hr : nameRight n = true := by simp only [nameEq, Bool.and_eq_true] at he; exact he.1.2
  have hc := fun a => nameCmp_cong (a := a) he
  rw [btwB, (h.zn hi).right, hr, (h.zn (nxt_lt h.pos i)).right]
  simp only [Bool.and_self, Bool.true_eq_false, if_false]
  rw [← (hc (nm z i)).1, ← (hc (nm z (nxt z i))).2]
  have hlt : nameCmp (nm z i) (nm z j) < 0 → i < j := fun h1 => by
    rcases Nat.lt_trichotomy i j with h2 | h2 | h2
    · exact h2
    · subst h2; rw [nameCmp_self _ (h.zn hi).right] at h1; omega
    · have := h.order j i h2 hi
      have := nameCmp_anti (h.zn hi).right (h.zn hj).right
      omega
  have hlt2 : ∀ k, k < z.length → nameCmp (nm z j) (nm z k) < 0 → j < k := fun k hk h1 => by
    rcases Nat.lt_trichotomy j k with h2 | h2 | h2
    · exact h2
    · subst h2; rw [nameCmp_self _ (h.zn hj).right] at h1; omega
    · have := h.order k j h2 hj
      have := nameCmp_anti (h.zn hj).right (h.zn hk).right
      omega
  by_cases hl : i + 1 < z.length
  · have e : nxt z i = i + 1 := Nat.mod_eq_of_lt hl
    rw [e, if_pos (h.order i (i + 1) (Nat.lt_succ_self _) hl)]
    rw [Bool.and_eq_false_iff, decide_eq_false_iff_not, decide_eq_false_iff_not]
    by_cases h1 : nameCmp (nm z i) (nm z j) < 0
    · refine .inr fun h2 => ?_
      have := hlt h1
      have := hlt2 (i + 1) hl h2
      omega
    · exact .inl h1
  · have e : nxt z i = 0 := by rw [nxt, show i + 1 = z.length by omega, Nat.mod_self]
    have hn : ¬ nameCmp (nm z i) (nm z 0) < 0 := by
      rcases Nat.eq_zero_or_pos i with h0 | h0
      · rw [h0, nameCmp_self _ (h.zn h.pos).right]; omega
      · have := h.order 0 i h0 hi
        have := nameCmp_anti (h.zn h.pos).right (h.zn hi).right
        omega
    rw [e, if_neg hn, Bool.or_eq_false_iff, decide_eq_false_iff_not, Bool.and_eq_false_iff, decide_eq_false_iff_not]
    exact ⟨fun h1 => by have := hlt h1; omega, .inl fun h1 => by have := hlt2 0 h.pos h1; omega⟩
theorem zone_out {z : List (ByteArray × List Nat)} (h : Zone z) {l : ByteArray} (k : labOk l) (hne : ∀ i, i < z.length → nameEq (nm z i) (kid l) = false) : ∃ i, i < z.length ∧ btwB (nm z i) (kid l) (nm z (nxt z i)) = true := by
  have hr := kid_right k
  obtain ⟨i, hi, h1, h2⟩ := last_with (fun i => nameCmp (nm z i) (kid l) < 0) z.length h.pos (by rw [h.name0]; exact cmp_x_kid k)
  refine ⟨i, hi, ?_⟩
  rw [btwB, (h.zn hi).right, hr, (h.zn (nxt_lt h.pos i)).right]
  simp only [Bool.and_self, Bool.true_eq_false, if_false]
  by_cases hl : i + 1 < z.length
  · have e : nxt z i = i + 1 := Nat.mod_eq_of_lt hl
    have h3 := h2 hl
    have h4 : nameCmp (nm z (i + 1)) (kid l) ≠ 0 := fun e => by
      have := (nameCmp_eq (h.zn hl).right hr).1 e
      rw [hne _ hl] at this; cases this
    have h5 := nameCmp_anti (h.zn hl).right hr
    rw [e, if_pos (h.order i (i + 1) (Nat.lt_succ_self _) hl), decide_eq_true h1, decide_eq_true (by omega)]
    rfl
  · have e : nxt z i = 0 := by rw [nxt, show i + 1 = z.length by omega, Nat.mod_self]
    have hn : ¬ nameCmp (nm z i) (nm z 0) < 0 := by
      rcases Nat.eq_zero_or_pos i with h0 | h0
      · rw [h0, nameCmp_self _ (h.zn h.pos).right]; omega
      · have := h.order 0 i h0 hi
        have := nameCmp_anti (h.zn h.pos).right (h.zn hi).right
        omega
    rw [e, if_neg hn, decide_eq_true h1]
    rfl

def isIn (z : List (ByteArray × List Nat)) (n : ByteArray) : Bool := z.any fun e => nameEq e.1 n
theorem isIn_iff (z : List (ByteArray × List Nat)) (n : ByteArray) : isIn z n = true ↔ ∃ i, i < z.length ∧ nameEq (nm z i) n = true := by
  rw [isIn, List.any_eq_true]
  constructor
  · rintro ⟨e, he, h⟩
    obtain ⟨i, hi, rfl⟩ := List.getElem_of_mem he
    exact ⟨i, hi, by rw [nm, List.getD, List.getElem?_eq_getElem hi]; exact h⟩
  · rintro ⟨i, hi, h⟩
    refine ⟨z[i], List.getElem_mem hi, ?_⟩
    rw [nm, List.getD, List.getElem?_eq_getElem hi] at h; exact h
theorem zone_find_none {z : List (ByteArray × List Nat)} (h : Zone z) {n : ByteArray} (hi : isIn z n = true) : (zonePrfs z).find? (coverQ n) = none := by
  obtain ⟨j, hj, he⟩ := (isIn_iff z n).1 hi
  rw [List.find?_eq_none]
  intro p hp
  obtain ⟨i, hi, rfl⟩ := List.mem_map.1 hp
  have hi := List.mem_range.1 hi
  rw [zone_cover h n hi, zone_in h hj he i hi]
  simp
theorem zone_find_some {z : List (ByteArray × List Nat)} (h : Zone z) {l : ByteArray} (k : labOk l) (hi : isIn z (kid l) = false) : ∃ i, i < z.length ∧ (zonePrfs z).find? (coverQ (kid l)) = some (zonePrf z i) := by
  have hne : ∀ i, i < z.length → nameEq (nm z i) (kid l) = false := fun i hi' => by
    rw [Bool.eq_false_iff]; intro e
    have := (isIn_iff z (kid l)).2 ⟨i, hi', e⟩
    rw [hi] at this; cases this
  obtain ⟨i, hi2, hb⟩ := zone_out h k hne
  cases hf : (zonePrfs z).find? (coverQ (kid l)) with
  | none =>
    rw [List.find?_eq_none] at hf
    have := hf (zonePrf z i) (List.mem_map.2 ⟨i, List.mem_range.2 hi2, rfl⟩)
    rw [zone_cover h (kid l) hi2, hb] at this
    exact absurd rfl this
  | some p =>
    obtain ⟨j, hj, rfl⟩ := List.mem_map.1 (List.mem_of_find?_eq_some hf)
    exact ⟨j, List.mem_range.1 hj, rfl⟩
theorem star_ok : labOk ⟨#[42]⟩ := by constructor <;> decide
theorem zone_wild {z : List (ByteArray × List Nat)} (h : Zone z) : (wildR (zonePrfs z) coverQ xB).isSome = !isIn z (kid ⟨#[42]⟩) := by
  rw [wildR, childR_kid star_ok]
  simp only [if_true]
  cases hi : isIn z (kid ⟨#[42]⟩) with
  | true => rw [zone_find_none h hi]; rfl
  | false =>
    obtain ⟨i, _, e⟩ := zone_find_some h star_ok hi
    rw [e]; rfl
/-- What denial.Name tells of a name that is there, and of another one. -/
theorem zone_name_in {z : List (ByteArray × List Nat)} (h : Zone z) {i : Nat} (hi : i < z.length) : nameR (readN (zoneSets z) xB) (nm z i) xB = 0 := by
  have hin : isIn z (nm z i) = true := (isIn_iff z _).2 ⟨i, hi, (nameCmp_eq (h.zn hi).right (h.zn hi).right).1 (nameCmp_self _ (h.zn hi).right)⟩
  rw [zone_read h, nameR, (h.zn hi).under, zone_find_none h hin]
  rfl
theorem zone_name_out {z : List (ByteArray × List Nat)} (h : Zone z) {l : ByteArray} (k : labOk l) (hi : isIn z (kid l) = false) : nameR (readN (zoneSets z) xB) (kid l) xB = if isIn z (kid ⟨#[42]⟩) = true then 0 else 1 := by
  have hne : ∀ i, i < z.length → nameEq (nm z i) (kid l) = false := fun i hi' => by
    rw [Bool.eq_false_iff]; intro e
    have := (isIn_iff z (kid l)).2 ⟨i, hi', e⟩
    rw [hi] at this; cases this
  obtain ⟨i, hi2, hf⟩ := zone_find_some h k hi
  have hn := nxt_lt h.pos i
  rw [zone_read h, nameR, under_x k, hf]
  simp only [Bool.true_eq_false, if_false]
  rw [show (zonePrf z i).next = nm z (nxt z i) from rfl, (h.zn hn).notUnder k (hne _ hn)]
  rw [encl_kid k (p := zonePrf z i) (h.zn hi2) (h.zn hn) (hne _ hi2) (hne _ hn), zone_wild h]
  cases isIn z (kid ⟨#[42]⟩) <;> rfl
theorem zone_match {z : List (ByteArray × List Nat)} (h : Zone z) {i : Nat} (hi : i < z.length) : (readN (zoneSets z) xB).find? (matchQ (nm z i)) = some (zonePrf z i) := by
  rw [zone_read h]
  have hself : nameEq (nm z i) (nm z i) = true := (nameCmp_eq (h.zn hi).right (h.zn hi).right).1 (nameCmp_self _ (h.zn hi).right)
  rw [List.find?_eq_some_iff_getElem]
  refine ⟨hself, i, by simpa [zonePrfs] using hi, by simp [zonePrfs], fun j hj => ?_⟩
  have hc := h.order j i hj hi
  simp only [zonePrfs, List.getElem_map, List.getElem_range, matchQ, zonePrf]
  cases he : nameEq (nm z j) (nm z i) with
  | false => rfl
  | true => have := (nameCmp_eq (h.zn (Nat.lt_trans hj hi)).right (h.zn hi).right).2 he; omega
theorem zone_lacks {z : List (ByteArray × List Nat)} (h : Zone z) {i : Nat} (hi : i < z.length) (k : Nat) (hk : k ≠ 43) : (zonePrf z i).lacks (k : Int) = (!decide (k ∈ ty z i) && !decide (5 ∈ ty z i)) := by
  have hc := zone_closed h hi
  have hhk := has_nI (nm z i) (nm z (nxt z i)) ⟨#[]⟩ (ty z i) false k
  have hh5 := has_nI (nm z i) (nm z (nxt z i)) ⟨#[]⟩ (ty z i) false 5
  rw [show ((5 : Nat) : Int) = 5 from rfl] at hh5
  rw [Bool.or_eq_false_iff] at hc
  rw [PrfD.lacks, if_neg (by omega), hc.1]
  rw [zonePrf, hhk, hh5]
  rfl
theorem zone_bare {z : List (ByteArray × List Nat)} (h : Zone z) {i : Nat} (hi : i < z.length) : (zonePrf z i).bare = false := by
  have hc := zone_closed h hi
  rw [Bool.or_eq_false_iff, Bool.and_eq_false_iff] at hc
  rw [PrfD.bare]
  rcases hc.1 with e | e
  · rw [e]; rfl
  · have : (zonePrf z i).has 6 = true := by simpa using e
    rw [this]; simp
theorem zone_ds {z : List (ByteArray × List Nat)} {i : Nat} (hm : 43 ∈ ty z i) : (zonePrf z i).lacks 43 = false := by
  have hh := has_nI (nm z i) (nm z (nxt z i)) ⟨#[]⟩ (ty z i) false 43
  rw [show ((43 : Nat) : Int) = 43 from rfl] at hh
  rw [PrfD.lacks, show (zonePrf z i).has 43 = true by rw [zonePrf, hh]; exact decide_eq_true hm]
  simp
end Go.Proofs.YtdflhnbpcnmpfaaGreatDoor

/- One name more in a zone: a plain law. -/
namespace Go.Proofs.YtdflhnbpcnmpfaaGreatDoor
open Go.RowKit

def insZ (z : List (ByteArray × List Nat)) (k : Nat) (e : ByteArray × List Nat) : List (ByteArray × List Nat) := z.take k ++ (e :: z.drop k)
theorem insZ_len (z : List (ByteArray × List Nat)) (k : Nat) (e : ByteArray × List Nat) (hk : k ≤ z.length) : (insZ z k e).length = z.length + 1 := by
  simp [insZ]; omega
theorem insZ_lt {z : List (ByteArray × List Nat)} {k : Nat} {e : ByteArray × List Nat} (hk : k ≤ z.length) {i : Nat} (h : i < k) : (insZ z k e).getD i (xB, []) = z.getD i (xB, []) := by
  rw [insZ, List.getD, List.getElem?_append_left (by rw [List.length_take]; omega), List.getElem?_take, if_pos h]; rfl
theorem insZ_at {z : List (ByteArray × List Nat)} {k : Nat} {e : ByteArray × List Nat} (hk : k ≤ z.length) : (insZ z k e).getD k (xB, []) = e := by
  have hl : (z.take k).length = k := by rw [List.length_take]; omega
  rw [insZ, List.getD, List.getElem?_append_right (by omega), hl, Nat.sub_self]; rfl
theorem insZ_gt {z : List (ByteArray × List Nat)} {k : Nat} {e : ByteArray × List Nat} (hk : k ≤ z.length) {i : Nat} (h : k ≤ i) : (insZ z k e).getD (i + 1) (xB, []) = z.getD i (xB, []) := by
  have hl : (z.take k).length = k := by rw [List.length_take]; omega
  rw [insZ, List.getD, List.getElem?_append_right (by omega), hl, show i + 1 - k = (i - k) + 1 by omega, List.getElem?_cons_succ, List.getElem?_drop, show k + (i - k) = i by omega]; rfl
def ownOk (ns : List Nat) : Prop := tyL ns ∧ ∀ t ∈ ns, 2 < t ∧ t ≠ 6 ∧ t ≠ 39
theorem ownOk_nil : ownOk [] := ⟨⟨List.Pairwise.nil, by simp⟩, by simp⟩
theorem ownOk_snoc {ns : List Nat} {t : Nat} (h : ownOk ns) (h2 : 2 < t) (h3 : t < 300) (h6 : t ≠ 6) (h39 : t ≠ 39) (hl : ∀ i (_ : i < ns.length), i + 1 = ns.length → ns.getD i 0 < t) : ownOk (ns ++ [t]) := by
  have hmem : ∀ x ∈ ns ++ [t], x ∈ ns ∨ x = t := fun x hx => by simpa using hx
  refine ⟨⟨?_, ?_⟩, ?_⟩
  · rw [List.pairwise_append]
    refine ⟨h.1.1, by simp, ?_⟩
    intro x hx y hy
    obtain rfl : y = t := by simpa using hy
    obtain ⟨i, hi, rfl⟩ := List.getElem_of_mem hx
    have hlast := hl (ns.length - 1) (by omega) (by omega)
    rw [List.getD, List.getElem?_eq_getElem (by omega)] at hlast
    simp only [Option.getD_some] at hlast
    have hp := List.pairwise_iff_getElem.1 h.1.1
    by_cases he : i = ns.length - 1
    · subst he; exact hlast
    · have := hp i (ns.length - 1) hi (by omega) (by omega)
      omega
  · intro x hx
    rcases hmem x hx with h' | rfl
    · exact h.1.2 x h'
    · exact h3
  · intro x hx
    rcases hmem x hx with h' | rfl
    · exact h.2 x h'
    · exact ⟨h2, h6, h39⟩
theorem Zone.ins {z : List (ByteArray × List Nat)} (h : Zone z) {l : ByteArray} (hl : labOk l) {own : List Nat} (ho : ownOk own) {k : Nat} (hk : k ≤ z.length) (hb : ∀ i, i < k → nameCmp (nm z i) (kid l) < 0) (ha : k < z.length → ¬ nameCmp (nm z k) (kid l) < 0 ∧ nameEq (nm z k) (kid l) = false) : Zone (insZ z k (kid l, own)) := by
  have hlen := insZ_len z k (kid l, own) hk
  have hk0 : 0 < k := by
    rcases Nat.eq_zero_or_pos k with h0 | h0
    · subst h0
      have := (ha h.pos).1
      rw [h.name0] at this
      exact absurd (cmp_x_kid hl) this
    · exact h0
  have n1 : ∀ i, i < k → nm (insZ z k (kid l, own)) i = nm z i := fun i hi => by rw [nm, insZ_lt hk hi]; rfl
  have n2 : nm (insZ z k (kid l, own)) k = kid l := by rw [nm, insZ_at hk]
  have n3 : ∀ i, k ≤ i → nm (insZ z k (kid l, own)) (i + 1) = nm z i := fun i hi => by rw [nm, insZ_gt hk hi]; rfl
  have t1 : ∀ i, i < k → ty (insZ z k (kid l, own)) i = ty z i := fun i hi => by rw [ty, insZ_lt hk hi]; rfl
  have t2 : ty (insZ z k (kid l, own)) k = own := by rw [ty, insZ_at hk]
  have t3 : ∀ i, k ≤ i → ty (insZ z k (kid l, own)) (i + 1) = ty z i := fun i hi => by rw [ty, insZ_gt hk hi]; rfl
  have cas : ∀ i, i < k ∨ i = k ∨ ∃ j, i = j + 1 ∧ k ≤ j := fun i => by
    rcases Nat.lt_trichotomy i k with h | h | h
    · exact .inl h
    · exact .inr (.inl h)
    · exact .inr (.inr ⟨i - 1, by omega, by omega⟩)
  have hgt : ∀ j, k ≤ j → j < z.length → nameCmp (kid l) (nm z j) < 0 := fun j hj hjl => by
    have h1 := ha (by omega)
    have h2 : nameCmp (nm z k) (kid l) ≠ 0 := fun e => by
      have := (nameCmp_eq (h.zn (by omega : k < z.length)).right (kid_right hl)).1 e
      rw [h1.2] at this; cases this
    have h3 := nameCmp_anti (h.zn (by omega : k < z.length)).right (kid_right hl)
    have h4 : nameCmp (kid l) (nm z k) < 0 := by omega
    rcases Nat.lt_or_eq_of_le hj with h5 | h5
    · exact nameCmp_trans (kid_right hl) (h.zn (by omega : k < z.length)).right (h.zn hjl).right h4 (h.order k j h5 hjl)
    · rw [← h5]; exact h4
  refine ⟨by omega, by rw [n1 0 hk0]; exact h.name0, by rw [t1 0 hk0]; exact h.types0, ?_, ?_, ?_⟩
  · intro i h0 hi
    rcases cas i with h1 | rfl | ⟨j, rfl, hj⟩
    · rw [n1 i h1]; exact h.kids i h0 (by omega)
    · rw [n2]; exact ⟨l, hl, rfl⟩
    · rw [n3 j hj]; exact h.kids j (by omega) (by omega)
  · intro i h0 hi
    rcases cas i with h1 | rfl | ⟨j, rfl, hj⟩
    · rw [t1 i h1]; exact h.types i h0 (by omega)
    · rw [t2]; exact ho
    · rw [t3 j hj]; exact h.types j (by omega) (by omega)
  · intro i j hij hjl
    rcases cas i with h1 | rfl | ⟨i, rfl, hi⟩
    · rw [n1 i h1]
      rcases cas j with h2 | rfl | ⟨j, rfl, hj⟩
      · rw [n1 j h2]; exact h.order i j hij (by omega)
      · rw [n2]; exact hb i h1
      · rw [n3 j hj]; exact h.order i j (by omega) (by omega)
    · rw [n2]
      rcases cas j with h2 | rfl | ⟨j, rfl, hj⟩
      · omega
      · omega
      · rw [n3 j hj]; exact hgt j hj (by omega)
    · rw [n3 i hi]
      rcases cas j with h2 | rfl | ⟨j, rfl, hj⟩
      · omega
      · omega
      · rw [n3 j hj]; exact h.order i j (by omega) (by omega)
theorem Zone.start : Zone [(xB, [2, 6, 47])] := ⟨by decide, rfl, rfl, fun i h0 hi => by simp at hi; omega, fun i h0 hi => by simp at hi; omega, fun i j h1 h2 => by simp at h2; omega⟩
end Go.Proofs.YtdflhnbpcnmpfaaGreatDoor

/- Rows that are put together out of others; a list of One. -/
namespace Go.Proofs.YtdflhnbpcnmpfaaGreatDoor
open Go.RowKit

theorem info_sl : (Tryz.prog.info? 32).map (fun i => (i.zero, i.size, i.bytes)) = some (some (.slice none 0 0), 1, 24) := by kernel_rfl
/-- v holds these values, slices of numbers, in a row of the call's own. -/
def OwnV (base : Nat) (v : Value) (xs : List Value) (w : World) : Prop := w.ownsRow base 32 1 v xs.length xs
/-- v is a slice that reads as these values. -/
def VsAt (v : Value) (xs : List Value) (w : World) : Prop :=
  ∃ A c, v = .slice A xs.length c ∧ (0 < xs.length → ∃ g o, A = some ⟨g, o, none⟩ ∧ g < w.heap.size ∧ ∀ j (h : j < xs.length), w.cell? ⟨g, o + j, none⟩ = some xs[j])
theorem VsAt.below {v : Value} {xs : List Value} {w w' : World} (h : VsAt v xs w) (hb : Below w.heap.size w w') : VsAt v xs w' := by
  obtain ⟨A, c, rfl, h⟩ := h
  refine ⟨A, c, rfl, fun h0 => ?_⟩
  obtain ⟨g, o, e, hg, hc⟩ := h h0
  exact ⟨g, o, e, Nat.lt_of_lt_of_le hg hb.size, fun j hj => by rw [hb.cell (p := ⟨g, o + j, none⟩) hg]; exact hc j hj⟩
theorem OwnV.at {base : Nat} {v : Value} {xs : List Value} {w : World} (h : OwnV base v xs w) : VsAt v xs w := by
  rcases h.2 with ⟨rfl, h0⟩ | ⟨g, cap, cur, rfl, hb, hg, hn, hm, hsz, htk⟩
  · obtain rfl := List.eq_nil_of_length_eq_zero (by simpa using h0)
    exact ⟨none, 0, rfl, fun h => absurd h (by simp)⟩
  · refine ⟨some ⟨g, 0, none⟩, cap, rfl, fun _ => ⟨g, 0, rfl, lt_of_block hg, fun i hi => ?_⟩⟩
    rw [Nat.zero_add, cell_of_row w g i cur 32 (0, 0) hg]
    have e : cur.toList[i]? = xs[i]? := by
      rw [← htk, List.getElem?_take, if_pos (by simpa using hi)]
    rw [← Array.getElem?_toList, e]
    simp [hi]
theorem OwnV.nil (base : Nat) (w : World) : OwnV base (.slice none 0 0) [] w := ⟨rfl, .inl ⟨rfl, rfl⟩⟩
theorem ownV_base {base n : Nat} {e : TypeId} {v : Value} {xs : List Value} {w w' : World} (h : w.ownsRow base e 1 v n xs) (hb : base ≤ w.heap.size) (hg : w.grownBy w' v.ownBlock) : Below base w w' := by
  refine ⟨hg.os, hg.tape, hg.output, hg.size, fun k hk => hg.block k (by omega) fun e => ?_⟩
  rcases h.2 with ⟨rfl, _⟩ | ⟨g, cap, cur, rfl, h2, _⟩
  · cases e
  · obtain rfl : k = g := by simpa [Value.ownBlock] using e
    omega
theorem add_off (g off j : Nat) : (⟨g, off, none⟩ : Addr).add j = ⟨g, off + j, none⟩ := by unfold Addr.add; split <;> simp_all
theorem rowV_app {ops : Array Oper} {rest : List Oper} {o : Oper} {a : Act} {Q : Exit → Act → World → Prop} {base : Nat} {v : Value} {l : List Value} {W : World} (HO : OwnV base v l W) (hbase : base ≤ W.heap.size) (src : List Value) (g off m c : Nat) (hm : m = src.length) (hsrc : ∀ j (h : j < src.length), W.cell? ⟨g, off + j, none⟩ = some src[j]) (h1 : ∀ u ∈ src, u.oneCell' = true) (hl : l.length + src.length ≤ 1000000)
    (hgd : o.guard = none) (s y : Operand) (ho : o.op = .call { callee := .builtin .append, args := #[s, y], argTypes := #[25, 25] }) (hs : a.eval s = v) (hx : a.eval y = .slice (some ⟨g, off, none⟩) m c)
    (h : ∀ v1 w1, OwnV base v1 (l ++ src) w1 → Below base W w1 → wpList Tryz.prog ops Q rest (a.put o.dst v1) w1) : wpList Tryz.prog ops Q (o :: rest) a W := by
  subst hm
  obtain ⟨i0, hi, hzz⟩ := Option.map_eq_some_iff.1 info_sl
  simp only [Prod.mk.injEq] at hzz
  obtain ⟨hz0, hz1, hz2⟩ := hzz
  refine wpList_append_own_at W hgd s y 25 ho base 32 i0 (.slice none 0 0) 1 24 Tryz.underlying25 hi hz0 hz1 hz2 rfl (by omega) v l.length l hs HO ⟨g, off, none⟩ src.length c src hx (by simp)
    (fun j u hj => by obtain ⟨h2, rfl⟩ := List.getElem?_eq_some_iff.1 hj; rw [add_off]; exact hsrc j h2) h1 (by simp only [maxLen]; omega) (by omega) hbase ?_
  intro v1 w1 hown hg _ _
  refine h v1 w1 ?_ (ownV_base HO hbase hg)
  unfold OwnV
  rw [List.length_append]; exact hown
theorem rowS_app {ops : Array Oper} {rest : List Oper} {o : Oper} {a : Act} {Q : Exit → Act → World → Prop} {base : Nat} {v : Value} {l : List ByteArray} {W : World} (HO : OwnS base v l W) (hbase : base ≤ W.heap.size) (src : List ByteArray) (g off m c : Nat) (hm : m = src.length) (hsrc : ∀ j (h : j < src.length), W.cell? ⟨g, off + j, none⟩ = some (.string src[j])) (hl : l.length + src.length ≤ 1000000)
    (hgd : o.guard = none) (s y : Operand) (ho : o.op = .call { callee := .builtin .append, args := #[s, y], argTypes := #[24, 24] }) (hs : a.eval s = v) (hx : a.eval y = .slice (some ⟨g, off, none⟩) m c)
    (h : ∀ v1 w1, OwnS base v1 (l ++ src) w1 → Below base W w1 → wpList Tryz.prog ops Q rest (a.put o.dst v1) w1) : wpList Tryz.prog ops Q (o :: rest) a W := by
  subst hm
  obtain ⟨i0, hi, hzz⟩ := Option.map_eq_some_iff.1 info_str
  simp only [Prod.mk.injEq] at hzz
  obtain ⟨hz0, hz1, hz2⟩ := hzz
  refine wpList_append_own_at W hgd s y 24 ho base 9 i0 (.string ⟨#[]⟩) 1 16 Tryz.underlying24 hi hz0 hz1 hz2 rfl (by omega) v l.length (l.map .string) hs HO ⟨g, off, none⟩ src.length c (src.map .string) hx (by simp)
    (fun j u hj => by rw [List.getElem?_map] at hj; obtain ⟨x, hx, rfl⟩ := Option.map_eq_some_iff.1 hj; obtain ⟨h2, rfl⟩ := List.getElem?_eq_some_iff.1 hx; rw [add_off]; exact hsrc j h2) (by intro u hu; obtain ⟨x, _, rfl⟩ := List.mem_map.1 hu; rfl) (by simp only [maxLen]; omega) (by omega) hbase ?_
  intro v1 w1 hown hg _ _
  refine h v1 w1 ?_ (ownV_base HO hbase hg)
  simpa [OwnS] using hown
/-- The law's One: a label, and types. -/
def OneRow (g f : Nat) (l : List (ByteArray × List Int)) (w : World) : Prop := g < w.heap.size ∧ ∀ j (h : j < l.length), ∃ tv, w.cell? ⟨g, f + j * 2, none⟩ = some (.string l[j].1) ∧ w.cell? ⟨g, f + j * 2 + 1, none⟩ = some tv ∧ IntsAt tv l[j].2 w
def OnesAt (v : Value) (l : List (ByteArray × List Int)) (w : World) : Prop := ∃ A c, v = .slice A l.length c ∧ l.length ≤ 9223372036854775807 ∧ (0 < l.length → ∃ g f, A = some ⟨g, f, none⟩ ∧ OneRow g f l w)
end Go.Proofs.YtdflhnbpcnmpfaaGreatDoor

