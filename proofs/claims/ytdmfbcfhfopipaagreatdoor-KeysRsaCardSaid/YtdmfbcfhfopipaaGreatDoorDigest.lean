/- keys.Digest, walked. -/
import Derived.Test.YtdmfbcfhfopipaaGreatDoorSum1
import Derived.Test.YtdmfbcfhfopipaaGreatDoorNameLower
import Derived.Test.YtdmfbcfhfopipaaGreatDoorRight
namespace Go.Proofs.YtdmfbcfhfopipaaGreatDoor
open Go.RowKit Go.BigFrame

section
variable {P : Program} {C : World → Prop} {o : Oper} {a : Act} {K : Act → Prop}
theorem quiet_run (v : Value) (h : ∀ w, C w → (execOp a.eval o).run P w = .ok (.value v) w) (hk : K (a.put o.dst v)) : o.quiet P a C K :=
  ⟨v, fun w hw => by unfold Oper.quietAt; rw [h w hw]; exact ⟨rfl, rfl⟩, hk⟩
theorem quiet_call (f : FuncId) (args : Array Value) (v : Value) (h : ∀ w, C w → (execOp a.eval o).run P w = .ok (.enter f args) w) (hc : ∀ w, C w → Calls P f args w (fun e w'' => e = .returned v ∧ C w'')) (hk : K (a.put o.dst v)) : o.quiet P a C K :=
  ⟨v, fun w hw => by unfold Oper.quietAt; rw [h w hw]; exact ⟨rfl, hc w hw⟩, hk⟩
end

/-- The digest of a key by kind, if there is one: its bytes, the error. -/
def keysDigest (kind : Int) (owner d : ByteArray) : ByteArray × Int :=
  if kind < 1 ∨ 2 < kind then (⟨#[]⟩, 1)
  else if nameRight owner = false then (⟨#[]⟩, 2)
  else if keyRight d = false then (⟨#[]⟩, 6)
  else if kind = 1 then (bs (sum160 (lowS owner ++ d).data.toList), 0)
  else (bs (sum256 (lowS owner ++ d).data.toList), 0)

def mkT : Array Value := #[.func (.func 61) #[] #[], .func (.func 48) #[] #[]]

theorem makers_any (w : World) : Calls Tryz.prog 31 #[] w fun e w' => e = .returned (.slice (some ⟨w.heap.size, 0, none⟩) 2 2) ∧ w' = w.alloc (.cells mkT 73) := by
  go_enter Tryz.func31, Tryz.ntmps31
  go_wp2_with fail
  go_ret
  exact ⟨rfl, rfl⟩

theorem keyRight_size {d : ByteArray} (h : keyRight d = true) : d.size ≤ 2000 := by simp [keyRight] at h; omega
theorem nameRight_size {s : ByteArray} (h : nameRight s = true) : s.size ≤ 255 := by simp [nameRight] at h; omega

set_option maxRecDepth 100000 in
set_option maxHeartbeats 1000000 in
theorem digest_one (kind : Int) (owner d : ByteArray) (w : World) (hk : kind = 1) (ho : nameRight owner = true) (hd : keyRight d = true) :
    Calls Tryz.prog 12 #[.int .i64 kind, .string owner, .string d] w fun e w' => e = .returned (.tuple #[.string (keysDigest kind owner d).1, .int .i64 (keysDigest kind owner d).2]) ∧ Below w.heap.size w w' := by
  subst hk
  have hdg : keysDigest 1 owner d = (bs (sum160 (lowS owner ++ d).data.toList), 0) := by rw [keysDigest, if_neg (by omega), if_neg (by rw [ho]; simp), if_neg (by rw [hd]; simp)]; rfl
  have HDG := Lib.hid hdg
  have hso := nameRight_size ho
  have hsd := keyRight_size hd
  have hsz : (lowS owner ++ d).size ≤ 9223372036854775000 := by rw [ByteArray.size_append, size_lowS]; omega
  have hnr := name_right owner
  have hdr := right_key d
  have hlow := name_lower owner
  rw [ho] at hnr
  rw [hd] at hdr
  rw [nameLower, if_pos ho] at hlow
  have HN := Lib.hid hnr; have HD := Lib.hid hdr; have HL := Lib.hid hlow
  have hmix : Tryz.prog.follows .mixedOrders = true := by kernel_rfl
  have hsl := size_lowS owner
  clear hnr hdr hlow hdg ho hd
  go_enter Tryz.func12, Tryz.ntmps12
  go_wp2_with (first
    | (go_at_call 31; refine (makers_any _).mono ?_; rintro e w1 ⟨rfl, rfl⟩)
    | (go_at_call 32; refine (HN.out _).mono ?_; rintro e w2 ⟨rfl, hB2⟩; replace hB2 := Lib.hid hB2)
    | (go_at_call 24; refine (HD.out _).mono ?_; rintro e w3 ⟨rfl, hB3⟩; replace hB3 := Lib.hid hB3))
  have hm : Blk w3 w.heap.size mkT 73 := ((Blk.new w mkT 73).below hB2.out (by simp)).below hB3.out (by have := hB2.out.size; simp at this; omega)
  have hB4 : Below w.heap.size w w3 := (((Below.refl w.heap.size w).alloc (Nat.le_refl _) _).trans (hB2.out.mono (by simp))).trans (hB3.out.mono (by have := hB2.out.size; simp at this; omega))
  clear hB2 hB3
  have HM := Lib.hid hm; have HB4 := Lib.hid hB4
  clear hm hB4
  refine wp_region_quiet (C := fun W => Below w3.heap.size w3 W) hmix (by kernel_rfl) ⟨rfl, rfl, rfl, Nat.le_refl _, fun _ _ => rfl⟩ ?_
  refine wpQuiet_want rfl fun K hK => quiet_move _ rfl (hK _ ?_)
  clear hK K
  refine wpQuiet_want rfl fun K hK => quiet_move _ rfl (hK _ ?_)
  clear hK K
  refine wpQuiet_want rfl fun K hK => quiet_run (.int .i64 0) (fun W hW => ?run) (hK _ ?_)
  case run => first | (simp [go_sem, Act.put, Act.eval]; done) | (simp [go_sem, Act.put, Act.eval]; rfl)
  clear hK K
  refine wpQuiet_want rfl fun K hK => quiet_run (.pointer (some ⟨w.heap.size, 0, none⟩)) (fun W hW => ?run) (hK _ ?_)
  case run => first | (simp [go_sem, Act.put, Act.eval]; done) | (simp [go_sem, Act.put, Act.eval]; rfl)
  clear hK K
  refine wpQuiet_want rfl fun K hK => quiet_run (.pointer (some ⟨w.heap.size, 0, none⟩)) (fun W hW => ?run) (hK _ ?_)
  case run => first | (simp [go_sem, Act.put, Act.eval]; done) | (simp [go_sem, Act.put, Act.eval]; rfl)
  clear hK K
  refine wpQuiet_want rfl fun K hK => quiet_run (.func (.func 61) #[] #[]) (fun W hW => ?run) (hK _ ?_)
  case run =>
    have hc : W.cell? ⟨w.heap.size, 0, none⟩ = some (.func (.func 61) #[] #[]) := (HM.out.below hW HM.out.lt).cell 0
    simp [go_sem, Act.put, Act.eval, hc]
  clear hK K
  refine wpQuiet_want rfl fun K hK => quiet_move _ rfl (hK _ ?_)
  clear hK K
  refine wpQuiet_want rfl fun K hK => quiet_call 33 #[.string owner] (.string (lowS owner)) (fun W hW => ?run) (fun W hW => (HL.out W).mono fun e w' h => ⟨h.1, hW.trans (h.2.mono hW.size)⟩) (hK _ ?_)
  case run => simp [go_sem, Act.put, Act.eval]
  clear hK K
  refine wpQuiet_want rfl fun K hK => quiet_move _ rfl (hK _ ?_)
  clear hK K
  refine wpQuiet_want rfl fun K hK => quiet_run (.string (lowS owner ++ d)) (fun W hW => ?run) (hK _ ?_)
  case run =>
    simp [go_sem, Act.put, Act.eval]
    omega
  clear hK K
  refine wpQuiet_want rfl fun K hK => quiet_call 61 #[.string (lowS owner ++ d)] (.string (bs (sum160 (lowS owner ++ d).data.toList))) (fun W hW => ?run) (fun W hW => (sum160_any _ W hsz).mono fun e w' h => ⟨h.1, hW.trans (h.2.mono hW.size)⟩) (hK _ ?_)
  case run => simp [go_sem, Act.put, Act.eval]
  clear hK K
  refine wpQuiet_want rfl fun K hK => quiet_assign _ rfl (hK _ ?_)
  clear hK K
  refine wpQuiet_want rfl fun K hK => quiet_assign _ rfl (hK _ ?_)
  clear hK K
  refine wpQuiet_nil ?_
  intro W hW
  replace hW := Lib.hid hW
  go_wp2_with fail
  rw [HDG.out]
  have hfin := HB4.out.trans (hW.out.mono HB4.out.size)
  clear HDG
  generalize hs6 : (bs (sum160 (lowS owner ++ d).data.toList)) = out
  simp only [Act.put]
  refine bodyPost_ret (results_tmp2 rfl _ _ _) rfl ⟨?_, hfin⟩
  simp [Act.eval]
set_option maxRecDepth 100000 in
set_option maxHeartbeats 1000000 in
theorem digest_two (kind : Int) (owner d : ByteArray) (w : World) (hk : kind = 2) (ho : nameRight owner = true) (hd : keyRight d = true) :
    Calls Tryz.prog 12 #[.int .i64 kind, .string owner, .string d] w fun e w' => e = .returned (.tuple #[.string (keysDigest kind owner d).1, .int .i64 (keysDigest kind owner d).2]) ∧ Below w.heap.size w w' := by
  subst hk
  have hdg : keysDigest 2 owner d = (bs (sum256 (lowS owner ++ d).data.toList), 0) := by rw [keysDigest, if_neg (by omega), if_neg (by rw [ho]; simp), if_neg (by rw [hd]; simp)]; rfl
  have HDG := Lib.hid hdg
  have hso := nameRight_size ho
  have hsd := keyRight_size hd
  have hsz : (lowS owner ++ d).size ≤ 9223372036854775000 := by rw [ByteArray.size_append, size_lowS]; omega
  have hnr := name_right owner
  have hdr := right_key d
  have hlow := name_lower owner
  rw [ho] at hnr
  rw [hd] at hdr
  rw [nameLower, if_pos ho] at hlow
  have HN := Lib.hid hnr; have HD := Lib.hid hdr; have HL := Lib.hid hlow
  have hmix : Tryz.prog.follows .mixedOrders = true := by kernel_rfl
  have hsl := size_lowS owner
  clear hnr hdr hlow hdg ho hd
  go_enter Tryz.func12, Tryz.ntmps12
  go_wp2_with (first
    | (go_at_call 31; refine (makers_any _).mono ?_; rintro e w1 ⟨rfl, rfl⟩)
    | (go_at_call 32; refine (HN.out _).mono ?_; rintro e w2 ⟨rfl, hB2⟩; replace hB2 := Lib.hid hB2)
    | (go_at_call 24; refine (HD.out _).mono ?_; rintro e w3 ⟨rfl, hB3⟩; replace hB3 := Lib.hid hB3))
  have hm : Blk w3 w.heap.size mkT 73 := ((Blk.new w mkT 73).below hB2.out (by simp)).below hB3.out (by have := hB2.out.size; simp at this; omega)
  have hB4 : Below w.heap.size w w3 := (((Below.refl w.heap.size w).alloc (Nat.le_refl _) _).trans (hB2.out.mono (by simp))).trans (hB3.out.mono (by have := hB2.out.size; simp at this; omega))
  clear hB2 hB3
  have HM := Lib.hid hm; have HB4 := Lib.hid hB4
  clear hm hB4
  refine wp_region_quiet (C := fun W => Below w3.heap.size w3 W) hmix (by kernel_rfl) ⟨rfl, rfl, rfl, Nat.le_refl _, fun _ _ => rfl⟩ ?_
  refine wpQuiet_want rfl fun K hK => quiet_move _ rfl (hK _ ?_)
  clear hK K
  refine wpQuiet_want rfl fun K hK => quiet_move _ rfl (hK _ ?_)
  clear hK K
  refine wpQuiet_want rfl fun K hK => quiet_run (.int .i64 1) (fun W hW => ?run) (hK _ ?_)
  case run => first | (simp [go_sem, Act.put, Act.eval]; done) | (simp [go_sem, Act.put, Act.eval]; rfl)
  clear hK K
  refine wpQuiet_want rfl fun K hK => quiet_run (.pointer (some ⟨w.heap.size, 1, none⟩)) (fun W hW => ?run) (hK _ ?_)
  case run => first | (simp [go_sem, Act.put, Act.eval]; done) | (simp [go_sem, Act.put, Act.eval]; rfl)
  clear hK K
  refine wpQuiet_want rfl fun K hK => quiet_run (.pointer (some ⟨w.heap.size, 1, none⟩)) (fun W hW => ?run) (hK _ ?_)
  case run => first | (simp [go_sem, Act.put, Act.eval]; done) | (simp [go_sem, Act.put, Act.eval]; rfl)
  clear hK K
  refine wpQuiet_want rfl fun K hK => quiet_run (.func (.func 48) #[] #[]) (fun W hW => ?run) (hK _ ?_)
  case run =>
    have hc : W.cell? ⟨w.heap.size, 1, none⟩ = some (.func (.func 48) #[] #[]) := (HM.out.below hW HM.out.lt).cell 1
    simp [go_sem, Act.put, Act.eval, hc]
  clear hK K
  refine wpQuiet_want rfl fun K hK => quiet_move _ rfl (hK _ ?_)
  clear hK K
  refine wpQuiet_want rfl fun K hK => quiet_call 33 #[.string owner] (.string (lowS owner)) (fun W hW => ?run) (fun W hW => (HL.out W).mono fun e w' h => ⟨h.1, hW.trans (h.2.mono hW.size)⟩) (hK _ ?_)
  case run => simp [go_sem, Act.put, Act.eval]
  clear hK K
  refine wpQuiet_want rfl fun K hK => quiet_move _ rfl (hK _ ?_)
  clear hK K
  refine wpQuiet_want rfl fun K hK => quiet_run (.string (lowS owner ++ d)) (fun W hW => ?run) (hK _ ?_)
  case run =>
    simp [go_sem, Act.put, Act.eval]
    omega
  clear hK K
  refine wpQuiet_want rfl fun K hK => quiet_call 48 #[.string (lowS owner ++ d)] (.string (bs (sum256 (lowS owner ++ d).data.toList))) (fun W hW => ?run) (fun W hW => (sum256_any _ W hsz).mono fun e w' h => ⟨h.1, hW.trans (h.2.mono hW.size)⟩) (hK _ ?_)
  case run => simp [go_sem, Act.put, Act.eval]
  clear hK K
  refine wpQuiet_want rfl fun K hK => quiet_assign _ rfl (hK _ ?_)
  clear hK K
  refine wpQuiet_want rfl fun K hK => quiet_assign _ rfl (hK _ ?_)
  clear hK K
  refine wpQuiet_nil ?_
  intro W hW
  replace hW := Lib.hid hW
  go_wp2_with fail
  rw [HDG.out]
  have hfin := HB4.out.trans (hW.out.mono HB4.out.size)
  clear HDG
  generalize hs6 : (bs (sum256 (lowS owner ++ d).data.toList)) = out
  simp only [Act.put]
  refine bodyPost_ret (results_tmp2 rfl _ _ _) rfl ⟨?_, hfin⟩
  simp [Act.eval]

set_option maxRecDepth 100000 in
set_option maxHeartbeats 1000000 in
theorem digest_kind (kind : Int) (owner d : ByteArray) (w : World) (hk : kind < 1 ∨ 2 < kind) :
    Calls Tryz.prog 12 #[.int .i64 kind, .string owner, .string d] w fun e w' => e = .returned (.tuple #[.string (keysDigest kind owner d).1, .int .i64 (keysDigest kind owner d).2]) ∧ Below w.heap.size w w' := by
  have hdg : keysDigest kind owner d = (⟨#[]⟩, 1) := by rw [keysDigest, if_pos hk]
  have hmk : Below w.heap.size w (w.alloc (.cells mkT 73)) := (Below.refl w.heap.size w).alloc (Nat.le_refl _) _
  have HMK := Lib.hid hmk; have HD := Lib.hid hdg
  clear hmk hdg
  by_cases h1 : kind < 1
  · have q1 : decide (kind < 1) = true := decide_eq_true h1
    clear hk h1
    go_enter Tryz.func12, Tryz.ntmps12
    go_wp2_with (go_at_call 31; refine (makers_any _).mono ?_; rintro e w1 ⟨rfl, rfl⟩)
    go_ret2
    exact ⟨by rw [HD.out]; rfl, HMK.out⟩
  · have q1 : decide (kind < 1) = false := decide_eq_false h1
    have q2 : decide (2 < kind) = true := decide_eq_true (by omega)
    clear hk h1
    go_enter Tryz.func12, Tryz.ntmps12
    go_wp2_with (go_at_call 31; refine (makers_any _).mono ?_; rintro e w1 ⟨rfl, rfl⟩)
    go_ret2
    exact ⟨by rw [HD.out]; rfl, HMK.out⟩
set_option maxRecDepth 100000 in
set_option maxHeartbeats 1000000 in
theorem digest_name (kind : Int) (owner d : ByteArray) (w : World) (hk : 1 ≤ kind ∧ kind ≤ 2) (ho : nameRight owner = false) :
    Calls Tryz.prog 12 #[.int .i64 kind, .string owner, .string d] w fun e w' => e = .returned (.tuple #[.string (keysDigest kind owner d).1, .int .i64 (keysDigest kind owner d).2]) ∧ Below w.heap.size w w' := by
  have hdg : keysDigest kind owner d = (⟨#[]⟩, 2) := by rw [keysDigest, if_neg (by omega), if_pos ho]
  have hnr := name_right owner
  rw [ho] at hnr
  have HN := Lib.hid hnr
  clear ho hnr
  have hmk : Below w.heap.size w (w.alloc (.cells mkT 73)) := (Below.refl w.heap.size w).alloc (Nat.le_refl _) _
  have HMK := Lib.hid hmk; have HD := Lib.hid hdg
  clear hmk hdg
  have q1 : decide (kind < 1) = false := decide_eq_false (by omega)
  have q2 : decide (2 < kind) = false := decide_eq_false (by omega)
  clear hk
  go_enter Tryz.func12, Tryz.ntmps12
  go_wp2_with (first
    | (go_at_call 31; refine (makers_any _).mono ?_; rintro e w1 ⟨rfl, rfl⟩)
    | (go_at_call 32; refine (HN.out _).mono ?_; rintro e w2 ⟨rfl, hB2⟩; replace hB2 := Lib.hid hB2))
  go_ret2
  exact ⟨by rw [HD.out]; rfl, HMK.out.trans (hB2.out.mono HMK.out.size)⟩
set_option maxRecDepth 100000 in
set_option maxHeartbeats 1000000 in
theorem digest_key (kind : Int) (owner d : ByteArray) (w : World) (hk : 1 ≤ kind ∧ kind ≤ 2) (ho : nameRight owner = true) (hd : keyRight d = false) :
    Calls Tryz.prog 12 #[.int .i64 kind, .string owner, .string d] w fun e w' => e = .returned (.tuple #[.string (keysDigest kind owner d).1, .int .i64 (keysDigest kind owner d).2]) ∧ Below w.heap.size w w' := by
  have hdg : keysDigest kind owner d = (⟨#[]⟩, 6) := by rw [keysDigest, if_neg (by omega), if_neg (by rw [ho]; simp), if_pos hd]
  have hnr := name_right owner
  rw [ho] at hnr
  have hdr := right_key d
  rw [hd] at hdr
  have HN := Lib.hid hnr; have HR := Lib.hid hdr
  clear ho hnr hd hdr
  have hmk : Below w.heap.size w (w.alloc (.cells mkT 73)) := (Below.refl w.heap.size w).alloc (Nat.le_refl _) _
  have HMK := Lib.hid hmk; have HD := Lib.hid hdg
  clear hmk hdg
  have q1 : decide (kind < 1) = false := decide_eq_false (by omega)
  have q2 : decide (2 < kind) = false := decide_eq_false (by omega)
  clear hk
  go_enter Tryz.func12, Tryz.ntmps12
  go_wp2_with (first
    | (go_at_call 31; refine (makers_any _).mono ?_; rintro e w1 ⟨rfl, rfl⟩)
    | (go_at_call 32; refine (HN.out _).mono ?_; rintro e w2 ⟨rfl, hB2⟩; replace hB2 := Lib.hid hB2)
    | (go_at_call 24; refine (HR.out _).mono ?_; rintro e w3 ⟨rfl, hB3⟩; replace hB3 := Lib.hid hB3))
  go_ret2
  have h2 := HMK.out.trans (hB2.out.mono HMK.out.size)
  exact ⟨by rw [HD.out]; rfl, h2.trans (hB3.out.mono h2.size)⟩

theorem keys_digest (kind : Int) (owner d : ByteArray) (w : World) :
    Calls Tryz.prog 12 #[.int .i64 kind, .string owner, .string d] w fun e w' => e = .returned (.tuple #[.string (keysDigest kind owner d).1, .int .i64 (keysDigest kind owner d).2]) ∧ Below w.heap.size w w' := by
  by_cases hk : kind < 1 ∨ 2 < kind
  · exact digest_kind kind owner d w hk
  · cases ho : nameRight owner with
    | false => exact digest_name kind owner d w (by omega) ho
    | true =>
      cases hd : keyRight d with
      | false => exact digest_key kind owner d w (by omega) ho hd
      | true =>
        by_cases h1 : kind = 1
        · exact digest_one kind owner d w h1 ho hd
        · exact digest_two kind owner d w (by omega) ho hd
end Go.Proofs.YtdmfbcfhfopipaaGreatDoor
