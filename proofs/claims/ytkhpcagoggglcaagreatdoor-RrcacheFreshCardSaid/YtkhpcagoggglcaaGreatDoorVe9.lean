import Derived.Test.YtkhpcagoggglcaaGreatDoorVe8
import Derived.Deep.Draws
import Derived.Test.YtkhpcagoggglcaaGreatDoorVe1
import Derived.BigRegion
import Derived.ChangeAlike
import Derived.DeepKeys4
import Derived.Carry
import Derived.StillTailTactics
/- The table in memory: its block, its map, its ring of nodes; what the ring's two steps make of it: a plain law. -/
namespace Go.Proofs.YtkhpcagoggglcaaGreatDoor
open Go.RowKit Go.Maps

theorem inj_map {α β : Type} {f : α → β} : ∀ {l : List α}, (l.map f).Nodup → ∀ {a b : α}, a ∈ l → b ∈ l → f a = f b → a = b
  | [], _, _, _, ha, _, _ => by simp at ha
  | x :: l, h, a, b, ha, hb, e => by
    rw [List.map_cons, List.nodup_cons] at h
    rcases List.mem_cons.1 ha with h1 | h1
    · rcases List.mem_cons.1 hb with h2 | h2
      · rw [h1, h2]
      · exact (h.1 (List.mem_map.2 ⟨b, h2, by rw [← e, h1]⟩)).elim
    · rcases List.mem_cons.1 hb with h2 | h2
      · exact (h.1 (List.mem_map.2 ⟨a, h1, by rw [e, h2]⟩)).elim
      · exact inj_map h.2 h1 h2 e
theorem nodup_map {α β : Type} {f : α → β} : ∀ {l : List α}, l.Nodup → (∀ a ∈ l, ∀ b ∈ l, f a = f b → a = b) → (l.map f).Nodup
  | [], _, _ => by simp
  | x :: l, h, hi => by
    rw [List.nodup_cons] at h
    rw [List.map_cons, List.nodup_cons]
    refine ⟨fun hm => ?_, nodup_map h.2 fun a ha b hb => hi a (by simp [ha]) b (by simp [hb])⟩
    obtain ⟨y, hy, e⟩ := List.mem_map.1 hm
    have := hi y (by simp [hy]) x (by simp) e
    subst this
    exact h.1 hy
/-- A node: its key's name and kind, the cells of its value, its block. -/
structure Nd where
  name : ByteArray
  kind : Int
  val : List Value
  blk : Nat
def Nd.pt (x : Nd) : Pt := (x.blk, 0)
def keyV (n : ByteArray) (k : Int) : Value := .agg #[.string n, .int .i64 k]
def keyLit (P : Program) (kty : TypeId) (n : ByteArray) (k : Int) : Lit := (keyOf P kty (keyV n k)).getD .nil
def Nd.lit (x : Nd) (P : Program) (kty : TypeId) : Lit := keyLit P kty x.name x.kind
def Nd.ent (P : Program) (kty : TypeId) (x : Nd) : Lit × DU := (x.lit P kty, ptD x.blk)
/-- The cells of a node but its two pointers. -/
structure NdAt (VN : Nat) (w : World) (x : Nd) : Prop where
  name : w.cell? ⟨x.blk, 0, none⟩ = some (.string x.name)
  kind : w.cell? ⟨x.blk, 1, none⟩ = some (.int .i64 x.kind)
  len : x.val.length = VN
  val : ∀ j v, x.val[j]? = some v → w.cell? ⟨x.blk, 2 + j, none⟩ = some v
  free : ∀ o, w.frozen? ⟨x.blk, o, none⟩ = false
  lt : x.blk < w.heap.size
/-- The table in block tb, its map in mb, but for the ring: m stand in the map, k are all known nodes. -/
structure TabB (P : Program) (kty : TypeId) (VN : Nat) (tb mb : Nat) (most : Int) (m k : List Nd) (w : World) : Prop where
  c0 : w.cell? ⟨tb, 0, none⟩ = some (.int .i64 most)
  c1 : w.cell? ⟨tb, 1, none⟩ = some (.map (some mb))
  free : ∀ o, w.frozen? ⟨tb, o, none⟩ = false
  lt : tb < w.heap.size
  apart : (tb :: mb :: k.map Nd.blk).Nodup
  known : ∀ x ∈ m, x ∈ k
  map : MapV P kty ptrR w mb (m.map (Nd.ent P kty))
  node : ∀ x ∈ k, NdAt VN w x
/-- r stand in the table's ring. -/
def RingIs (VN tb : Nat) (r : List Nd) (w : World) : Prop := Links (2 + VN) w ((tb, 2) :: r.map Nd.pt ++ [(tb, 2)])
section
variable {P : Program} {kty : TypeId} {VN tb mb : Nat} {most : Int} {r m k : List Nd} {w : World}
theorem pts_blk (l : List Nd) : (l.map Nd.pt).map (·.1) = l.map Nd.blk := by rw [List.map_map]; rfl
theorem TabB.inj (h : TabB P kty VN tb mb most m k w) {a b : Nd} (ha : a ∈ k) (hb : b ∈ k) (e : a.blk = b.blk) : a = b := by
  have := h.apart
  rw [List.nodup_cons, List.nodup_cons] at this
  exact inj_map this.2.2 ha hb e
theorem TabB.tm (h : TabB P kty VN tb mb most m k w) : tb ≠ mb := by
  have := h.apart
  rw [List.nodup_cons] at this
  exact fun e => this.1 (by simp [e])
theorem TabB.tbn (h : TabB P kty VN tb mb most m k w) {a : Nd} (ha : a ∈ k) : a.blk ≠ tb ∧ a.blk ≠ mb := by
  have := h.apart
  rw [List.nodup_cons, List.nodup_cons] at this
  exact ⟨fun e => this.1 (by simp; exact .inr ⟨a, ha, e⟩), fun e => this.2.1 (List.mem_map.2 ⟨a, ha, e⟩)⟩
theorem TabB.apartOf (h : TabB P kty VN tb mb most m k w) {l : List Nd} (hl : ∀ x ∈ l, x ∈ k) (hn : l.Nodup) : Apart ((tb, 2) :: l.map Nd.pt) := by
  rw [Apart, List.map_cons, pts_blk, List.nodup_cons]
  refine ⟨fun hm => ?_, nodup_map hn fun a ha b hb e => h.inj (hl a ha) (hl b hb) e⟩
  obtain ⟨x, hx, e⟩ := List.mem_map.1 hm
  exact (h.tbn (hl x hx)).1 e
theorem NdAt.set {x : Nd} (hx : NdAt VN w x) {p : Addr} (hp : p.block = x.blk → 2 + VN ≤ p.off) (u : Value) : NdAt VN (w.setCell p u) x := by
  have go : ∀ j, j < 2 + VN → (w.setCell p u).cell? ⟨x.blk, j, none⟩ = w.cell? ⟨x.blk, j, none⟩ := fun j hj => sc_other fun e => by
    have := hp (by rw [e])
    rw [e] at this; simp at this; omega
  refine ⟨by rw [go 0 (by omega)]; exact hx.name, by rw [go 1 (by omega)]; exact hx.kind, hx.len, fun j v hv => ?_, fun o => by rw [World.frozen?_setCell]; exact hx.free o, by simpa using hx.lt⟩
  have hj : j < x.val.length := (List.getElem?_eq_some_iff.1 hv).1
  rw [go (2 + j) (by have := hx.len; omega)]
  exact hx.val j v hv
/-- A place of the ring: the ends, or a node. -/
def InRing (tb : Nat) (k : List Nd) (p : Pt) : Prop := p = (tb, 2) ∨ ∃ x ∈ k, p = x.pt
/-- A store to a pointer of a node, or of the ends: all stays but the ring. -/
theorem TabB.set (h : TabB P kty VN tb mb most m k w) {p : Pt} {j : Nat} {u : Value} (hp : InRing tb k p) (hj : 2 + VN ≤ j) : TabB P kty VN tb mb most m k (w.setCell ⟨p.1, p.2 + j, none⟩ u) := by
  have hmb : mb ≠ p.1 := by
    rcases hp with rfl | ⟨x, hx, rfl⟩
    · exact h.tm.symm
    · exact (h.tbn hx).2.symm
  have hc : ∀ o, o < 2 → (w.setCell ⟨p.1, p.2 + j, none⟩ u).cell? ⟨tb, o, none⟩ = w.cell? ⟨tb, o, none⟩ := fun o ho => sc_other fun e => by
    simp only [Addr.mk.injEq] at e; omega
  refine ⟨by rw [hc 0 (by omega)]; exact h.c0, by rw [hc 1 (by omega)]; exact h.c1, fun o => by rw [World.frozen?_setCell]; exact h.free o, by simpa using h.lt, h.apart, h.known, h.map.setCell hmb u, fun x hx => (h.node x hx).set (fun _ => ?_) u⟩
  show 2 + VN ≤ p.2 + j
  omega
theorem TabB.freeAt (h : TabB P kty VN tb mb most m k w) {p : Pt} (hp : InRing tb k p) (o : Nat) : w.frozen? ⟨p.1, o, none⟩ = false := by
  rcases hp with rfl | ⟨x, hx, rfl⟩
  · exact h.free o
  · exact (h.node x hx).free o
theorem TabB.ltAt (h : TabB P kty VN tb mb most m k w) {p : Pt} (hp : InRing tb k p) : p.1 < w.heap.size := by
  rcases hp with rfl | ⟨x, hx, rfl⟩
  · exact h.lt
  · exact (h.node x hx).lt
/-- Where every block of the table is as it was, it is the table still. -/
theorem TabB.keep {w' : World} (h : TabB P kty VN tb mb most m k w) (hb : ∀ b, b = tb ∨ b = mb ∨ (∃ x ∈ k, b = x.blk) → w'.heap[b]? = w.heap[b]?) (hs : w.heap.size ≤ w'.heap.size) : TabB P kty VN tb mb most m k w' := by
  have hc : ∀ b o, b = tb ∨ b = mb ∨ (∃ x ∈ k, b = x.blk) → w'.cell? ⟨b, o, none⟩ = w.cell? ⟨b, o, none⟩ := fun b o h => World.cell?_of_block (w := w) (hb b h)
  have hf : ∀ b o, b = tb ∨ b = mb ∨ (∃ x ∈ k, b = x.blk) → w'.frozen? ⟨b, o, none⟩ = w.frozen? ⟨b, o, none⟩ := fun b o h => World.frozen?_of_block (w := w) (hb b h)
  refine ⟨by rw [hc _ _ (.inl rfl)]; exact h.c0, by rw [hc _ _ (.inl rfl)]; exact h.c1, fun o => by rw [hf _ _ (.inl rfl)]; exact h.free o, Nat.lt_of_lt_of_le h.lt hs, h.apart, h.known, h.map.block (hb mb (.inr (.inl rfl))), fun x hx => ?_⟩
  have hx' := h.node x hx
  have hm := fun o => hc x.blk o (.inr (.inr ⟨x, hx, rfl⟩))
  exact ⟨by rw [hm]; exact hx'.name, by rw [hm]; exact hx'.kind, hx'.len, fun j v hv => by rw [hm]; exact hx'.val j v hv, fun o => by rw [hf _ _ (.inr (.inr ⟨x, hx, rfl⟩))]; exact hx'.free o, Nat.lt_of_lt_of_le hx'.lt hs⟩
theorem RingIs.keep {w' : World} (h : RingIs VN tb r w) (hb : ∀ b, b = tb ∨ (∃ x ∈ r, b = x.blk) → w'.heap[b]? = w.heap[b]?) : RingIs VN tb r w' := by
  refine Links.same h fun x hx o => World.cell?_of_block (w := w) (hb x.1 ?_)
  simp only [List.cons_append, List.mem_cons, List.mem_append, List.not_mem_nil, or_false] at hx
  rcases hx with h | h | h
  · exact .inl (by rw [h])
  · obtain ⟨y, hy, rfl⟩ := List.mem_map.1 h
    exact .inr ⟨y, hy, rfl⟩
  · exact .inl (by rw [h])
/-- n goes out of the ring. -/
theorem tab_out {n : Nd} {r1 r2 : List Nd} (h : TabB P kty VN tb mb most m k w) (hr : RingIs VN tb (r1 ++ n :: r2) w) (hk : ∀ x ∈ r1 ++ n :: r2, x ∈ k) (hn : (r1 ++ n :: r2).Nodup) :
    ∃ p q : Pt, InRing tb k p ∧ InRing tb k q ∧ w.cell? ⟨n.blk, 0 + (2 + VN), none⟩ = some (ptV p) ∧ w.cell? ⟨n.blk, 0 + (2 + VN + 1), none⟩ = some (ptV q) ∧ w.cell? ⟨p.1, p.2 + (2 + VN + 1), none⟩ = some (ptV n.pt) ∧ w.cell? ⟨q.1, q.2 + (2 + VN), none⟩ = some (ptV n.pt) ∧
      (⟨p.1, p.2 + (2 + VN + 1), none⟩ : Addr) ≠ ⟨q.1, q.2 + (2 + VN), none⟩ ∧
      TabB P kty VN tb mb most m k ((w.setCell ⟨p.1, p.2 + (2 + VN + 1), none⟩ (ptV q)).setCell ⟨q.1, q.2 + (2 + VN), none⟩ (ptV p)) ∧ RingIs VN tb (r1 ++ r2) ((w.setCell ⟨p.1, p.2 + (2 + VN + 1), none⟩ (ptV q)).setCell ⟨q.1, q.2 + (2 + VN), none⟩ (ptV p)) := by
  have hA := h.apartOf hk hn
  rw [RingIs] at hr
  rw [List.map_append, List.map_cons] at hA hr
  obtain ⟨p, q, a1, a2, a3, a4, a5, a6, a7⟩ := ring_out hA hr
  have hin : ∀ z, z ∈ (tb, 2) :: (r1.map Nd.pt ++ r2.map Nd.pt) → InRing tb k z := fun z hz => by
    rw [← List.map_append] at hz
    rcases List.mem_cons.1 hz with h | h
    · exact .inl h
    · obtain ⟨y, hy, rfl⟩ := List.mem_map.1 h
      exact .inr ⟨y, hk y (by rcases List.mem_append.1 hy with h | h <;> simp [h]), rfl⟩
  have hp := hin p a3
  have hq := hin q a4
  refine ⟨p, q, hp, hq, a1, a2, a5, a6, ?_, (h.set hp (by omega)).set hq (Nat.le_refl _), ?_⟩
  · refine n_ne_l (a := p) (b := q) fun e => ?_
    have hs : ∀ z, z ∈ (tb, 2) :: (r1.map Nd.pt ++ r2.map Nd.pt) → z ∈ (tb, 2) :: (r1.map Nd.pt ++ n.pt :: r2.map Nd.pt) := fun z hz => by
      simp only [List.mem_cons, List.mem_append] at hz ⊢
      rcases hz with h | h | h
      · exact .inl h
      · exact .inr (.inl h)
      · exact .inr (.inr (.inr h))
    exact hA.inj (hs p a3) (hs q a4) e
  · rw [RingIs, List.map_append]; exact a7
/-- n comes to the front. -/
theorem tab_front {n : Nd} (h : TabB P kty VN tb mb most m k w) (hr : RingIs VN tb r w) (hk : ∀ x ∈ n :: r, x ∈ k) (hn : (n :: r).Nodup) {x y : Value} (hx : w.cell? ⟨n.blk, 0 + (2 + VN), none⟩ = some x) (hy : w.cell? ⟨n.blk, 0 + (2 + VN + 1), none⟩ = some y) :
    ∃ f : Pt, InRing tb k f ∧ f.1 ≠ n.blk ∧ w.cell? ⟨tb, 2 + (2 + VN + 1), none⟩ = some (ptV f) ∧ w.cell? ⟨f.1, f.2 + (2 + VN), none⟩ = some (ptV (tb, 2)) ∧
      (⟨tb, 2 + (2 + VN + 1), none⟩ : Addr) ≠ ⟨f.1, f.2 + (2 + VN), none⟩ ∧
      TabB P kty VN tb mb most m k ((((w.setCell ⟨n.blk, 0 + (2 + VN), none⟩ (ptV (tb, 2))).setCell ⟨n.blk, 0 + (2 + VN + 1), none⟩ (ptV f)).setCell ⟨f.1, f.2 + (2 + VN), none⟩ (ptV n.pt)).setCell ⟨tb, 2 + (2 + VN + 1), none⟩ (ptV n.pt)) ∧
      RingIs VN tb (n :: r) ((((w.setCell ⟨n.blk, 0 + (2 + VN), none⟩ (ptV (tb, 2))).setCell ⟨n.blk, 0 + (2 + VN + 1), none⟩ (ptV f)).setCell ⟨f.1, f.2 + (2 + VN), none⟩ (ptV n.pt)).setCell ⟨tb, 2 + (2 + VN + 1), none⟩ (ptV n.pt)) := by
  have hA0 := h.apartOf hk hn
  have hA : Apart (n.pt :: (tb, 2) :: r.map Nd.pt) := hA0.perm (List.Perm.swap _ _ _)
  obtain ⟨f, a1, a2, a3, a4⟩ := ring_front (x := x) (y := y) hA hr hx hy
  have hf : InRing tb k f := by
    rcases List.mem_cons.1 a2 with h | h
    · exact .inl h
    · obtain ⟨z, hz, rfl⟩ := List.mem_map.1 h
      exact .inr ⟨z, hk z (by simp [hz]), rfl⟩
  have hnk : InRing tb k n.pt := .inr ⟨n, hk n (by simp), rfl⟩
  have hfn : f.1 ≠ n.blk := fun e => by
    rw [Apart, List.map_cons, List.nodup_cons] at hA
    exact hA.1 (List.mem_map.2 ⟨f, a2, e⟩)
  have hA1 : Apart ((tb, 2) :: r.map Nd.pt) := hA.sub (List.sublist_cons_self _ _)
  refine ⟨f, hf, hfn, a1, a3, n_ne_l (a := (tb, 2)) (b := f) fun e => hA1.inj (by simp) a2 e, ?_, a4⟩
  exact (((h.set (p := n.pt) hnk (Nat.le_refl _)).set (p := n.pt) hnk (by omega)).set hf (Nat.le_refl _)).set (p := (tb, 2)) (.inl rfl) (by omega)
/-- The map alone has turned: the table with another map. -/
theorem TabB.turn {w' : World} {m' : List Nd} (h : TabB P kty VN tb mb most m k w) (ht : w.mapTurned w' mb) (hm : MapV P kty ptrR w' mb (m'.map (Nd.ent P kty))) (hk : ∀ x ∈ m', x ∈ k) : TabB P kty VN tb mb most m' k w' := by
  have g := ht.grown
  have hb : ∀ b, b < w.heap.size → b ≠ mb → w'.heap[b]? = w.heap[b]? := fun b hb hn => g.block b hb fun e => hn (Option.some.inj e)
  have hc : ∀ b o, b < w.heap.size → b ≠ mb → w'.cell? ⟨b, o, none⟩ = w.cell? ⟨b, o, none⟩ := fun b o h h2 => World.cell?_of_block (w := w) (hb b h h2)
  have hf : ∀ b o, b < w.heap.size → b ≠ mb → w'.frozen? ⟨b, o, none⟩ = w.frozen? ⟨b, o, none⟩ := fun b o h h2 => World.frozen?_of_block (w := w) (hb b h h2)
  have h1 := h.lt
  have h2 := h.tm
  refine ⟨by rw [hc _ _ h1 h2]; exact h.c0, by rw [hc _ _ h1 h2]; exact h.c1, fun o => by rw [hf _ _ h1 h2]; exact h.free o, Nat.lt_of_lt_of_le h.lt g.size, h.apart, hk, hm, fun x hx => ?_⟩
  have hx' := h.node x hx
  have h3 := hx'.lt
  have h4 := (h.tbn hx).2
  exact ⟨by rw [hc _ _ h3 h4]; exact hx'.name, by rw [hc _ _ h3 h4]; exact hx'.kind, hx'.len, fun j v hv => by rw [hc _ _ h3 h4]; exact hx'.val j v hv, fun o => by rw [hf _ _ h3 h4]; exact hx'.free o, Nat.lt_of_lt_of_le h3 g.size⟩
theorem RingIs.turn {w' : World} (h : RingIs VN tb r w) (ht : w.mapTurned w' mb) (hl : ∀ b, b = tb ∨ (∃ x ∈ r, b = x.blk) → b < w.heap.size ∧ b ≠ mb) : RingIs VN tb r w' :=
  h.keep fun b hb => ht.grown.block b (hl b hb).1 fun e => (hl b hb).2 (Option.some.inj e)
/-- A node's value is written (one cell). -/
theorem TabB.val {x : Nd} (h : TabB P kty 1 tb mb most (x :: m) (x :: k) w) (v : Value) : TabB P kty 1 tb mb most ({ x with val := [v] } :: m) ({ x with val := [v] } :: k) (w.setCell ⟨x.blk, 2, none⟩ v) := by
  have hx := h.node x (by simp)
  have hap := h.apart
  rw [List.map_cons] at hap
  have hmb : mb ≠ x.blk := (h.tbn (a := x) (by simp)).2.symm
  have htb : tb ≠ x.blk := (h.tbn (a := x) (by simp)).1.symm
  have hv0 : ∃ v0, w.cell? ⟨x.blk, 2, none⟩ = some v0 := by
    have hl := hx.len
    obtain ⟨v0, e⟩ : ∃ v0, x.val = [v0] := by
      match hq : x.val, hl with
      | [a], _ => exact ⟨a, rfl⟩
    exact ⟨v0, hx.val 0 v0 (by rw [e]; rfl)⟩
  obtain ⟨v0, hv0⟩ := hv0
  have oth : ∀ b o, b ≠ x.blk → (w.setCell ⟨x.blk, 2, none⟩ v).cell? ⟨b, o, none⟩ = w.cell? ⟨b, o, none⟩ := fun b o hb => sc_other fun e => hb (by cases e; rfl)
  have own : ∀ o, o ≠ 2 → (w.setCell ⟨x.blk, 2, none⟩ v).cell? ⟨x.blk, o, none⟩ = w.cell? ⟨x.blk, o, none⟩ := fun o ho => sc_other fun e => ho (by cases e; rfl)
  refine ⟨by rw [oth _ _ htb]; exact h.c0, by rw [oth _ _ htb]; exact h.c1, fun o => by rw [World.frozen?_setCell]; exact h.free o, by simpa using h.lt, by rw [List.map_cons]; exact hap, fun y hy => ?_, ?_, fun y hy => ?_⟩
  · rcases List.mem_cons.1 hy with rfl | hy
    · simp
    · rcases List.mem_cons.1 (h.known y (by simp [hy])) with e | hk
      · by_cases hm : x ∈ m
        · exfalso
          have hn := h.map.keys
          rw [List.map_cons, List.map_cons, List.nodup_cons] at hn
          exact hn.1 (List.mem_map.2 ⟨x.ent P kty, List.mem_map.2 ⟨x, hm, rfl⟩, rfl⟩)
        · exact absurd (e ▸ hy) hm
      · simp [hk]
  · have := h.map.setCell (a := ⟨x.blk, 2, none⟩) hmb v
    rw [List.map_cons] at this ⊢
    exact this
  · rcases List.mem_cons.1 hy with rfl | hy
    · exact ⟨by rw [own 0 (by omega)]; exact hx.name, by rw [own 1 (by omega)]; exact hx.kind, rfl, fun j u hu => by
        match j, hu with
        | 0, hu => simp at hu; subst hu; exact sc_same hv0, fun o => by rw [World.frozen?_setCell]; exact hx.free o, by simpa using hx.lt⟩
    · have hy' := h.node y (by simp [hy])
      have hne : y.blk ≠ x.blk := fun e => by
        rw [List.nodup_cons, List.nodup_cons, List.nodup_cons] at hap
        exact hap.2.2.1 (List.mem_map.2 ⟨y, hy, e⟩)
      exact ⟨by rw [oth _ _ hne]; exact hy'.name, by rw [oth _ _ hne]; exact hy'.kind, hy'.len, fun j u hu => by rw [oth _ _ hne]; exact hy'.val j u hu, fun o => by rw [World.frozen?_setCell]; exact hy'.free o, by simpa using hy'.lt⟩
/-- A new node is known. -/
theorem TabB.add (h : TabB P kty 1 tb mb most m k w) (n : ByteArray) (kd : Int) (v0 a b : Value) (T : TypeId) : TabB P kty 1 tb mb most m (⟨n, kd, [v0], w.heap.size⟩ :: k) (w.alloc (.cells #[.string n, .int .i64 kd, v0, a, b] T)) := by
  have hb := Below.heap_alloc w (.cells #[.string n, .int .i64 kd, v0, a, b] T)
  have hlt : ∀ c, c = tb ∨ c = mb ∨ (∃ x ∈ k, c = x.blk) → c < w.heap.size := fun c hc => by
    rcases hc with rfl | rfl | ⟨x, hx, rfl⟩
    · exact h.lt
    · exact h.map.lt
    · exact (h.node x hx).lt
  have h' := h.keep (w' := w.alloc (.cells #[.string n, .int .i64 kd, v0, a, b] T)) (fun c hc => hb c (hlt c hc)) (by simp)
  have hnew : (w.alloc (.cells #[.string n, .int .i64 kd, v0, a, b] T)).heap[w.heap.size]? = some (.cells #[.string n, .int .i64 kd, v0, a, b] T (0, 0)) := by show (w.heap.push _)[w.heap.size]? = _; simp
  refine ⟨h'.c0, h'.c1, h'.free, h'.lt, ?_, fun x hx => by simp [h'.known x hx], h'.map, fun x hx => ?_⟩
  · have hap := h.apart
    rw [List.map_cons]
    have hp : (w.heap.size :: tb :: mb :: k.map Nd.blk).Perm (tb :: mb :: w.heap.size :: k.map Nd.blk) := (List.Perm.swap _ _ _).trans ((List.Perm.swap _ _ _).cons tb)
    refine hp.nodup_iff.1 (List.nodup_cons.2 ⟨fun hi => ?_, hap⟩)
    have := hlt w.heap.size (by
      simp only [List.mem_cons, List.mem_map] at hi
      rcases hi with e | e | ⟨x, hx, e⟩
      · exact .inl e
      · exact .inr (.inl e)
      · exact .inr (.inr ⟨x, hx, e.symm⟩))
    omega
  · rcases List.mem_cons.1 hx with rfl | hx
    · refine ⟨cell_of_row _ _ 0 _ _ _ hnew, cell_of_row _ _ 1 _ _ _ hnew, rfl, fun j v hv => ?_, fun o => frozen_of_row _ _ o _ _ hnew, by simp⟩
      match j, hv with
      | 0, hv => simp at hv; subst hv; exact cell_of_row _ _ 2 _ _ _ hnew
    · exact h'.node x hx
theorem RingIs.set {p : Addr} {u : Value} (h : RingIs VN tb r w) (hp : p.off < 2 + VN) : RingIs VN tb r (w.setCell p u) :=
  Links.set p u h (fun x _ e => by rw [← e] at hp; simp only [nC] at hp; omega) (fun x _ e => by rw [← e] at hp; simp only [lC] at hp; omega)
/-- The last of the ring. -/
theorem ring_last {z : Nd} {l : List Nd} (h : RingIs VN tb (l ++ [z]) w) : w.cell? ⟨tb, 2 + (2 + VN), none⟩ = some (ptV z.pt) := by
  unfold RingIs at h
  rw [List.map_append, List.map_cons, List.map_nil, List.cons_append, List.append_assoc, List.cons_append, List.nil_append, ← List.cons_append, links_app] at h
  exact h.2.1.2
/-- Fewer nodes known. -/
theorem TabB.less {k' : List Nd} (h : TabB P kty VN tb mb most m k w) (hk : ∀ x ∈ k', x ∈ k) (hn : k'.Nodup) (hm : ∀ x ∈ m, x ∈ k') : TabB P kty VN tb mb most m k' w := by
  refine ⟨h.c0, h.c1, h.free, h.lt, ?_, hm, h.map, fun x hx => h.node x (hk x hx)⟩
  rw [List.nodup_cons, List.nodup_cons]
  refine ⟨fun hi => ?_, fun hi => ?_, nodup_map hn fun a ha b hb e => h.inj (hk a ha) (hk b hb) e⟩
  · rcases List.mem_cons.1 hi with e | hi
    · exact h.tm e
    · obtain ⟨x, hx, e⟩ := List.mem_map.1 hi
      exact (h.tbn (hk x hx)).1 e
  · obtain ⟨x, hx, e⟩ := List.mem_map.1 hi
    exact (h.tbn (hk x hx)).2 e
theorem TabB.perm {m' k' : List Nd} (h : TabB P kty VN tb mb most m k w) (hm : m.Perm m') (hk : k.Perm k') : TabB P kty VN tb mb most m' k' w :=
  ⟨h.c0, h.c1, h.free, h.lt, ((hk.map Nd.blk).cons mb |>.cons tb).nodup_iff.1 h.apart, fun x hx => hk.mem_iff.1 (h.known x (hm.mem_iff.2 hx)), h.map.perm (hm.map _), fun x hx => h.node x (hk.mem_iff.2 hx)⟩
end
/-- But for the blocks of S the old world is as it was. -/
structure Bes (S : Nat → Prop) (w w' : World) : Prop where
  os : w'.os = w.os
  tape : w'.tape = w.tape
  output : w'.output = w.output
  size : w.heap.size ≤ w'.heap.size
  block : ∀ b, b < w.heap.size → ¬ S b → w'.heap[b]? = w.heap[b]?
theorem Bes.refl (S : Nat → Prop) (w : World) : Bes S w w := ⟨rfl, rfl, rfl, Nat.le_refl _, fun _ _ _ => rfl⟩
theorem Bes.trans {S T : Nat → Prop} {u v w : World} (h : Bes S u v) (k : Bes T v w) (hT : ∀ b, T b → S b ∨ u.heap.size ≤ b) : Bes S u w :=
  ⟨k.os.trans h.os, k.tape.trans h.tape, k.output.trans h.output, Nat.le_trans h.size k.size, fun b hb hs => (k.block b (Nat.lt_of_lt_of_le hb h.size) fun ht => by
    rcases hT b ht with h1 | h1
    · exact hs h1
    · omega).trans (h.block b hb hs)⟩
theorem Bes.trans1 {S : Nat → Prop} {u v w : World} (h : Bes S u v) (k : Bes S v w) : Bes S u w := h.trans k fun _ h => .inl h
theorem Bes.of_below {S : Nat → Prop} {w w' : World} (h : Below w.heap.size w w') : Bes S w w' := ⟨h.os, h.tape, h.output, h.size, fun b hb _ => h.block b hb⟩
theorem Bes.toBelow {S : Nat → Prop} {w w' : World} {B : Nat} (h : Bes S w w') (hS : ∀ b, S b → B ≤ b) (hB : B ≤ w.heap.size) : Below B w w' :=
  ⟨h.os, h.tape, h.output, h.size, fun b hb => h.block b (by omega) fun hs => by have := hS b hs; omega⟩
theorem Bes.mono {S T : Nat → Prop} {w w' : World} (h : Bes S w w') (hT : ∀ b, b < w.heap.size → S b → T b) : Bes T w w' := ⟨h.os, h.tape, h.output, h.size, fun b hb hn => h.block b hb fun hs => hn (hT b hb hs)⟩
theorem Bes.setCell {S : Nat → Prop} {u w : World} (h : Bes S u w) {p : Addr} (hp : S p.block) (v : Value) : Bes S u (w.setCell p v) :=
  ⟨h.os, h.tape, h.output, by simpa using h.size, fun b hb hs => by
    rw [Below.heap_setCell _ _ _ _ (fun e => hs (by rw [e]; exact hp))]
    exact h.block b hb hs⟩
theorem Bes.drewN {S : Nat → Prop} {u w : World} (h : Bes S u w) (n : Nat) : Bes S u (w.drewN n) := ⟨h.os, h.tape, h.output, h.size, h.block⟩
theorem Bes.drew {S : Nat → Prop} {u w : World} (h : Bes S u w) : Bes S u w.drew := ⟨h.os, h.tape, h.output, h.size, h.block⟩
theorem Bes.turned {w w' : World} {b : Nat} (h : w.mapTurned w' b) : Bes (fun x => x = b) w w' := by
  have g := h.grown
  exact ⟨g.os, g.tape, g.output, g.size, fun k hk hn => g.block k hk (fun e => hn (Option.some.inj e))⟩
/-- The blocks of a table. -/
def InTab (tb mb : Nat) (k : List Nd) (b : Nat) : Prop := b = tb ∨ b = mb ∨ ∃ x ∈ k, b = x.blk
theorem InRing.inTab {tb mb : Nat} {k : List Nd} {p : Pt} (h : InRing tb k p) : InTab tb mb k p.1 := by
  rcases h with rfl | ⟨x, hx, rfl⟩
  · exact .inl rfl
  · exact .inr (.inr ⟨x, hx, rfl⟩)
/-- A table that is whole: these nodes, what was used last ahead. -/
structure TabIs (P : Program) (kty : TypeId) (VN : Nat) (tb mb : Nat) (most : Int) (l : List Nd) (w : World) : Prop where
  body : TabB P kty VN tb mb most l l w
  ring : RingIs VN tb l w
  nodup : l.Nodup
  keys : ∀ x ∈ l, keyOf P kty (keyV x.name x.kind) = some (keyLit P kty x.name x.kind)
theorem TabIs.keep {P : Program} {kty : TypeId} {VN tb mb : Nat} {most : Int} {l : List Nd} {w w' : World} (h : TabIs P kty VN tb mb most l w) (hb : ∀ b, InTab tb mb l b → w'.heap[b]? = w.heap[b]?) (hs : w.heap.size ≤ w'.heap.size) : TabIs P kty VN tb mb most l w' :=
  ⟨h.body.keep hb hs, h.ring.keep fun b hb' => hb b (by rcases hb' with h | h; exact .inl h; exact .inr (.inr h)), h.nodup, h.keys⟩
theorem TabIs.lt {P : Program} {kty : TypeId} {VN tb mb : Nat} {most : Int} {l : List Nd} {w : World} (h : TabIs P kty VN tb mb most l w) {b : Nat} (hb : InTab tb mb l b) : b < w.heap.size := by
  rcases hb with rfl | rfl | ⟨x, hx, rfl⟩
  · exact h.body.lt
  · exact h.body.map.lt
  · exact (h.body.node x hx).lt
theorem TabIs.below {P : Program} {kty : TypeId} {VN tb mb : Nat} {most : Int} {l : List Nd} {w w' : World} (h : TabIs P kty VN tb mb most l w) (hb : Below w.heap.size w w') : TabIs P kty VN tb mb most l w' :=
  h.keep (fun b hi => hb.block b (h.lt hi)) hb.size
end Go.Proofs.YtkhpcagoggglcaaGreatDoor

/- rrcache's small parts: rows of texts that lie apart from some blocks, slices.Clone, twin, isTime. -/
namespace Go.Proofs.YtkhpcagoggglcaaGreatDoor
open Go.RowKit

/-- v is a slice that reads as these texts, in a block of S. -/
def StrsN (S : Nat → Prop) (v : Value) (l : List ByteArray) (w : World) : Prop :=
  ∃ A c, v = .slice A l.length c ∧ (0 < l.length → ∃ g o, A = some ⟨g, o, none⟩ ∧ g < w.heap.size ∧ S g ∧ ∀ j (h : j < l.length), w.cell? ⟨g, o + j, none⟩ = some (.string l[j]))
theorem StrsN.at {S : Nat → Prop} {v : Value} {l : List ByteArray} {w : World} (h : StrsN S v l w) : StrsAt v l w := by
  obtain ⟨A, c, rfl, h⟩ := h
  exact ⟨A, c, rfl, fun h0 => by obtain ⟨g, o, h1, h2, _, h3⟩ := h h0; exact ⟨g, o, h1, h2, h3⟩⟩
theorem StrsN.of_at {v : Value} {l : List ByteArray} {w : World} (h : StrsAt v l w) : StrsN (fun g => g < w.heap.size) v l w := by
  obtain ⟨A, c, rfl, h⟩ := h
  exact ⟨A, c, rfl, fun h0 => by obtain ⟨g, o, h1, h2, h3⟩ := h h0; exact ⟨g, o, h1, h2, h2, h3⟩⟩
theorem StrsN.mono {S T : Nat → Prop} {v : Value} {l : List ByteArray} {w : World} (h : StrsN S v l w) (hT : ∀ g, g < w.heap.size → S g → T g) : StrsN T v l w := by
  obtain ⟨A, c, rfl, h⟩ := h
  exact ⟨A, c, rfl, fun h0 => by obtain ⟨g, o, h1, h2, h3, h4⟩ := h h0; exact ⟨g, o, h1, h2, hT g h2 h3, h4⟩⟩
/-- Where the blocks of S are as they were. -/
theorem StrsN.keep {S : Nat → Prop} {v : Value} {l : List ByteArray} {w w' : World} (h : StrsN S v l w) (hb : ∀ g, g < w.heap.size → S g → w'.heap[g]? = w.heap[g]?) (hs : w.heap.size ≤ w'.heap.size) : StrsN S v l w' := by
  obtain ⟨A, c, rfl, h⟩ := h
  refine ⟨A, c, rfl, fun h0 => ?_⟩
  obtain ⟨g, o, h1, h2, h3, h4⟩ := h h0
  exact ⟨g, o, h1, by omega, h3, fun j hj => by rw [World.cell?_of_block (w := w) (hb g h2 h3)]; exact h4 j hj⟩
theorem StrsN.below {S : Nat → Prop} {v : Value} {l : List ByteArray} {w w' : World} (h : StrsN S v l w) (hb : Below w.heap.size w w') : StrsN S v l w' := h.keep (fun g hg _ => hb.block g hg) hb.size
theorem OwnS.strsN {base : Nat} {v : Value} {l : List ByteArray} {w : World} (h : OwnS base v l w) : StrsN (fun g => base ≤ g) v l w := by
  obtain ⟨A, c, rfl⟩ := OwnS.len h
  refine ⟨A, c, rfl, fun h0 => ?_⟩
  obtain ⟨g, c', e, hb, hg, hc⟩ := OwnS.get h h0
  injection e with e1
  exact ⟨g, 0, e1, hg, hb, fun j hj => by rw [Nat.zero_add]; exact hc j hj⟩
/-- A copy in memory of its own. -/
def ClonedP (l : List ByteArray) (w : World) (e : Ending) (w' : World) : Prop := ∃ A c, e = .returned (.slice A l.length c) ∧ StrsN (fun g => w.heap.size ≤ g) (.slice A l.length c) l w' ∧ Below w.heap.size w w'
theorem clone_any (v : Value) (l : List ByteArray) (w : World) (h : StrsAt v l w) (hl : l.length ≤ 1000000) : Calls Tryz.prog 33 #[v] w (ClonedP l w) := by
  obtain ⟨A, c, rfl, h⟩ := h
  rcases Nat.eq_zero_or_pos l.length with h0 | h0
  · obtain rfl := List.eq_nil_of_length_eq_zero h0
    cases A with
    | none => exact (Tryz.slices_Clone_string_nil _ _ w).mono fun e w' ⟨h1, h2⟩ => ⟨none, 0, h1, ⟨none, 0, rfl, fun h => absurd h (by simp)⟩, by rw [h2]; exact Below.refl _ _⟩
    | some a =>
      refine (Tryz.slices_Clone_string_zero a c w).mono ?_
      rintro e w' ⟨v', h1, h2, _, h3⟩
      obtain ⟨A2, c2, rfl⟩ := OwnS.len (l := []) h2
      exact ⟨A2, c2, h1, OwnS.strsN (l := []) h2, h3⟩
  · obtain ⟨g, o, rfl, hg, hc⟩ := h h0
    refine (Tryz.slices_Clone_string g o l.length c l w (Nat.le_refl _) (by omega) (fun j hj => by rw [hc j hj, getD_map l j hj])).mono fun e w' ⟨v', h1, h2, _, h3⟩ => ?_
    rw [List.take_length] at h2
    obtain ⟨A2, c2, rfl⟩ := OwnS.len (l := l) h2
    exact ⟨A2, c2, h1, OwnS.strsN (l := l) h2, h3⟩
def isTimeR (n : Int) : Bool := decide (0 ≤ n) && decide (n < 4294967296)
theorem isTime_any (n : Int) (w : World) (h : -9223372036854775808 ≤ n ∧ n ≤ 9223372036854775807) : Calls Tryz.prog 16 #[.int .i64 n] w fun e w' => e = .returned (.bool (isTimeR n)) ∧ w = w' := by
  unfold isTimeR
  by_cases h0 : 0 ≤ n
  · have q0 : decide (0 ≤ n) = true := decide_eq_true h0
    have q1 : (n / 4294967296 == 0) = decide (n < 4294967296) := by
      rw [Bool.eq_iff_iff, beq_iff_eq, decide_eq_true_eq]; omega
    rw [q0, Bool.true_and]
    generalize decide (n < 4294967296) = b at q1
    go_enter Tryz.func16, Tryz.ntmps16
    go_wp2
    go_ret
    exact ⟨rfl, rfl⟩
  · have q0 : decide (0 ≤ n) = false := decide_eq_false h0
    rw [q0, Bool.false_and]
    go_enter Tryz.func16, Tryz.ntmps16
    go_wp2
    go_ret
    exact ⟨rfl, rfl⟩
theorem info_setR : (Tryz.prog.info? 30).map (·.size) = some 6 := by kernel_rfl
theorem blk_set6 {W : World} {g : Nat} {T : TypeId} {o0 o1 o2 o3 o4 o5 : Value} (h : Blk W g #[o0, o1, o2, o3, o4, o5] T) (v0 v1 v2 v3 v4 v5 : Value) :
    Blk ((((((W.setCell ⟨g, 0, none⟩ v0).setCell ⟨g, 1, none⟩ v1).setCell ⟨g, 2, none⟩ v2).setCell ⟨g, 3, none⟩ v3).setCell ⟨g, 4, none⟩ v4).setCell ⟨g, 5, none⟩ v5) g #[v0, v1, v2, v3, v4, v5] T := by
  simpa using (((((h.set 0 v0).set 1 v1).set 2 v2).set 3 v3).set 4 v4).set 5 v5
theorem bes_set6 {S : Nat → Prop} {U W : World} {g : Nat} (h : Bes S U W) (hg : S g) (v0 v1 v2 v3 v4 v5 : Value) :
    Bes S U ((((((W.setCell ⟨g, 0, none⟩ v0).setCell ⟨g, 1, none⟩ v1).setCell ⟨g, 2, none⟩ v2).setCell ⟨g, 3, none⟩ v3).setCell ⟨g, 4, none⟩ v4).setCell ⟨g, 5, none⟩ v5) :=
  (((((h.setCell (p := ⟨g, 0, none⟩) hg v0).setCell (p := ⟨g, 1, none⟩) hg v1).setCell (p := ⟨g, 2, none⟩) hg v2).setCell (p := ⟨g, 3, none⟩) hg v3).setCell (p := ⟨g, 4, none⟩) hg v4).setCell (p := ⟨g, 5, none⟩) hg v5
def TwinP (s : SetD) (w : World) (e : Ending) (w' : World) : Prop := ∃ A c B d, e = .returned (s.v (.slice A s.data.length c) (.slice B s.sigs.length d)) ∧ StrsN (fun g => w.heap.size ≤ g) (.slice A s.data.length c) s.data w' ∧ StrsN (fun g => w.heap.size ≤ g) (.slice B s.sigs.length d) s.sigs w' ∧ Below w.heap.size w w'
set_option maxRecDepth 100000 in
set_option maxHeartbeats 1000000 in
theorem twin_any (s : SetD) (dv sv : Value) (w : World) (hd : StrsAt dv s.data w) (hs : StrsAt sv s.sigs w) (h1 : s.data.length ≤ 1000000) (h2 : s.sigs.length ≤ 1000000) : Calls Tryz.prog 19 #[s.v dv sv] w (TwinP s w) := by
  have hcd := fun W (h : Below w.heap.size w W) => clone_any dv s.data W (hd.below h) h1
  have hcs := fun W (h : Below w.heap.size w W) => clone_any sv s.sigs W (hs.below h) h2
  obtain ⟨A, c1, rfl, _⟩ := hd
  obtain ⟨B, c2, rfl, _⟩ := hs
  obtain ⟨xn, xk, xc, xt, xd, xs⟩ := s
  simp only [SetD.v, SetD.cells] at *
  have HCD := Lib.hid hcd; have HCS := Lib.hid hcs
  rename_i q1 q2
  clear hcd hcs h1 h2 q1 q2
  go_enter Tryz.func19, Tryz.ntmps19
  go_wp2
  have hk : Blk ((w.alloc (.cells #[.string xn, .int .i64 xk, .int .i64 xc, .int .i64 xt, .slice A xd.length c1, .slice B xs.length c2] 30)).alloc (.cells #[.string ⟨#[]⟩, .int .i64 0, .int .i64 0, .int .i64 0, .slice none 0 0, .slice none 0 0] 30)) w.heap.size #[.string xn, .int .i64 xk, .int .i64 xc, .int .i64 xt, .slice A xd.length c1, .slice B xs.length c2] 30 := (Blk.new w _ _).alloc _
  have hz : Blk ((w.alloc (.cells #[.string xn, .int .i64 xk, .int .i64 xc, .int .i64 xt, .slice A xd.length c1, .slice B xs.length c2] 30)).alloc (.cells #[.string ⟨#[]⟩, .int .i64 0, .int .i64 0, .int .i64 0, .slice none 0 0, .slice none 0 0] 30)) (w.heap.size + 1) #[.string ⟨#[]⟩, .int .i64 0, .int .i64 0, .int .i64 0, .slice none 0 0, .slice none 0 0] 30 := by
    have := Blk.new (w.alloc (.cells #[.string xn, .int .i64 xk, .int .i64 xc, .int .i64 xt, .slice A xd.length c1, .slice B xs.length c2] 30)) #[.string ⟨#[]⟩, .int .i64 0, .int .i64 0, .int .i64 0, .slice none 0 0, .slice none 0 0] 30
    simpa using this
  have hb0 := ((Below.refl _ w).alloc (Nat.le_refl _) (.cells #[.string xn, .int .i64 xk, .int .i64 xc, .int .i64 xt, .slice A xd.length c1, .slice B xs.length c2] 30)).alloc (by simp) (.cells #[.string ⟨#[]⟩, .int .i64 0, .int .i64 0, .int .i64 0, .slice none 0 0, .slice none 0 0] 30)
  generalize ((w.alloc (.cells #[.string xn, .int .i64 xk, .int .i64 xc, .int .i64 xt, .slice A xd.length c1, .slice B xs.length c2] 30)).alloc (.cells #[.string ⟨#[]⟩, .int .i64 0, .int .i64 0, .int .i64 0, .slice none 0 0, .slice none 0 0] 30)) = W0 at hk hz hb0
  have lt0 := hk.lt
  have d4 : W0.cell? ⟨w.heap.size, 4, none⟩ = some (.slice A xd.length c1) := hk.cell 4
  have d5 : W0.cell? ⟨w.heap.size, 5, none⟩ = some (.slice B xs.length c2) := hk.cell 5
  have HB0 := Lib.hid (show Below w.heap.size w W0.drew from hb0.drew)
  have HK := Lib.hid (And.intro (show Blk W0.drew _ _ _ from hk) (show Blk W0.drew _ _ _ from hz))
  clear hk hz hb0
  go_region_with (first
    | (go_at_call 33; ((with_reducible refine (HCD.out _ HB0.out).mono ?_); rintro e W1 ⟨A1, e1, rfl, hn1, hb1⟩; have HB1 := Lib.hid (And.intro hn1 (And.intro (HB0.out.trans (hb1.mono HB0.out.size)) (And.intro (HK.out.1.below hb1 HK.out.1.lt) (HK.out.2.below hb1 HK.out.2.lt)))); have d41 := HB1.out.2.2.1.cell 4; have d51 := HB1.out.2.2.1.cell 5; have f1 := fun j => HB1.out.2.2.1.free j; have lt1 := HB1.out.2.2.1.lt; clear hn1 hb1))
    | (go_at_call 33; ((with_reducible refine (HCS.out _ HB1.out.2.1).mono ?_); rintro e W2 ⟨A2, e2, rfl, hn2, hb2⟩; have HB2 := Lib.hid (And.intro (HB1.out.1.below hb2) (And.intro hn2 (And.intro (HB1.out.2.1.trans (hb2.mono HB1.out.2.1.size)) (And.intro (HB1.out.2.2.1.below hb2 HB1.out.2.2.1.lt) (HB1.out.2.2.2.below hb2 HB1.out.2.2.2.lt))))); have d42 := HB2.out.2.2.2.1.cell 4; have d52 := HB2.out.2.2.2.1.cell 5; have f2 := fun j => HB2.out.2.2.2.1.free j; have lt2 := HB2.out.2.2.2.1.lt; clear hn2 hb2)))
  all_goals
    clear d4 d5 d41 d51 f1 lt1 d42 d52 f2 lt2 lt0
    have hk3 : Blk ((W2.setCell ⟨w.heap.size, 4, none⟩ (.slice A1 xd.length e1)).setCell ⟨w.heap.size, 5, none⟩ (.slice A2 xs.length e2)) w.heap.size #[.string xn, .int .i64 xk, .int .i64 xc, .int .i64 xt, .slice A1 xd.length e1, .slice A2 xs.length e2] 30 := by
      simpa using (HB2.out.2.2.2.1.set 4 (.slice A1 xd.length e1)).set 5 (.slice A2 xs.length e2)
    have hz3 : Blk ((W2.setCell ⟨w.heap.size, 4, none⟩ (.slice A1 xd.length e1)).setCell ⟨w.heap.size, 5, none⟩ (.slice A2 xs.length e2)) (w.heap.size + 1) #[.string ⟨#[]⟩, .int .i64 0, .int .i64 0, .int .i64 0, .slice none 0 0, .slice none 0 0] 30 :=
      (HB2.out.2.2.2.2.other (by show w.heap.size + 1 ≠ w.heap.size; omega) _).other (by show w.heap.size + 1 ≠ w.heap.size; omega) _
    have hlt0 := HK.out.2.lt
    have hs3 := ((Bes.refl (fun b => b = w.heap.size ∨ b = w.heap.size + 1) W2).setCell (p := ⟨w.heap.size, 4, none⟩) (.inl rfl) (.slice A1 xd.length e1)).setCell (p := ⟨w.heap.size, 5, none⟩) (.inl rfl) (.slice A2 xs.length e2)
    generalize ((W2.setCell ⟨w.heap.size, 4, none⟩ (.slice A1 xd.length e1)).setCell ⟨w.heap.size, 5, none⟩ (.slice A2 xs.length e2)) = W3 at hk3 hz3 hs3 ⊢
    have k0 := hk3.cell 0; have k1 := hk3.cell 1; have k2 := hk3.cell 2; have k3 := hk3.cell 3; have k4 := hk3.cell 4; have k5 := hk3.cell 5
    have z0 := hz3.cell 0; have z1 := hz3.cell 1; have z2 := hz3.cell 2; have z3 := hz3.cell 3; have z4 := hz3.cell 4; have z5 := hz3.cell 5
    have zf := fun j => hz3.free j
    have zl := hz3.lt; have kl := hk3.lt
    have HZ := Lib.hid (And.intro hz3 hs3)
    clear hk3 hz3 hs3
    go_wp2
    have hr := blk_set6 HZ.out.1 (.string xn) (.int .i64 xk) (.int .i64 xc) (.int .i64 xt) (.slice A1 xd.length e1) (.slice A2 xs.length e2)
    have hs4 := bes_set6 (S := fun b => b = w.heap.size ∨ b = w.heap.size + 1) HZ.out.2 (g := w.heap.size + 1) (.inr rfl) (.string xn) (.int .i64 xk) (.int .i64 xc) (.int .i64 xt) (.slice A1 xd.length e1) (.slice A2 xs.length e2)
    refine bodyPost_ret (results1 rfl ⟨_, rfl, loadVar_blk hr Tryz.underlying30 rfl info_setR⟩) rfl ⟨A1, e1, A2, e2, rfl, ?_, ?_, ?_⟩
    · exact (HB2.out.1.keep (fun g hg hS => hs4.block g hg (by have hS' : W0.drew.heap.size ≤ g := hS; omega)) hs4.size).mono fun g _ hS => by have hS' : W0.drew.heap.size ≤ g := hS; have := HB0.out.size; omega
    · have hW1 := HB1.out.2.2.2.lt
      exact (HB2.out.2.1.keep (fun g hg hS => hs4.block g hg (by have hS' : W1.heap.size ≤ g := hS; omega)) hs4.size).mono fun g _ hS => by have hS' : W1.heap.size ≤ g := hS; have := HB1.out.2.1.size; omega
    · exact HB2.out.2.2.1.trans (hs4.toBelow (fun b hb => by omega) HB2.out.2.2.1.size)
end Go.Proofs.YtkhpcagoggglcaaGreatDoor

/- The ring's two steps, walked (rrcache's table). -/
namespace Go.Proofs.YtkhpcagoggglcaaGreatDoor
open Go.RowKit

theorem cell_set_some {w : World} {a p : Addr} {v u : Value} (h : w.cell? a = some v) : ∃ v', (w.setCell p u).cell? a = some v' := by
  by_cases e : p = a
  · subst e; exact ⟨u, sc_same h⟩
  · exact ⟨v, by rw [sc_other e]; exact h⟩
theorem ne_blk {a b o p : Nat} (h : a ≠ b) : (⟨a, o, none⟩ : Addr) ≠ ⟨b, p, none⟩ := fun e => h (by cases e; rfl)
set_option maxRecDepth 100000 in
theorem rnode_out (b pb po qb qo : Nat) (x y : Value) (w : World) (h1 : w.cell? ⟨b, 3, none⟩ = some (.pointer (some ⟨pb, po, none⟩))) (h2 : w.cell? ⟨b, 4, none⟩ = some (.pointer (some ⟨qb, qo, none⟩))) (hx : w.cell? ⟨pb, po + 4, none⟩ = some x) (hy : w.cell? ⟨qb, qo + 3, none⟩ = some y)
    (f1 : w.frozen? ⟨pb, po + 4, none⟩ = false) (f2 : w.frozen? ⟨qb, qo + 3, none⟩ = false) (hne : (⟨pb, po + 4, none⟩ : Addr) ≠ ⟨qb, qo + 3, none⟩) :
    Calls Tryz.prog 34 #[.pointer (some ⟨b, 0, none⟩)] w fun e w' => e = .returned (.tuple #[]) ∧ w' = (((w.setCell ⟨pb, po + 4, none⟩ (.pointer (some ⟨qb, qo, none⟩))).setCell ⟨qb, qo + 3, none⟩ (.pointer (some ⟨pb, po, none⟩)))).drew := by
  have hy2 : (w.setCell ⟨pb, po + 4, none⟩ (.pointer (some ⟨qb, qo, none⟩))).cell? ⟨qb, qo + 3, none⟩ = some y := by rw [sc_other hne]; exact hy
  go_enter Tryz.func34, Tryz.ntmps34
  go_wp2
  go_region
  all_goals (go_end0; exact ⟨rfl, rfl⟩)

set_option maxRecDepth 100000 in
theorem rnode_front (tb b fb fo : Nat) (x y z : Value) (w : World) (h1 : w.cell? ⟨b, 3, none⟩ = some x) (h2 : w.cell? ⟨b, 4, none⟩ = some y) (h3 : w.cell? ⟨tb, 6, none⟩ = some (.pointer (some ⟨fb, fo, none⟩))) (hz : w.cell? ⟨fb, fo + 3, none⟩ = some z)
    (g1 : w.frozen? ⟨b, 3, none⟩ = false) (g2 : w.frozen? ⟨b, 4, none⟩ = false) (g3 : w.frozen? ⟨fb, fo + 3, none⟩ = false) (g4 : w.frozen? ⟨tb, 6, none⟩ = false) (hfb : fb ≠ b) (htb : tb ≠ b) (hne : (⟨tb, 6, none⟩ : Addr) ≠ ⟨fb, fo + 3, none⟩) :
    Calls Tryz.prog 35 #[.pointer (some ⟨tb, 0, none⟩), .pointer (some ⟨b, 0, none⟩)] w fun e w' => e = .returned (.tuple #[]) ∧
      w' = ((((w.setCell ⟨b, 3, none⟩ (.pointer (some ⟨tb, 2, none⟩))).setCell ⟨b, 4, none⟩ (.pointer (some ⟨fb, fo, none⟩))).setCell ⟨fb, fo + 3, none⟩ (.pointer (some ⟨b, 0, none⟩))).setCell ⟨tb, 6, none⟩ (.pointer (some ⟨b, 0, none⟩))).drew := by
  have k1 : (w.setCell ⟨b, 3, none⟩ (.pointer (some ⟨tb, 2, none⟩))).cell? ⟨b, 4, none⟩ = some y := by rw [sc_other (by simp)]; exact h2
  have k2 : ((w.setCell ⟨b, 3, none⟩ (.pointer (some ⟨tb, 2, none⟩))).setCell ⟨b, 4, none⟩ (.pointer (some ⟨fb, fo, none⟩))).cell? ⟨b, 4, none⟩ = some (.pointer (some ⟨fb, fo, none⟩)) := sc_same k1
  have k3 : ((w.setCell ⟨b, 3, none⟩ (.pointer (some ⟨tb, 2, none⟩))).setCell ⟨b, 4, none⟩ (.pointer (some ⟨fb, fo, none⟩))).cell? ⟨fb, fo + 3, none⟩ = some z := by
    rw [sc_other (ne_blk hfb.symm), sc_other (ne_blk hfb.symm)]; exact hz
  have k4 : (((w.setCell ⟨b, 3, none⟩ (.pointer (some ⟨tb, 2, none⟩))).setCell ⟨b, 4, none⟩ (.pointer (some ⟨fb, fo, none⟩))).setCell ⟨fb, fo + 3, none⟩ (.pointer (some ⟨b, 0, none⟩))).cell? ⟨tb, 6, none⟩ = some (.pointer (some ⟨fb, fo, none⟩)) := by
    rw [sc_other hne.symm, sc_other (ne_blk htb.symm), sc_other (ne_blk htb.symm)]; exact h3
  go_enter Tryz.func35, Tryz.ntmps35
  go_wp2
  go_region
  all_goals go_wp2
  all_goals (go_end0; exact ⟨rfl, rfl⟩)

theorem rtab_out {kty : TypeId} {tb mb : Nat} {most : Int} {m k r1 r2 : List Nd} {n : Nd} {w : World} (h : TabB Tryz.prog kty 1 tb mb most m k w) (hr : RingIs 1 tb (r1 ++ n :: r2) w) (hk : ∀ x ∈ r1 ++ n :: r2, x ∈ k) (hn : (r1 ++ n :: r2).Nodup) :
    Calls Tryz.prog 34 #[.pointer (some ⟨n.blk, 0, none⟩)] w fun e w' => e = .returned (.tuple #[]) ∧ TabB Tryz.prog kty 1 tb mb most m k w' ∧ RingIs 1 tb (r1 ++ r2) w' ∧ Bes (InTab tb mb k) w w' ∧ ∃ x y, w'.cell? ⟨n.blk, 3, none⟩ = some x ∧ w'.cell? ⟨n.blk, 4, none⟩ = some y := by
  obtain ⟨p, q, hp, hq, a1, a2, a3, a4, a5, a6, a7⟩ := tab_out h hr hk hn
  refine (rnode_out n.blk p.1 p.2 q.1 q.2 _ _ w a1 a2 a3 a4 (h.freeAt hp _) (h.freeAt hq _) a5).mono ?_
  rintro e w' ⟨rfl, rfl⟩
  refine ⟨rfl, a6.keep (fun _ _ => rfl) (Nat.le_refl _), a7.keep (fun _ _ => rfl), (((Bes.refl _ w).setCell hp.inTab _).setCell hq.inTab _).drew, ?_⟩
  obtain ⟨x1, e1⟩ := cell_set_some (p := ⟨p.1, p.2 + (2 + 1 + 1), none⟩) (u := ptV q) a1
  obtain ⟨y1, e2⟩ := cell_set_some (p := ⟨p.1, p.2 + (2 + 1 + 1), none⟩) (u := ptV q) a2
  obtain ⟨x2, e3⟩ := cell_set_some (p := ⟨q.1, q.2 + (2 + 1), none⟩) (u := ptV p) e1
  obtain ⟨y2, e4⟩ := cell_set_some (p := ⟨q.1, q.2 + (2 + 1), none⟩) (u := ptV p) e2
  exact ⟨x2, y2, e3, e4⟩
theorem rtab_front {kty : TypeId} {tb mb : Nat} {most : Int} {m k r : List Nd} {n : Nd} {w : World} {x y : Value} (h : TabB Tryz.prog kty 1 tb mb most m k w) (hr : RingIs 1 tb r w) (hk : ∀ x ∈ n :: r, x ∈ k) (hn : (n :: r).Nodup)
    (hx : w.cell? ⟨n.blk, 3, none⟩ = some x) (hy : w.cell? ⟨n.blk, 4, none⟩ = some y) :
    Calls Tryz.prog 35 #[.pointer (some ⟨tb, 0, none⟩), .pointer (some ⟨n.blk, 0, none⟩)] w fun e w' => e = .returned (.tuple #[]) ∧ TabB Tryz.prog kty 1 tb mb most m k w' ∧ RingIs 1 tb (n :: r) w' ∧ Bes (InTab tb mb k) w w' := by
  obtain ⟨f, hf, hfn, a1, a2, a3, a4, a5⟩ := tab_front (VN := 1) h hr hk hn hx hy
  have hnk : InRing tb k n.pt := .inr ⟨n, hk n (by simp), rfl⟩
  refine (rnode_front tb n.blk f.1 f.2 x y _ w hx hy a1 a2 (h.freeAt hnk _) (h.freeAt hnk _) (h.freeAt hf _) (h.free _) hfn (h.tbn (hk n (by simp))).1.symm a3).mono ?_
  rintro e w' ⟨rfl, rfl⟩
  exact ⟨rfl, a4.keep (fun _ _ => rfl) (Nat.le_refl _), a5.keep (fun _ _ => rfl), (((((Bes.refl _ w).setCell (InRing.inTab (p := n.pt) hnk) _).setCell (InRing.inTab (p := n.pt) hnk) _).setCell hf.inTab _).setCell (.inl rfl) _).drew⟩
end Go.Proofs.YtkhpcagoggglcaaGreatDoor

/- The keys of the table (rrcache): a struct of a text and a number. -/
namespace Go.Proofs.YtkhpcagoggglcaaGreatDoor
open Go.RowKit Go.Maps

theorem laidOut_here : laidOutB Tryz.prog = true := by kernel_rfl
theorem rkey_keyed : Keyed Tryz.prog 51 := Keyed.of_law (deep_law_laid laidOut_here (m := 2) (by omega) (of_decide_eq_true (by kernel_rfl)) (by kernel_rfl) (by rw [Tryz.underlying51]))
theorem rmap_under : Tryz.prog.underlying 67 = some (.map 51 68) := Tryz.underlying67
theorem rnode_zero (w : World) : (zeroValue 68).run Tryz.prog w = .ok (.pointer none) w := by kernel_rfl
/-- May this be a key? -/
def KeyOk (P : Program) (kty : TypeId) (n : ByteArray) (k : Int) : Prop := keyOf P kty (keyV n k) = some (keyLit P kty n k)
theorem KeyOk.inj {P : Program} {kty : TypeId} (K : Keyed P kty) {n n' : ByteArray} {k k' : Int} (h : KeyOk P kty n k) (h' : KeyOk P kty n' k') (e : keyLit P kty n k = keyLit P kty n' k') : n = n' ∧ k = k' := by
  unfold KeyOk at h h'
  rw [← e] at h'
  have := K.inj h h'
  simp [keyV] at this
  exact this
theorem rkey_cells : Tryz.prog.cellsOf 51 = 2 := by kernel_rfl
theorem str_cells : Tryz.prog.cellsOf 9 = 1 := by kernel_rfl
theorem int_cells : Tryz.prog.cellsOf 3 = 1 := by kernel_rfl
theorem rkey_deep : Tryz.prog.keyType 51 = true := by kernel_rfl
theorem rkey_size : ∃ d, Tryz.prog.types.size + 1 = d + 1 + 1 := ⟨Tryz.prog.types.size - 1, by have : 0 < Tryz.prog.types.size := of_decide_eq_true (by kernel_rfl); omega⟩
theorem rkeyOk (n : ByteArray) (k : Int) (hn : n.size ≤ maxLen) (hk : (Lit.int .i64 k).wf = true) : KeyOk Tryz.prog 51 n k := by
  have : ∃ l, keyOf Tryz.prog 51 (keyV n k) = some l := by
    have hf : (keyV n k).formed Tryz.prog 51 = true := by simp [keyV, Value.formed, Tryz.underlying51, rkey_cells]
    obtain ⟨d, hd⟩ := rkey_size
    unfold keyOf
    rw [Tryz.underlying51]
    simp only [rkey_deep, hf, Bool.and_self, if_true]
    rw [hd]
    simp [keyV, Value.cells, Program.keyLits, Tryz.underlying51, Tryz.underlying9, Tryz.underlying3, rkey_cells, str_cells, int_cells, hn, hk]
  obtain ⟨l, h⟩ := this
  unfold KeyOk keyLit
  rw [h]; rfl
end Go.Proofs.YtkhpcagoggglcaaGreatDoor

/- The table's functions, walked (rrcache's table). -/
namespace Go.Proofs.YtkhpcagoggglcaaGreatDoor
open Go.RowKit Go.Maps

theorem below_drewN {B : Nat} {w w' : World} (h : Below B w w') (n : Nat) : Below B w (w'.drewN n) := ⟨h.os, h.tape, h.output, h.size, h.block⟩
set_option maxRecDepth 100000 in
theorem rtab_look_in (tb mb : Nat) (most : Int) (l k : List Nd) (x : Nd) (v : Value) (w : World) (h : TabB Tryz.prog 51 1 tb mb most l k w) (hx : x ∈ l) (hv : x.val = [v]) (hk : KeyOk Tryz.prog 51 x.name x.kind) :
    Calls Tryz.prog 18 #[.pointer (some ⟨tb, 0, none⟩), keyV x.name x.kind] w fun e w' => e = .returned (.tuple #[v, .bool true]) ∧ Below w.heap.size w w' := by
  have hmem : x.ent Tryz.prog 51 ∈ l.map (Nd.ent Tryz.prog 51) := List.mem_map.2 ⟨x, hx, rfl⟩
  have hmb := h.map.lt
  have hlk : ∀ W : World, W.heap[mb]? = w.heap[mb]? → (Instr.lookup 67 (.map (some mb)) (keyV x.name x.kind) true).run Tryz.prog W = .ok (.tuple #[.pointer (some ⟨x.blk, 0, none⟩), .bool true]) W := fun W hW => by
    obtain ⟨v, ps, a1, a2⟩ := (h.map.block hW).look_in rkey_keyed rmap_under (rnode_zero W) (zd := .lit .nil) (zp := []) rfl hmem hk
    rw [ptrR_at a2] at a1
    exact a1
  have c1 := h.c1
  have c2 : w.cell? ⟨x.blk, 2, none⟩ = some v := (h.node x (h.known x hx)).val 0 v (by rw [hv]; rfl)
  have ltb := h.lt
  have lxb := (h.node x (h.known x hx)).lt
  have hlk1 : ∀ n, (Instr.lookup 67 (.map (some mb)) (.agg #[.string x.name, .int .i64 x.kind]) true).run Tryz.prog ((w.alloc (.cells #[.string x.name, .int .i64 x.kind] 51)).drewN n) = .ok (.tuple #[.pointer (some ⟨x.blk, 0, none⟩), .bool true]) ((w.alloc (.cells #[.string x.name, .int .i64 x.kind] 51)).drewN n) := fun n => hlk _ (Below.heap_alloc w _ mb hmb)
  clear h hx hlk hmem hmb hv hk
  unfold keyV
  go_enter Tryz.func18, Tryz.ntmps18
  go_wp2
  go_quiet (fail)
  go_wp2
  go_ret2
  exact ⟨rfl, below_drewN ((Below.refl _ _).alloc (Nat.le_refl _) _) _⟩
set_option maxRecDepth 100000 in
theorem rtab_look_out (tb mb : Nat) (most : Int) (l k : List Nd) (n : ByteArray) (kd : Int) (w : World) (h : TabB Tryz.prog 51 1 tb mb most l k w) (hk : KeyOk Tryz.prog 51 n kd) (hx : ∀ x ∈ l, x.lit Tryz.prog 51 ≠ keyLit Tryz.prog 51 n kd) :
    Calls Tryz.prog 18 #[.pointer (some ⟨tb, 0, none⟩), keyV n kd] w fun e w' => e = .returned (.tuple #[.pointer none, .bool false]) ∧ Below w.heap.size w w' := by
  have hmem : keyLit Tryz.prog 51 n kd ∉ (l.map (Nd.ent Tryz.prog 51)).map (·.1) := fun hm => by
    obtain ⟨p, hp, e⟩ := List.mem_map.1 hm
    obtain ⟨x, hx', rfl⟩ := List.mem_map.1 hp
    exact hx x hx' e
  have hmb := h.map.lt
  have hlk : ∀ W : World, W.heap[mb]? = w.heap[mb]? → (Instr.lookup 67 (.map (some mb)) (keyV n kd) true).run Tryz.prog W = .ok (.tuple #[.pointer none, .bool false]) W := fun W hW => by
    obtain ⟨v, ps, a1, a2⟩ := (h.map.block hW).look_out rkey_keyed rmap_under (rnode_zero W) (zd := .lit .nil) (zp := []) rfl hk hmem
    rw [ptrR_nil a2] at a1
    exact a1
  have c1 := h.c1
  have ltb := h.lt
  have hlk1 : ∀ q, (Instr.lookup 67 (.map (some mb)) (.agg #[.string n, .int .i64 kd]) true).run Tryz.prog ((w.alloc (.cells #[.string n, .int .i64 kd] 51)).drewN q) = .ok (.tuple #[.pointer none, .bool false]) ((w.alloc (.cells #[.string n, .int .i64 kd] 51)).drewN q) := fun q => hlk _ (Below.heap_alloc w _ mb hmb)
  clear h hx hlk hmem hmb hk
  unfold keyV
  go_enter Tryz.func18, Tryz.ntmps18
  go_wp2
  go_quiet (fail)
  go_wp2
  go_ret2
  exact ⟨rfl, below_drewN ((Below.refl _ _).alloc (Nat.le_refl _) _) _⟩
theorem rtab_len (tb mb : Nat) (most : Int) (l k : List Nd) (w : World) (h : TabB Tryz.prog 51 1 tb mb most l k w) :
    Calls Tryz.prog 26 #[.pointer (some ⟨tb, 0, none⟩)] w fun e w' => e = .returned (.int .i64 l.length) ∧ w = w' := by
  have c1 := h.c1
  have hln : (Builtin.len_ #[67] 3 #[.map (some mb)]).run Tryz.prog w = .ok (.int .i64 l.length) w := by
    have := h.map.len rmap_under 3
    rwa [List.length_map] at this
  clear h
  go_enter Tryz.func26, Tryz.ntmps26
  go_wp2
  go_ret
  exact ⟨rfl, rfl⟩
theorem cell_of_bes {S : Nat → Prop} {w w' : World} (h : Bes S w w') {b : Nat} (hb : b < w.heap.size) (hs : ¬ S b) (o : Nat) : w'.cell? ⟨b, o, none⟩ = w.cell? ⟨b, o, none⟩ := World.cell?_of_block (w := w) (h.block b hb hs)
theorem TabIs.notIn {P : Program} {kty : TypeId} {VN tb mb : Nat} {most : Int} {l : List Nd} {w : World} (h : TabIs P kty VN tb mb most l w) {b : Nat} (hb : w.heap.size ≤ b) : ¬ InTab tb mb l b := fun hi => by have := h.lt hi; omega
set_option maxRecDepth 100000 in
/-- What looking a key up gives, in every world in which the map is as it was. -/
theorem rtab_at {tb mb : Nat} {most : Int} {l k : List Nd} {x : Nd} {w : World} (h : TabB Tryz.prog 51 1 tb mb most l k w) (hx : x ∈ l) (hk : KeyOk Tryz.prog 51 x.name x.kind) (W : World) (hW : W.heap[mb]? = w.heap[mb]?) :
    (Instr.lookup 67 (.map (some mb)) (.agg #[.string x.name, .int .i64 x.kind]) true).run Tryz.prog W = .ok (.tuple #[.pointer (some ⟨x.blk, 0, none⟩), .bool true]) W := by
  have hmem : x.ent Tryz.prog 51 ∈ l.map (Nd.ent Tryz.prog 51) := List.mem_map.2 ⟨x, hx, rfl⟩
  obtain ⟨v, ps, a1, a2⟩ := (h.map.block hW).look_in rkey_keyed rmap_under (rnode_zero W) (zd := .lit .nil) (zp := []) rfl hmem hk
  rw [ptrR_at a2] at a1
  exact a1
set_option maxRecDepth 100000 in
theorem rtab_no {tb mb : Nat} {most : Int} {l k : List Nd} {n : ByteArray} {kd : Int} {w : World} (h : TabB Tryz.prog 51 1 tb mb most l k w) (hk : KeyOk Tryz.prog 51 n kd) (hx : ∀ x ∈ l, x.lit Tryz.prog 51 ≠ keyLit Tryz.prog 51 n kd) (W : World) (hW : W.heap[mb]? = w.heap[mb]?) :
    (Instr.lookup 67 (.map (some mb)) (.agg #[.string n, .int .i64 kd]) true).run Tryz.prog W = .ok (.tuple #[.pointer none, .bool false]) W := by
  have hmem : keyLit Tryz.prog 51 n kd ∉ (l.map (Nd.ent Tryz.prog 51)).map (·.1) := fun hm => by
    obtain ⟨p, hp, e⟩ := List.mem_map.1 hm
    obtain ⟨x, hx', rfl⟩ := List.mem_map.1 hp
    exact hx x hx' e
  obtain ⟨v, ps, a1, a2⟩ := (h.map.block hW).look_out rkey_keyed rmap_under (rnode_zero W) (zd := .lit .nil) (zp := []) rfl hk hmem
  rw [ptrR_nil a2] at a1
  exact a1
abbrev RT := TabIs Tryz.prog 51 1
end Go.Proofs.YtkhpcagoggglcaaGreatDoor

/- The table's Drop, walked (rrcache's table). -/
namespace Go.Proofs.YtkhpcagoggglcaaGreatDoor
open Go.RowKit Go.Maps

set_option maxRecDepth 100000 in
theorem rtab_drop_in (tb mb : Nat) (most : Int) (l1 l2 : List Nd) (x : Nd) (w : World) (h : RT tb mb most (l1 ++ x :: l2) w) :
    Calls Tryz.prog 22 #[.pointer (some ⟨tb, 0, none⟩), keyV x.name x.kind] w fun e w' => e = .returned (.bool true) ∧ RT tb mb most (l1 ++ l2) w' ∧ Bes (InTab tb mb (l1 ++ x :: l2)) w w' ∧ NdAt 1 w' x := by
  have hx : x ∈ l1 ++ x :: l2 := by simp
  have hk : KeyOk Tryz.prog 51 x.name x.kind := h.keys x hx
  have hmb := h.body.map.lt
  have c1 := h.body.c1
  have ltb := h.body.lt
  have hlk1 : ∀ n, (Instr.lookup 67 (.map (some mb)) (.agg #[.string x.name, .int .i64 x.kind]) true).run Tryz.prog ((w.alloc (.cells #[.string x.name, .int .i64 x.kind] 51)).drewN n) = .ok (.tuple #[.pointer (some ⟨x.blk, 0, none⟩), .bool true]) ((w.alloc (.cells #[.string x.name, .int .i64 x.kind] 51)).drewN n) := fun n => rtab_at h.body hx hk _ (Below.heap_alloc w _ mb hmb)
  have HH := Lib.hid h; have HK := Lib.hid hk
  clear h hx hmb hk
  unfold keyV
  go_enter Tryz.func22, Tryz.ntmps22
  go_wp2
  go_quiet (fail)
  go_wp2_with (go_at_call 34; refine (Hid.out (p := _) ?_))
  refine Lib.hid ?_
  generalize hW1 : (w.alloc (.cells #[.string x.name, .int .i64 x.kind] 51)).drewN nq = W1
  have hal : Below w.heap.size w W1 := by rw [← hW1]; exact below_drewN ((Below.refl _ _).alloc (Nat.le_refl _) _) _
  have k0 : W1.cell? ⟨w.heap.size, 0, none⟩ = some (.string x.name) := by rw [← hW1]; exact (Blk.new w _ _).cell 0
  have k1 : W1.cell? ⟨w.heap.size, 1, none⟩ = some (.int .i64 x.kind) := by rw [← hW1]; exact (Blk.new w _ _).cell 1
  have ks : w.heap.size < W1.heap.size := by rw [← hW1]; exact (Blk.new w _ 51).lt
  have h1 := HH.out.below hal
  have hni : ¬ InTab tb mb (l1 ++ x :: l2) w.heap.size := HH.out.notIn (Nat.le_refl _)
  refine (rtab_out h1.body h1.ring (fun _ h => h) h1.nodup).mono ?_
  rintro e w2 ⟨rfl, b2, r2, bes2, xx, yy, x3, x4⟩
  have k0' := (cell_of_bes bes2 ks hni 0).trans k0
  have k1' := (cell_of_bes bes2 ks hni 1).trans k1
  have ks' := Nat.lt_of_lt_of_le ks bes2.size
  have c1' := b2.c1
  have HB2 := Lib.hid b2; have HR2 := Lib.hid r2
  have HB := Lib.hid bes2; have HAL := Lib.hid hal
  clear b2 r2 bes2 x3 x4 k0 k1 hlk1 hal hni c1 h1
  simp only []
  go_wp2_with fail
  go_still_tail 5, (by kernel_rfl)
  change wpList _ _ _ _ _ w2.drew
  have HB3 := Lib.hid (show TabB Tryz.prog 51 1 tb mb most (l1 ++ x :: l2) (l1 ++ x :: l2) w2.drew ∧ RingIs 1 tb (l1 ++ l2) w2.drew from ⟨HB2.out.keep (fun _ _ => rfl) (Nat.le_refl _), HR2.out.keep (fun _ _ => rfl)⟩)
  have HM := Lib.hid (show MapV Tryz.prog 51 ptrR w2.drew mb (l1.map (Nd.ent Tryz.prog 51) ++ x.ent Tryz.prog 51 :: l2.map (Nd.ent Tryz.prog 51)) from by have := HB3.out.1.map; rwa [List.map_append, List.map_cons] at this)
  refine wpList_mapV_del rfl _ _ 67 rfl 68 rkey_keyed rmap_under rfl HM.out _ rfl HK.out ?_
  intro w3 m3 t3
  have hni : ∀ b, b = tb ∨ (∃ y ∈ l1 ++ l2, b = y.blk) → b < w2.drew.heap.size ∧ b ≠ mb := fun b hb => by
    rcases hb with rfl | ⟨y, hy, rfl⟩
    · exact ⟨HB3.out.1.lt, HB3.out.1.tm⟩
    · have hy' : y ∈ l1 ++ x :: l2 := by rcases List.mem_append.1 hy with h | h <;> simp [h]
      exact ⟨(HB3.out.1.node y hy').lt, (HB3.out.1.tbn hy').2⟩
  have hnd : (l1 ++ l2).Nodup := HH.out.nodup.sublist (List.Sublist.append_left (List.sublist_cons_self _ _) _)
  have hsub : ∀ y ∈ l1 ++ l2, y ∈ l1 ++ x :: l2 := fun y hy => by rcases List.mem_append.1 hy with h | h <;> simp [h]
  have HT := Lib.hid (show RT tb mb most (l1 ++ l2) w3 from ⟨(HB3.out.1.turn t3 (by rw [List.map_append]; exact m3) hsub).less hsub hnd (fun _ h => h), HB3.out.2.turn t3 hni, hnd, fun y hy => HH.out.keys y (hsub y hy)⟩)
  have HX := Lib.hid ((HB3.out.1.turn t3 (by rw [List.map_append]; exact m3) hsub).node x (by simp))
  have HF := Lib.hid (show Bes (InTab tb mb (l1 ++ x :: l2)) w w3 from ((Bes.of_below HAL.out : Bes (InTab tb mb (l1 ++ x :: l2)) w W1).trans1 HB.out.drew).trans1 ((Bes.turned t3).mono fun b _ e => .inr (.inl e)))
  clear hni hnd hsub m3 t3
  go_wp2_with fail
  go_ret
  exact ⟨rfl, HT.out, HF.out, HX.out⟩
set_option maxRecDepth 100000 in
theorem rtab_drop_out (tb mb : Nat) (most : Int) (l : List Nd) (n : ByteArray) (kd : Int) (w : World) (h : RT tb mb most l w) (hk : KeyOk Tryz.prog 51 n kd) (hx : ∀ x ∈ l, x.lit Tryz.prog 51 ≠ keyLit Tryz.prog 51 n kd) :
    Calls Tryz.prog 22 #[.pointer (some ⟨tb, 0, none⟩), keyV n kd] w fun e w' => e = .returned (.bool false) ∧ Below w.heap.size w w' := by
  have hmb := h.body.map.lt
  have c1 := h.body.c1
  have ltb := h.body.lt
  have hlk1 : ∀ q, (Instr.lookup 67 (.map (some mb)) (.agg #[.string n, .int .i64 kd]) true).run Tryz.prog ((w.alloc (.cells #[.string n, .int .i64 kd] 51)).drewN q) = .ok (.tuple #[.pointer none, .bool false]) ((w.alloc (.cells #[.string n, .int .i64 kd] 51)).drewN q) := fun q => rtab_no h.body hk hx _ (Below.heap_alloc w _ mb hmb)
  clear h hx hmb hk
  unfold keyV
  go_enter Tryz.func22, Tryz.ntmps22
  go_wp2
  go_quiet (fail)
  go_wp2
  go_ret
  exact ⟨rfl, below_drewN ((Below.refl _ _).alloc (Nat.le_refl _) _) _⟩
end Go.Proofs.YtkhpcagoggglcaaGreatDoor

