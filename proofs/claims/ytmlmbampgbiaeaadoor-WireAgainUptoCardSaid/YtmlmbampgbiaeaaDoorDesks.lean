/- Many desks beside one another. -/
import Derived.Test.YtmlmbampgbiaeaaDoorDesk3
namespace Go.Proofs.YtmlmbampgbiaeaaDoor
open Go.RowKit

/-- A desk as data: its block, its room, what it lends, the slice that it lent. -/
structure DK where
  d : Nat
  rv : Value
  room : List UInt8
  n : Nat
  bs : List UInt8
  hdr : Value
def DK.ok (B : Nat) (w : World) (x : DK) : Prop := Desk B w x.d x.rv x.room x.n ∧ x.room.length ≤ 4294967296
def DK.lent (B : Nat) (x : DK) : Prop := x.n = x.bs.length ∧ Lent x.room x.bs ∧ ∀ (w : World), Desk B w x.d x.rv x.room x.n → RdB w x.hdr x.bs
def DK.apart (x y : DK) : Prop := x.d ≠ y.d ∧ ∀ g, x.rv.ownBlock = some g → y.rv.ownBlock ≠ some g
structure Desks (B : Nat) (w : World) (L : List DK) : Prop where
  each : ∀ x ∈ L, x.ok B w
  apart : L.Pairwise DK.apart
/-- x's own blocks. -/
def DK.own (x : DK) (k : Nat) : Prop := DeskS x.d x.rv k

theorem Desks.turned {S : Nat → Prop} {B : Nat} {w w' : World} {L : List DK} (h : Desks B w L) (ht : Turned S w w') (hs : ∀ x ∈ L, ∀ k, x.own k → ¬ S k) : Desks B w' L :=
  ⟨fun x hx => ⟨(h.each x hx).1.turned ht (hs x hx _ (.inl rfl)) (fun g hg => hs x hx g (.inr hg)), (h.each x hx).2⟩, h.apart⟩
theorem Desks.below {B : Nat} {w w' : World} {L : List DK} (h : Desks B w L) (hb : Below w.heap.size w w') : Desks B w' L := by
  refine h.turned (S := fun _ => False) (Turned.ofBelow hb) fun _ _ _ _ => id
theorem Desks.lt {B : Nat} {w : World} {L : List DK} (h : Desks B w L) {x : DK} (hx : x ∈ L) {k : Nat} (hk : x.own k) : B ≤ k ∧ k < w.heap.size := by
  rcases hk with rfl | hk
  · exact ⟨(h.each x hx).1.lo, (h.each x hx).1.lt⟩
  · exact (h.each x hx).1.own.lt k hk
/-- Two desks of a list have no block in common. -/
theorem Desks.disj {B : Nat} {w : World} {x y : DK} (hx : x.ok B w) (hy : y.ok B w) (ha : x.apart y) {k : Nat} (h1 : x.own k) (h2 : y.own k) : False := by
  have nx := own_ne hx.1.own hy.1.blk (by decide)
  have ny := own_ne hy.1.own hx.1.blk (by decide)
  rcases h1 with rfl | h1 <;> rcases h2 with h2 | h2
  · exact ha.1 h2
  · exact ny _ h2 rfl
  · exact nx _ h1 h2
  · exact ha.2 _ h1 h2
theorem apart_symm {x y : DK} (h : x.apart y) : y.apart x := ⟨fun e => h.1 e.symm, fun g hg hx => h.2 g hx hg⟩
theorem pair_mid {l1 l2 : List DK} {x : DK} (h : (l1 ++ x :: l2).Pairwise DK.apart) : (∀ y ∈ l1, x.apart y) ∧ (∀ y ∈ l2, x.apart y) := by
  rw [List.pairwise_append] at h
  obtain ⟨_, h2, h3⟩ := h
  rw [List.pairwise_cons] at h2
  exact ⟨fun y hy => apart_symm (h3 y hy x (by simp)), h2.1⟩
theorem pair_upd {l1 l2 : List DK} {x y : DK} (h : (l1 ++ x :: l2).Pairwise DK.apart) (hy : ∀ z ∈ l1 ++ l2, y.apart z) : (l1 ++ y :: l2).Pairwise DK.apart := by
  rw [List.pairwise_append] at h ⊢
  obtain ⟨h1, h2, h3⟩ := h
  rw [List.pairwise_cons] at h2 ⊢
  refine ⟨h1, ⟨fun z hz => hy z (by simp [hz]), h2.2⟩, fun a ha b hb => ?_⟩
  rcases List.mem_cons.1 hb with rfl | hb
  · exact apart_symm (hy a (by simp [ha]))
  · exact h3 a ha b (by simp [hb])

theorem Desks.upd {B : Nat} {w w' : World} {l1 l2 : List DK} {x y : DK} (h : Desks B w (l1 ++ x :: l2)) (hd : y.d = x.d) {most : Nat} (hl : Lending B w w' x.d x.rv y.rv y.room y.n most) (hm : most ≤ 4294967296) : Desks B w' (l1 ++ y :: l2) := by
  obtain ⟨p1, p2⟩ := pair_mid h.apart
  have hx := h.each x (by simp)
  have hay : ∀ z ∈ l1 ++ l2, x.apart z := fun z hz => by
    rcases List.mem_append.1 hz with hz | hz
    · exact p1 z hz
    · exact p2 z hz
  have hin : ∀ z ∈ l1 ++ l2, z ∈ l1 ++ x :: l2 := fun z hz => by
    rcases List.mem_append.1 hz with hz | hz <;> simp [hz]
  refine ⟨fun z hz => ?_, pair_upd h.apart fun z hz => ⟨by rw [hd]; exact (hay z hz).1, fun g hg hzg => ?_⟩⟩
  · have : z = y ∨ z ∈ l1 ++ l2 := by
      rcases List.mem_append.1 hz with hz | hz
      · exact .inr (by simp [hz])
      · rcases List.mem_cons.1 hz with rfl | hz
        · exact .inl rfl
        · exact .inr (by simp [hz])
    rcases this with rfl | hz
    · exact ⟨by rw [hd]; exact hl.desk, Nat.le_trans hl.len hm⟩
    · have hzo := h.each z (hin z hz)
      exact ⟨hzo.1.turned hl.turned (fun hs => Desks.disj hx hzo (hay z hz) hs (.inl rfl)) (fun g hg hs => Desks.disj hx hzo (hay z hz) hs (.inr hg)), hzo.2⟩
  · rcases hl.keeps with hk | hk
    · exact (hay z hz).2 g (hk ▸ hg) hzg
    · have := ((h.each z (hin z hz)).1.own.lt g hzg).2
      have := hk g hg
      omega
/-- The same where the room stays (Wipe). -/
theorem Desks.updW {B : Nat} {w w' : World} {l1 l2 : List DK} {x y : DK} (h : Desks B w (l1 ++ x :: l2)) (hd : y.d = x.d) (hr : y.rv = x.rv) (hk : Desk B w' x.d x.rv y.room y.n) (hl : y.room.length = x.room.length) (ht : Turned (DeskS x.d x.rv) w w') : Desks B w' (l1 ++ y :: l2) :=
  h.upd hd (most := x.room.length) ⟨by rw [hr]; exact hk, .inl (by rw [hr]), ht, by omega⟩ (h.each x (by simp)).2

/-- A new desk. -/
def DK.fresh (w : World) : DK := ⟨w.heap.size, .slice none 0 0, [], 0, [], .slice none 0 0⟩
theorem Desks.add {B : Nat} {w : World} {L : List DK} (h : Desks B w L) (hB : B ≤ w.heap.size) : Desks B (w.alloc (.cells #[.slice none 0 0, .int .i64 0] 27)) (L ++ [DK.fresh w]) := by
  have hb := h.below ((Below.refl _ _).alloc (Nat.le_refl _) (.cells #[.slice none 0 0, .int .i64 0] 27))
  refine ⟨fun x hx => ?_, ?_⟩
  · rcases List.mem_append.1 hx with hx | hx
    · exact hb.each x hx
    · have : x = DK.fresh w := by simpa using hx
      subst this
      exact ⟨⟨heap_alloc_new w _, hB, by simpa [DK.fresh] using World.ownsRow_nil _ B _ 1⟩, by simp [DK.fresh]⟩
  · rw [List.pairwise_append]
    refine ⟨h.apart, by simp, fun a ha b hb2 => ?_⟩
    have : b = DK.fresh w := by simpa using hb2
    subst this
    have := (h.each a ha).1.lt
    exact ⟨by simp [DK.fresh]; omega, fun g hg => by simp [DK.fresh, Value.ownBlock]⟩

def ptr (d : Nat) : Value := .pointer (some ⟨d, 0, none⟩)
def ptrs (L : List DK) : List Value := L.map fun x => ptr x.d
end Go.Proofs.YtmlmbampgbiaeaaDoor
