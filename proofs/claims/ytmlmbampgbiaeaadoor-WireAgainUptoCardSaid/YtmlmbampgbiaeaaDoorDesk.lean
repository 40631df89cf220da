/- The desk of the laws: one place in memory that is lent again and again. -/
import Derived.Test.YtmlmbampgbiaeaaDoorLaw1d
import Derived.Deep.DeepCutAuto
namespace Go.Proofs.YtmlmbampgbiaeaaDoor
open Go.RowKit

/-- w' is w but for the blocks of S and new ones. -/
structure Turned (S : Nat → Prop) (w w' : World) : Prop where
  os : w'.os = w.os
  tape : w'.tape = w.tape
  output : w'.output = w.output
  size : w.heap.size ≤ w'.heap.size
  block : ∀ k, k < w.heap.size → ¬ S k → w'.heap[k]? = w.heap[k]?
theorem Turned.refl (S : Nat → Prop) (w : World) : Turned S w w := ⟨rfl, rfl, rfl, Nat.le_refl _, fun _ _ _ => rfl⟩
theorem Turned.trans {S : Nat → Prop} {a b c : World} (h : Turned S a b) (k : Turned S b c) : Turned S a c :=
  ⟨k.os.trans h.os, k.tape.trans h.tape, k.output.trans h.output, Nat.le_trans h.size k.size, fun i hi hs => (k.block i (Nat.lt_of_lt_of_le hi h.size) hs).trans (h.block i hi hs)⟩
theorem Turned.mono {S T : Nat → Prop} {w w' : World} (h : Turned S w w') (hs : ∀ k, S k → T k) : Turned T w w' :=
  ⟨h.os, h.tape, h.output, h.size, fun k hk ht => h.block k hk fun hk' => ht (hs k hk')⟩
theorem Turned.ofBelow {S : Nat → Prop} {w w' : World} (h : Below w.heap.size w w') : Turned S w w' := ⟨h.os, h.tape, h.output, h.size, fun k hk _ => h.block k hk⟩
theorem Turned.ofGrown {S : Nat → Prop} {w w' : World} {row : Option Nat} (h : w.grownBy w' row) (hr : ∀ g, row = some g → S g) : Turned S w w' :=
  ⟨h.os, h.tape, h.output, h.size, fun k hk hs => h.block k hk fun e => hs (hr k e.symm)⟩
theorem Turned.drew {S : Nat → Prop} {w w' : World} (h : Turned S w w') : Turned S w w'.drew := ⟨h.os, h.tape, h.output, h.size, h.block⟩
theorem Turned.drewN {S : Nat → Prop} {w w' : World} (h : Turned S w w') (n : Nat) : Turned S w (w'.drewN n) := ⟨h.os, h.tape, h.output, h.size, h.block⟩
theorem Turned.alloc {S : Nat → Prop} {w w' : World} (h : Turned S w w') (o : Obj) : Turned S w (w'.alloc o) :=
  ⟨h.os, h.tape, h.output, by have := h.size; simp; omega, fun k hk hs => (Below.heap_alloc w' o k (Nat.lt_of_lt_of_le hk h.size)).trans (h.block k hk hs)⟩
theorem Turned.setCell {S : Nat → Prop} {w w' : World} (h : Turned S w w') (a : Addr) (v : Value) (ha : a.block < w.heap.size → S a.block) : Turned S w (w'.setCell a v) :=
  ⟨h.os, h.tape, h.output, by have := h.size; simp [World.setCell]; omega, fun k hk hs => (Below.heap_setCell w' a v k (fun e => hs (e ▸ ha (e ▸ hk)))).trans (h.block k hk hs)⟩
theorem Turned.below {S : Nat → Prop} {B : Nat} {w w' : World} (h : Turned S w w') (hs : ∀ k, S k → B ≤ k) (hB : B ≤ w.heap.size) : Below B w w' :=
  ⟨h.os, h.tape, h.output, h.size, fun k hk => h.block k (by omega) fun hk' => by have := hs k hk'; omega⟩

theorem own_block {w w' : World} {base : Nat} {e : TypeId} {size : Nat} {v : Value} {n : Nat} {xs : List Value} (h : w.ownsRow base e size v n xs) (hb : ∀ g, v.ownBlock = some g → w'.heap[g]? = w.heap[g]?) : w'.ownsRow base e size v n xs := by
  refine ⟨h.1, ?_⟩
  rcases h.2 with hn | ⟨g, cap, cur, rfl, hg, hh, r⟩
  · exact .inl hn
  · exact .inr ⟨g, cap, cur, rfl, hg, by rw [hb g rfl]; exact hh, r⟩
theorem own_turned {S : Nat → Prop} {w w' : World} {base : Nat} {e : TypeId} {size : Nat} {v : Value} {n : Nat} {xs : List Value} (h : w.ownsRow base e size v n xs) (ht : Turned S w w') (hs : ∀ g, v.ownBlock = some g → ¬ S g) : w'.ownsRow base e size v n xs :=
  own_block h fun g hg => ht.block g (h.lt g hg).2 (hs g hg)

/-- A desk: its block, the room, how much is lent. -/
structure Desk (B : Nat) (w : World) (d : Nat) (rv : Value) (room : List UInt8) (n : Nat) : Prop where
  blk : w.heap[d]? = some (.cells #[rv, .int .i64 n] 27 (0, 0))
  lo : B ≤ d
  own : w.ownsRow B 5 1 rv room.length (room.map bv)
theorem heap_lt {w : World} {d : Nat} {o : Obj} (h : w.heap[d]? = some o) : d < w.heap.size := (Array.getElem?_eq_some_iff.1 h).1
theorem Desk.lt {B : Nat} {w : World} {d : Nat} {rv : Value} {room : List UInt8} {n : Nat} (h : Desk B w d rv room n) : d < w.heap.size := heap_lt h.blk
theorem Desk.turned {S : Nat → Prop} {B : Nat} {w w' : World} {d : Nat} {rv : Value} {room : List UInt8} {n : Nat} (h : Desk B w d rv room n) (ht : Turned S w w') (hd : ¬ S d) (hs : ∀ g, rv.ownBlock = some g → ¬ S g) : Desk B w' d rv room n :=
  ⟨(ht.block d h.lt hd).trans h.blk, h.lo, own_turned h.own ht hs⟩
theorem Desk.cells {B : Nat} {w : World} {d : Nat} {rv : Value} {room : List UInt8} {n : Nat} (h : Desk B w d rv room n) :
    w.cell? ⟨d, 0, none⟩ = some rv ∧ w.cell? ⟨d, 1, none⟩ = some (.int .i64 n) ∧ w.frozen? ⟨d, 0, none⟩ = false ∧ w.frozen? ⟨d, 1, none⟩ = false := by
  refine ⟨?_, ?_, ?_, ?_⟩
  · rw [cell_of_row w d 0 _ _ (0, 0) h.blk]; rfl
  · rw [cell_of_row w d 1 _ _ (0, 0) h.blk]; rfl
  · simp [World.frozen?, h.blk]
  · simp [World.frozen?, h.blk]
/-- The room is no desk. -/
theorem own_ne {w : World} {base : Nat} {e e' : TypeId} {size : Nat} {v : Value} {n : Nat} {xs : List Value} {d : Nat} {cs : Array Value} {f : Nat × Nat} (h : w.ownsRow base e size v n xs) (hd : w.heap[d]? = some (.cells cs e' f)) (he : e ≠ e') : ∀ g, v.ownBlock = some g → g ≠ d := by
  intro g hg hgd
  subst hgd
  rcases h.2 with ⟨rfl, _⟩ | ⟨g', cap, cur, rfl, _, hh, _⟩
  · simp [Value.ownBlock] at hg
  · simp [Value.ownBlock] at hg
    subst hg
    rw [hh] at hd; cases hd; exact he rfl

def markB (i : Nat) : UInt8 := UInt8.ofNat ((203 - 5 * (i : Int)) % 256).toNat
theorem markB_eq (i : Nat) : ((markB i).toNat : Int) = (203 - 5 * (i : Int)) % 256 := by
  unfold markB
  rw [toNat_ofNat (by omega)]; omega
theorem mark_any (i : Nat) (hi : i ≤ 70368744177664) (w : World) : Calls Tryd.prog 34 #[.int .i64 i] w fun e w' => e = .returned (bv (markB i)) ∧ w = w' := by
  have h := Lib.hid (markB_eq i)
  go_enter Tryd.func34, Tryd.ntmps34
  go_wp2
  go_ret
  exact ⟨ret_eq (by rw [h.out]), rfl⟩
end Go.Proofs.YtmlmbampgbiaeaaDoor
