/- The law's own functions of layer 1: numbers. -/
import Derived.Test.YtmlmbampgbiaeaaDoorLaw1a
namespace Go.Proofs.YtmlmbampgbiaeaaDoor
open Go.RowKit

theorem Uint_r {v : Nat} {bs : List UInt8} (h : uintL v = bs) (hv : U64 v) (w : World) : Calls Tryd.prog 33 #[.int .u64 v] w (Gives w bs) := by subst h; exact Uint_any v hv w

set_option maxRecDepth 50000 in
set_option maxHeartbeats 2000000 in
theorem numbers_1 {w : World} (bv_ pv : Value) (at_ n : Int) (v : Nat) (hv : U64 v) :
    Calls Tryd.prog 35 #[.agg #[.int .i64 1, bv_, .int .i64 at_, .int .i64 n, .int .u64 v, pv]] w fun e w' => e = .returned (.bool true) ∧ Below w.heap.size w w' := by
  have HE : Hid ((uintL v == uintL v) = true) := Lib.hid (by simp)
  go_enter Tryd.func35, Tryd.ntmps35
  go_wp2
  go_region_held3 (fun w' => w'.cell? ⟨w.heap.size, 4, none⟩ = some (.int .u64 v)) (first | assumption | simp [go_sem]) (first
    | (go_at_call 33; (with_reducible refine (Uint_any v hv _).mono ?_); rintro e w1 ⟨s1, rfl, hacc1⟩; have hk1 : w1.cell? ⟨w.heap.size, 4, none⟩ = some (.int .u64 v) := (hacc1.bel.cell (by simp)).trans (by simp [go_sem]))
    | (go_at_call 44; (with_reducible refine (refUint_any v hv _).mono ?_); rintro e w2 ⟨s2, rfl, hacc2⟩; have hk2 : w2.cell? ⟨w.heap.size, 4, none⟩ = some (.int .u64 v) := (hacc2.bel.cell (by have := hacc1.bel.size; simp at this ⊢; omega)).trans hk1)
    | (go_at_call 32; (with_reducible refine (same1_r HE.out _ (hacc1.rd.below hacc2.bel) hacc2.rd).mono ?_); rintro e w3 ⟨rfl, rfl⟩))
  go_wp2
  go_ret
  exact ⟨rfl, ((Below.refl _ _).alloc (Nat.le_refl _) _).trans ((below_undrew hacc1.bel).mono (by simp)) |>.trans (hacc2.bel.mono (by have := hacc1.bel.size; simp at this; omega))⟩

set_option maxRecDepth 50000 in
set_option maxHeartbeats 2000000 in
theorem numbers_2 {w : World} (bv_ pv : Value) (bs : List UInt8) (hb : RdB w bv_ bs) (hmax : bs.length ≤ 70368744177664) (at_ n : Int) (v : Nat) :
    Calls Tryd.prog 35 #[.agg #[.int .i64 2, bv_, .int .i64 at_, .int .i64 n, .int .u64 v, pv]] w fun e w' => e = .returned (.bool true) ∧ Below w.heap.size w w' := by
  obtain ⟨x, y, z, hx⟩ : ∃ (x y z : Int), ∀ W, (RdB W bv_ bs → Calls Tryd.prog 28 #[bv_, .int .i64 at_] W fun e w' => e = .returned (.tuple #[.int .u64 x, .int .i64 y, .int .i64 z]) ∧ W = w') ∧ (RdB W bv_ bs → Calls Tryd.prog 68 #[bv_, .int .i64 at_] W fun e w' => e = .returned (.tuple #[.int .u64 x, .int .i64 y, .int .i64 z]) ∧ W = w') :=
    ⟨_, _, _, fun W => ⟨fun h => ReadUint_any at_ W h (by omega), fun h => refReadUint_any at_ W h (by omega)⟩⟩
  have H1 : Hid (∀ W, RdB W bv_ bs → Calls Tryd.prog 28 #[bv_, .int .i64 at_] W fun e w' => e = .returned (.tuple #[.int .u64 x, .int .i64 y, .int .i64 z]) ∧ W = w') := Lib.hid fun W => (hx W).1
  have H2 : Hid (∀ W, RdB W bv_ bs → Calls Tryd.prog 68 #[bv_, .int .i64 at_] W fun e w' => e = .returned (.tuple #[.int .u64 x, .int .i64 y, .int .i64 z]) ∧ W = w') := Lib.hid fun W => (hx W).2
  have HV := Lib.hid hb
  clear hb hx
  go_enter Tryd.func35, Tryd.ntmps35
  go_wp2_with (first
    | (go_at_call 28; (with_reducible refine (H1.out _ (HV.out.alloc _)).mono ?_); rintro e w1 ⟨rfl, rfl⟩)
    | (go_at_call 68; (with_reducible refine (H2.out _ (HV.out.alloc _)).mono ?_); rintro e w1 ⟨rfl, rfl⟩)
    | (go_at_call 31; (with_reducible refine (num1_any _ _).mono ?_); rintro e w' ⟨rfl, rfl⟩))
  go_ret
  exact ⟨rfl, (Below.refl _ _).alloc (Nat.le_refl _) _⟩

set_option maxRecDepth 50000 in
set_option maxHeartbeats 2000000 in
theorem numbers_6 {w : World} (bv_ pv : Value) (bs : List UInt8) (hb : RdB w bv_ bs) (hmax : bs.length ≤ 70368744177664) (at_ n : Int) (v : Nat) :
    Calls Tryd.prog 35 #[.agg #[.int .i64 6, bv_, .int .i64 at_, .int .i64 n, .int .u64 v, pv]] w fun e w' => e = .returned (.bool true) ∧ Below w.heap.size w w' := by
  obtain ⟨x, y, z, hx⟩ : ∃ (x y z : Int), ∀ W, (RdB W bv_ bs → Calls Tryd.prog 71 #[bv_, .int .i64 at_] W fun e w' => e = .returned (.tuple #[.int .i64 x, .int .i64 y, .int .i64 z]) ∧ W = w') ∧ (RdB W bv_ bs → Calls Tryd.prog 72 #[bv_, .int .i64 at_] W fun e w' => e = .returned (.tuple #[.int .i64 x, .int .i64 y, .int .i64 z]) ∧ W = w') :=
    ⟨_, _, _, fun W => ⟨fun h => ReadRising_any at_ W h hmax, fun h => refReadRising_any at_ W h hmax⟩⟩
  have H1 : Hid (∀ W, RdB W bv_ bs → Calls Tryd.prog 71 #[bv_, .int .i64 at_] W fun e w' => e = .returned (.tuple #[.int .i64 x, .int .i64 y, .int .i64 z]) ∧ W = w') := Lib.hid fun W => (hx W).1
  have H2 : Hid (∀ W, RdB W bv_ bs → Calls Tryd.prog 72 #[bv_, .int .i64 at_] W fun e w' => e = .returned (.tuple #[.int .i64 x, .int .i64 y, .int .i64 z]) ∧ W = w') := Lib.hid fun W => (hx W).2
  have HV := Lib.hid hb
  clear hb hx
  go_enter Tryd.func35, Tryd.ntmps35
  go_wp2_with (first
    | (go_at_call 71; (with_reducible refine (H1.out _ (HV.out.alloc _)).mono ?_); rintro e w1 ⟨rfl, rfl⟩)
    | (go_at_call 72; (with_reducible refine (H2.out _ (HV.out.alloc _)).mono ?_); rintro e w1 ⟨rfl, rfl⟩)
    | (go_at_call 31; (with_reducible refine (num1_any _ _).mono ?_); rintro e w' ⟨rfl, rfl⟩))
  go_ret
  exact ⟨rfl, (Below.refl _ _).alloc (Nat.le_refl _) _⟩

set_option maxRecDepth 50000 in
set_option maxHeartbeats 2000000 in
theorem numbers_8 {w : World} (bv_ pv : Value) (bs : List UInt8) (hb : RdB w bv_ bs) (hmax : bs.length ≤ 70368744177664) (at_ n : Int) (v : Nat) :
    Calls Tryd.prog 35 #[.agg #[.int .i64 8, bv_, .int .i64 at_, .int .i64 n, .int .u64 v, pv]] w fun e w' => e = .returned (.bool true) ∧ Below w.heap.size w w' := by
  obtain ⟨x, y, z, hx⟩ : ∃ (x y z : Int), ∀ W, (RdB W bv_ bs → Calls Tryd.prog 75 #[bv_, .int .i64 at_] W fun e w' => e = .returned (.tuple #[.int .i64 x, .int .i64 y, .int .i64 z]) ∧ W = w') ∧ (RdB W bv_ bs → Calls Tryd.prog 76 #[bv_, .int .i64 at_] W fun e w' => e = .returned (.tuple #[.int .i64 x, .int .i64 y, .int .i64 z]) ∧ W = w') :=
    ⟨_, _, _, fun W => ⟨fun h => ReadFalling_any at_ W h hmax, fun h => refReadFalling_any at_ W h hmax⟩⟩
  have H1 : Hid (∀ W, RdB W bv_ bs → Calls Tryd.prog 75 #[bv_, .int .i64 at_] W fun e w' => e = .returned (.tuple #[.int .i64 x, .int .i64 y, .int .i64 z]) ∧ W = w') := Lib.hid fun W => (hx W).1
  have H2 : Hid (∀ W, RdB W bv_ bs → Calls Tryd.prog 76 #[bv_, .int .i64 at_] W fun e w' => e = .returned (.tuple #[.int .i64 x, .int .i64 y, .int .i64 z]) ∧ W = w') := Lib.hid fun W => (hx W).2
  have HV := Lib.hid hb
  clear hb hx
  go_enter Tryd.func35, Tryd.ntmps35
  go_wp2_with (first
    | (go_at_call 75; (with_reducible refine (H1.out _ (HV.out.alloc _)).mono ?_); rintro e w1 ⟨rfl, rfl⟩)
    | (go_at_call 76; (with_reducible refine (H2.out _ (HV.out.alloc _)).mono ?_); rintro e w1 ⟨rfl, rfl⟩)
    | (go_at_call 31; (with_reducible refine (num1_any _ _).mono ?_); rintro e w' ⟨rfl, rfl⟩))
  go_ret
  exact ⟨rfl, (Below.refl _ _).alloc (Nat.le_refl _) _⟩

set_option maxRecDepth 50000 in
set_option maxHeartbeats 2000000 in
theorem numbers_5 {w : World} (bv_ pv : Value) (at_ n : Int) (hn : n ≤ 9223372036854775807) (v : Nat) :
    Calls Tryd.prog 35 #[.agg #[.int .i64 5, bv_, .int .i64 at_, .int .i64 n, .int .u64 v, pv]] w fun e w' => e = .returned (.bool true) ∧ Below w.heap.size w w' := by
  have HE : Hid (((rising n).1 == (rising n).1) = true) := Lib.hid (by simp)
  have HN := Lib.hid hn
  clear hn
  go_enter Tryd.func35, Tryd.ntmps35
  go_wp2_with (first
    | (go_at_call 69; (with_reducible refine (Rising_any n HN.out _).mono ?_); rintro e w1 ⟨s1, rfl, hacc1⟩; have hk1 : w1.cell? ⟨w.heap.size, 3, none⟩ = some (.int .i64 n) := (hacc1.bel.cell (by simp)).trans (by simp [go_sem]))
    | (go_at_call 70; (with_reducible refine (refRising_any n HN.out _).mono ?_); rintro e w2 ⟨s2, rfl, hacc2⟩)
    | (go_at_call 31; (with_reducible refine (num1_any _ _).mono ?_); rintro e w' ⟨rfl, rfl⟩)
    | (go_at_call 32; (with_reducible refine (same1_r HE.out _ (hacc1.rd.below hacc2.bel) hacc2.rd).mono ?_); rintro e w3 ⟨rfl, rfl⟩))
  go_ret
  exact ⟨rfl, ((Below.refl _ _).alloc (Nat.le_refl _) _).trans (hacc1.bel.mono (by simp)) |>.trans (hacc2.bel.mono (by have := hacc1.bel.size; simp at this; omega))⟩

set_option maxRecDepth 50000 in
set_option maxHeartbeats 2000000 in
theorem numbers_7 {w : World} (bv_ pv : Value) (at_ n : Int) (hn : n ≤ 9223372036854775807) (v : Nat) :
    Calls Tryd.prog 35 #[.agg #[.int .i64 7, bv_, .int .i64 at_, .int .i64 n, .int .u64 v, pv]] w fun e w' => e = .returned (.bool true) ∧ Below w.heap.size w w' := by
  have HE : Hid (((falling n).1 == (falling n).1) = true) := Lib.hid (by simp)
  have HN := Lib.hid hn
  clear hn
  go_enter Tryd.func35, Tryd.ntmps35
  go_wp2_with (first
    | (go_at_call 73; (with_reducible refine (Falling_any n HN.out _).mono ?_); rintro e w1 ⟨s1, rfl, hacc1⟩; have hk1 : w1.cell? ⟨w.heap.size, 3, none⟩ = some (.int .i64 n) := (hacc1.bel.cell (by simp)).trans (by simp [go_sem]))
    | (go_at_call 74; (with_reducible refine (refFalling_any n HN.out _).mono ?_); rintro e w2 ⟨s2, rfl, hacc2⟩)
    | (go_at_call 31; (with_reducible refine (num1_any _ _).mono ?_); rintro e w' ⟨rfl, rfl⟩)
    | (go_at_call 32; (with_reducible refine (same1_r HE.out _ (hacc1.rd.below hacc2.bel) hacc2.rd).mono ?_); rintro e w3 ⟨rfl, rfl⟩))
  go_ret
  exact ⟨rfl, ((Below.refl _ _).alloc (Nat.le_refl _) _).trans (hacc1.bel.mono (by simp)) |>.trans (hacc2.bel.mono (by have := hacc1.bel.size; simp at this; omega))⟩
end Go.Proofs.YtmlmbampgbiaeaaDoor
