/- The law's own functions of layer 1: strings, answered. -/
import Derived.Test.YtmlmbampgbiaeaaDoorLaw1b
namespace Go.Proofs.YtmlmbampgbiaeaaDoor
open Go.RowKit

set_option maxRecDepth 50000 in
set_option maxHeartbeats 2000000 in
theorem strings_3 {w : World} (bv_ pv : Value) (bs : List UInt8) (hb : RdB w bv_ bs) (hmax : bs.length ≤ 35184372088832) (at_ n : Int) (v : Nat) :
    Calls Tryd.prog 36 #[.agg #[.int .i64 3, bv_, .int .i64 at_, .int .i64 n, .int .u64 v, pv]] w fun e w' => e = .returned (.bool true) ∧ Below w.heap.size w w' := by
  have HE : Hid (((uintL bs.length ++ bs) == (uintL bs.length ++ bs)) = true) := Lib.hid (by simp)
  have HV := Lib.hid hb
  clear hb
  go_enter Tryd.func36, Tryd.ntmps36
  go_wp2
  go_region_held3 (fun w' => w'.cell? ⟨w.heap.size, 1, none⟩ = some bv_) (first | assumption | simp [go_sem]) (first
    | (go_at_call 50; (with_reducible refine (Bytes_any _ (HV.out.alloc _).drew (by omega)).mono ?_); rintro e w1 ⟨s1, rfl, hacc1⟩; have hk1 : w1.cell? ⟨w.heap.size, 1, none⟩ = some bv_ := (hacc1.bel.cell (by simp)).trans (by simp [go_sem]))
    | (go_at_call 45; (with_reducible refine (refBytes_any _ ((HV.out.alloc _).drew.below hacc1.bel) (by omega)).mono ?_); rintro e w2 ⟨s2, rfl, hacc2⟩; have hk2 : w2.cell? ⟨w.heap.size, 1, none⟩ = some bv_ := (hacc2.bel.cell (by have := hacc1.bel.size; simp at this ⊢; omega)).trans hk1)
    | (go_at_call 32; (with_reducible refine (same1_r HE.out _ (hacc1.rd.below hacc2.bel) hacc2.rd).mono ?_); rintro e w3 ⟨rfl, rfl⟩))
  go_wp2
  go_ret
  exact ⟨rfl, ((Below.refl _ _).alloc (Nat.le_refl _) _).trans ((below_undrew hacc1.bel).mono (by simp)) |>.trans (hacc2.bel.mono (by have := hacc1.bel.size; simp at this; omega))⟩

set_option maxRecDepth 50000 in
set_option maxHeartbeats 2000000 in
theorem strings_9 {w : World} (bv_ pv : Value) (bs : List UInt8) (hb : RdB w bv_ bs) (hmax : bs.length ≤ 35184372088832) (at_ n : Int) (v : Nat) :
    Calls Tryd.prog 36 #[.agg #[.int .i64 9, bv_, .int .i64 at_, .int .i64 n, .int .u64 v, pv]] w fun e w' => e = .returned (.bool true) ∧ Below w.heap.size w w' := by
  have HE : Hid (((orderedL bs) == (orderedL bs)) = true) := Lib.hid (by simp)
  have HV := Lib.hid hb
  clear hb
  go_enter Tryd.func36, Tryd.ntmps36
  go_wp2
  go_region_held3 (fun w' => w'.cell? ⟨w.heap.size, 1, none⟩ = some bv_) (first | assumption | simp [go_sem]) (first
    | (go_at_call 79; (with_reducible refine (Ordered_any _ (HV.out.alloc _).drew (by omega)).mono ?_); rintro e w1 ⟨s1, rfl, hacc1⟩; have hk1 : w1.cell? ⟨w.heap.size, 1, none⟩ = some bv_ := (hacc1.bel.cell (by simp)).trans (by simp [go_sem]))
    | (go_at_call 80; (with_reducible refine (refOrdered_any _ ((HV.out.alloc _).drew.below hacc1.bel) (by omega)).mono ?_); rintro e w2 ⟨s2, rfl, hacc2⟩; have hk2 : w2.cell? ⟨w.heap.size, 1, none⟩ = some bv_ := (hacc2.bel.cell (by have := hacc1.bel.size; simp at this ⊢; omega)).trans hk1)
    | (go_at_call 32; (with_reducible refine (same1_r HE.out _ (hacc1.rd.below hacc2.bel) hacc2.rd).mono ?_); rintro e w3 ⟨rfl, rfl⟩))
  go_wp2
  go_ret
  exact ⟨rfl, ((Below.refl _ _).alloc (Nat.le_refl _) _).trans ((below_undrew hacc1.bel).mono (by simp)) |>.trans (hacc2.bel.mono (by have := hacc1.bel.size; simp at this; omega))⟩

set_option maxRecDepth 50000 in
set_option maxHeartbeats 2000000 in
theorem strings_4 {w : World} (bv_ pv : Value) (bs : List UInt8) (hb : RdB w bv_ bs) (hmax : bs.length ≤ 35184372088832) (at_ n : Int) (hn : n ≤ 9223372036854775807) (v : Nat) :
    Calls Tryd.prog 36 #[.agg #[.int .i64 4, bv_, .int .i64 at_, .int .i64 n, .int .u64 v, pv]] w fun e w' => e = .returned (.bool true) ∧ Below w.heap.size w w' := by
  have HE : Hid (((readBytes bs at_ n).1 == (readBytes bs at_ n).1) = true) := Lib.hid (by simp)
  have HV := Lib.hid hb
  have HN := Lib.hid hn
  clear hb hn
  go_enter Tryd.func36, Tryd.ntmps36
  go_wp2_with (first
    | (go_at_call 77; (with_reducible refine (ReadBytes_any at_ n _ (HV.out.alloc _) (by omega) HN.out).mono ?_); rintro e w1 ⟨s1, rfl, hacc1⟩; have hk1 : w1.cell? ⟨w.heap.size, 1, none⟩ = some bv_ := (hacc1.bel.cell (by simp)).trans (by simp [go_sem]); have hk2 : w1.cell? ⟨w.heap.size, 2, none⟩ = some (.int .i64 at_) := (hacc1.bel.cell (by simp)).trans (by simp [go_sem]); have hk3 : w1.cell? ⟨w.heap.size, 3, none⟩ = some (.int .i64 n) := (hacc1.bel.cell (by simp)).trans (by simp [go_sem]))
    | (go_at_call 78; (with_reducible refine (refReadBytes_any at_ n _ ((HV.out.alloc _).below hacc1.bel) (by omega) HN.out).mono ?_); rintro e w2 ⟨s2, rfl, hacc2⟩)
    | (go_at_call 31; (with_reducible refine (num1_any _ _).mono ?_); rintro e w' ⟨rfl, rfl⟩)
    | (go_at_call 32; (with_reducible refine (same1_r HE.out _ (hacc1.rd.below hacc2.bel) hacc2.rd).mono ?_); rintro e w3 ⟨rfl, rfl⟩))
  go_ret
  exact ⟨rfl, ((Below.refl _ _).alloc (Nat.le_refl _) _).trans (hacc1.bel.mono (by simp)) |>.trans (hacc2.bel.mono (by have := hacc1.bel.size; simp at this; omega))⟩

set_option maxRecDepth 50000 in
set_option maxHeartbeats 2000000 in
theorem strings_10 {w : World} (bv_ pv : Value) (bs : List UInt8) (hb : RdB w bv_ bs) (hmax : bs.length ≤ 35184372088832) (at_ n : Int) (hn : n ≤ 9223372036854775807) (v : Nat) :
    Calls Tryd.prog 36 #[.agg #[.int .i64 10, bv_, .int .i64 at_, .int .i64 n, .int .u64 v, pv]] w fun e w' => e = .returned (.bool true) ∧ Below w.heap.size w w' := by
  have HE : Hid (((readOrdered bs at_).1 == (readOrdered bs at_).1) = true) := Lib.hid (by simp)
  have HV := Lib.hid hb
  have HN := Lib.hid hn
  clear hb hn
  go_enter Tryd.func36, Tryd.ntmps36
  go_wp2_with (first
    | (go_at_call 81; (with_reducible refine (ReadOrdered_any at_ _ (HV.out.alloc _) (by omega)).mono ?_); rintro e w1 ⟨s1, rfl, hacc1⟩; have hk1 : w1.cell? ⟨w.heap.size, 1, none⟩ = some bv_ := (hacc1.bel.cell (by simp)).trans (by simp [go_sem]); have hk2 : w1.cell? ⟨w.heap.size, 2, none⟩ = some (.int .i64 at_) := (hacc1.bel.cell (by simp)).trans (by simp [go_sem]); have hk3 : w1.cell? ⟨w.heap.size, 3, none⟩ = some (.int .i64 n) := (hacc1.bel.cell (by simp)).trans (by simp [go_sem]))
    | (go_at_call 82; (with_reducible refine (refReadOrdered_any at_ _ ((HV.out.alloc _).below hacc1.bel) (by omega)).mono ?_); rintro e w2 ⟨s2, rfl, hacc2⟩)
    | (go_at_call 31; (with_reducible refine (num1_any _ _).mono ?_); rintro e w' ⟨rfl, rfl⟩)
    | (go_at_call 32; (with_reducible refine (same1_r HE.out _ (hacc1.rd.below hacc2.bel) hacc2.rd).mono ?_); rintro e w3 ⟨rfl, rfl⟩))
  go_ret
  exact ⟨rfl, ((Below.refl _ _).alloc (Nat.le_refl _) _).trans (hacc1.bel.mono (by simp)) |>.trans (hacc2.bel.mono (by have := hacc1.bel.size; simp at this; omega))⟩

set_option maxRecDepth 50000 in
set_option maxHeartbeats 2000000 in
theorem strings_13 {w : World} (hT : Tab w) (bv_ pv : Value) (bs : List UInt8) (hb : RdB w bv_ bs) (hmax : bs.length ≤ 35184372088832) (at_ n : Int) (hn : n ≤ 9223372036854775807) (v : Nat) :
    Calls Tryd.prog 36 #[.agg #[.int .i64 13, bv_, .int .i64 at_, .int .i64 n, .int .u64 v, pv]] w fun e w' => e = .returned (.bool true) ∧ Below w.heap.size w w' := by
  have HE : Hid (((readFrame bs at_).1 == (readFrame bs at_).1) = true) := Lib.hid (by simp)
  have HV := Lib.hid hb
  have HN := Lib.hid hn
  have HT := Lib.hid hT
  clear hb hn hT
  go_enter Tryd.func36, Tryd.ntmps36
  go_wp2_with (first
    | (go_at_call 30; (with_reducible refine (ReadFrame_any (HT.out.below ((Below.refl _ _).alloc (Nat.le_refl _) _)) (HV.out.alloc _) (by omega) at_).mono ?_); rintro e w1 ⟨s1, rfl, hacc1⟩; have hk1 : w1.cell? ⟨w.heap.size, 1, none⟩ = some bv_ := (hacc1.bel.cell (by simp)).trans (by simp [go_sem]); have hk2 : w1.cell? ⟨w.heap.size, 2, none⟩ = some (.int .i64 at_) := (hacc1.bel.cell (by simp)).trans (by simp [go_sem]); have hk3 : w1.cell? ⟨w.heap.size, 3, none⟩ = some (.int .i64 n) := (hacc1.bel.cell (by simp)).trans (by simp [go_sem]))
    | (go_at_call 85; (with_reducible refine (refReadFrame_any ((HV.out.alloc _).below hacc1.bel) (by omega) at_).mono ?_); rintro e w2 ⟨s2, rfl, hacc2⟩)
    | (go_at_call 31; (with_reducible refine (num1_any _ _).mono ?_); rintro e w' ⟨rfl, rfl⟩)
    | (go_at_call 32; (with_reducible refine (same1_r HE.out _ (hacc1.rd.below hacc2.bel) hacc2.rd).mono ?_); rintro e w3 ⟨rfl, rfl⟩))
  go_ret
  exact ⟨rfl, ((Below.refl _ _).alloc (Nat.le_refl _) _).trans (hacc1.bel.mono (by simp)) |>.trans (hacc2.bel.mono (by have := hacc1.bel.size; simp at this; omega))⟩

set_option maxRecDepth 50000 in
set_option maxHeartbeats 2000000 in
theorem strings_12 {w : World} (hT : Tab w) (bv_ pv : Value) (bs : List UInt8) (hb : RdB w bv_ bs) (hmax : bs.length ≤ 35184372088832) (at_ n : Int) (v : Nat) :
    Calls Tryd.prog 36 #[.agg #[.int .i64 12, bv_, .int .i64 at_, .int .i64 n, .int .u64 v, pv]] w fun e w' => e = .returned (.bool true) ∧ Below w.heap.size w w' := by
  have HE : Hid (((frame bs).1 == (frame bs).1) = true) := Lib.hid (by simp)
  have HV := Lib.hid hb
  have HT := Lib.hid hT
  clear hb hT
  go_enter Tryd.func36, Tryd.ntmps36
  go_wp2_with (first
    | (go_at_call 29; (with_reducible refine (Frame_any (HT.out.below ((Below.refl _ _).alloc (Nat.le_refl _) _)) (HV.out.alloc _) (by omega)).mono ?_); rintro e w1 ⟨s1, rfl, hacc1⟩; have hk1 : w1.cell? ⟨w.heap.size, 1, none⟩ = some bv_ := (hacc1.bel.cell (by simp)).trans (by simp [go_sem]))
    | (go_at_call 84; (with_reducible refine (refFrame_any ((HV.out.alloc _).below hacc1.bel) (by omega)).mono ?_); rintro e w2 ⟨s2, rfl, hacc2⟩)
    | (go_at_call 31; (with_reducible refine (num1_any _ _).mono ?_); rintro e w' ⟨rfl, rfl⟩)
    | (go_at_call 32; (with_reducible refine (same1_r HE.out _ (hacc1.rd.below hacc2.bel) hacc2.rd).mono ?_); rintro e w3 ⟨rfl, rfl⟩))
  go_ret
  exact ⟨rfl, ((Below.refl _ _).alloc (Nat.le_refl _) _).trans (hacc1.bel.mono (by simp)) |>.trans (hacc2.bel.mono (by have := hacc1.bel.size; simp at this; omega))⟩

set_option maxRecDepth 50000 in
set_option maxHeartbeats 2000000 in
theorem strings_11 {w : World} (hT : Tab w) (bv_ pv : Value) (bss : List (List UInt8)) (hp : RdBB w pv bss) (hm1 : bss.length ≤ 70368744177664) (hm2 : ∀ b ∈ bss, b.length ≤ 70368744177664) (at_ n : Int) (v : Nat) :
    Calls Tryd.prog 36 #[.agg #[.int .i64 11, bv_, .int .i64 at_, .int .i64 n, .int .u64 v, pv]] w fun e w' => e = .returned (.bool true) ∧ Below w.heap.size w w' := by
  have HP := Lib.hid hp
  have HT := Lib.hid hT
  have HM := Lib.hid hm2
  have hb1 : Hid (Below w.heap.size w ((w.alloc (.cells #[.int .i64 11, bv_, .int .i64 at_, .int .i64 n, .int .u64 v, pv] 32)))) := Lib.hid ((Below.refl _ _).alloc (Nat.le_refl _) _)
  clear hp hT hm2
  go_enter Tryd.func36, Tryd.ntmps36
  go_wp2
  go_region_held3 (fun w' => w'.cell? ⟨w.heap.size, 5, none⟩ = some pv) (first | assumption | simp [go_sem]) (first
    | (go_at_call 57; (with_reducible refine (Sum_any _ (HT.out.below hb1.out.drew) (HP.out.below hb1.out.drew) hm1 HM.out).mono ?_); rintro e w1 ⟨rfl, rfl⟩)
    | (go_at_call 83; (with_reducible refine (refSum_any _ (HP.out.below hb1.out.drew) hm1 HM.out).mono ?_); rintro e w1 ⟨rfl, rfl⟩))
  go_wp2
  go_ret
  exact ⟨rfl, hb1.out.drew⟩
end Go.Proofs.YtmlmbampgbiaeaaDoor
