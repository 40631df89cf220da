/- The law's own functions of layer 1: one call of the program against one of the reference. -/
import Derived.Test.YtmlmbampgbiaeaaDoorWire14
namespace Go.Proofs.YtmlmbampgbiaeaaDoor
open Go.RowKit

theorem num1_any (e : Int) (w : World) : Calls Tryd.prog 31 #[.int .i64 e] w fun r w' => r = .returned (.int .i64 e) ∧ w = w' := by
  go_enter Tryd.func31, Tryd.ntmps31
  go_wp2
  go_ret
  exact ⟨rfl, rfl⟩

theorem started_uint : readUint [9, 172, 2] 1 = (300, 3, 0) := by decide +kernel
theorem started_frame : frame [7] = (frameL [7], 0) := by decide +kernel
theorem started_back : readFrame (frameL [7]) 0 = ([7], 13, 0) := by decide +kernel
theorem started_300 : uintL 300 = [172, 2] := by rw [uintL_big (by omega), uintL_small (by omega)]; rfl

theorem ReadFrame_eq {w : World} {bs : List UInt8} {at_ : Int} {r : List UInt8} {p e : Int} (hr : readFrame bs at_ = (r, p, e)) (hT : Tab w) {v : Value} (h : RdB w v bs) (hmax : bs.length ≤ 70368744177664) :
    Calls Tryd.prog 30 #[v, .int .i64 at_] w fun en w' => ∃ a n c, en = .returned (.tuple #[.slice a n c, .int .i64 p, .int .i64 e]) ∧ Acc 5 w w' (.slice a n c) r := by
  have := ReadFrame_any hT h hmax at_
  rw [hr] at this
  refine this.mono fun e w' hg => ?_
  obtain ⟨s, rfl, hacc⟩ := hg
  obtain ⟨a, n, c, rfl, _⟩ := hacc.sl
  exact ⟨a, n, c, rfl, hacc⟩
theorem Frame_eq {w : World} {bs : List UInt8} {r : List UInt8} {e : Int} (hr : frame bs = (r, e)) (hT : Tab w) {v : Value} (h : RdB w v bs) (hmax : bs.length ≤ 70368744177664) :
    Calls Tryd.prog 29 #[v] w fun en w' => ∃ a c, en = .returned (.tuple #[.slice a r.length c, .int .i64 e]) ∧ Acc 5 w w' (.slice a r.length c) r := by
  have := Frame_any hT h hmax
  rw [hr] at this
  refine this.mono fun e w' hg => ?_
  obtain ⟨s, rfl, hacc⟩ := hg
  obtain ⟨a, c, rfl, _⟩ := Rd.shape hacc.rd
  exact ⟨a, c, rfl, hacc⟩
theorem same1_r {v u : Value} {x y : List UInt8} {r : Bool} (hr : (x == y) = r) (w : World) (hv : RdB w v x) (hu : RdB w u y) :
    Calls Tryd.prog 32 #[v, u] w fun e w' => e = .returned (.bool r) ∧ w = w' := by
  subst hr; exact same1_any w hv hu

set_option maxRecDepth 50000 in
set_option maxHeartbeats 2000000 in
theorem started1_any {w : World} (hT : Tab w) : Calls Tryd.prog 5 #[] w fun e w' => e = .returned (.bool true) ∧ Below w.heap.size w w' := by
  have HT := Lib.hid hT
  have hu : U64 300 := by unfold U64; omega
  have hl13 : (frameL [7]).length = 13 := by decide +kernel
  have HL := Lib.hid hl13
  have R1 : Hid (∀ W : World, RdB (W.alloc (.cells #[.int .u8 9, .int .u8 172, .int .u8 2] 5)) (.slice (some ⟨W.heap.size, 0, none⟩) 3 3) [9, 172, 2]) := Lib.hid fun W => RdB.lit W [9, 172, 2] rfl rfl (by decide)
  have R2 : Hid (∀ (W : World) (g : Nat), g = W.heap.size → RdB (W.alloc (.cells #[.int .u8 7] 5)) (.slice (some ⟨g, 0, none⟩) 1 1) [7]) := Lib.hid fun W g hg => by subst hg; exact RdB.lit W [7] rfl rfl (by decide)
  have R3 : Hid (∀ (W : World) (g : Nat), g = W.heap.size → RdB (W.alloc (.cells #[.int .u8 172, .int .u8 2] 5)) (.slice (some ⟨g, 0, none⟩) 2 2) [172, 2]) := Lib.hid fun W g hg => by subst hg; exact RdB.lit W [172, 2] rfl rfl (by decide)
  have D1 : Hid (([9, 172, 2] : List UInt8).length ≤ 70368744177664) := Lib.hid (by decide)
  have D2 : Hid (([7] : List UInt8).length ≤ 70368744177664) := Lib.hid (by decide)
  have D3 : Hid ((frameL [7]).length ≤ 70368744177664) := Lib.hid (by rw [hl13]; omega)
  have E7 : Hid ((([7] : List UInt8) == [7]) = true) := Lib.hid rfl
  have E300 : Hid ((uintL 300 == [172, 2]) = true) := Lib.hid (by rw [started_300]; rfl)
  have U3 : Hid (∀ W, Calls Tryd.prog 33 #[.int .u64 300] W (Gives W (uintL 300))) := Lib.hid fun W => Uint_any 300 hu W
  clear hT hl13 hu
  go_enter Tryd.func5, Tryd.ntmps5
  go_wp2_with (first
    | (go_at_call 28; (with_reducible refine (ReadUint_eq started_uint _ (R1.out _) D1.out).mono ?_); rintro e w1 ⟨rfl, rfl⟩)
    | (go_at_call 29; (with_reducible refine (Frame_eq started_frame (HT.out.below (((Below.refl _ _).alloc (Nat.le_refl _) _).alloc (by simp) _)) (R2.out _ _ (by simp)) D2.out).mono ?_); rintro e w2 ⟨a2, c2, rfl, hacc2⟩; have hb2 := (((Below.refl _ _).alloc (Nat.le_refl _) _).alloc (by simp) _).trans (hacc2.bel.mono (by simp; omega)))
    | (go_at_call 30; (with_reducible refine (ReadFrame_eq started_back (HT.out.below hb2) hacc2.rd D3.out).mono ?_); rintro e w3 ⟨a3, n3, c3, rfl, hacc3⟩; have hb3 := hb2.trans (hacc3.bel.mono hb2.size))
    | (go_at_call 31; (with_reducible refine (num1_any _ _).mono ?_); rintro e w' ⟨rfl, rfl⟩)
    | (go_at_call 32; (with_reducible refine (same1_r E7.out _ (hacc3.rd.alloc _) (R2.out _ _ (by simp))).mono ?_); rintro e w4 ⟨rfl, rfl⟩)
    | (go_at_call 33; (with_reducible refine (U3.out _).mono ?_); rintro e w5 ⟨s5, rfl, hacc5⟩)
    | (go_at_call 32; (with_reducible refine (same1_r E300.out _ (hacc5.rd.alloc _) (R3.out _ _ (by simp))).mono ?_); rintro e w6 ⟨rfl, rfl⟩))
  go_ret
  exact ⟨rfl, hb3.trans (((Below.refl _ _).alloc (Nat.le_refl _) _).trans (hacc5.bel.mono (by simp)) |>.alloc (by have := hacc5.bel.size; simp at this; omega) _ |>.mono hb3.size)⟩
end Go.Proofs.YtmlmbampgbiaeaaDoor
