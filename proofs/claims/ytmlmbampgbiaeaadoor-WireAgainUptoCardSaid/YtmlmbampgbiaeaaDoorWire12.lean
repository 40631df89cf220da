/- The walks of layer 1: frames, of the program and of the reference. -/
import Derived.Test.YtmlmbampgbiaeaaDoorWire11
import Derived.Deep.RegionHeld3
import Derived.Deep.QuietTactic
import Derived.BigQuiet
namespace Go.Proofs.YtmlmbampgbiaeaaDoor
open Go.RowKit

theorem below_undrew {w w' : World} (h : Below w.drew.heap.size w.drew w') : Below w.heap.size w w' := (Below.refl w.heap.size w).drew.trans h

/-- Four bytes of a number, the lowest first. -/
def le4 (v : Nat) : List UInt8 := [UInt8.ofNat (v % 256), UInt8.ofNat (v / 256 % 256), UInt8.ofNat (v / 65536 % 256), UInt8.ofNat (v / 16777216 % 256)]

set_option maxRecDepth 20000 in
set_option maxHeartbeats 400000 in
theorem low_any {w0 w : World} {sv : Value} {bs : List UInt8} (h : Acc 5 w0 w sv bs) (v : Nat) (hv : v < 4294967296) (hl : bs.length ≤ 70368744177664) :
    Calls Tryd.prog 65 #[sv, .int .u32 v] w fun e w' => ∃ s, e = .returned s ∧ Acc 5 w0 w' s (bs ++ le4 v) := by
  go_enter Tryd.func65, Tryd.ntmps65
  go_wp2_with (at_builtin; refine wpList_accl Ebs rfl (.tmp 5) (.tmp 17) rfl rfl h (le4 v) rfl rfl ?c1 ?c2 ?_)
  case c1 => simp [le4, bv]; omega
  case c2 => simp [le4]; omega
  intro v1 w1 hacc
  go_wp2
  go_ret
  exact ⟨_, rfl, hacc⟩

set_option maxRecDepth 20000 in
set_option maxHeartbeats 400000 in
theorem is_any {w : World} {v : Value} {bs : List UInt8} (h : RdB w v bs) (hmax : bs.length ≤ 70368744177664) (at_ : Int) (h0 : 0 ≤ at_) (hat : at_ + 4 ≤ bs.length) (x : Nat) (hx : x < 4294967296) (r : Bool) (hr : (piece bs at_.toNat 4 == le4 x) = r) :
    Calls Tryd.prog 66 #[v, .int .i64 at_, .int .u32 x] w fun e w' => e = .returned (.bool r) ∧ Below w.heap.size w w' := by
  subst hr
  obtain ⟨a, b, off, cap, rfl, hc1, hc2, hix, hld, _⟩ := h.open
  obtain ⟨sv, hs1, hs2, hsv⟩ := RdB.slice h hc1 at_ (at_ + 4) (by omega) (by omega) (by omega)
  rw [show (at_ + 4).toNat - at_.toNat = 4 by omega] at hsv
  have HSV := Lib.hid hsv
  clear hix hld h hsv
  have hsum : IntKind.i64.wrap (at_ + 4) = at_ + 4 := IntWalk.i64_in _ (by omega)
  go_enter Tryd.func66, Tryd.ntmps66
  go_wp2
  go_region_held3 (fun w' => True) (trivial) (first | (go_at_call 65; refine (low_any (Acc.nil _ _) x hx (by simp)).mono ?_; rintro e w' ⟨s, rfl, hacc⟩) | (go_at_call 54; refine (bytesEqual_any (x := piece bs at_.toNat 4) (y := le4 x) _ (Rd.below (Rd.drew HSV.out) hacc.bel) hacc.rd).mono ?_; rintro e w' ⟨rfl, rfl⟩))
  go_wp2
  go_ret
  exact ⟨rfl, below_undrew hacc.bel⟩

def frameL (b : List UInt8) : List UInt8 := be 4 b.length ++ le4 (crc (be 4 b.length)) ++ b ++ le4 (crc b)
/-- Frame. -/
def frame (b : List UInt8) : List UInt8 × Int := if 1048576 < b.length then ([], 2) else (frameL b, 0)
theorem frame_long {b : List UInt8} (h : 1048576 < b.length) : frame b = ([], 2) := by rw [frame, if_pos h]
theorem frame_ok {b : List UInt8} (h : ¬ 1048576 < b.length) : frame b = (frameL b, 0) := by rw [frame, if_neg h]
theorem le4_len (v : Nat) : (le4 v).length = 4 := rfl
theorem crc_one (b : List UInt8) : crc [b].flatten = crc b := by simp

theorem Sum_one {w : World} (hT : Tab w) {v : Value} {bs : List UInt8} (h : RdB w v bs) (hmax : bs.length ≤ 70368744177664) :
    Calls Tryd.prog 57 #[.slice (some ⟨w.heap.size, 0, none⟩) 1 1] (w.alloc (.cells #[v] 25)) fun e w' => e = .returned (.int .u32 (crc bs)) ∧ (w.alloc (.cells #[v] 25)) = w' := by
  have := Sum_any (w.alloc (.cells #[v] 25)) (hT.below ((Below.refl _ _).alloc (Nat.le_refl _) _)) (RdBB.one h 25) (by simp) (by simp; exact hmax)
  rw [crc_one] at this; exact this
theorem refSum_one {w : World} {v : Value} {bs : List UInt8} (h : RdB w v bs) (hmax : bs.length ≤ 70368744177664) :
    Calls Tryd.prog 83 #[.slice (some ⟨w.heap.size, 0, none⟩) 1 1] (w.alloc (.cells #[v] 25)) fun e w' => e = .returned (.int .u32 (crc bs)) ∧ (w.alloc (.cells #[v] 25)) = w' := by
  have := refSum_any (w.alloc (.cells #[v] 25)) (RdBB.one h 25) (by simp) (by simp; exact hmax)
  rw [crc_one] at this; exact this

/-- A list of one byte string, wherever its header lies. -/
theorem Sum_hdr {w : World} (hT : Tab w) {g : Nat} {v : Value} {bs : List UInt8} (hc : w.cell? ⟨g, 0, none⟩ = some v) (h : RdB w v bs) (hmax : bs.length ≤ 70368744177664) :
    Calls Tryd.prog 57 #[.slice (some ⟨g, 0, none⟩) 1 1] w fun e w' => e = .returned (.int .u32 (crc bs)) ∧ w = w' := by
  have hb : RdBB w (.slice (some ⟨g, 0, none⟩) 1 1) [bs] := by
    refine ⟨[v], rfl, ⟨_, g, 0, 1, rfl, Nat.le_refl _, by omega, (fun h => by cases h), (fun _ => rfl), fun j u hj => ?_⟩, fun i hi => ?_⟩
    · cases j with
      | zero => simp at hj; subst hj; exact hc
      | succ j => simp at hj
    · have : i = 0 := by simpa using hi
      subst this
      exact ⟨v, rfl, h⟩
  have := Sum_any w hT hb (by simp) (by simp; exact hmax)
  rw [crc_one] at this; exact this

set_option maxRecDepth 20000 in
set_option maxHeartbeats 1000000 in
theorem Frame_any {w : World} (hT : Tab w) {v : Value} {bs : List UInt8} (h : RdB w v bs) (hmax : bs.length ≤ 70368744177664) :
    Calls Tryd.prog 29 #[v] w (GivesE w (frame bs)) := by
  obtain ⟨a, b, off, cap, rfl, hc1, hc2, hix, hld, _⟩ := h.open
  clear hix hld hc1 hc2
  by_cases hlong : 1048576 < bs.length
  · have hr := Lib.hid (frame_long hlong)
    clear h
    go_enter Tryd.func29, Tryd.ntmps29
    go_wp2
    go_ret2
    exact GivesE.of hr.out (Acc.nil _ _)
  · have hr := Lib.hid (frame_ok hlong)
    have HV := Lib.hid h
    have HT := Lib.hid hT
    have hb4 := be_len 4 bs.length
    have HB4 := Lib.hid hb4
    clear h hT hb4
    go_enter Tryd.func29, Tryd.ntmps29
    go_wp2_with (first
      | (at_make; refine wpList_mkacc Ebs rfl _ _ rfl .i64 .i64 (bs.length + 12) rfl rfl (by simp) (by omega) (Below.refl _ _) ?_; intro w1 hacc1)
      | (at_builtin; refine wpList_acclS Ebs rfl (.tmp 12) (.tmp 24) rfl rfl hacc1 (be 4 bs.length) rfl rfl (by simp [be, bv]; omega) (by rw [HB4.out]; simp) ?_; intro a2 n2 c2 w2 hacc2 hn2; rw [List.nil_append] at hacc2)
      | (go_at_call 57; refine (Sum_one (HT.out.below hacc2.bel) hacc2.rd (by rw [HB4.out]; simp)).mono ?_; rintro e w3 ⟨rfl, rfl⟩))
    go_wp2_with (first
      | (go_at_call 65; refine (low_any (hacc2.alloc _) _ (crc_lt _) (by rw [HB4.out]; simp)).mono ?_; rintro e w4 ⟨s4, rfl, hacc4⟩; obtain ⟨a4, n4, c4, rfl, hn4⟩ := hacc4.sl)
      | (at_builtin; refine wpList_accS Ebs rfl (.tmp 30) (.tmp 31) rfl rfl hacc4 rfl (Rd.below HV.out hacc4.bel) (by simp [be_len, le4_len]; omega) ?_; intro a5 n5 c5 w5 hacc5 hn5))
    go_wp2_with (first
      | (go_at_call 57; refine (Sum_one (HT.out.below hacc5.bel) (Rd.below HV.out hacc5.bel) (by omega)).mono ?_; rintro e w6 ⟨rfl, rfl⟩)
      | (go_at_call 65; refine (low_any (hacc5.alloc _) _ (crc_lt _) (by simp [be_len, le4_len]; omega)).mono ?_; rintro e w7 ⟨s7, rfl, hacc7⟩))
    go_ret2
    exact GivesE.of hr.out hacc7

set_option maxRecDepth 20000 in
set_option maxHeartbeats 1000000 in
theorem Sealed_any {w : World} {v : Value} {bs : List UInt8} (h : RdB w v bs) (hmax : bs.length ≤ 70368744177664) :
    Calls Tryd.prog 94 #[v] w (Gives w (le4 (crc bs))) := by
  obtain ⟨a, b, off, cap, rfl, hc1, hc2, hix, hld, _⟩ := h.open
  clear hix hld hc1 hc2
  have HV := Lib.hid h
  have hcl := crc_lt bs
  clear h
  go_enter Tryd.func94, Tryd.ntmps94
  go_wp2_with (go_at_call 83; refine (refSum_one HV.out hmax).mono ?_; rintro e w1 ⟨rfl, rfl⟩)
  go_ret
  refine ⟨_, rfl, ?_⟩
  have h := Acc.lit (e := 5) (w0 := w) (w := w.alloc (.cells #[.slice a bs.length cap] 25)) ((Below.refl _ _).alloc (Nat.le_refl _) _) (le4 (crc bs))
    #[.int .u8 ((crc bs : Int) % 256), .int .u8 ((crc bs : Int) / 256 % 256), .int .u8 ((crc bs : Int) / 65536 % 256), .int .u8 ((crc bs : Int) / 16777216)] 4 rfl (by simp [le4, bv]; omega) (by simp [le4])
  simpa using h

theorem be8_drop (n : Nat) (_h : n < 4294967296) : ((be 8 n).drop 4) = be 4 n := by
  rw [be_cons, be_cons, be_cons, be_cons]; rfl

set_option maxRecDepth 20000 in
set_option maxHeartbeats 1000000 in
theorem refFrame_any {w : World} {v : Value} {bs : List UInt8} (h : RdB w v bs) (hmax : bs.length ≤ 70368744177664) :
    Calls Tryd.prog 84 #[v] w (GivesE w (frame bs)) := by
  obtain ⟨a, b, off, cap, rfl, hc1, hc2, hix, hld, _⟩ := h.open
  clear hix hld hc1 hc2
  by_cases hlong : 1048576 < bs.length
  · have hr := Lib.hid (frame_long hlong)
    clear h
    go_enter Tryd.func84, Tryd.ntmps84
    go_wp2
    go_ret2
    exact GivesE.of hr.out (Acc.nil _ _)
  · have hr := Lib.hid (frame_ok hlong)
    have HV := Lib.hid h
    have hb4 := be_len 4 bs.length
    have HB4 := Lib.hid hb4
    have hw := i64_u64 (n := bs.length) (by omega)
    have hu : U64 bs.length := by unfold U64; omega
    clear h hb4
    go_enter Tryd.func84, Tryd.ntmps84
    have HB8 := Lib.hid (be_len 8 bs.length)
    go_wp2_with fail
    refine (eight_any _ hu _).mono ?_
    rintro e w1 ⟨s1, rfl, hacc1⟩
    obtain ⟨a1, n1, c1, rfl, hn1⟩ := hacc1.sl
    obtain ⟨a2, n2, c2, hs1, hs2, hn2, hrd2⟩ := RdB.slL hacc1.rd 4 (by omega) (by rw [HB8.out]; omega)
    rw [show (4 : Int).toNat = 4 from rfl, be8_drop _ (by omega)] at hrd2
    have HR2 := Lib.hid hrd2
    clear hrd2
    go_wp2_with (first
      | (go_at_call 106; (with_reducible refine (Part_any _ HR2.out 0 4 (by omega) (by omega) (by rw [HB4.out]; omega) (by rw [HB4.out]; omega)).mono ?_); rintro e w3 ⟨s3, rfl, hacc3⟩; obtain ⟨a3, n3, c3, rfl, hn3⟩ := hacc3.sl)
      | (go_at_call 94; (with_reducible refine (Sealed_any (HR2.out.below hacc3.bel) (by rw [HB4.out]; omega)).mono ?_); rintro e w4 ⟨s4, rfl, hacc4⟩; obtain ⟨a4, n4, c4, rfl, hn4⟩ := hacc4.sl)
      | (at_builtin; refine wpList_accS Ebs rfl (.tmp 15) (.tmp 17) rfl rfl ((hacc3.weaken hacc1.bel).later hacc4.bel) rfl hacc4.rd (by simp [be_len, le4_len]) ?_; intro a5 n5 c5 w5 hacc5 hn5)
      | (at_builtin; refine wpList_accS Ebs rfl (.tmp 19) (.tmp 20) rfl rfl hacc5 rfl (HV.out.below hacc5.bel) (by simp [be_len, le4_len]; omega) ?_; intro a6 n6 c6 w6 hacc6 hn6)
      | (go_at_call 94; (with_reducible refine (Sealed_any (HV.out.below hacc6.bel) hmax).mono ?_); rintro e w7 ⟨s7, rfl, hacc7⟩; obtain ⟨a7, n7, c7, rfl, hn7⟩ := hacc7.sl)
      | (at_builtin; refine wpList_accS Ebs rfl (.tmp 22) (.tmp 24) rfl rfl (hacc6.later hacc7.bel) rfl hacc7.rd (by simp [be_len, le4_len]; omega) ?_; intro a8 n8 c8 w8 hacc8 hn8))
    go_ret2
    exact GivesE.of (by rw [hr.out]; simp [frameL, be]) hacc8
end Go.Proofs.YtmlmbampgbiaeaaDoor
