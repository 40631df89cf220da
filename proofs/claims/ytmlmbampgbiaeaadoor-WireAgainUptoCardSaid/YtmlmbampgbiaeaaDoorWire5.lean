/- The walks of layer 1: ReadBytes, of the program and of the reference. The bytes are fewer than 2^46. -/
import Derived.Test.YtmlmbampgbiaeaaDoorWire4
namespace Go.Proofs.YtmlmbampgbiaeaaDoor
open Go.RowKit

theorem ReadUint_eq {v : Value} {bs : List UInt8} {at_ : Int} {n : Nat} {p er : Int} (hr : readUint bs at_ = (n, p, er)) (w : World) (hv : RdB w v bs) (hmax : bs.length ≤ 70368744177664) :
    Calls Tryd.prog 28 #[v, .int .i64 at_] w fun e w' => e = .returned (.tuple #[.int .u64 n, .int .i64 p, .int .i64 er]) ∧ w = w' := by
  have := ReadUint_any at_ w hv (by omega)
  rw [hr] at this; exact this
theorem refReadUint_eq {v : Value} {bs : List UInt8} {at_ : Int} {n : Nat} {p er : Int} (hr : readUint bs at_ = (n, p, er)) (w : World) (hv : RdB w v bs) (hmax : bs.length ≤ 70368744177664) :
    Calls Tryd.prog 68 #[v, .int .i64 at_] w fun e w' => e = .returned (.tuple #[.int .u64 n, .int .i64 p, .int .i64 er]) ∧ w = w' := by
  have := refReadUint_any at_ w hv (by omega)
  rw [hr] at this; exact this

theorem rdU_n : ∀ (l : List UInt8) (i v n k : Nat), i ≤ 9 → v < 128 ^ i → rdU l i v = (n, k, 0) → U64 n
  | [], i, v, n, k, _, _, h => by simp [rdU] at h
  | c :: r, i, v, n, k, hi, hv, h => by
    by_cases hb : i = 9 ∧ 1 < c.toNat
    · rw [rdU_big _ _ hb.1 hb.2] at h; simp at h
    · by_cases hc : c.toNat < 128
      · by_cases hf : c.toNat = 0 ∧ 0 < i
        · rw [rdU_form _ _ hf.1 hf.2] at h; simp at h
        · rw [rdU_end _ _ (by omega) hc (by omega)] at h
          simp at h
          have := grp_lt64 (c := c) hi (by omega) hv
          unfold grp at this
          unfold U64; rw [← h.1]; exact this
      · have h9 : i ≠ 9 := by have := c.toNat_lt; omega
        rw [rdU_more _ _ h9 (by omega)] at h
        exact rdU_n r (i + 1) _ n k (by omega) (grp_lt hv) h
theorem readUint_u64 {b : List UInt8} {at_ : Int} {n : Nat} {p : Int} (h : readUint b at_ = (n, p, 0)) : U64 n := by
  unfold readUint at h
  split at h
  · simp at h
  · rcases hr : rdU (b.drop at_.toNat) 0 0 with ⟨x, y, z⟩
    rw [hr] at h
    simp at h
    obtain ⟨h1, h2, h3⟩ := h
    subst h3; subst h1
    exact rdU_n _ _ _ _ _ (by omega) (by omega) hr

theorem readBytes_arg {b : List UInt8} {at_ most : Int} (h : (at_ < 0 ∨ (b.length : Int) < at_) ∨ most < 0) : readBytes b at_ most = ([], 0, 1) := by
  unfold readBytes; rw [if_pos h]
theorem readBytes_err {b : List UInt8} {at_ most : Int} (h : ¬ ((at_ < 0 ∨ (b.length : Int) < at_) ∨ most < 0)) {n : Nat} {p e : Int} (hr : readUint b at_ = (n, p, e)) (he : e ≠ 0) : readBytes b at_ most = ([], 0, e) := by
  unfold readBytes; rw [if_neg h, hr]; simp [he]
theorem readBytes_ok {b : List UInt8} {at_ most : Int} (h : ¬ ((at_ < 0 ∨ (b.length : Int) < at_) ∨ most < 0)) {n : Nat} {p : Int} (hr : readUint b at_ = (n, p, 0)) :
    readBytes b at_ most = if most < (n : Int) then ([], 0, 13) else if (b.length : Int) - p < n then ([], 0, 10) else ((b.drop p.toNat).take n, p + n, 0) := by
  unfold readBytes; rw [if_neg h, hr]; simp

theorem u64_of_i64 {n : Int} (h0 : 0 ≤ n) (h : n ≤ 9223372036854775807) : IntKind.u64.wrap n = n := by rw [IntKind.wrap_u64]; omega
theorem i64_of_u64 {n : Int} (h0 : 0 ≤ n) (h : n ≤ 9223372036854775807) : IntKind.i64.wrap n = n := IntWalk.i64_in n (by omega)

set_option maxRecDepth 20000 in
set_option maxHeartbeats 1000000 in
theorem ReadBytes_any {v : Value} {bs : List UInt8} (at_ most : Int) (w : World) (hv : RdB w v bs) (hmax : bs.length ≤ 70368744177664) (hmost : most ≤ 9223372036854775807) :
    Calls Tryd.prog 77 #[v, .int .i64 at_, .int .i64 most] w (GivesPE w (readBytes bs at_ most)) := by
  obtain ⟨a, b, off, cap, rfl, hc1, hc2, hix, hld, _⟩ := hv.open
  clear hix hld
  have HV := Lib.hid hv
  by_cases hout : at_ < 0 ∨ (bs.length : Int) < at_
  · have hd : (decide (at_ < 0) || decide ((bs.length:Int) < at_)) = true := by simpa using hout
    have HD := Lib.hid hd; clear hd
    have hr := Lib.hid (readBytes_arg (most := most) (.inl hout))
    clear hout hv
    go_enter Tryd.func77, Tryd.ntmps77
    go_wp2_with (go_at_call 64; refine (outside_any _ _ _ _ _ _ HD.out).mono ?_; rintro e w' ⟨rfl, rfl⟩)
    go_ret3
    exact GivesPE.of hr.out (Acc.nil _ _)
  · have hd : (decide (at_ < 0) || decide ((bs.length:Int) < at_)) = false := by simpa using hout
    have HD := Lib.hid hd; clear hd
    by_cases hm : most < 0
    · have hr := Lib.hid (readBytes_arg (b := bs) (at_ := at_) (most := most) (.inr hm))
      clear hout hv
      go_enter Tryd.func77, Tryd.ntmps77
      go_wp2_with (go_at_call 64; refine (outside_any _ _ _ _ _ _ HD.out).mono ?_; rintro e w' ⟨rfl, rfl⟩)
      go_ret3
      exact GivesPE.of hr.out (Acc.nil _ _)
    · have hb : ¬ ((at_ < 0 ∨ (bs.length : Int) < at_) ∨ most < 0) := by omega
      rcases hru : readUint bs at_ with ⟨n, p, er⟩
      have HRU := Lib.hid hru
      by_cases her : er = 0
      · subst her
        have hp := readUint_ok hru
        have hok := readBytes_ok hb hru
        have hw1 := u64_of_i64 (n := most) (by omega) (by omega)
        have hw2 := u64_of_i64 (n := (bs.length : Int) - p) (by omega) (by omega)
        by_cases h1 : most < (n : Int)
        · rw [if_pos h1] at hok
          have hr := Lib.hid hok
          clear hok hru hv hb hout
          go_enter Tryd.func77, Tryd.ntmps77
          go_wp2_with (first | (go_at_call 64; refine (outside_any _ _ _ _ _ _ HD.out).mono ?_; rintro e w' ⟨rfl, rfl⟩) | (go_at_call 28; refine (ReadUint_eq HRU.out _ HV.out hmax).mono ?_; rintro e w' ⟨rfl, rfl⟩))
          go_ret3
          exact GivesPE.of hr.out (Acc.nil _ _)
        · rw [if_neg h1] at hok
          by_cases h2 : (bs.length : Int) - p < n
          · rw [if_pos h2] at hok
            have hr := Lib.hid hok
            clear hok hru hv hb hout
            go_enter Tryd.func77, Tryd.ntmps77
            go_wp2_with (first | (go_at_call 64; refine (outside_any _ _ _ _ _ _ HD.out).mono ?_; rintro e w' ⟨rfl, rfl⟩) | (go_at_call 28; refine (ReadUint_eq HRU.out _ HV.out hmax).mono ?_; rintro e w' ⟨rfl, rfl⟩))
            go_ret3
            exact GivesPE.of hr.out (Acc.nil _ _)
          · rw [if_neg h2] at hok
            have hw3 := i64_of_u64 (n := (n : Int)) (by omega) (by omega)
            obtain ⟨sv, hs1, hs2, hsv⟩ := RdB.slice hv hc1 p (p + n) (by omega) (by omega) (by omega)
            have e1 : (p + (n : Int)).toNat - p.toNat = n := by omega
            rw [e1] at hsv
            have HSV := Lib.hid hsv
            have hr := Lib.hid hok
            have hlen : Hid ((List.take n (List.drop p.toNat bs)).length ≤ 70368744177664) := Lib.hid (by simp; omega)
            clear hok hru hv hb hout e1 hsv
            go_enter Tryd.func77, Tryd.ntmps77
            go_wp2_with (first | (go_at_call 64; refine (outside_any _ _ _ _ _ _ HD.out).mono ?_; rintro e w' ⟨rfl, rfl⟩) | (go_at_call 28; refine (ReadUint_eq HRU.out _ HV.out hmax).mono ?_; rintro e w' ⟨rfl, rfl⟩) | (go_at_call 67; refine (bytesClone_any _ HSV.out hlen.out).mono ?_; rintro e w' ⟨s, rfl, hacc⟩))
            go_ret3
            exact GivesPE.of hr.out hacc
      · have hr := Lib.hid (readBytes_err hb hru her)
        have her' : (er == 0) = false := by simpa using her
        have her2 : (er != 0) = true := by simpa using her
        clear hru hv hb hout her
        go_enter Tryd.func77, Tryd.ntmps77
        go_wp2_with (first | (go_at_call 64; refine (outside_any _ _ _ _ _ _ HD.out).mono ?_; rintro e w' ⟨rfl, rfl⟩) | (go_at_call 28; refine (ReadUint_eq HRU.out _ HV.out hmax).mono ?_; rintro e w' ⟨rfl, rfl⟩))
        go_ret3
        exact GivesPE.of hr.out (Acc.nil _ _)
set_option maxRecDepth 20000 in
set_option maxHeartbeats 1000000 in
theorem refReadBytes_any {v : Value} {bs : List UInt8} (at_ most : Int) (w : World) (hv : RdB w v bs) (hmax : bs.length ≤ 70368744177664) (hmost : most ≤ 9223372036854775807) :
    Calls Tryd.prog 78 #[v, .int .i64 at_, .int .i64 most] w (GivesPE w (readBytes bs at_ most)) := by
  obtain ⟨a, b, off, cap, rfl, hc1, hc2, hix, hld, _⟩ := hv.open
  clear hix hld
  have HV := Lib.hid hv
  by_cases hout : at_ < 0 ∨ (bs.length : Int) < at_
  · have hd : (decide (at_ < 0) || decide ((bs.length:Int) < at_)) = true := by simpa using hout
    have HD := Lib.hid hd; clear hd
    have hr := Lib.hid (readBytes_arg (most := most) (.inl hout))
    clear hout hv
    go_enter Tryd.func78, Tryd.ntmps78
    go_wp2_with (go_at_call 103; refine (refOutside_any _ _ _ _ _ _ HD.out).mono ?_; rintro e w' ⟨rfl, rfl⟩)
    go_ret3
    exact GivesPE.of hr.out (Acc.nil _ _)
  · have hd : (decide (at_ < 0) || decide ((bs.length:Int) < at_)) = false := by simpa using hout
    have HD := Lib.hid hd; clear hd
    by_cases hm : most < 0
    · have hr := Lib.hid (readBytes_arg (b := bs) (at_ := at_) (most := most) (.inr hm))
      clear hout hv
      go_enter Tryd.func78, Tryd.ntmps78
      go_wp2_with (go_at_call 103; refine (refOutside_any _ _ _ _ _ _ HD.out).mono ?_; rintro e w' ⟨rfl, rfl⟩)
      go_ret3
      exact GivesPE.of hr.out (Acc.nil _ _)
    · have hb : ¬ ((at_ < 0 ∨ (bs.length : Int) < at_) ∨ most < 0) := by omega
      rcases hru : readUint bs at_ with ⟨n, p, er⟩
      have HRU := Lib.hid hru
      by_cases her : er = 0
      · subst her
        have hp := readUint_ok hru
        have hok := readBytes_ok hb hru
        have hw1 := u64_of_i64 (n := most) (by omega) (by omega)
        have hw2 := u64_of_i64 (n := (bs.length : Int) - p) (by omega) (by omega)
        by_cases h1 : most < (n : Int)
        · rw [if_pos h1] at hok
          have hr := Lib.hid hok
          clear hok hru hv hb hout
          go_enter Tryd.func78, Tryd.ntmps78
          go_wp2_with (first | (go_at_call 103; refine (refOutside_any _ _ _ _ _ _ HD.out).mono ?_; rintro e w' ⟨rfl, rfl⟩) | (go_at_call 68; refine (refReadUint_eq HRU.out _ HV.out hmax).mono ?_; rintro e w' ⟨rfl, rfl⟩))
          go_ret3
          exact GivesPE.of hr.out (Acc.nil _ _)
        · rw [if_neg h1] at hok
          by_cases h2 : (bs.length : Int) - p < n
          · rw [if_pos h2] at hok
            have hr := Lib.hid hok
            clear hok hru hv hb hout
            go_enter Tryd.func78, Tryd.ntmps78
            go_wp2_with (first | (go_at_call 103; refine (refOutside_any _ _ _ _ _ _ HD.out).mono ?_; rintro e w' ⟨rfl, rfl⟩) | (go_at_call 68; refine (refReadUint_eq HRU.out _ HV.out hmax).mono ?_; rintro e w' ⟨rfl, rfl⟩))
            go_ret3
            exact GivesPE.of hr.out (Acc.nil _ _)
          · rw [if_neg h2] at hok
            have hw3 := i64_of_u64 (n := (n : Int)) (by omega) (by omega)
            have e1 : Hid ((p + (n : Int)).toNat - p.toNat = n) := Lib.hid (by omega)
            have hq1 : 0 ≤ p := by omega
            have hq2 : p ≤ p + (n : Int) := by omega
            have hq3 : p + (n : Int) ≤ bs.length := by omega
            have hr := Lib.hid hok
            clear hok hru hv hb hout
            go_enter Tryd.func78, Tryd.ntmps78
            go_wp2_with (first | (go_at_call 103; refine (refOutside_any _ _ _ _ _ _ HD.out).mono ?_; rintro e w' ⟨rfl, rfl⟩) | (go_at_call 68; refine (refReadUint_eq HRU.out _ HV.out hmax).mono ?_; rintro e w' ⟨rfl, rfl⟩) | (go_at_call 106; refine (Part_any _ HV.out p (p + n) hq1 hq2 hq3 hmax).mono ?_; rintro e w' ⟨s, rfl, hacc⟩))
            go_ret3
            rw [e1.out] at hacc
            exact GivesPE.of hr.out hacc
      · have hr := Lib.hid (readBytes_err hb hru her)
        have her' : (er == 0) = false := by simpa using her
        have her2 : (er != 0) = true := by simpa using her
        clear hru hv hb hout her
        go_enter Tryd.func78, Tryd.ntmps78
        go_wp2_with (first | (go_at_call 103; refine (refOutside_any _ _ _ _ _ _ HD.out).mono ?_; rintro e w' ⟨rfl, rfl⟩) | (go_at_call 68; refine (refReadUint_eq HRU.out _ HV.out hmax).mono ?_; rintro e w' ⟨rfl, rfl⟩))
        go_ret3
        exact GivesPE.of hr.out (Acc.nil _ _)
end Go.Proofs.YtmlmbampgbiaeaaDoor
