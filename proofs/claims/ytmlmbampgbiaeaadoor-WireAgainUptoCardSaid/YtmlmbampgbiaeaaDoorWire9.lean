/- The walks of layer 1: ReadRising, ReadFalling, of the program and of the reference. The bytes are fewer than 2^46. -/
import Derived.Test.YtmlmbampgbiaeaaDoorWire8
namespace Go.Proofs.YtmlmbampgbiaeaaDoor
open Go.RowKit

theorem num_cons (c : UInt8) (r : List UInt8) : num (c :: r) = c.toNat * 256 ^ r.length + num r := by
  induction h : r.length generalizing r with
  | zero => have : r = [] := by cases r <;> simp_all
            subst this; simp [num]
  | succ n ih =>
    have hne : r ≠ [] := by intro e; subst e; simp at h
    have e := List.dropLast_concat_getLast hne
    have hl : r.dropLast.length = n := by simp [h]
    have h1 : num r = 256 * num r.dropLast + (r.getLast hne).toNat := by rw [← num_snoc, e]
    have h2 : num (c :: r) = 256 * num (c :: r.dropLast) + (r.getLast hne).toNat := by rw [← num_snoc, List.cons_append, e]
    rw [h1, h2, ih _ hl, Nat.pow_succ, Nat.mul_add]
    have : 256 * (c.toNat * 256 ^ n) = c.toNat * (256 ^ n * 256) := by rw [Nat.mul_comm (256 ^ n), Nat.mul_left_comm]
    omega

/-- The bytes of the piece from a place on. -/
def piece (bs : List UInt8) (at_ n : Nat) : List UInt8 := (bs.drop at_).take n
theorem piece_snoc (bs : List UInt8) (at_ k : Nat) (h : at_ + k < bs.length) : piece bs at_ (k + 1) = piece bs at_ k ++ [bs[at_ + k]] := by
  unfold piece
  rw [List.take_succ_eq_append_getElem (by simp; omega)]
  simp
theorem piece_len (bs : List UInt8) (at_ k : Nat) (h : at_ + k ≤ bs.length) : (piece bs at_ k).length = k := by unfold piece; simp; omega

theorem ret_eq {k : IntKind} {x y : Int} (h : x = y) : Ending.returned (.int k x) = .returned (.int k y) := by rw [h]

theorem i64_or_nat (a b : Nat) (ha : a < 9223372036854775808) (hb : b < 9223372036854775808) : bits .or .i64 (a : Int) (b : Int) = ((a ||| b : Nat) : Int) := by
  have hx : a ||| b < 2 ^ 63 := Nat.or_lt_two_pow (by omega) (by omega)
  show IntKind.i64.wrap ((BitVec.ofInt 64 (a : Int) ||| BitVec.ofInt 64 (b : Int)).toNat : Int) = _
  rw [BitVec.toNat_or, ofInt_u64 a (by omega), ofInt_u64 b (by omega), IntKind.wrap_i64]
  omega
/-- 'n<<8 | c' -/
theorem i64_push (u : Nat) (c : UInt8) (h : u < 36028797018963968) : bits .or .i64 ((u : Int) * 256) (c.toNat : Int) = ((256 * u + c.toNat : Nat) : Int) := by
  have hc := c.toNat_lt
  rw [show (u : Int) * 256 = ((2 ^ 8 * u : Nat) : Int) by omega, i64_or_nat _ _ (by omega) (by omega), Nat.two_pow_add_eq_or_of_lt hc]

set_option maxRecDepth 20000 in
set_option maxHeartbeats 400000 in
theorem number_any {v : Value} {bs : List UInt8} (at_ n : Nat) (w : World) (hv : RdB w v bs) (hmax : bs.length ≤ 70368744177664) (hn : n ≤ 8) (hin : at_ + n ≤ bs.length) :
    Calls Tryd.prog 105 #[v, .int .i64 at_, .int .i64 n] w fun e w' => e = .returned (.int .u64 (num (piece bs at_ n) : Nat)) ∧ w = w' := by
  obtain ⟨a, b, off, cap, rfl, hc1, hc2, hix, hld, _⟩ := hv.open
  clear hc1 hc2 hv
  have HLD := Lib.hid hld; clear hld
  obtain ⟨R, hR⟩ : ∃ R, num (piece bs at_ n) = R := ⟨_, rfl⟩
  rw [hR]
  have HR := Lib.hid hR; clear hR
  go_enter Tryd.func105, Tryd.ntmps105
  go_wp2
  go_loop [7, 8] (fun x i => ∃ (u k : Nat), x = .int .u64 u ∧ i = .int .i64 k ∧ k ≤ n ∧ u = num (piece bs at_ k))
    (fun _ i => n - (intOf i).toNat)
  case atStart => exact ⟨0, 0, rfl, rfl, by omega, by simp [piece, num]⟩
  case round =>
    obtain ⟨u, k, rfl, rfl, hk, heq⟩ := hrel
    have hlt := num_lt (piece bs at_ k)
    rw [piece_len bs at_ k (by omega), ← heq] at hlt
    have HE := Lib.hid heq; clear heq
    by_cases h : k < n
    · obtain ⟨c, hc⟩ : ∃ c, c = bs[at_ + k]'(by omega) := ⟨_, rfl⟩
      have hcell := HLD.out (at_ + k) (by omega)
      rw [← hc] at hcell
      have hcb := c.toNat_lt
      have hp := piece_snoc bs at_ k (by omega)
      have h2 : 256 * u + c.toNat = num (piece bs at_ (k + 1)) := by rw [hp, num_snoc, ← HE.out, ← hc]
      have HN := Lib.hid h2
      have hlt2 := num_lt (piece bs at_ (k + 1))
      rw [piece_len bs at_ (k + 1) (by omega), ← h2] at hlt2
      have h8 : (256 : Nat) ^ (k + 1) ≤ 256 ^ 8 := Nat.pow_le_pow_right (by omega) (by omega)
      have e8 : (256 : Nat) ^ 8 = 18446744073709551616 := by decide
      have hw : Hid (IntKind.u64.wrap (IntKind.u64.wrap (256 * (u : Int)) + (c.toNat : Int)) = ((256 * u + c.toNat : Nat) : Int)) := Lib.hid (by rw [IntKind.wrap_u64, IntKind.wrap_u64]; omega)
      clear hc hp h2 hlt hlt2 h8 e8
      go_wp2_with fail
      go_round
      case rel => exact ⟨256 * u + c.toNat, k + 1, int_eq hw.out, by go_num, by omega, HN.out⟩
      case measure => simp [intOf] <;> omega
    · obtain rfl : k = n := by omega
      go_wp2
      go_ret
      exact ⟨ret_eq (by rw [← HR.out, HE.out]), rfl⟩

/-- Three ints are handed back, nothing is turned. -/
def I3 (r : Int × Int × Int) (w : World) (e : Ending) (w' : World) : Prop :=
  e = .returned (.tuple #[.int .i64 r.1, .int .i64 r.2.1, .int .i64 r.2.2]) ∧ w = w'
theorem I3.of {r : Int × Int × Int} {w : World} {x y z : Int} (h : r = (x, y, z)) : I3 r w (.returned (.tuple #[.int .i64 x, .int .i64 y, .int .i64 z])) w := by
  subst h; exact ⟨rfl, rfl⟩

theorem readRising_out {b : List UInt8} {at_ : Int} (h : at_ < 0 ∨ (b.length : Int) < at_) : readRising b at_ = (0, 0, 1) := by rw [readRising, if_pos h]
theorem readRising_torn {b : List UInt8} {at_ : Int} (h : ¬ (at_ < 0 ∨ (b.length : Int) < at_)) (h2 : (b.length : Int) - at_ < 8) : readRising b at_ = (0, 0, 10) := by rw [readRising, if_neg h, if_pos h2]
theorem readRising_big {b : List UInt8} {at_ : Nat} (h : at_ + 8 ≤ b.length) (hb : 9223372036854775807 < num (piece b at_ 8)) : readRising b at_ = (0, 0, 13) := by
  rw [readRising, if_neg (by omega), if_neg (by omega)]; exact if_pos hb
theorem readRising_ok {b : List UInt8} {at_ : Nat} (h : at_ + 8 ≤ b.length) (hb : ¬ 9223372036854775807 < num (piece b at_ 8)) : readRising b at_ = (((num (piece b at_ 8) : Nat) : Int), (at_ : Int) + 8, 0) := by
  rw [readRising, if_neg (by omega), if_neg (by omega)]; exact if_neg hb

theorem piece_big {b : List UInt8} {at_ : Nat} (h : at_ + 8 ≤ b.length) : (9223372036854775807 < num (piece b at_ 8)) ↔ 127 < (b[at_]'(by omega)).toNat := by
  have e : piece b at_ 8 = b[at_]'(by omega) :: piece b (at_ + 1) 7 := by
    unfold piece
    rw [drop_cons b at_ (by omega)]; rfl
  have hl := num_lt (piece b (at_ + 1) 7)
  rw [piece_len _ _ _ (by omega)] at hl
  rw [e, num_cons, piece_len _ _ _ (by omega)]
  have e7 : (256 : Nat) ^ 7 = 72057594037927936 := by decide
  rw [e7] at *
  omega
theorem piece_small {b : List UInt8} {at_ k : Nat} (h : at_ + 8 ≤ b.length) (hk : k < 8) (hb : ¬ 9223372036854775807 < num (piece b at_ 8)) : num (piece b at_ k) < 36028797018963968 := by
  by_cases h0 : k = 0
  · subst h0; simp [piece, num]
  · obtain ⟨j, rfl⟩ : ∃ j, k = j + 1 := ⟨k - 1, by omega⟩
    rw [piece_big h] at hb
    have e : piece b at_ (j + 1) = b[at_]'(by omega) :: piece b (at_ + 1) j := by
      unfold piece
      rw [drop_cons b at_ (by omega)]; rfl
    have hl := num_lt (piece b (at_ + 1) j)
    rw [piece_len _ _ _ (by omega)] at hl
    rw [e, num_cons, piece_len _ _ _ (by omega)]
    have h1 : (b[at_]'(by omega)).toNat * 256 ^ j ≤ 127 * 256 ^ j := Nat.mul_le_mul_right _ (by omega)
    have h2 : (256 : Nat) ^ j ≤ 256 ^ 6 := Nat.pow_le_pow_right (by omega) (by omega)
    have e6 : (256 : Nat) ^ 6 = 281474976710656 := by decide
    rw [e6] at h2
    generalize (256 : Nat) ^ j = q at *
    omega

set_option maxRecDepth 20000 in
set_option maxHeartbeats 1000000 in
theorem ReadRising_any {v : Value} {bs : List UInt8} (at_ : Int) (w : World) (hv : RdB w v bs) (_hmax : bs.length ≤ 70368744177664) :
    Calls Tryd.prog 71 #[v, .int .i64 at_] w (I3 (readRising bs at_) w) := by
  obtain ⟨a, b, off, cap, rfl, hc1, hc2, hix, hld, _⟩ := hv.open
  have HLD := Lib.hid hld; clear hld
  by_cases hout : at_ < 0 ∨ (bs.length : Int) < at_
  · have hd : (decide (at_ < 0) || decide ((bs.length:Int) < at_)) = true := by simpa using hout
    have HD := Lib.hid hd; clear hd
    have hr := Lib.hid (readRising_out hout)
    clear hix hout
    go_enter Tryd.func71, Tryd.ntmps71
    go_wp2_with (go_at_call 64; refine (outside_any _ _ _ _ _ _ HD.out).mono ?_; rintro e w' ⟨rfl, rfl⟩)
    go_ret3
    exact I3.of hr.out
  · have hd : (decide (at_ < 0) || decide ((bs.length:Int) < at_)) = false := by simpa using hout
    have HD := Lib.hid hd; clear hd
    by_cases h8 : (bs.length : Int) - at_ < 8
    · have hr := Lib.hid (readRising_torn hout h8)
      have ho2 : 0 ≤ at_ ∧ at_ ≤ bs.length := by omega
      clear hix hout
      go_enter Tryd.func71, Tryd.ntmps71
      go_wp2_with (go_at_call 64; refine (outside_any _ _ _ _ _ _ HD.out).mono ?_; rintro e w' ⟨rfl, rfl⟩)
      go_ret3
      exact I3.of hr.out
    · obtain ⟨at_, rfl⟩ := Int.eq_ofNat_of_zero_le (show 0 ≤ at_ by omega)
      have hin : at_ + 8 ≤ bs.length := by omega
      obtain ⟨c, hc⟩ : ∃ c, c = bs[at_]'(by omega) := ⟨_, rfl⟩
      have hcell := HLD.out at_ (by omega)
      rw [← hc] at hcell
      by_cases hbig : 127 < c.toNat
      · have hr := Lib.hid (readRising_big hin ((piece_big hin).2 (by rw [← hc]; exact hbig)))
        clear hout hc
        go_enter Tryd.func71, Tryd.ntmps71
        go_wp2_with (go_at_call 64; refine (outside_any _ _ _ _ _ _ HD.out).mono ?_; rintro e w' ⟨rfl, rfl⟩)
        go_ret3
        exact I3.of hr.out
      · have hnb : ¬ 9223372036854775807 < num (piece bs at_ 8) := by rw [piece_big hin, ← hc]; exact hbig
        have hr := Lib.hid (readRising_ok hin hnb)
        have HNB := Lib.hid hnb
        obtain ⟨sv, hs1, hs2, hsv⟩ := RdB.slice hv hc1 at_ ((at_ : Int) + 8) (by omega) (by omega) (by omega)
        rw [show ((at_ : Int) + 8).toNat - (at_ : Int).toNat = 8 by omega] at hsv
        have hpl := piece_len bs at_ 8 hin
        obtain ⟨a', b', off', cap', rfl, -, -, hix', hld', _⟩ := RdB.open (bs := piece bs at_ 8) hsv
        rw [hpl] at hix' hs1 hs2
        have HPL := Lib.hid hpl
        have HLD' := Lib.hid hld'
        clear hout hc hnb hpl hld' hsv hv
        go_enter Tryd.func71, Tryd.ntmps71
        go_wp2_with (go_at_call 64; refine (outside_any _ _ _ _ _ _ HD.out).mono ?_; rintro e w' ⟨rfl, rfl⟩)
        go_loop [7, 32] (fun x i => ∃ (u k : Nat), x = .int .i64 u ∧ i = .int .i64 k ∧ k ≤ 8 ∧ u = num (piece bs at_ k))
          (fun _ i => 8 - (intOf i).toNat)
        case atStart => exact ⟨0, 0, rfl, rfl, by omega, by simp [piece, num]⟩
        case round =>
          obtain ⟨u, k, rfl, rfl, hk, heq⟩ := hrel
          have HE := Lib.hid heq; clear heq
          by_cases h : k < 8
          · obtain ⟨d, hd⟩ : ∃ d, d = bs[at_ + k]'(by omega) := ⟨_, rfl⟩
            have hdc := HLD'.out k (by rw [HPL.out]; omega)
            have hde : (piece bs at_ 8)[k]'(by rw [HPL.out]; omega) = d := by rw [hd]; simp [piece]
            rw [hde] at hdc
            have hcb := d.toNat_lt
            have hp := piece_snoc bs at_ k (by omega)
            have h2 : 256 * u + d.toNat = num (piece bs at_ (k + 1)) := by rw [hp, num_snoc, ← HE.out, ← hd]
            have HN := Lib.hid h2
            have hsm := piece_small hin h HNB.out
            rw [← HE.out] at hsm
            have hpush := i64_push u d hsm
            clear hd hde hp h2
            go_wp2_with fail
            go_round
            case rel => exact ⟨256 * u + d.toNat, k + 1, rfl, by go_num, by omega, HN.out⟩
            case measure => simp [intOf] <;> omega
          · obtain rfl : k = 8 := by omega
            go_wp2
            go_ret3
            exact I3.of (by rw [hr.out, ← HE.out])

set_option maxRecDepth 20000 in
set_option maxHeartbeats 1000000 in
theorem refReadRising_any {v : Value} {bs : List UInt8} (at_ : Int) (w : World) (hv : RdB w v bs) (hmax : bs.length ≤ 70368744177664) :
    Calls Tryd.prog 72 #[v, .int .i64 at_] w (I3 (readRising bs at_) w) := by
  obtain ⟨a, b, off, cap, rfl, hc1, hc2, hix, hld, _⟩ := hv.open
  clear hix hld
  have HV := Lib.hid hv
  by_cases hout : at_ < 0 ∨ (bs.length : Int) < at_
  · have hd : (decide (at_ < 0) || decide ((bs.length:Int) < at_)) = true := by simpa using hout
    have HD := Lib.hid hd; clear hd
    have hr := Lib.hid (readRising_out hout)
    clear hout
    go_enter Tryd.func72, Tryd.ntmps72
    go_wp2_with (go_at_call 103; refine (refOutside_any _ _ _ _ _ _ HD.out).mono ?_; rintro e w' ⟨rfl, rfl⟩)
    go_ret3
    exact I3.of hr.out
  · have hd : (decide (at_ < 0) || decide ((bs.length:Int) < at_)) = false := by simpa using hout
    have HD := Lib.hid hd; clear hd
    by_cases h8 : (bs.length : Int) - at_ < 8
    · have hr := Lib.hid (readRising_torn hout h8)
      have ho2 : 0 ≤ at_ ∧ at_ ≤ bs.length := by omega
      clear hout
      go_enter Tryd.func72, Tryd.ntmps72
      go_wp2_with (go_at_call 103; refine (refOutside_any _ _ _ _ _ _ HD.out).mono ?_; rintro e w' ⟨rfl, rfl⟩)
      go_ret3
      exact I3.of hr.out
    · obtain ⟨at_, rfl⟩ := Int.eq_ofNat_of_zero_le (show 0 ≤ at_ by omega)
      have hin : at_ + 8 ≤ bs.length := by omega
      obtain ⟨q, hq⟩ : ∃ q, q = num (piece bs at_ 8) := ⟨_, rfl⟩
      have HN : Hid (Calls Tryd.prog 105 #[.slice a bs.length cap, .int .i64 at_, .int .i64 8] w fun e w' => e = .returned (.int .u64 q) ∧ w = w') := Lib.hid (by rw [hq]; exact number_any at_ 8 w hv hmax (by omega) hin)
      by_cases hbig : 9223372036854775807 < q
      · have hr := Lib.hid (readRising_big hin (by rw [← hq]; exact hbig))
        have hb : (9223372036854775807 : Int) < q := by omega
        clear hout hq hv
        go_enter Tryd.func72, Tryd.ntmps72
        go_wp2_with (first | (go_at_call 103; refine (refOutside_any _ _ _ _ _ _ HD.out).mono ?_; rintro e w' ⟨rfl, rfl⟩) | (go_at_call 105; refine HN.out.mono ?_; rintro e w' ⟨rfl, rfl⟩))
        go_ret3
        exact I3.of hr.out
      · have hr := Lib.hid (readRising_ok hin (by rw [← hq]; exact hbig))
        have HQ := Lib.hid hq
        have hw := i64_of_u64 (n := (q : Int)) (by omega) (by omega)
        clear hout hq hv
        go_enter Tryd.func72, Tryd.ntmps72
        go_wp2_with (first | (go_at_call 103; refine (refOutside_any _ _ _ _ _ _ HD.out).mono ?_; rintro e w' ⟨rfl, rfl⟩) | (go_at_call 105; refine HN.out.mono ?_; rintro e w' ⟨rfl, rfl⟩))
        go_ret3
        exact I3.of (by rw [hr.out, ← HQ.out])

theorem readRising_le {b : List UInt8} {at_ x p e : Int} (h : readRising b at_ = (x, p, e)) : 0 ≤ x ∧ x ≤ 9223372036854775807 := by
  unfold readRising at h
  split at h
  · simp at h; omega
  · split at h
    · simp at h; omega
    · simp only at h
      split at h
      · simp at h; omega
      · simp at h; omega
theorem readFalling_err {b : List UInt8} {at_ x p e : Int} (h : readRising b at_ = (x, p, e)) (he : e ≠ 0) : readFalling b at_ = (0, 0, e) := by
  unfold readFalling; rw [h]; simp [he]
theorem readFalling_ok {b : List UInt8} {at_ x p : Int} (h : readRising b at_ = (x, p, 0)) : readFalling b at_ = (9223372036854775807 - x, p, 0) := by
  unfold readFalling; rw [h]; simp [top]

set_option maxRecDepth 20000 in
theorem ReadFalling_any {v : Value} {bs : List UInt8} (at_ : Int) (w : World) (hv : RdB w v bs) (hmax : bs.length ≤ 70368744177664) :
    Calls Tryd.prog 75 #[v, .int .i64 at_] w (I3 (readFalling bs at_) w) := by
  have hc := ReadRising_any at_ w hv hmax
  rcases hr : readRising bs at_ with ⟨x, p, e⟩
  rw [hr] at hc
  have HC := Lib.hid hc; clear hc
  have hx := readRising_le hr
  by_cases he : e = 0
  · subst he
    have hres := Lib.hid (readFalling_ok hr)
    clear hr hv
    go_enter Tryd.func75, Tryd.ntmps75
    go_wp2_with (go_at_call 71; refine HC.out.mono ?_; rintro e w' ⟨rfl, rfl⟩)
    go_ret3
    exact I3.of hres.out
  · have hres := Lib.hid (readFalling_err hr he)
    have he2 : (e != 0) = true := by simpa using he
    have he1 : (e == 0) = false := by simpa using he
    clear hr hv he
    go_enter Tryd.func75, Tryd.ntmps75
    go_wp2_with (go_at_call 71; refine HC.out.mono ?_; rintro e w' ⟨rfl, rfl⟩)
    go_ret3
    exact I3.of hres.out
set_option maxRecDepth 20000 in
theorem refReadFalling_any {v : Value} {bs : List UInt8} (at_ : Int) (w : World) (hv : RdB w v bs) (hmax : bs.length ≤ 70368744177664) :
    Calls Tryd.prog 76 #[v, .int .i64 at_] w (I3 (readFalling bs at_) w) := by
  have hc := refReadRising_any at_ w hv hmax
  rcases hr : readRising bs at_ with ⟨x, p, e⟩
  rw [hr] at hc
  have HC := Lib.hid hc; clear hc
  have hx := readRising_le hr
  by_cases he : e = 0
  · subst he
    have hres := Lib.hid (readFalling_ok hr)
    clear hr hv
    go_enter Tryd.func76, Tryd.ntmps76
    go_wp2_with (go_at_call 72; refine HC.out.mono ?_; rintro e w' ⟨rfl, rfl⟩)
    go_ret3
    exact I3.of hres.out
  · have hres := Lib.hid (readFalling_err hr he)
    have he2 : (e != 0) = true := by simpa using he
    have he1 : (e == 0) = false := by simpa using he
    clear hr hv he
    go_enter Tryd.func76, Tryd.ntmps76
    go_wp2_with (go_at_call 72; refine HC.out.mono ?_; rintro e w' ⟨rfl, rfl⟩)
    go_ret3
    exact I3.of hres.out
end Go.Proofs.YtmlmbampgbiaeaaDoor
