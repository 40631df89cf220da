/- The walks of layer 1: ReadUint, of the program and of the reference. No condition but that the bytes are fewer than 2^62. -/
import Derived.Test.YtmlmbampgbiaeaaDoorWire1
namespace Go.Proofs.YtmlmbampgbiaeaaDoor
open Go.RowKit

theorem outside_any (a : Option Addr) (n cap : Nat) (at_ : Int) (w : World) (r : Bool) (hr : (decide (at_ < 0) || decide ((n:Int) < at_)) = r) :
    Calls Tryd.prog 64 #[.slice a n cap, .int .i64 at_] w fun e w' => e = .returned (.bool r) ∧ w = w' := by
  subst hr
  go_enter Tryd.func64, Tryd.ntmps64
  go_wp2
  all_goals go_ret
  all_goals simp [*]
theorem refOutside_any (a : Option Addr) (n cap : Nat) (at_ : Int) (w : World) (r : Bool) (hr : (decide (at_ < 0) || decide ((n:Int) < at_)) = r) :
    Calls Tryd.prog 103 #[.slice a n cap, .int .i64 at_] w fun e w' => e = .returned (.bool r) ∧ w = w' := by
  subst hr
  go_enter Tryd.func103, Tryd.ntmps103
  go_wp2
  all_goals go_ret
  all_goals simp [*]

/-- Three numbers are handed back, nothing is turned. -/
def U3 (k : IntKind) (r : Nat × Int × Int) (w : World) (e : Ending) (w' : World) : Prop :=
  e = .returned (.tuple #[.int k r.1, .int .i64 r.2.1, .int .i64 r.2.2]) ∧ w = w'

theorem drop_cons (bs : List UInt8) (k : Nat) (h : k < bs.length) : bs.drop k = bs[k] :: bs.drop (k + 1) := by
  rw [List.drop_eq_getElem_cons h]

theorem rdU_nil (i v : Nat) : rdU [] i v = (0, 0, 10) := rfl
theorem rdU_big {c : UInt8} (r : List UInt8) {i : Nat} (v : Nat) (hi : i = 9) (hc : 1 < c.toNat) : rdU (c :: r) i v = (0, 0, 13) := by
  rw [rdU, if_pos ⟨hi, hc⟩]
theorem rdU_form {c : UInt8} (r : List UInt8) {i : Nat} (v : Nat) (hc : c.toNat = 0) (hi : 0 < i) : rdU (c :: r) i v = (0, 0, 11) := by
  rw [rdU, if_neg (by omega), if_pos (by omega), if_pos ⟨hc, hi⟩]
theorem rdU_end {c : UInt8} (r : List UInt8) {i : Nat} (v : Nat) (h9 : i = 9 → c.toNat ≤ 1) (hc : c.toNat < 128) (hf : c.toNat = 0 → i = 0) : rdU (c :: r) i v = (v + c.toNat % 128 * 128 ^ i, i + 1, 0) := by
  rw [rdU, if_neg (by intro ⟨h1, h2⟩; have := h9 h1; omega), if_pos hc, if_neg (by intro ⟨h1, h2⟩; have := hf h1; omega)]
theorem rdU_more {c : UInt8} (r : List UInt8) {i : Nat} (v : Nat) (h9 : i ≠ 9) (hc : 128 ≤ c.toNat) : rdU (c :: r) i v = rdU r (i + 1) (v + c.toNat % 128 * 128 ^ i) := by
  rw [rdU, if_neg (by omega), if_neg (by omega)]

theorem readUint_out {b : List UInt8} {at_ : Int} (h : at_ < 0 ∨ (b.length : Int) < at_) : readUint b at_ = (0, 0, 1) := by rw [readUint, if_pos h]
theorem readUint_in {b : List UInt8} {at_ : Nat} (h : at_ ≤ b.length) {r : Nat × Nat × Int} (hr : rdU (b.drop at_) 0 0 = r) : readUint b at_ = (r.1, if r.2.2 = 0 then (at_ : Int) + r.2.1 else 0, r.2.2) := by
  rw [readUint, if_neg (by omega)]; simp [hr]

/-- What the i-th group brings: as the program reckons it. -/
def grp (v i : Nat) (c : UInt8) : Nat := v + c.toNat % 128 * 128 ^ i
theorem pow7 (i : Nat) : (2 : Nat) ^ (7 * i) = 128 ^ i := by rw [Nat.pow_mul]
theorem grp_lt {v i : Nat} {c : UInt8} (hv : v < 128 ^ i) : grp v i c < 128 ^ (i + 1) := by
  unfold grp
  have : c.toNat % 128 * 128 ^ i ≤ 127 * 128 ^ i := Nat.mul_le_mul_right _ (by omega)
  rw [Nat.pow_succ]; omega
theorem grp_lt64 {v i : Nat} {c : UInt8} (hi : i ≤ 9) (h9 : i = 9 → c.toNat ≤ 1) (hv : v < 128 ^ i) : grp v i c < 18446744073709551616 := by
  by_cases h : i = 9
  · subst h
    have := h9 rfl
    unfold grp
    have h2 : c.toNat % 128 ≤ 1 := by omega
    have : c.toNat % 128 * 128 ^ 9 ≤ 1 * 128 ^ 9 := Nat.mul_le_mul_right _ h2
    have e : (128 : Nat) ^ 9 = 9223372036854775808 := by decide
    rw [e] at *; omega
  · have := grp_lt (c := c) hv
    have h3 : (128 : Nat) ^ (i + 1) ≤ 128 ^ 9 := Nat.pow_le_pow_right (by omega) (by omega)
    have e : (128 : Nat) ^ 9 = 9223372036854775808 := by decide
    omega

theorem grp_bits {v i : Nat} {c : UInt8} (hi : i ≤ 9) (h9 : i = 9 → c.toNat ≤ 1) (hv : v < 128 ^ i) :
    bits .or .u64 (v : Int) (IntKind.u64.wrap (IntKind.u64.wrap (bits .and .u8 (c.toNat : Int) 127) * 2 ^ (7 * i))) = (grp v i c : Int) := by
  have hg := grp_lt64 hi h9 hv
  have hcb := c.toNat_lt
  have e1 : bits .and .u8 (c.toNat : Int) 127 = ((c.toNat % 128 : Nat) : Int) := by
    rw [show (127 : Int) = ((127 : Nat) : Int) from rfl, u8_and_nat _ _ (by omega) (by omega)]
    congr 1
    exact Nat.and_two_pow_sub_one_eq_mod c.toNat 7
  have e2 : IntKind.u64.wrap ((c.toNat % 128 : Nat) : Int) = ((c.toNat % 128 : Nat) : Int) := by rw [IntKind.wrap_u64]; omega
  have e3 : ((c.toNat % 128 : Nat) : Int) * 2 ^ (7 * i) = ((c.toNat % 128 * 128 ^ i : Nat) : Int) := by
    rw [← pow7]; simp
  have hle : c.toNat % 128 * 128 ^ i ≤ grp v i c := by unfold grp; omega
  have e4 : IntKind.u64.wrap ((c.toNat % 128 * 128 ^ i : Nat) : Int) = ((c.toNat % 128 * 128 ^ i : Nat) : Int) := by
    rw [IntKind.wrap_u64]
    exact Int.emod_eq_of_lt (by omega) (by have := hle; omega)
  rw [e1, e2, e3, e4, u64_or_nat _ _ (by unfold grp at hg; omega) (by omega)]
  congr 1
  unfold grp
  rw [← pow7] at hv ⊢
  rw [Nat.mul_comm, Nat.add_comm, Nat.two_pow_add_eq_or_of_lt hv, Nat.or_comm]

theorem U3.of {k : IntKind} {r : Nat × Int × Int} {w : World} {n : Nat} {x y z : Int} (h : r = (n, y, z)) (hx : x = (n : Int)) : U3 k r w (.returned (.tuple #[.int k x, .int .i64 y, .int .i64 z])) w := by
  subst h; subst hx; exact ⟨rfl, rfl⟩

set_option maxRecDepth 20000 in
set_option maxHeartbeats 1000000 in
theorem ReadUint_any {v : Value} {bs : List UInt8} (at_ : Int) (w : World) (hv : RdB w v bs) (hmax : bs.length < 4611686018427387904) :
    Calls Tryd.prog 28 #[v, .int .i64 at_] w (U3 .u64 (readUint bs at_) w) := by
  obtain ⟨a, b, off, cap, rfl, hc1, hc2, hix, hld, _⟩ := hv.open
  clear hc1 hc2
  by_cases hout : at_ < 0 ∨ (bs.length : Int) < at_
  · have hd : (decide (at_ < 0) || decide ((bs.length:Int) < at_)) = true := by simpa using hout
    have HD := Lib.hid hd; clear hd
    have hr := Lib.hid (readUint_out hout)
    clear hld hix hout
    go_enter Tryd.func28, Tryd.ntmps28
    go_wp2_with (go_at_call 64; refine (outside_any _ _ _ _ _ _ HD.out).mono ?_; rintro e w' ⟨rfl, rfl⟩)
    go_ret3
    exact U3.of hr.out rfl
  · obtain ⟨at_, rfl⟩ := Int.eq_ofNat_of_zero_le (show 0 ≤ at_ by omega)
    have hat : at_ ≤ bs.length := by omega
    have hd : (decide ((at_ : Int) < 0) || decide ((bs.length:Int) < at_)) = false := by simpa using hout
    have HD := Lib.hid hd; clear hd
    obtain ⟨r, hr⟩ : ∃ r, rdU (bs.drop at_) 0 0 = r := ⟨_, rfl⟩
    have hres := Lib.hid (readUint_in hat hr)
    have HR0 := Lib.hid hr
    clear hout hr
    go_enter Tryd.func28, Tryd.ntmps28
    go_wp2_with (go_at_call 64; refine (outside_any _ _ _ _ _ _ HD.out).mono ?_; rintro e w' ⟨rfl, rfl⟩)
    go_loop [7, 8] (fun x y => ∃ (v i : Nat), i ≤ 9 ∧ v < 128 ^ i ∧ x = .int .u64 v ∧ y = .int .i64 i ∧ at_ + i ≤ bs.length ∧ rdU (bs.drop (at_ + i)) i v = r)
      (fun _ y => 10 - (intOf y).toNat)
    case atStart => exact ⟨0, 0, by omega, by omega, rfl, rfl, by omega, HR0.out⟩
    case round =>
      obtain ⟨v, i, hi, hv, rfl, rfl, hl, hrv⟩ := hrel
      have HV := Lib.hid hv; clear hv
      by_cases hlt : at_ + i < bs.length
      · obtain ⟨c, hc⟩ : ∃ c, c = bs[at_ + i] := ⟨_, rfl⟩
        have hcell := hld (at_ + i) hlt
        rw [← hc] at hcell
        rw [drop_cons bs _ hlt, ← hc] at hrv
        have HR := Lib.hid hrv
        clear hrv hld hc
        have hcb := c.toNat_lt
        by_cases hbig : i = 9 ∧ 1 < c.toNat
        · have hres' : Hid (readUint bs (at_ : Int) = (0, 0, 13)) := Lib.hid (by rw [hres.out, ← HR.out, rdU_big _ _ hbig.1 hbig.2]; rfl)
          clear HR hres HR0
          obtain ⟨rfl, h1⟩ := hbig
          go_wp2_with fail
          go_ret3
          exact U3.of hres'.out rfl
        · have h9 : i = 9 → c.toNat ≤ 1 := by omega
          have hval := grp_bits hi h9 HV.out
          by_cases hc : c.toNat < 128
          · by_cases hf : c.toNat = 0 ∧ 0 < i
            · have hres' : Hid (readUint bs (at_ : Int) = (0, 0, 11)) := Lib.hid (by rw [hres.out, ← HR.out, rdU_form _ _ hf.1 hf.2]; rfl)
              clear HR hres HR0 hval
              go_wp2_with fail
              all_goals go_ret3
              all_goals exact U3.of hres'.out rfl
            · have hres' : Hid (readUint bs (at_ : Int) = (grp v i c, (at_ : Int) + ((i + 1 : Nat) : Int), 0)) := Lib.hid (by rw [hres.out, ← HR.out, rdU_end _ _ h9 hc (by omega)]; rfl)
              have hval' : c.toNat = 0 → bits .or .u64 (v : Int) (IntKind.u64.wrap (IntKind.u64.wrap (bits .and .u8 0 127) * 2 ^ (7 * i))) = (grp v i c : Int) := by
                intro h0; rw [h0] at hval; exact hval
              have HV1 := Lib.hid hval
              have HV2 := Lib.hid hval'
              clear HR hres HR0 hval hval'
              rcases Nat.lt_or_eq_of_le hi with hlt9 | rfl
              · have hb9 : ((i : Int) == 9) = false := by rw [beq_eq_false_iff_ne]; omega
                go_wp2_with fail
                all_goals go_ret3
                all_goals refine U3.of (n := grp v i c) (hres'.out.trans ?_) ?_
                all_goals first | exact HV1.out | exact HV2.out ‹_› | (simp; omega)
              · go_wp2_with fail
                all_goals go_ret3
                all_goals refine U3.of (n := grp v 9 c) (hres'.out.trans ?_) ?_
                all_goals first | (have hq := HV1.out; simpa using hq) | (have hq := HV2.out ‹_›; simpa using hq) | (simp; omega)
          · have hrv := rdU_more (c := c) (bs.drop (at_ + i + 1)) v (i := i) (by omega) (by omega)
            have HM := Lib.hid ((show rdU (List.drop (at_ + (i + 1)) bs) (i + 1) (grp v i c) = r from hrv.symm.trans HR.out))
            have HG := Lib.hid (grp_lt (c := c) HV.out)
            clear HR HR0 hrv
            go_wp2_with fail
            go_round
            case rel => exact ⟨grp v i c, i + 1, by omega, HG.out, rfl, by go_num, by omega, HM.out⟩
            case measure => simp [intOf]; omega
      · have hres' : Hid (readUint bs (at_ : Int) = (0, 0, 10)) := Lib.hid (by rw [hres.out, ← hrv, List.drop_eq_nil_of_le (by omega)]; rfl)
        clear hrv hres HR0
        go_wp2_with fail
        go_ret3
        exact U3.of hres'.out rfl
end Go.Proofs.YtmlmbampgbiaeaaDoor
