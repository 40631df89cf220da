/- The walks of layer 1: ReadUint of the reference. No condition but that the bytes are fewer than 2^62. -/
import Derived.Test.YtmlmbampgbiaeaaDoorWire2
namespace Go.Proofs.YtmlmbampgbiaeaaDoor
open Go.RowKit

theorem int_eq {k : IntKind} {x y : Int} (h : x = y) : Value.int k x = Value.int k y := by rw [h]

theorem refgrp {v i p : Nat} {c : UInt8} (hi : i ≤ 9) (h9 : i = 9 → c.toNat ≤ 1) (hv : v < 128 ^ i) (hp : p = 128 ^ i) :
    IntKind.u64.wrap ((v : Int) + IntKind.u64.wrap ((p : Int) * ((c.toNat : Int) % 128))) = (grp v i c : Int) := by
  have hg := grp_lt64 hi h9 hv
  have e3 : (p : Int) * ((c.toNat : Int) % 128) = ((c.toNat % 128 * 128 ^ i : Nat) : Int) := by
    rw [hp, Nat.mul_comm]; simp
  have hle : c.toNat % 128 * 128 ^ i ≤ grp v i c := by unfold grp; omega
  have hge : grp v i c = v + c.toNat % 128 * 128 ^ i := rfl
  generalize c.toNat % 128 * 128 ^ i = q at *
  rw [e3, IntKind.wrap_u64, IntKind.wrap_u64, Int.emod_eq_of_lt (by omega) (by omega : (q : Int) < _), Int.emod_eq_of_lt (by omega) (by omega)]
  omega
theorem refgrp0 {v i p : Nat} {c : UInt8} (hi : i ≤ 9) (h9 : i = 9 → c.toNat ≤ 1) (hv : v < 128 ^ i) (hp : p = 128 ^ i) (hc : c.toNat = 0) :
    IntKind.u64.wrap ((v : Int) + IntKind.u64.wrap 0) = (grp v i c : Int) := by
  have := refgrp (c := c) hi h9 hv hp
  rw [hc] at this; simpa using this
theorem refunit {i p : Nat} (hi : i < 9) (hp : p = 128 ^ i) : IntKind.u64.wrap ((p : Int) * 128) = ((128 ^ (i + 1) : Nat) : Int) := by
  have h3 : (128 : Nat) ^ (i + 1) ≤ 128 ^ 9 := Nat.pow_le_pow_right (by omega) (by omega)
  have e : (128 : Nat) ^ 9 = 9223372036854775808 := by decide
  have e2 : (p : Int) * 128 = ((128 ^ (i + 1) : Nat) : Int) := by rw [hp, Nat.pow_succ]; simp
  rw [e2]
  generalize (128 : Nat) ^ (i + 1) = q at *
  rw [IntKind.wrap_u64, Int.emod_eq_of_lt (by omega) (by omega)]

set_option maxRecDepth 20000 in
set_option maxHeartbeats 1000000 in
theorem refReadUint_any {v : Value} {bs : List UInt8} (at_ : Int) (w : World) (hv : RdB w v bs) (hmax : bs.length < 4611686018427387904) :
    Calls Tryd.prog 68 #[v, .int .i64 at_] w (U3 .u64 (readUint bs at_) w) := by
  obtain ⟨a, b, off, cap, rfl, hc1, hc2, hix, hld, _⟩ := hv.open
  clear hc1 hc2
  by_cases hout : at_ < 0 ∨ (bs.length : Int) < at_
  · have hd : (decide (at_ < 0) || decide ((bs.length:Int) < at_)) = true := by simpa using hout
    have HD := Lib.hid hd; clear hd
    have hr := Lib.hid (readUint_out hout)
    clear hld hix hout
    go_enter Tryd.func68, Tryd.ntmps68
    go_wp2_with (go_at_call 103; refine (refOutside_any _ _ _ _ _ _ HD.out).mono ?_; rintro e w' ⟨rfl, rfl⟩)
    go_ret3
    exact U3.of hr.out rfl
  · obtain ⟨at_, rfl⟩ := Int.eq_ofNat_of_zero_le (show 0 ≤ at_ by omega)
    have hat : at_ ≤ bs.length := by omega
    have hd : (decide ((at_ : Int) < 0) || decide ((bs.length:Int) < at_)) = false := by simpa using hout
    have HD := Lib.hid hd; clear hd
    obtain ⟨r, hr⟩ : ∃ r, rdU (bs.drop at_) 0 0 = r := ⟨_, rfl⟩
    have hres := Lib.hid (readUint_in hat hr)
    have HR0 := Lib.hid hr
    clear hout hr
    go_enter Tryd.func68, Tryd.ntmps68
    go_wp2_with (go_at_call 103; refine (refOutside_any _ _ _ _ _ _ HD.out).mono ?_; rintro e w' ⟨rfl, rfl⟩)
    go_loop [7, 8, 9] (fun x u y => ∃ (v i p : Nat), i ≤ 9 ∧ v < 128 ^ i ∧ p = 128 ^ i ∧ x = .int .u64 v ∧ u = .int .u64 p ∧ y = .int .i64 i ∧ at_ + i ≤ bs.length ∧ rdU (bs.drop (at_ + i)) i v = r)
      (fun _ _ y => 10 - (intOf y).toNat)
    case atStart => exact ⟨0, 0, 1, by omega, by omega, rfl, rfl, rfl, rfl, by omega, HR0.out⟩
    case round =>
      obtain ⟨v, i, p, hi, hv, hp, rfl, rfl, rfl, hl, hrv⟩ := hrel
      have HV := Lib.hid hv; clear hv
      have HP := Lib.hid hp; clear hp
      by_cases hlt : at_ + i < bs.length
      · obtain ⟨c, hc⟩ : ∃ c, c = bs[at_ + i] := ⟨_, rfl⟩
        have hcell := hld (at_ + i) hlt
        rw [← hc] at hcell
        rw [drop_cons bs _ hlt, ← hc] at hrv
        have HR := Lib.hid hrv
        clear hrv hld hc
        have hcb := c.toNat_lt
        by_cases hbig : i = 9 ∧ 1 < c.toNat
        · have hres' : Hid (readUint bs (at_ : Int) = (0, 0, 13)) := Lib.hid (by rw [hres.out, ← HR.out, rdU_big _ _ hbig.1 hbig.2]; rfl)
          clear HR hres HR0
          obtain ⟨rfl, h1⟩ := hbig
          go_wp2_with fail
          go_ret3
          exact U3.of hres'.out rfl
        · have h9 : i = 9 → c.toNat ≤ 1 := by omega
          by_cases hc : c.toNat < 128
          · by_cases hf : c.toNat = 0 ∧ 0 < i
            · have hres' : Hid (readUint bs (at_ : Int) = (0, 0, 11)) := Lib.hid (by rw [hres.out, ← HR.out, rdU_form _ _ hf.1 hf.2]; rfl)
              clear HR hres HR0
              go_wp2_with fail
              all_goals go_ret3
              all_goals exact U3.of hres'.out rfl
            · have hres' : Hid (readUint bs (at_ : Int) = (grp v i c, (at_ : Int) + ((i + 1 : Nat) : Int), 0)) := Lib.hid (by rw [hres.out, ← HR.out, rdU_end _ _ h9 hc (by omega)]; rfl)
              clear HR hres HR0
              rcases Nat.lt_or_eq_of_le hi with hlt9 | rfl
              · have hb9 : ((i : Int) == 9) = false := by rw [beq_eq_false_iff_ne]; omega
                go_wp2_with fail
                all_goals go_ret3
                all_goals refine U3.of (n := grp v i c) (hres'.out.trans ?_) ?_
                all_goals first | exact refgrp0 (by omega) h9 HV.out HP.out ‹_› | exact refgrp (by omega) h9 HV.out HP.out | (simp; omega)
              · go_wp2_with fail
                all_goals go_ret3
                all_goals refine U3.of (n := grp v 9 c) (hres'.out.trans ?_) ?_
                all_goals first | (simp; omega; done) | exact refgrp0 (i := 9) (by omega) (fun _ => by omega) HV.out HP.out ‹_› | exact refgrp (i := 9) (by omega) (fun _ => by omega) HV.out HP.out
          · have hrv := rdU_more (c := c) (bs.drop (at_ + i + 1)) v (i := i) (by omega) (by omega)
            have HM := Lib.hid ((show rdU (List.drop (at_ + (i + 1)) bs) (i + 1) (grp v i c) = r from hrv.symm.trans HR.out))
            have HG := Lib.hid (grp_lt (c := c) HV.out)
            clear HR HR0 hrv
            go_wp2_with fail
            go_round
            case rel => exact ⟨grp v i c, i + 1, 128 ^ (i + 1), by omega, HG.out, rfl, int_eq (refgrp (by omega) h9 HV.out HP.out), int_eq (refunit (by omega) HP.out), by go_num, by omega, HM.out⟩
            case measure => simp [intOf]; omega
      · have hres' : Hid (readUint bs (at_ : Int) = (0, 0, 10)) := Lib.hid (by rw [hres.out, ← hrv, List.drop_eq_nil_of_le (by omega)]; rfl)
        clear hrv hres HR0
        go_wp2_with fail
        go_ret3
        exact U3.of hres'.out rfl
end Go.Proofs.YtmlmbampgbiaeaaDoor
