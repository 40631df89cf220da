/- The walks of layer 1: ReadOrdered, of the program and of the reference. The bytes are fewer than 2^46. -/
import Derived.Test.YtmlmbampgbiaeaaDoorWire6
namespace Go.Proofs.YtmlmbampgbiaeaaDoor
open Go.RowKit

def finO (pre : List UInt8) (p : Int) (x : List UInt8 × Nat × Int) : List UInt8 × Int × Int := if x.2.2 = 0 then (pre ++ x.1, p + x.2.1, 0) else ([], 0, x.2.2)

theorem rdO_nil : rdO [] = ([], 0, 10) := by rw [rdO.eq_def]
theorem rdO_more {c : UInt8} (r : List UInt8) (hc : c ≠ 0) : rdO (c :: r) = (if (rdO r).2.2 = 0 then (c :: (rdO r).1, (rdO r).2.1 + 1, 0) else ([], 0, (rdO r).2.2)) := by
  rw [rdO.eq_def]; simp [hc]
theorem rdO_torn : rdO [0] = ([], 0, 10) := by rw [rdO.eq_def]; simp
theorem rdO_two (d : UInt8) (r : List UInt8) : rdO (0 :: d :: r) = if d = 1 then ([], 2, 0) else if d ≠ 255 then ([], 0, 11) else (if (rdO r).2.2 = 0 then (0 :: (rdO r).1, (rdO r).2.1 + 2, 0) else ([], 0, (rdO r).2.2)) := by
  rw [rdO.eq_def]; simp
theorem rdO_err : ∀ (n : Nat) (l : List UInt8), l.length ≤ n → (rdO l).2.2 ≠ 0 → (rdO l).1 = [] ∧ (rdO l).2.1 = 0
  | n, [], _, h => by simp [rdO_nil]
  | 0, c :: l, hn, h => by simp at hn
  | n + 1, c :: l, hn, h => by
    by_cases hc : c = 0
    · subst hc
      match l, h, hn with
      | [], h, _ => simp [rdO_torn]
      | d :: l', h, hn =>
        rw [rdO_two] at *
        split <;> simp_all
        split <;> simp_all
        split <;> simp_all
    · rw [rdO_more _ hc] at *
      split <;> simp_all

theorem readOrdered_out {b : List UInt8} {at_ : Int} (h : at_ < 0 ∨ (b.length : Int) < at_) : readOrdered b at_ = ([], 0, 1) := by rw [readOrdered, if_pos h]
theorem readOrdered_in {b : List UInt8} {at_ : Nat} (h : at_ ≤ b.length) : readOrdered b at_ = finO [] at_ (rdO (b.drop at_)) := by
  rw [readOrdered, if_neg (by omega)]
  by_cases he : (rdO (b.drop at_)).2.2 = 0
  · simp [finO, he]
  · have := rdO_err _ _ (Nat.le_refl _) he
    simp [finO, he, this]
theorem finO_end (pre : List UInt8) (p : Int) : finO pre p (rdO []) = ([], 0, 10) := by rw [rdO_nil]; rfl
theorem finO_more (pre : List UInt8) (p : Int) {c : UInt8} (r : List UInt8) (hc : c ≠ 0) : finO pre p (rdO (c :: r)) = finO (pre ++ [c]) (p + 1) (rdO r) := by
  rw [rdO_more _ hc]
  unfold finO
  split <;> simp_all
  omega
theorem finO_torn (pre : List UInt8) (p : Int) : finO pre p (rdO [0]) = ([], 0, 10) := by rw [rdO_torn]; rfl
theorem finO_last (pre : List UInt8) (p : Int) (r : List UInt8) : finO pre p (rdO (0 :: 1 :: r)) = (pre, p + 2, 0) := by
  simp [finO, rdO_two]
theorem finO_form (pre : List UInt8) (p : Int) {d : UInt8} (r : List UInt8) (h1 : d ≠ 1) (h2 : d ≠ 255) : finO pre p (rdO (0 :: d :: r)) = ([], 0, 11) := by
  simp [finO, rdO_two, h1, h2]
theorem finO_zero (pre : List UInt8) (p : Int) (r : List UInt8) : finO pre p (rdO (0 :: 255 :: r)) = finO (pre ++ [0]) (p + 2) (rdO r) := by
  rw [rdO_two]
  unfold finO
  simp
  split <;> simp_all
  omega

theorem u8_of {c : UInt8} {n : Nat} (hn : n < 256) (h : c.toNat = n) : c = UInt8.ofNat n := by
  have := toNat_ofNat hn
  exact UInt8.toNat_inj.1 (by omega)

set_option maxRecDepth 20000 in
set_option maxHeartbeats 2000000 in
theorem ReadOrdered_any {v : Value} {bs : List UInt8} (at_ : Int) (w : World) (hv : RdB w v bs) (hmax : bs.length ≤ 70368744177664) :
    Calls Tryd.prog 81 #[v, .int .i64 at_] w (GivesPE w (readOrdered bs at_)) := by
  obtain ⟨a, b, off, cap, rfl, hc1, hc2, hix, hld, _⟩ := hv.open
  clear hc1 hc2 hv
  have HLD := Lib.hid hld; clear hld
  by_cases hout : at_ < 0 ∨ (bs.length : Int) < at_
  · have hd : (decide (at_ < 0) || decide ((bs.length:Int) < at_)) = true := by simpa using hout
    have HD := Lib.hid hd; clear hd
    have hr := Lib.hid (readOrdered_out hout)
    clear hix hout
    go_enter Tryd.func81, Tryd.ntmps81
    go_wp2_with (go_at_call 64; refine (outside_any _ _ _ _ _ _ HD.out).mono ?_; rintro e w' ⟨rfl, rfl⟩)
    go_ret3
    exact GivesPE.of hr.out (Acc.nil _ _)
  · obtain ⟨at_, rfl⟩ := Int.eq_ofNat_of_zero_le (show 0 ≤ at_ by omega)
    have hat : at_ ≤ bs.length := by omega
    have hd : (decide ((at_ : Int) < 0) || decide ((bs.length:Int) < at_)) = false := by simpa using hout
    have HD := Lib.hid hd; clear hd
    obtain ⟨R, hR⟩ : ∃ R, readOrdered bs at_ = R := ⟨_, rfl⟩
    have h0 : Hid (R = finO [] at_ (rdO (bs.drop at_))) := Lib.hid (by rw [← hR, readOrdered_in hat])
    rw [hR]
    clear hout hR
    go_enter Tryd.func81, Tryd.ntmps81
    go_wp2_with (go_at_call 64; refine (outside_any _ _ _ _ _ _ HD.out).mono ?_; rintro e w' ⟨rfl, rfl⟩)
    go_loopw [1, 7] (fun i s wr => ∃ (p : Nat) (pre : List UInt8), p ≤ bs.length ∧ i = .int .i64 p ∧ Acc 5 w wr s pre ∧ pre.length ≤ p ∧ R = finO pre p (rdO (bs.drop p)))
      (fun i _ _ => bs.length - (intOf i).toNat)
    case atStart => exact ⟨at_, [], hat, rfl, Acc.nil _ _, by simp, h0.out⟩
    case round =>
      clear h0
      obtain ⟨p, pre, hp, rfl, hacc, hpl, hinv⟩ := hrel
      by_cases hlt : p < bs.length
      · obtain ⟨c, hc⟩ : ∃ c, c = bs[p] := ⟨_, rfl⟩
        have hcw := HLD.out p hlt
        have hbl := World.block_lt_of_cell? w _ hcw
        have hcell := (hacc.bel.cell hbl).trans hcw
        rw [← hc] at hcell
        rw [drop_cons bs _ hlt, ← hc] at hinv
        have HI := Lib.hid hinv
        have HB : Hid (b < w.heap.size) := Lib.hid hbl
        clear hcw hc hbl hinv
        by_cases h0 : c.toNat = 0
        · obtain rfl := u8_zero h0
          by_cases hlt2 : p + 1 < bs.length
          · obtain ⟨d, hd⟩ : ∃ d, d = bs[p + 1] := ⟨_, rfl⟩
            have hdw := HLD.out (p + 1) hlt2
            have hdcell := (hacc.bel.cell HB.out).trans hdw
            rw [← hd] at hdcell
            have hinv := HI.out
            rw [drop_cons bs _ hlt2, ← hd] at hinv
            have HJ := Lib.hid hinv
            have hne : (((p : Int) + 1) == (bs.length : Int)) = false := by rw [beq_eq_false_iff_ne]; omega
            clear hdw hd hinv HI
            by_cases h1 : d.toNat = 1
            · obtain rfl := u8_of (by omega) h1
              have hr := Lib.hid (HJ.out.trans (finO_last _ _ _))
              go_wp2_with fail
              go_ret3
              exact GivesPE.of (hr.out.trans (by simp; omega)) hacc
            · by_cases h2 : d.toNat = 255
              · obtain rfl := u8_of (by omega) h2
                have hr := Lib.hid (HJ.out.trans (finO_zero _ _ _))
                go_wp2_with (at_builtin; refine wpList_acc1 Ebs rfl (.tmp 43) (.tmp 44) rfl rfl hacc rfl 0 rfl (by omega) ?_; intro v1 w2 hacc1)
                go_roundw
                case rel => exact ⟨p + 2, _, by omega, by go_num, hacc1, by simp; omega, hr.out⟩
                case measure => simp [intOf]; omega
              · have hb1 : ((d.toNat : Int) == 1) = false := by rw [beq_eq_false_iff_ne]; omega
                have hb2 : ((d.toNat : Int) == 255) = false := by rw [beq_eq_false_iff_ne]; omega
                have hr := Lib.hid (HJ.out.trans (finO_form _ _ _ (by intro e; subst e; simp at h1) (by intro e; subst e; simp at h2)))
                go_wp2_with fail
                go_ret3
                exact GivesPE.of hr.out (Acc.nil _ _ |>.later hacc.bel)
          · have he : (((p : Int) + 1) == (bs.length : Int)) = true := by rw [beq_iff_eq]; omega
            have hinv := HI.out
            rw [List.drop_eq_nil_of_le (by omega)] at hinv
            have hr := Lib.hid (hinv.trans (finO_torn _ _))
            clear hinv HI
            go_wp2_with fail
            go_ret3
            exact GivesPE.of hr.out (Acc.nil _ _ |>.later hacc.bel)
        · have hb0 : ((c.toNat : Int) != 0) = true := by rw [bne_iff_ne]; omega
          have hr := Lib.hid (HI.out.trans (finO_more _ _ _ (by intro e; subst e; simp at h0)))
          go_wp2_with (at_builtin; refine wpList_acc1 Ebs rfl (.tmp 24) (.tmp 26) rfl rfl hacc rfl c rfl (by omega) ?_; intro v1 w2 hacc1)
          go_roundw
          case rel => exact ⟨p + 1, _, by omega, by go_num, hacc1, by simp; omega, hr.out⟩
          case measure => simp [intOf]; omega
      · have hr : Hid (R = ([], 0, 10)) := Lib.hid (by rw [hinv, List.drop_eq_nil_of_le (by omega)]; exact finO_end _ _)
        clear hinv
        go_wp2_with fail
        go_ret3
        exact GivesPE.of hr.out (Acc.nil _ _ |>.later hacc.bel)
set_option maxRecDepth 20000 in
set_option maxHeartbeats 2000000 in
theorem refReadOrdered_any {v : Value} {bs : List UInt8} (at_ : Int) (w : World) (hv : RdB w v bs) (hmax : bs.length ≤ 70368744177664) :
    Calls Tryd.prog 82 #[v, .int .i64 at_] w (GivesPE w (readOrdered bs at_)) := by
  obtain ⟨a, b, off, cap, rfl, hc1, hc2, hix, hld, _⟩ := hv.open
  clear hc1 hc2 hv
  have HLD := Lib.hid hld; clear hld
  by_cases hout : at_ < 0 ∨ (bs.length : Int) < at_
  · have hd : (decide (at_ < 0) || decide ((bs.length:Int) < at_)) = true := by simpa using hout
    have HD := Lib.hid hd; clear hd
    have hr := Lib.hid (readOrdered_out hout)
    clear hix hout
    go_enter Tryd.func82, Tryd.ntmps82
    go_wp2_with (go_at_call 103; refine (refOutside_any _ _ _ _ _ _ HD.out).mono ?_; rintro e w' ⟨rfl, rfl⟩)
    go_ret3
    exact GivesPE.of hr.out (Acc.nil _ _)
  · obtain ⟨at_, rfl⟩ := Int.eq_ofNat_of_zero_le (show 0 ≤ at_ by omega)
    have hat : at_ ≤ bs.length := by omega
    have hd : (decide ((at_ : Int) < 0) || decide ((bs.length:Int) < at_)) = false := by simpa using hout
    have HD := Lib.hid hd; clear hd
    obtain ⟨R, hR⟩ : ∃ R, readOrdered bs at_ = R := ⟨_, rfl⟩
    have h0 : Hid (R = finO [] at_ (rdO (bs.drop at_))) := Lib.hid (by rw [← hR, readOrdered_in hat])
    rw [hR]
    clear hout hR
    go_enter Tryd.func82, Tryd.ntmps82
    go_wp2_with (go_at_call 103; refine (refOutside_any _ _ _ _ _ _ HD.out).mono ?_; rintro e w' ⟨rfl, rfl⟩)
    go_loopw [7, 8] (fun s i wr => ∃ (p : Nat) (pre : List UInt8), p ≤ bs.length ∧ i = .int .i64 p ∧ Acc 5 w wr s pre ∧ pre.length ≤ p ∧ R = finO pre p (rdO (bs.drop p)))
      (fun _ i _ => bs.length - (intOf i).toNat)
    case atStart => exact ⟨at_, [], hat, rfl, Acc.nil _ _, by simp, h0.out⟩
    case round =>
      clear h0
      obtain ⟨p, pre, hp, rfl, hacc, hpl, hinv⟩ := hrel
      by_cases hlt : p < bs.length
      · obtain ⟨c, hc⟩ : ∃ c, c = bs[p] := ⟨_, rfl⟩
        have hcw := HLD.out p hlt
        have hbl := World.block_lt_of_cell? w _ hcw
        have hcell := (hacc.bel.cell hbl).trans hcw
        rw [← hc] at hcell
        rw [drop_cons bs _ hlt, ← hc] at hinv
        have HI := Lib.hid hinv
        have HB : Hid (b < w.heap.size) := Lib.hid hbl
        clear hcw hc hbl hinv
        by_cases h0 : c.toNat = 0
        · obtain rfl := u8_zero h0
          by_cases hlt2 : p + 1 < bs.length
          · obtain ⟨d, hd⟩ : ∃ d, d = bs[p + 1] := ⟨_, rfl⟩
            have hdw := HLD.out (p + 1) hlt2
            have hdcell := (hacc.bel.cell HB.out).trans hdw
            rw [← hd] at hdcell
            have hinv := HI.out
            rw [drop_cons bs _ hlt2, ← hd] at hinv
            have HJ := Lib.hid hinv
            have hne : (((p : Int) + 1) == (bs.length : Int)) = false := by rw [beq_eq_false_iff_ne]; omega
            clear hdw hd hinv HI
            by_cases h1 : d.toNat = 1
            · obtain rfl := u8_of (by omega) h1
              have hr := Lib.hid (HJ.out.trans (finO_last _ _ _))
              go_wp2_with fail
              go_ret3
              exact GivesPE.of (hr.out.trans (by simp; omega)) hacc
            · by_cases h2 : d.toNat = 255
              · obtain rfl := u8_of (by omega) h2
                have hr := Lib.hid (HJ.out.trans (finO_zero _ _ _))
                go_wp2_with (at_builtin; refine wpList_acc1 Ebs rfl (.tmp 50) (.tmp 51) rfl rfl hacc rfl 0 rfl (by omega) ?_; intro v1 w2 hacc1)
                go_roundw
                case rel => exact ⟨p + 2, _, by omega, by go_num, hacc1, by simp; omega, hr.out⟩
                case measure => simp [intOf]; omega
              · have hb1 : ((d.toNat : Int) == 1) = false := by rw [beq_eq_false_iff_ne]; omega
                have hb2 : ((d.toNat : Int) != 255) = true := by rw [bne_iff_ne]; omega
                have hr := Lib.hid (HJ.out.trans (finO_form _ _ _ (by intro e; subst e; simp at h1) (by intro e; subst e; simp at h2)))
                go_wp2_with fail
                go_ret3
                exact GivesPE.of hr.out (Acc.nil _ _ |>.later hacc.bel)
          · have he : (((p : Int) + 1) == (bs.length : Int)) = true := by rw [beq_iff_eq]; omega
            have hinv := HI.out
            rw [List.drop_eq_nil_of_le (by omega)] at hinv
            have hr := Lib.hid (hinv.trans (finO_torn _ _))
            clear hinv HI
            go_wp2_with fail
            go_ret3
            exact GivesPE.of hr.out (Acc.nil _ _ |>.later hacc.bel)
        · have hb0 : ((c.toNat : Int) != 0) = true := by rw [bne_iff_ne]; omega
          have hr := Lib.hid (HI.out.trans (finO_more _ _ _ (by intro e; subst e; simp at h0)))
          go_wp2_with (at_builtin; refine wpList_acc1 Ebs rfl (.tmp 24) (.tmp 29) rfl rfl hacc rfl c rfl (by omega) ?_; intro v1 w2 hacc1)
          go_roundw
          case rel => exact ⟨p + 1, _, by omega, by go_num, hacc1, by simp; omega, hr.out⟩
          case measure => simp [intOf]; omega
      · have hr : Hid (R = ([], 0, 10)) := Lib.hid (by rw [hinv, List.drop_eq_nil_of_le (by omega)]; exact finO_end _ _)
        clear hinv
        go_wp2_with fail
        go_ret3
        exact GivesPE.of hr.out (Acc.nil _ _ |>.later hacc.bel)
end Go.Proofs.YtmlmbampgbiaeaaDoor
