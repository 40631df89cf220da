/- The walks of layer 1: Rising, Falling, of the program and of the reference. The number is an int. -/
import Derived.Test.YtmlmbampgbiaeaaDoorWire7
import Derived.Test.YtmlmbampgbiaeaaDoorPlain2
namespace Go.Proofs.YtmlmbampgbiaeaaDoor
open Go.RowKit

/-- New bytes and an error are handed back. -/
def GivesE (w : World) (r : List UInt8 × Int) (e : Ending) (w' : World) : Prop :=
  ∃ s, e = .returned (.tuple #[s, .int .i64 r.2]) ∧ Acc 5 w w' s r.1
theorem GivesE.of {w w' : World} {r : List UInt8 × Int} {s : Value} {bs : List UInt8} {x : Int} (h : r = (bs, x)) (ha : Acc 5 w w' s bs) :
    GivesE w r (.returned (.tuple #[s, .int .i64 x])) w' := by
  subst h; exact ⟨s, rfl, ha⟩

set_option maxRecDepth 20000 in
set_option maxHeartbeats 400000 in
theorem eight_any (v : Nat) (hv : U64 v) (w : World) : Calls Tryd.prog 104 #[.int .u64 v] w (Gives w (be 8 v)) := by
  go_enter Tryd.func104, Tryd.ntmps104
  go_wp2
  go_loopw [0, 3, 4] (fun x s i wr => ∃ (u k : Nat), U64 u ∧ x = .int .u64 u ∧ i = .int .i64 k ∧ k ≤ 8 ∧ u = v / 256 ^ k ∧ Acc 5 w wr s (be k v))
    (fun _ _ i _ => 8 - (intOf i).toNat)
  case atStart => exact ⟨v, 0, hv, rfl, rfl, by omega, by simp, Acc.nil _ w⟩
  case round =>
    obtain ⟨u, k, hu, rfl, rfl, hk, heq, hacc⟩ := hrel
    have HE := Lib.hid heq; clear heq
    by_cases h : k < 8
    · have hacc0 : Acc 5 w (wr.alloc (.cells #[.int .u8 ((u : Int) % 256)] 5)) (.slice (some ⟨wr.heap.size, 0, none⟩) 1 1) [UInt8.ofNat (u % 256)] :=
        Acc.lit hacc.bel [UInt8.ofNat (u % 256)] _ 1 rfl (by simp [bv]) (by simp)
      go_wp2_with (at_builtin; refine wpList_acc Ebs rfl (.tmp 12) (.tmp 13) rfl rfl hacc0 rfl (Rd.alloc hacc.rd _) (by simp [be_len]; omega) ?_; intro v1 w2 hacc1 hg)
      have hw : IntKind.u64.wrap ((u : Int) / 256) = ((u / 256 : Nat) : Int) := by unfold U64 at hu; rw [IntKind.wrap_u64]; omega
      go_wp2
      go_roundw
      case rel => exact ⟨u / 256, k + 1, by unfold U64 at *; omega, int_eq (by first | exact hw | simp), by go_num, by omega, by rw [HE.out, Nat.div_div_eq_div_mul, Nat.pow_succ], by rw [be_cons, ← HE.out]; exact hacc1⟩
      case measure => simp [intOf]; omega
    · go_wp2
      go_ret
      exact ⟨_, rfl, by rw [show (8 : Nat) = k by omega]; exact hacc⟩

theorem rep_set (j : Nat) (c : UInt8) (l : List UInt8) : (List.replicate (j + 1) 0 ++ l).set j c = List.replicate j 0 ++ (c :: l) := by
  induction j with
  | zero => simp
  | succ j ih => rw [List.replicate_succ, List.cons_append, List.set_cons_succ, ih]; simp [List.replicate_succ]

set_option maxRecDepth 20000 in
set_option maxHeartbeats 400000 in
theorem Rising_pos (v : Nat) (hv : (v : Int) ≤ 9223372036854775807) (w : World) : Calls Tryd.prog 69 #[.int .i64 v] w (GivesE w (be 8 v, 0)) := by
  go_enter Tryd.func69, Tryd.ntmps69
  go_wp2_with (at_make; refine wpList_mkzeros Ebs Zb rfl _ _ rfl .i64 .i64 8 rfl rfl rfl rfl (by omega) (Below.refl _ _) ?_)
  intro w1 hacc _
  go_wp2
  go_loopw [0, 5] (fun x i wr => ∃ (u : Nat) (j : Int), (u : Int) ≤ 9223372036854775807 ∧ x = .int .i64 u ∧ i = .int .i64 j ∧ -1 ≤ j ∧ j ≤ 7 ∧ u = v / 256 ^ (7 - j).toNat ∧ Acc 5 w wr (.slice (some ⟨w.heap.size, 0, none⟩) 8 8) (List.replicate (j + 1).toNat 0 ++ be (7 - j).toNat v))
    (fun _ i _ => (intOf i + 1).toNat)
  case atStart => exact ⟨v, 7, hv, rfl, rfl, by omega, by omega, by simp, by simpa [be] using hacc⟩
  case round =>
    clear hacc
    obtain ⟨u, j, hu, rfl, rfl, hj1, hj2, heq, hacc⟩ := hrel
    have HE := Lib.hid heq; clear heq
    by_cases h : 0 ≤ j
    · obtain ⟨j, rfl⟩ := Int.eq_ofNat_of_zero_le h
      obtain ⟨-, hcell, hfro, hst⟩ := hacc.store j (by simp [be_len]; omega)
      have HS := Lib.hid (hst (UInt8.ofNat (u % 256)))
      clear hst hacc
      go_wp2_with fail
      go_roundw
      case rel =>
        refine ⟨u / 256, (j : Int) - 1, by omega, by simp, rfl, by omega, by omega, ?_, ?_⟩
        · rw [HE.out, Nat.div_div_eq_div_mul, show (7 - ((j : Int) - 1)).toNat = (7 - (j : Int)).toNat + 1 by omega, Nat.pow_succ]
        · have h2 := HS.out
          rw [show ((j : Int) + 1).toNat = j + 1 by omega, rep_set] at h2
          have e1 : ((j : Int) - 1 + 1).toNat = j := by omega
          have e2 : (7 - ((j : Int) - 1)).toNat = (7 - (j : Int)).toNat + 1 := by omega
          have e3 : bv (UInt8.ofNat (u % 256)) = .int .u8 ((u : Int) % 256) := by simp [bv]
          rw [e1, e2, be_cons, ← HE.out]
          rw [e3] at h2; exact h2
      case measure => simp [intOf] <;> omega
    · obtain rfl : j = -1 := by omega
      go_wp2
      go_ret2
      exact GivesE.of rfl hacc

theorem rising_neg {n : Int} (h : n < 0) : rising n = ([], 1) := by rw [rising, if_pos h]
theorem rising_pos {n : Int} (h : ¬ n < 0) : rising n = (be 8 n.toNat, 0) := by rw [rising, if_neg h]
theorem falling_neg {n : Int} (h : n < 0) : falling n = ([], 1) := by rw [falling, if_pos h]
theorem falling_pos {n : Int} (h : ¬ n < 0) (h2 : n ≤ top) : falling n = rising (top - n) := by
  rw [falling, if_neg h, rising, if_neg (by omega)]
theorem rising_falling {n : Int} (h : ¬ n < 0) (h2 : n ≤ 9223372036854775807) : rising (9223372036854775807 - n) = falling n := by
  rw [falling_pos h (by unfold top; omega)]; rfl

theorem Rising_any (n : Int) (hn : n ≤ 9223372036854775807) (w : World) : Calls Tryd.prog 69 #[.int .i64 n] w (GivesE w (rising n)) := by
  by_cases h : n < 0
  · have hr := Lib.hid (rising_neg h)
    go_enter Tryd.func69, Tryd.ntmps69
    go_wp2
    go_ret2
    exact GivesE.of hr.out (Acc.nil _ _)
  · obtain ⟨v, rfl⟩ := Int.eq_ofNat_of_zero_le (show 0 ≤ n by omega)
    have hr := rising_pos h
    rw [hr]; exact Rising_pos v hn w
theorem refRising_any (n : Int) (hn : n ≤ 9223372036854775807) (w : World) : Calls Tryd.prog 70 #[.int .i64 n] w (GivesE w (rising n)) := by
  by_cases h : n < 0
  · have hr := Lib.hid (rising_neg h)
    go_enter Tryd.func70, Tryd.ntmps70
    go_wp2
    go_ret2
    exact GivesE.of hr.out (Acc.nil _ _)
  · obtain ⟨v, rfl⟩ := Int.eq_ofNat_of_zero_le (show 0 ≤ n by omega)
    have hr := Lib.hid (rising_pos h)
    have hu : U64 v := by unfold U64; omega
    have hw := u64_of_i64 (n := (v : Int)) (by omega) hn
    go_enter Tryd.func70, Tryd.ntmps70
    go_wp2_with (go_at_call 104; refine (eight_any _ hu _).mono ?_; rintro e w1 ⟨s, rfl, hacc⟩)
    go_ret2
    exact GivesE.of hr.out hacc
set_option maxRecDepth 20000 in
theorem Falling_any (n : Int) (hn : n ≤ 9223372036854775807) (w : World) : Calls Tryd.prog 73 #[.int .i64 n] w (GivesE w (falling n)) := by
  by_cases h : n < 0
  · have hr := Lib.hid (falling_neg h)
    go_enter Tryd.func73, Tryd.ntmps73
    go_wp2
    go_ret2
    exact GivesE.of hr.out (Acc.nil _ _)
  · have hr := Lib.hid (rising_falling h hn)
    have hc := Rising_any (9223372036854775807 - n) (by omega) w
    have HC := Lib.hid hc
    clear hc
    go_enter Tryd.func73, Tryd.ntmps73
    go_wp2_with (go_at_call 69; refine HC.out.mono ?_; rintro e w1 ⟨s, rfl, hacc⟩)
    go_ret2
    exact GivesE.of (by rw [← hr.out]) hacc
set_option maxRecDepth 20000 in
theorem refFalling_any (n : Int) (hn : n ≤ 9223372036854775807) (w : World) : Calls Tryd.prog 74 #[.int .i64 n] w (GivesE w (falling n)) := by
  by_cases h : n < 0
  · have hr := Lib.hid (falling_neg h)
    go_enter Tryd.func74, Tryd.ntmps74
    go_wp2
    go_ret2
    exact GivesE.of hr.out (Acc.nil _ _)
  · have hr := Lib.hid (rising_falling h hn)
    have hc := refRising_any (9223372036854775807 - n) (by omega) w
    have HC := Lib.hid hc
    clear hc
    go_enter Tryd.func74, Tryd.ntmps74
    go_wp2_with (go_at_call 70; refine HC.out.mono ?_; rintro e w1 ⟨s, rfl, hacc⟩)
    go_ret2
    exact GivesE.of (by rw [← hr.out]) hacc
end Go.Proofs.YtmlmbampgbiaeaaDoor
