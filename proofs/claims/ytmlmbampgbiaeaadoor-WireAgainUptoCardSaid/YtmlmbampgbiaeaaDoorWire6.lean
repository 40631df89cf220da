/- The walks of layer 1: Ordered, of the program and of the reference. The bytes are fewer than 2^45. -/
import Derived.Test.YtmlmbampgbiaeaaDoorWire5
namespace Go.Proofs.YtmlmbampgbiaeaaDoor
open Go.RowKit

theorem take_snoc (bs : List UInt8) (k : Nat) (h : k < bs.length) : bs.take (k + 1) = bs.take k ++ [bs[k]] := by
  rw [List.take_succ_eq_append_getElem h]

theorem u8_zero {c : UInt8} (h : c.toNat = 0) : c = 0 := by
  have := UInt8.toNat_inj.1 (show c.toNat = (0 : UInt8).toNat by simpa using h)
  exact this

set_option maxRecDepth 20000 in
set_option maxHeartbeats 1000000 in
theorem Ordered_any {v : Value} {bs : List UInt8} (w : World) (hv : RdB w v bs) (hmax : bs.length ≤ 35184372088832) :
    Calls Tryd.prog 79 #[v] w (Gives w (orderedL bs)) := by
  obtain ⟨a, b, off, cap, rfl, hc1, hc2, hix, hld, _⟩ := hv.open
  clear hc1 hc2 hv
  have HLD := Lib.hid hld; clear hld
  go_enter Tryd.func79, Tryd.ntmps79
  go_wp2_with (at_make; refine wpList_mkacc Ebs rfl _ _ rfl .i64 .i64 (bs.length + 2) rfl rfl ?c1 ?c2 (Below.refl _ _) ?_)
  case c1 => omega
  case c2 => omega
  intro w1 hacc
  go_wp2
  go_loopw [3, 12] (fun s i wr => ∃ k : Nat, k ≤ bs.length ∧ i = .int .i64 k ∧ Acc 5 w wr s (ordL (bs.take k)))
    (fun _ i _ => bs.length - (intOf i).toNat)
  case atStart => exact ⟨0, by omega, rfl, by simpa [ordL] using hacc⟩
  case round =>
    clear hacc
    obtain ⟨k, hk, rfl, hacc⟩ := hrel
    have hlen := ordL_len (bs.take k)
    have hlen2 : (ordL (bs.take k)).length ≤ 2 * k := by simp at hlen; omega
    clear hlen
    by_cases hlt : k < bs.length
    · obtain ⟨c, hc⟩ : ∃ c, c = bs[k] := ⟨_, rfl⟩
      have hcw := HLD.out k hlt
      have hcell := (hacc.bel.cell (World.block_lt_of_cell? w _ hcw)).trans hcw
      rw [← hc] at hcell
      have HS := Lib.hid (take_snoc bs k hlt)
      have HC := Lib.hid hc
      clear hcw hc
      by_cases h0 : c.toNat = 0
      · have hz := u8_zero h0
        subst hz
        go_wp2_with (first | (at_builtin; refine wpList_acc1 Ebs rfl (.tmp 16) (.tmp 18) rfl rfl hacc rfl 0 rfl (by omega) ?_; intro v1 w2 hacc1) | (at_builtin; refine wpList_acc1 Ebs rfl (.tmp 22) (.tmp 23) rfl rfl hacc1 rfl 255 rfl (by simp; omega) ?_; intro v2 w3 hacc2))
        go_roundw
        case rel => exact ⟨k + 1, by omega, by go_num, by rw [HS.out, ← HC.out, ordL_snoc]; simpa using hacc2⟩
        case measure => simp [intOf]; omega
      · have hb0 : ((c.toNat : Int) == 0) = false := by rw [beq_eq_false_iff_ne]; omega
        have hc0 : Hid (c ≠ 0) := Lib.hid (by intro e; subst e; simp at h0)
        go_wp2_with (at_builtin; refine wpList_acc1 Ebs rfl (.tmp 16) (.tmp 18) rfl rfl hacc rfl c rfl (by omega) ?_; intro v1 w2 hacc1)
        go_roundw
        case rel => exact ⟨k + 1, by omega, by go_num, by rw [HS.out, ← HC.out, ordL_snoc, if_neg hc0.out]; exact hacc1⟩
        case measure => simp [intOf]; omega
    · obtain rfl : k = bs.length := by omega
      go_wp2_with (at_builtin; refine wpList_accl Ebs rfl (.tmp 26) (.tmp 27) rfl rfl hacc [0, 1] rfl rfl rfl (by simp only [List.length_cons, List.length_nil]; omega) ?_; intro v1 w2 hacc1)
      go_ret
      exact ⟨_, rfl, by rw [List.take_length] at hacc1; exact hacc1⟩

set_option maxRecDepth 20000 in
set_option maxHeartbeats 1000000 in
theorem refOrdered_any {v : Value} {bs : List UInt8} (w : World) (hv : RdB w v bs) (hmax : bs.length ≤ 35184372088832) :
    Calls Tryd.prog 80 #[v] w (Gives w (orderedL bs)) := by
  obtain ⟨a, b, off, cap, rfl, hc1, hc2, hix, hld, _⟩ := hv.open
  clear hc1 hc2 hv
  have HLD := Lib.hid hld; clear hld
  go_enter Tryd.func80, Tryd.ntmps80
  go_wp2
  go_loopw [3, 4] (fun s i wr => ∃ k : Nat, k ≤ bs.length ∧ i = .int .i64 k ∧ Acc 5 w wr s (ordL (bs.take k)))
    (fun _ i _ => bs.length - (intOf i).toNat)
  case atStart => exact ⟨0, by omega, rfl, Acc.nil _ _⟩
  case round =>
    obtain ⟨k, hk, rfl, hacc⟩ := hrel
    have hlen := ordL_len (bs.take k)
    have hlen2 : (ordL (bs.take k)).length ≤ 2 * k := by simp at hlen; omega
    clear hlen
    by_cases hlt : k < bs.length
    · obtain ⟨c, hc⟩ : ∃ c, c = bs[k] := ⟨_, rfl⟩
      have hcw := HLD.out k hlt
      have hbl := World.block_lt_of_cell? w _ hcw
      rw [← hc] at hcw
      have hcell := (hacc.bel.cell hbl).trans hcw
      have HS := Lib.hid (take_snoc bs k hlt)
      have HC := Lib.hid hc
      have HB := Lib.hid hbl
      have HCW := Lib.hid hcw
      clear hcw hc hbl
      by_cases h0 : c.toNat = 0
      · have hz := u8_zero h0
        subst hz
        go_wp2_with (first | (at_builtin; refine wpList_acc1 Ebs rfl (.tmp 11) (.tmp 16) rfl rfl hacc rfl 0 rfl (by omega) ?_; intro v1 w2 hacc1; have hcell1 := (hacc1.bel.cell HB.out).trans HCW.out) | (at_builtin; refine wpList_acc1 Ebs rfl (.tmp 23) (.tmp 24) rfl rfl hacc1 rfl 255 rfl (by simp; omega) ?_; intro v2 w3 hacc2))
        go_roundw
        case rel => exact ⟨k + 1, by omega, by go_num, by rw [HS.out, ← HC.out, ordL_snoc]; simpa using hacc2⟩
        case measure => simp [intOf]; omega
      · have hb0 : ((c.toNat : Int) == 0) = false := by rw [beq_eq_false_iff_ne]; omega
        have hc0 : Hid (c ≠ 0) := Lib.hid (by intro e; subst e; simp at h0)
        go_wp2_with (at_builtin; refine wpList_acc1 Ebs rfl (.tmp 11) (.tmp 16) rfl rfl hacc rfl c rfl (by omega) ?_; intro v1 w2 hacc1; have hcell1 := (hacc1.bel.cell HB.out).trans HCW.out)
        go_roundw
        case rel => exact ⟨k + 1, by omega, by go_num, by rw [HS.out, ← HC.out, ordL_snoc, if_neg hc0.out]; exact hacc1⟩
        case measure => simp [intOf]; omega
    · obtain rfl : k = bs.length := by omega
      go_wp2_with (at_builtin; refine wpList_accl Ebs rfl (.tmp 26) (.tmp 27) rfl rfl hacc [0, 1] rfl rfl rfl (by simp only [List.length_cons, List.length_nil]; omega) ?_; intro v1 w2 hacc1)
      go_ret
      exact ⟨_, rfl, by rw [List.take_length] at hacc1; exact hacc1⟩
end Go.Proofs.YtmlmbampgbiaeaaDoor
