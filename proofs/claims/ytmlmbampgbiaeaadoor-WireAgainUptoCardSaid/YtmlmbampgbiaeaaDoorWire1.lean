/- The walks of layer 1: Uint, of the program and of the reference. No condition but that the number fits in 64 bits. -/
import Derived.Test.YtmlmbampgbiaeaaDoorBase
import Derived.Test.YtmlmbampgbiaeaaDoorPlain1
import Derived.Laws.BitsAllLaws
import Derived.Laws.Bits128
import Derived.Laws.Bits64
namespace Go.Proofs.YtmlmbampgbiaeaaDoor
open Go.RowKit

/-- A call that hands back new bytes and turns nothing that lay there. -/
def Gives (w : World) (bs : List UInt8) (e : Ending) (w' : World) : Prop := ∃ s, e = .returned s ∧ Acc 5 w w' s bs

theorem or128 (u : Nat) : bits .or .u8 ((u : Int) % 256) 128 = ((UInt8.ofNat (u % 128 + 128)).toNat : Int) := by
  have h : ((u : Int) % 256) = ((u % 256 : Nat) : Int) := by omega
  rw [h, show (128 : Int) = ((128 : Nat) : Int) from rfl, u8_or_nat _ _ (by omega) (by omega), toNat_ofNat (by omega)]
  congr 1
  have e : u % 256 = (u % 256) / 128 * 128 + u % 128 := by omega
  have h2 : (u % 256) / 128 = 0 ∨ (u % 256) / 128 = 1 := by omega
  have hlt : u % 128 < 2 ^ 7 := by omega
  rcases h2 with h2 | h2
  · rw [e, h2, Nat.zero_mul, Nat.zero_add, Nat.or_comm]
    have := Nat.two_pow_add_eq_or_of_lt hlt 1
    simp at this; omega
  · rw [e, h2, Nat.one_mul]
    have := Nat.two_pow_add_eq_or_of_lt hlt 1
    simp at this
    rw [this, Nat.or_assoc, Nat.or_comm _ 128, ← Nat.or_assoc, Nat.or_self]; omega
theorem add128 (u : Nat) : (128 + (u : Int) % 128) = ((UInt8.ofNat (u % 128 + 128)).toNat : Int) := by
  rw [toNat_ofNat (by omega)]; omega

theorem wrap_div {u : Nat} (h : U64 u) : IntKind.u64.wrap ((u : Int) / 128) = (u : Int) / 128 := by
  unfold U64 at h; rw [IntKind.wrap_u64]; omega

set_option maxRecDepth 20000 in
set_option maxHeartbeats 400000 in
theorem Uint_any (v : Nat) (hv : U64 v) (w : World) : Calls Tryd.prog 33 #[.int .u64 v] w (Gives w (uintL v)) := by
  go_enter Tryd.func33, Tryd.ntmps33
  go_wp2
  go_loopw [0, 3] (fun x s wr => ∃ (u : Nat) (pre : List UInt8), U64 u ∧ x = .int .u64 u ∧ Acc 5 w wr s pre ∧ uintL v = pre ++ uintL u)
    (fun x _ _ => (intOf x).toNat)
  case atStart => exact ⟨v, [], hv, rfl, Acc.nil _ w, rfl⟩
  case round =>
    obtain ⟨u, pre, hu, rfl, hacc, heq⟩ := hrel
    have hl := uintL_len hv
    have hpl : pre.length ≤ 10 := by rw [heq] at hl; simp at hl; omega
    have HE := Lib.hid heq; clear heq hl
    by_cases h : 128 ≤ u
    · go_wp2_with (at_builtin; refine wpList_acc1 Ebs rfl (.tmp 6) (.tmp 10) rfl rfl hacc rfl (UInt8.ofNat (u % 128 + 128)) ?c1 ?c2 ?_)
      case c1 => exact or128 u
      case c2 => omega
      intro v' w1 hacc1
      go_wp2
      go_roundw
      case rel => exact ⟨u / 128, _, hu.div, by simp, hacc1, by rw [HE.out, uintL_big h]; simp⟩
      case measure => simp [intOf]; omega
    · go_wp2_with (at_builtin; refine wpList_acc1 Ebs rfl (.tmp 14) (.tmp 17) rfl rfl hacc rfl (UInt8.ofNat u) ?c3 ?c4 ?_)
      case c3 => rw [toNat_ofNat (by omega)]
      case c4 => omega
      intro v' w1 hacc1
      go_wp2
      go_ret
      exact ⟨_, rfl, by rw [HE.out, uintL_small (by omega)]; exact hacc1⟩

set_option maxRecDepth 20000 in
set_option maxHeartbeats 400000 in
theorem refUint_any (v : Nat) (hv : U64 v) (w : World) : Calls Tryd.prog 44 #[.int .u64 v] w (Gives w (uintL v)) := by
  go_enter Tryd.func44, Tryd.ntmps44
  go_wp2
  go_loopw [0, 3] (fun x s wr => ∃ (u : Nat) (pre : List UInt8), U64 u ∧ x = .int .u64 u ∧ Acc 5 w wr s pre ∧ uintL v = pre ++ uintL u)
    (fun x _ _ => (intOf x).toNat)
  case atStart => exact ⟨v, [], hv, rfl, Acc.nil _ w, rfl⟩
  case round =>
    obtain ⟨u, pre, hu, rfl, hacc, heq⟩ := hrel
    have hl := uintL_len hv
    have hpl : pre.length ≤ 10 := by rw [heq] at hl; simp at hl; omega
    have HE := Lib.hid heq; clear heq hl
    by_cases h : 128 ≤ u
    · have hw := wrap_div hu
      go_wp2_with (at_builtin; refine wpList_acc1 Ebs rfl (.tmp 6) (.tmp 11) rfl rfl hacc rfl (UInt8.ofNat (u % 128 + 128)) ?c1 ?c2 ?_)
      case c1 => exact add128 u
      case c2 => omega
      intro v' w1 hacc1
      go_wp2
      go_roundw
      case rel => exact ⟨u / 128, _, hu.div, by simp, hacc1, by rw [HE.out, uintL_big h]; simp⟩
      case measure => simp [intOf]; omega
    · go_wp2_with (at_builtin; refine wpList_acc1 Ebs rfl (.tmp 15) (.tmp 18) rfl rfl hacc rfl (UInt8.ofNat u) ?c3 ?c4 ?_)
      case c3 => rw [toNat_ofNat (by omega)]
      case c4 => omega
      intro v' w1 hacc1
      go_wp2
      go_ret
      exact ⟨_, rfl, by rw [HE.out, uintL_small (by omega)]; exact hacc1⟩
end Go.Proofs.YtmlmbampgbiaeaaDoor
