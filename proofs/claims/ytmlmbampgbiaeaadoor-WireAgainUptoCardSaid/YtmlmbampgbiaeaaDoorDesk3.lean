/- The desk: Back, Wipe. -/
import Derived.Test.YtmlmbampgbiaeaaDoorDesk2
namespace Go.Proofs.YtmlmbampgbiaeaaDoor
open Go.RowKit

set_option maxRecDepth 50000 in
set_option maxHeartbeats 2000000 in
theorem Back_any {B : Nat} {w0 w : World} (hB : B = w0.heap.size) (hbel : Below B w0 w) {d : Nat} {rv : Value} {room : List UInt8} {v : Value} {bs : List UInt8} (hd : Desk B w d rv room bs.length) (hl : Lent room bs) (hrl : room.length ≤ 4294967296) (hv : RdB w0 v bs) :
    Calls Tryd.prog 8 #[.pointer (some ⟨d, 0, none⟩), v] w fun e w' => e = .returned (.bool true) ∧ ∃ q, w' = w.drewN q := by
  obtain ⟨hl1, hl2, hl3⟩ := hl
  obtain ⟨g, cp, rfl, hBg, hgd, hglt⟩ := hd.shape (by omega)
  obtain ⟨k1, k2, k3, k4⟩ := hd.cells
  obtain ⟨a', n', c', hs1, hs2, hn', hrd'⟩ := RdB.slH (Rd.ofOwn hd.own) bs.length (by omega) (by omega)
  rw [show (bs.length : Int).toNat = bs.length by omega, hl2] at hrd'
  obtain ⟨va, vc, rfl, _⟩ := Rd.shape hv
  have HSame : Hid (∀ W, (∃ q, W = w.drewN q) → Calls Tryd.prog 32 #[.slice a' n' c', .slice va bs.length vc] W fun e w' => e = .returned (.bool true) ∧ W = w') :=
    Lib.hid fun W ⟨q, hq⟩ => by
      subst hq
      exact same1_r (by simp) _ (hrd'.drewN q) ((hv.below (hB ▸ hbel)).drewN q)
  have hne : (((bs.length : Nat) : Int) != (bs.length : Int)) = false := by simp
  have hcell : ∀ i (h : i < room.length), w.cell? ⟨g, i, none⟩ = some (bv room[i]) := fun i h => (hd.store i h).1
  have HC := Lib.hid hcell
  have HM := Lib.hid hl3
  clear hd hrd' hv hbel hcell hl3
  go_enter Tryd.func8, Tryd.ntmps8
  go_wp2_with fail
  go_quiet ((go_at_call 32; exact quiet_left (HSame.out _ ⟨_, rfl⟩)))
  go_wp2
  go_loopw [5] (fun i wr => ∃ (k q : Nat), i = .int .i64 k ∧ wr = w.drewN q ∧ bs.length ≤ k ∧ k ≤ room.length)
    (fun i _ => room.length - (intOf i).toNat)
  case atStart => exact ⟨bs.length, _, rfl, rfl, by omega, by omega⟩
  case round =>
    obtain ⟨k, q, rfl, rfl, hk1, hk2⟩ := hrel
    by_cases hlt : k < room.length
    · have hc := HC.out k hlt
      rw [HM.out k hk1 hlt] at hc
      have hms : k ≤ 70368744177664 := by omega
      have hnn : (((markB k).toNat : Int) != ((markB k).toNat : Int)) = false := by simp
      go_wp2
      go_quiet ((go_at_call 34; first | exact quiet_add_left (mark_any k hms _) | exact quiet_left (mark_any k hms _)))
      go_wp2
      go_roundw
      case rel => exact ⟨k + 1, _, by go_num, rfl, by omega, by omega⟩
      case measure => simp [intOf] <;> omega
    · obtain rfl : k = room.length := by omega
      go_wp2
      go_ret
      exact ⟨rfl, _, rfl⟩

theorem Desk.turnedIn {B : Nat} {w : World} {d g n' cap n : Nat} {room : List UInt8} (_h : Desk B w d (.slice (some ⟨g, 0, none⟩) n' cap) room n) (j : Nat) (v : Value) :
    Turned (DeskS d (.slice (some ⟨g, 0, none⟩) n' cap)) w (w.setCell ⟨g, j, none⟩ v) := (Turned.refl _ w).setCell _ _ fun _ => .inr rfl

set_option maxRecDepth 50000 in
set_option maxHeartbeats 2000000 in
theorem Wipe_any {B : Nat} {w : World} {d n : Nat} {rv : Value} {room : List UInt8} (hd : Desk B w d rv room n) (hn : n ≤ room.length) (h0 : 0 < room.length) (hrl : room.length ≤ 4294967296) :
    Calls Tryd.prog 9 #[.pointer (some ⟨d, 0, none⟩)] w fun e w' => e = .returned (.tuple #[]) ∧ ∃ room', room'.length = room.length ∧ Desk B w' d rv room' n ∧ Turned (DeskS d rv) w w' := by
  obtain ⟨g, cp, rfl, hBg, hgd, hglt⟩ := hd.shape h0
  have HD := Lib.hid hd
  clear hd
  go_enter Tryd.func9, Tryd.ntmps9
  go_wp2
  go_loopw [2] (fun i wr => ∃ (k : Nat) (room2 : List UInt8), i = .int .i64 k ∧ k ≤ n ∧ room2.length = room.length ∧ Desk B wr d (.slice (some ⟨g, 0, none⟩) room.length cp) room2 n ∧ Turned (DeskS d (.slice (some ⟨g, 0, none⟩) room.length cp)) w wr)
    (fun i _ => n - (intOf i).toNat)
  case atStart => exact ⟨0, room, rfl, by omega, rfl, HD.out, Turned.refl _ _⟩
  case round =>
    obtain ⟨k, room2, rfl, hk, hl2, hd2, ht⟩ := hrel
    obtain ⟨q1, q2, q3, q4⟩ := hd2.cells
    have HD2 := Lib.hid hd2
    have HL2 := Lib.hid hl2
    have HT := Lib.hid ht
    clear hd2 hl2 ht
    by_cases hlt : k < n
    · obtain ⟨s1, s2, s3⟩ := HD2.out.store k (by rw [HL2.out]; omega)
      obtain ⟨c, hc⟩ : ∃ c, c = room2[k]'(by rw [HL2.out]; omega) := ⟨_, rfl⟩
      rw [← hc] at s1
      obtain ⟨cx, hx⟩ : ∃ cx : UInt8, bits .xor .u8 (c.toNat : Int) 255 = (cx.toNat : Int) := by
        have hb := c.toNat_lt
        refine ⟨UInt8.ofNat (c.toNat ^^^ 255), ?_⟩
        rw [show (255 : Int) = ((255 : Nat) : Int) from rfl, u8_xor_nat _ _ (by omega) (by omega), toNat_ofNat (xor_lt 8 (by omega) (by omega))]
      have HS := Lib.hid (s3 cx)
      clear s3 hc
      go_wp2
      go_region
      go_wp2
      go_roundw
      case rel => exact ⟨k + 1, _, by go_num, by omega, by rw [List.length_set]; exact HL2.out, HS.out.drew, (HT.out.trans (HD2.out.turnedIn k _)).drew⟩
      case measure => simp [intOf] <;> omega
    · obtain rfl : k = n := by omega
      go_wp2
      go_end0
      exact ⟨rfl, room2, HL2.out, HD2.out, HT.out⟩
end Go.Proofs.YtmlmbampgbiaeaaDoor
