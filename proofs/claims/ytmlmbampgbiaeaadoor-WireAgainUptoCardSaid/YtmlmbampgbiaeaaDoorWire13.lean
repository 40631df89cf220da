/- The walks of layer 1: ReadFrame, of the program and of the reference. -/
import Derived.Test.YtmlmbampgbiaeaaDoorWire12
namespace Go.Proofs.YtmlmbampgbiaeaaDoor
open Go.RowKit

def readFrame (b : List UInt8) (at_ : Int) : List UInt8 × Int × Int :=
  if at_ < 0 ∨ (b.length : Int) < at_ then ([], 0, 1)
  else if (b.length : Int) - at_ < 8 then ([], 0, 10)
  else
    let p := at_.toNat
    if (piece b (p + 4) 4 == le4 (crc (piece b p 4))) = false then ([], 0, 12)
    else
      let n := num (piece b p 4)
      if 1048576 < n then ([], 0, 13)
      else if b.length < p + 8 + n + 4 then ([], 0, 10)
      else if (piece b (p + 8 + n) 4 == le4 (crc (piece b (p + 8) n))) = false then ([], 0, 12)
      else (piece b (p + 8) n, at_ + 12 + n, 0)

theorem below_dn {B : Nat} {w w' : World} (h : Below B w w') (n : Nat) : Below B w (w'.drewN n) := ⟨h.os, h.tape, h.output, h.size, h.block⟩

theorem num_four (c0 c1 c2 c3 : UInt8) : num [c0, c1, c2, c3] = ((c0.toNat * 256 + c1.toNat) * 256 + c2.toNat) * 256 + c3.toNat := by
  simp [num]; omega
theorem piece_four (b : List UInt8) (p : Nat) (h : p + 4 ≤ b.length) : piece b p 4 = [b[p], b[p + 1], b[p + 2], b[p + 3]] := by
  unfold piece
  rw [drop_cons b p (by omega), drop_cons b (p + 1) (by omega), drop_cons b (p + 2) (by omega), drop_cons b (p + 3) (by omega)]
  rfl
theorem i64_or4 (c0 c1 c2 c3 : UInt8) : bits .or .i64 (bits .or .i64 (bits .or .i64 ((c0.toNat : Int) * 16777216) ((c1.toNat : Int) * 65536)) ((c2.toNat : Int) * 256)) (c3.toNat : Int) = ((num [c0, c1, c2, c3] : Nat) : Int) := by
  have h0 := c0.toNat_lt; have h1 := c1.toNat_lt; have h2 := c2.toNat_lt; have h3 := c3.toNat_lt
  have e1 : bits .or .i64 ((c0.toNat : Int) * 16777216) ((c1.toNat : Int) * 65536) = (((c0.toNat * 256 + c1.toNat) * 65536 : Nat) : Int) := by
    rw [show (c0.toNat : Int) * 16777216 = ((2 ^ 24 * c0.toNat : Nat) : Int) by omega, show (c1.toNat : Int) * 65536 = ((c1.toNat * 65536 : Nat) : Int) by omega, i64_or_nat _ _ (by omega) (by omega), ← Nat.two_pow_add_eq_or_of_lt (by omega)]
    omega
  have e2 : bits .or .i64 (((c0.toNat * 256 + c1.toNat) * 65536 : Nat) : Int) ((c2.toNat : Int) * 256) = ((((c0.toNat * 256 + c1.toNat) * 256 + c2.toNat) * 256 : Nat) : Int) := by
    rw [show ((c0.toNat * 256 + c1.toNat) * 65536 : Nat) = 2 ^ 16 * (c0.toNat * 256 + c1.toNat) by omega, show (c2.toNat : Int) * 256 = ((c2.toNat * 256 : Nat) : Int) by omega, i64_or_nat _ _ (by omega) (by omega), ← Nat.two_pow_add_eq_or_of_lt (by omega)]
    omega
  rw [e1, e2, show (((c0.toNat * 256 + c1.toNat) * 256 + c2.toNat) * 256 : Nat) = 2 ^ 8 * ((c0.toNat * 256 + c1.toNat) * 256 + c2.toNat) by omega, i64_or_nat _ _ (by omega) (by omega), ← Nat.two_pow_add_eq_or_of_lt (by omega), num_four]
  omega

theorem i64_or4w (c0 c1 c2 c3 : UInt8) : bits .or .i64 (bits .or .i64 (bits .or .i64 (wrap64 (wrap64 (c0.toNat : Int) * 16777216)) (wrap64 (wrap64 (c1.toNat : Int) * 65536))) (wrap64 (wrap64 (c2.toNat : Int) * 256))) (wrap64 (c3.toNat : Int)) = ((num [c0, c1, c2, c3] : Nat) : Int) := by
  have h0 := c0.toNat_lt; have h1 := c1.toNat_lt; have h2 := c2.toNat_lt; have h3 := c3.toNat_lt
  have w : ∀ n : Int, 0 ≤ n → n < 9223372036854775808 → wrap64 n = n := fun n h h' => IntWalk.wrap64_in n (by omega)
  rw [w c0.toNat (by omega) (by omega), w c1.toNat (by omega) (by omega), w c2.toNat (by omega) (by omega), w c3.toNat (by omega) (by omega), w _ (by omega) (by omega), w _ (by omega) (by omega), w _ (by omega) (by omega), i64_or4]

set_option maxRecDepth 50000 in
set_option maxHeartbeats 2000000 in
theorem ReadFrame_any {w : World} (hT : Tab w) {v : Value} {bs : List UInt8} (h : RdB w v bs) (hmax : bs.length ≤ 70368744177664) (at_ : Int) :
    Calls Tryd.prog 30 #[v, .int .i64 at_] w (GivesPE w (readFrame bs at_)) := by
  obtain ⟨a, b, off, cap, rfl, hc1, hc2, hix, hld, _⟩ := h.open
  have HLD := Lib.hid hld
  have HV := Lib.hid h
  have HT := Lib.hid hT
  obtain ⟨R, hR⟩ : ∃ R, readFrame bs at_ = R := ⟨_, rfl⟩
  rw [hR]
  unfold readFrame at hR
  clear hld hT
  by_cases hout : at_ < 0 ∨ (bs.length : Int) < at_
  · have hd : (decide (at_ < 0) || decide ((bs.length:Int) < at_)) = true := by simpa using hout
    have HD := Lib.hid hd; clear hd
    rw [if_pos hout] at hR
    have HR := Lib.hid hR.symm
    clear hout hix hR h
    go_enter Tryd.func30, Tryd.ntmps30
    go_wp2_with (go_at_call 64; refine (outside_any _ _ _ _ _ _ HD.out).mono ?_; rintro e w' ⟨rfl, rfl⟩)
    go_ret3
    exact GivesPE.of HR.out (Acc.nil _ _)
  · have hd : (decide (at_ < 0) || decide ((bs.length:Int) < at_)) = false := by simpa using hout
    have HD := Lib.hid hd; clear hd
    rw [if_neg hout] at hR
    by_cases h8 : (bs.length : Int) - at_ < 8
    · rw [if_pos h8] at hR
      have HR := Lib.hid hR.symm
      have ho2 : 0 ≤ at_ ∧ at_ ≤ bs.length := by omega
      clear hout hix hR h
      go_enter Tryd.func30, Tryd.ntmps30
      go_wp2_with (go_at_call 64; refine (outside_any _ _ _ _ _ _ HD.out).mono ?_; rintro e w' ⟨rfl, rfl⟩)
      go_ret3
      exact GivesPE.of HR.out (Acc.nil _ _)
    · rw [if_neg h8] at hR
      obtain ⟨p, rfl⟩ := Int.eq_ofNat_of_zero_le (show 0 ≤ at_ by omega)
      have hin : p + 8 ≤ bs.length := by omega
      simp only [Int.toNat_natCast] at hR
      obtain ⟨a1, n1, c1, hs1, hs2, hn1, hrd1⟩ := RdB.sl h p ((p : Int) + 4) (by omega) (by omega) (by omega)
      have e4 : ((p : Int) + 4).toNat - (p : Int).toNat = 4 := by omega
      rw [e4] at hrd1 hn1
      have hp4 : (piece bs p 4).length = 4 := piece_len _ _ _ (by omega)
      have HR1 : Hid (RdB w (.slice a1 n1 c1) (piece bs p 4)) := Lib.hid hrd1
      have HSUM : Hid (∀ W g, Below w.heap.size w W → W.cell? ⟨g, 0, none⟩ = some (.slice a1 n1 c1) → Calls Tryd.prog 57 #[.slice (some ⟨g, 0, none⟩) 1 1] W fun e w' => e = .returned (.int .u32 (crc (piece bs p 4))) ∧ W = w') :=
        Lib.hid fun W g hb hc => Sum_hdr (HT.out.below hb) hc (HR1.out.below hb) (by rw [hp4]; omega)
      clear hout h8 e4 hrd1 hp4
      have ep4 : ((p : Int) + 4).toNat = p + 4 := by omega
      by_cases hs : (piece bs (p + 4) 4 == le4 (crc (piece bs p 4))) = false
      · rw [if_pos hs] at hR
        have HS : Hid ((piece bs ((p : Int) + 4).toNat 4 == le4 (crc (piece bs p 4))) = false) := Lib.hid (by rw [ep4]; exact hs)
        have HR := Lib.hid hR.symm
        clear hix hR hs ep4
        go_enter Tryd.func30, Tryd.ntmps30
        go_wp2_with (first
          | (go_at_call 64; refine (outside_any _ _ _ _ _ _ HD.out).mono ?_; rintro e w' ⟨rfl, rfl⟩)
          | (go_at_call 57; (with_reducible refine (HSUM.out _ _ ((Below.refl _ _).alloc (Nat.le_refl _) _) (by simp [go_sem])).mono ?_); rintro e w5 ⟨rfl, rfl⟩)
          | (go_at_call 66; (with_reducible refine (is_any (HV.out.alloc _) hmax ((p : Int) + 4) (by omega) (by omega) _ (crc_lt _) false HS.out).mono ?_); rintro e w6 ⟨rfl, hb6⟩))
        go_ret3
        exact GivesPE.of HR.out ((Acc.nil _ _).later (((Below.refl _ _).alloc (Nat.le_refl _) _).trans (hb6.mono (by simp))))
      · have hs' : (piece bs (p + 4) 4 == le4 (crc (piece bs p 4))) = true := by simpa using hs
        have HS : Hid ((piece bs ((p : Int) + 4).toNat 4 == le4 (crc (piece bs p 4))) = true) := Lib.hid (by rw [ep4]; exact hs')
        rw [if_neg hs] at hR
        obtain ⟨n, hn⟩ : ∃ n, n = num (piece bs p 4) := ⟨_, rfl⟩
        simp only [← hn] at hR
        have hc : Hid (∀ w6, Below w.heap.size w w6 → ∃ k0 k1 k2 k3 : UInt8, w6.cell? ⟨b, off + p, none⟩ = some (bv k0) ∧ w6.cell? ⟨b, off + (p + 1), none⟩ = some (bv k1) ∧ w6.cell? ⟨b, off + (p + 2), none⟩ = some (bv k2) ∧ w6.cell? ⟨b, off + (p + 3), none⟩ = some (bv k3) ∧
            bits .or .i64 (bits .or .i64 (bits .or .i64 (wrap64 (wrap64 (k0.toNat : Int) * 16777216)) (wrap64 (wrap64 (k1.toNat : Int) * 65536))) (wrap64 (wrap64 (k2.toNat : Int) * 256))) (wrap64 (k3.toNat : Int)) = (n : Int)) := Lib.hid (fun w6 hb6 => by
          have hlt : b < w.heap.size := World.block_lt_of_cell? w _ (HLD.out p (by omega))
          refine ⟨_, _, _, _, (hb6.cell hlt).trans (HLD.out p (by omega)), (hb6.cell hlt).trans (HLD.out (p + 1) (by omega)), (hb6.cell hlt).trans (HLD.out (p + 2) (by omega)), (hb6.cell hlt).trans (HLD.out (p + 3) (by omega)), ?_⟩
          rw [i64_or4w, hn, piece_four bs p (by omega)])
        have hnb : n < 4294967296 := by have := num_lt (piece bs p 4); rw [piece_len _ _ _ (by omega)] at this; omega
        have hw1 : IntKind.i64.wrap ((p : Int) + 1) = (p : Int) + 1 := IntWalk.i64_in _ (by omega)
        have hw2 : IntKind.i64.wrap ((p : Int) + 2) = (p : Int) + 2 := IntWalk.i64_in _ (by omega)
        have hw3 : IntKind.i64.wrap ((p : Int) + 3) = (p : Int) + 3 := IntWalk.i64_in _ (by omega)
        clear hs hs' hn ep4
        by_cases hbig : 1048576 < n
        · rw [if_pos hbig] at hR
          have HR := Lib.hid hR.symm
          clear hR h
          go_enter Tryd.func30, Tryd.ntmps30
          go_wp2_with (first
            | (go_at_call 64; refine (outside_any _ _ _ _ _ _ HD.out).mono ?_; rintro e w' ⟨rfl, rfl⟩)
            | (go_at_call 57; (with_reducible refine (HSUM.out _ _ ((Below.refl _ _).alloc (Nat.le_refl _) _) (by simp [go_sem])).mono ?_); rintro e w5 ⟨rfl, rfl⟩)
            | (go_at_call 66; (with_reducible refine (is_any (HV.out.alloc _) hmax ((p : Int) + 4) (by omega) (by omega) _ (crc_lt _) true HS.out).mono ?_); rintro e w6 ⟨rfl, hb6⟩; have hb6' := ((Below.refl _ _).alloc (Nat.le_refl _) _).trans (hb6.mono (by simp)); obtain ⟨k0, k1, k2, k3, g0, g1, g2, g3, gn⟩ := hc.out _ hb6'))
          go_quiet (fail)
          go_wp2
          go_ret3
          exact GivesPE.of HR.out ((Acc.nil _ _).later (below_dn hb6' _))
        · rw [if_neg hbig] at hR
          by_cases htorn : bs.length < p + 8 + n + 4
          · rw [if_pos htorn] at hR
            have HR := Lib.hid hR.symm
            clear hR h
            go_enter Tryd.func30, Tryd.ntmps30
            go_wp2_with (first
              | (go_at_call 64; refine (outside_any _ _ _ _ _ _ HD.out).mono ?_; rintro e w' ⟨rfl, rfl⟩)
              | (go_at_call 57; (with_reducible refine (HSUM.out _ _ ((Below.refl _ _).alloc (Nat.le_refl _) _) (by simp [go_sem])).mono ?_); rintro e w5 ⟨rfl, rfl⟩)
              | (go_at_call 66; (with_reducible refine (is_any (HV.out.alloc _) hmax ((p : Int) + 4) (by omega) (by omega) _ (crc_lt _) true HS.out).mono ?_); rintro e w6 ⟨rfl, hb6⟩; have hb6' := ((Below.refl _ _).alloc (Nat.le_refl _) _).trans (hb6.mono (by simp)); obtain ⟨k0, k1, k2, k3, g0, g1, g2, g3, gn⟩ := hc.out _ hb6'))
            go_quiet (fail)
            go_wp2
            go_ret3
            exact GivesPE.of HR.out ((Acc.nil _ _).later (below_dn hb6' _))
          · rw [if_neg htorn] at hR
            obtain ⟨a2, n2, c2, hs3, hs4, hn2, hrd2⟩ := RdB.sl h ((p : Int) + 8) ((p : Int) + 8 + n) (by omega) (by omega) (by omega)
            have e5 : ((p : Int) + 8 + n).toNat - ((p : Int) + 8).toNat = n := by omega
            have e6 : ((p : Int) + 8).toNat = p + 8 := by omega
            have e7 : ((p : Int) + 8 + n).toNat = p + 8 + n := by omega
            rw [e5] at hrd2 hn2
            rw [e6] at hrd2
            have hpn : (piece bs (p + 8) n).length = n := piece_len _ _ _ (by omega)
            have HR2 : Hid (RdB w (.slice a2 n2 c2) (piece bs (p + 8) n)) := Lib.hid hrd2
            have HSUM2 : Hid (∀ W g, Below w.heap.size w W → W.cell? ⟨g, 0, none⟩ = some (.slice a2 n2 c2) → Calls Tryd.prog 57 #[.slice (some ⟨g, 0, none⟩) 1 1] W fun e w' => e = .returned (.int .u32 (crc (piece bs (p + 8) n))) ∧ W = w') :=
              Lib.hid fun W g hb hc => Sum_hdr (HT.out.below hb) hc (HR2.out.below hb) (by rw [hpn]; omega)
            have hlast := Lib.hid (show p + 8 + n + 4 ≤ bs.length by omega)
            have hsm : p + 8 + n + 4 ≤ 70368744177664 := by omega
            by_cases hs5 : (piece bs (p + 8 + n) 4 == le4 (crc (piece bs (p + 8) n))) = false
            · rw [if_pos hs5] at hR
              have HR := Lib.hid hR.symm
              have HS2 : Hid ((piece bs ((p : Int) + 8 + n).toNat 4 == le4 (crc (piece bs (p + 8) n))) = false) := Lib.hid (by rw [e7]; exact hs5)
              clear hR h e5 e6 e7 hrd2 hpn hs5
              go_enter Tryd.func30, Tryd.ntmps30
              go_wp2_with (first
                | (go_at_call 64; refine (outside_any _ _ _ _ _ _ HD.out).mono ?_; rintro e w' ⟨rfl, rfl⟩)
                | (go_at_call 57; (with_reducible refine (HSUM.out _ _ ((Below.refl _ _).alloc (Nat.le_refl _) _) (by simp [go_sem])).mono ?_); rintro e w5 ⟨rfl, rfl⟩)
                | (go_at_call 66; (with_reducible refine (is_any (HV.out.alloc _) hmax ((p : Int) + 4) (by omega) (by omega) _ (crc_lt _) true HS.out).mono ?_); rintro e w6 ⟨rfl, hb6⟩; have hb6' := ((Below.refl _ _).alloc (Nat.le_refl _) _).trans (hb6.mono (by simp)); obtain ⟨k0, k1, k2, k3, g0, g1, g2, g3, gn⟩ := hc.out _ hb6'))
              go_quiet (fail)
              go_wp2_with (first
                | (go_at_call 57; (with_reducible refine (HSUM2.out _ _ ((below_dn hb6' _).alloc (below_dn hb6' _).size _) (cell_newd _ _ _ _)).mono ?_); rintro e w7 ⟨rfl, rfl⟩)
                | (go_at_call 66; (with_reducible refine (is_any (HV.out.below ((below_dn hb6' _).alloc (below_dn hb6' _).size _)) hmax ((p : Int) + 8 + n) (by omega) (by omega) _ (crc_lt _) false HS2.out).mono ?_); rintro e w8 ⟨rfl, hb8⟩; have hb8' := ((below_dn hb6' _).alloc (below_dn hb6' _).size _).trans (hb8.mono (by have := hb6'.size; simp; omega)))
                | (go_at_call 67; (with_reducible refine (bytesClone_any _ (HR2.out.below hb8') HPN.out).mono ?_); rintro e w9 ⟨s9, rfl, hacc9⟩))
              go_ret3
              exact GivesPE.of HR.out ((Acc.nil _ _).later hb8')
            · rw [if_neg hs5] at hR
              have HR := Lib.hid hR.symm
              have HS2 : Hid ((piece bs ((p : Int) + 8 + n).toNat 4 == le4 (crc (piece bs (p + 8) n))) = true) := Lib.hid (by rw [e7]; simpa using hs5)
              have HPN : Hid ((piece bs (p + 8) n).length ≤ 70368744177664) := Lib.hid (by rw [hpn]; omega)
              clear hR h e5 e6 e7 hrd2 hpn hs5
              go_enter Tryd.func30, Tryd.ntmps30
              go_wp2_with (first
                | (go_at_call 64; refine (outside_any _ _ _ _ _ _ HD.out).mono ?_; rintro e w' ⟨rfl, rfl⟩)
                | (go_at_call 57; (with_reducible refine (HSUM.out _ _ ((Below.refl _ _).alloc (Nat.le_refl _) _) (by simp [go_sem])).mono ?_); rintro e w5 ⟨rfl, rfl⟩)
                | (go_at_call 66; (with_reducible refine (is_any (HV.out.alloc _) hmax ((p : Int) + 4) (by omega) (by omega) _ (crc_lt _) true HS.out).mono ?_); rintro e w6 ⟨rfl, hb6⟩; have hb6' := ((Below.refl _ _).alloc (Nat.le_refl _) _).trans (hb6.mono (by simp)); obtain ⟨k0, k1, k2, k3, g0, g1, g2, g3, gn⟩ := hc.out _ hb6'))
              go_quiet (fail)
              go_wp2_with (first
                | (go_at_call 57; (with_reducible refine (HSUM2.out _ _ ((below_dn hb6' _).alloc (below_dn hb6' _).size _) (cell_newd _ _ _ _)).mono ?_); rintro e w7 ⟨rfl, rfl⟩)
                | (go_at_call 66; (with_reducible refine (is_any (HV.out.below ((below_dn hb6' _).alloc (below_dn hb6' _).size _)) hmax ((p : Int) + 8 + n) (by omega) (by omega) _ (crc_lt _) true HS2.out).mono ?_); rintro e w8 ⟨rfl, hb8⟩; have hb8' := ((below_dn hb6' _).alloc (below_dn hb6' _).size _).trans (hb8.mono (by have := hb6'.size; simp; omega)))
                | (go_at_call 67; (with_reducible refine (bytesClone_any _ (HR2.out.below hb8') HPN.out).mono ?_); rintro e w9 ⟨s9, rfl, hacc9⟩))
              go_ret3
              exact GivesPE.of (by rw [HR.out]; simp; omega) (hacc9.weaken hb8')
end Go.Proofs.YtmlmbampgbiaeaaDoor
