/- The walks of layer 1: ReadFrame of the reference. -/
import Derived.Test.YtmlmbampgbiaeaaDoorWire13
namespace Go.Proofs.YtmlmbampgbiaeaaDoor
open Go.RowKit

theorem Same_r {v u : Value} {x y : List UInt8} {r : Bool} (hr : (x == y) = r) (w : World) (hv : RdB w v x) (hu : RdB w u y) :
    Calls Tryd.prog 107 #[v, u] w fun e w' => e = .returned (.bool r) ∧ w = w' := by
  subst hr; exact refSame_any w hv hu

set_option maxRecDepth 50000 in
set_option maxHeartbeats 2000000 in
theorem refReadFrame_any {w : World} {v : Value} {bs : List UInt8} (h : RdB w v bs) (hmax : bs.length ≤ 70368744177664) (at_ : Int) :
    Calls Tryd.prog 85 #[v, .int .i64 at_] w (GivesPE w (readFrame bs at_)) := by
  obtain ⟨a, b, off, cap, rfl, hc1, hc2, hix, hld, _⟩ := h.open
  have HV := Lib.hid h
  obtain ⟨R, hR⟩ : ∃ R, readFrame bs at_ = R := ⟨_, rfl⟩
  rw [hR]
  unfold readFrame at hR
  clear hld hix hc1 hc2
  by_cases hout : at_ < 0 ∨ (bs.length : Int) < at_
  · have hd : (decide (at_ < 0) || decide ((bs.length:Int) < at_)) = true := by simpa using hout
    have HD := Lib.hid hd; clear hd
    rw [if_pos hout] at hR
    have HR := Lib.hid hR.symm
    clear hout hR h
    go_enter Tryd.func85, Tryd.ntmps85
    go_wp2_with (go_at_call 103; refine (refOutside_any _ _ _ _ _ _ HD.out).mono ?_; rintro e w' ⟨rfl, rfl⟩)
    go_ret3
    exact GivesPE.of HR.out (Acc.nil _ _)
  · have hd : (decide (at_ < 0) || decide ((bs.length:Int) < at_)) = false := by simpa using hout
    have HD := Lib.hid hd; clear hd
    rw [if_neg hout] at hR
    by_cases h8 : (bs.length : Int) - at_ < 8
    · rw [if_pos h8] at hR
      have HR := Lib.hid hR.symm
      have ho2 : 0 ≤ at_ ∧ at_ ≤ bs.length := by omega
      clear hout hR h
      go_enter Tryd.func85, Tryd.ntmps85
      go_wp2_with (go_at_call 103; refine (refOutside_any _ _ _ _ _ _ HD.out).mono ?_; rintro e w' ⟨rfl, rfl⟩)
      go_ret3
      exact GivesPE.of HR.out (Acc.nil _ _)
    · rw [if_neg h8] at hR
      obtain ⟨p, rfl⟩ := Int.eq_ofNat_of_zero_le (show 0 ≤ at_ by omega)
      have hin : p + 8 ≤ bs.length := by omega
      simp only [Int.toNat_natCast] at hR
      obtain ⟨a1, n1, c1, hs1, hs2, hn1, hrd1⟩ := RdB.sl h p ((p : Int) + 4) (by omega) (by omega) (by omega)
      obtain ⟨a2, n2, c2, hs3, hs4, hn2, hrd2⟩ := RdB.sl h ((p : Int) + 4) ((p : Int) + 8) (by omega) (by omega) (by omega)
      rw [show ((p : Int) + 4).toNat - (p : Int).toNat = 4 by omega] at hrd1 hn1
      rw [show ((p : Int) + 8).toNat - ((p : Int) + 4).toNat = 4 by omega] at hrd2 hn2
      rw [show ((p : Int) + 4).toNat = p + 4 by omega] at hrd2
      have hp4 : (piece bs p 4).length ≤ 70368744177664 := by rw [piece_len _ _ _ (by omega)]; omega
      have HP4 := Lib.hid hp4
      have HR1 : Hid (RdB w (.slice a1 n1 c1) (piece bs p 4)) := Lib.hid hrd1
      have HR2 : Hid (RdB w (.slice a2 n2 c2) (piece bs (p + 4) 4)) := Lib.hid hrd2
      have hw4 : IntKind.i64.wrap ((p : Int) + 4) = (p : Int) + 4 := IntWalk.i64_in _ (by omega)
      have hw8 : IntKind.i64.wrap ((p : Int) + 8) = (p : Int) + 8 := IntWalk.i64_in _ (by omega)
      clear hout h8 hrd1 hrd2 hp4
      by_cases hs : (piece bs (p + 4) 4 == le4 (crc (piece bs p 4))) = false
      · rw [if_pos hs] at hR
        have HS : Hid ((le4 (crc (piece bs p 4)) == piece bs (p + 4) 4) = false) := Lib.hid (by rw [Bool.eq_false_iff] at *; simp at *; exact fun e => hs e.symm)
        have HR := Lib.hid hR.symm
        clear hR hs h
        go_enter Tryd.func85, Tryd.ntmps85
        go_wp2_with (go_at_call 103; refine (refOutside_any _ _ _ _ _ _ HD.out).mono ?_; rintro e w' ⟨rfl, rfl⟩)
        go_region_held3 (fun w' => True) (trivial) (first | (go_at_call 94; (with_reducible refine (Sealed_any HR1.out.drew HP4.out).mono ?_); rintro e w5 ⟨s5, rfl, hacc5⟩) | (go_at_call 107; (with_reducible refine (Same_r HS.out _ hacc5.rd (HR2.out.drew.below hacc5.bel)).mono ?_); rintro e w6 ⟨rfl, rfl⟩))
        have hb6 := below_undrew hacc5.bel
        go_wp2
        go_ret3
        exact GivesPE.of HR.out ((Acc.nil _ _).later hb6)
      · have HS : Hid ((le4 (crc (piece bs p 4)) == piece bs (p + 4) 4) = true) := Lib.hid (by simp at *; exact hs.symm)
        rw [if_neg hs] at hR
        obtain ⟨n, hn⟩ : ∃ n, n = num (piece bs p 4) := ⟨_, rfl⟩
        simp only [← hn] at hR
        have hnb : n < 4294967296 := by have := num_lt (piece bs p 4); rw [piece_len _ _ _ (by omega)] at this; omega
        have HN : Hid (∀ W, Below w.heap.size w W → Calls Tryd.prog 105 #[.slice a bs.length cap, .int .i64 p, .int .i64 4] W fun e w' => e = .returned (.int .u64 n) ∧ W = w') :=
          Lib.hid fun W hb => by rw [hn]; exact number_any p 4 W (HV.out.below hb) hmax (by omega) (by omega)
        have hwn := i64_of_u64 (n := (n : Int)) (by omega) (by omega)
        clear hs hn
        by_cases hbig : 1048576 < n
        · rw [if_pos hbig] at hR
          have HR := Lib.hid hR.symm
          clear hR h
          go_enter Tryd.func85, Tryd.ntmps85
          go_wp2_with (go_at_call 103; refine (refOutside_any _ _ _ _ _ _ HD.out).mono ?_; rintro e w' ⟨rfl, rfl⟩)
          go_region_held3 (fun w' => True) (trivial) (first | (go_at_call 94; (with_reducible refine (Sealed_any HR1.out.drew HP4.out).mono ?_); rintro e w5 ⟨s5, rfl, hacc5⟩) | (go_at_call 107; (with_reducible refine (Same_r HS.out _ hacc5.rd (HR2.out.drew.below hacc5.bel)).mono ?_); rintro e w6 ⟨rfl, rfl⟩))
          have hb6 := below_undrew hacc5.bel
          go_wp2_with (go_at_call 105; (with_reducible refine (HN.out _ hb6).mono ?_); rintro e w7 ⟨rfl, rfl⟩)
          go_ret3
          exact GivesPE.of HR.out ((Acc.nil _ _).later hb6)
        · rw [if_neg hbig] at hR
          by_cases htorn : bs.length < p + 8 + n + 4
          · rw [if_pos htorn] at hR
            have HR := Lib.hid hR.symm
            clear hR h
            go_enter Tryd.func85, Tryd.ntmps85
            go_wp2_with (go_at_call 103; refine (refOutside_any _ _ _ _ _ _ HD.out).mono ?_; rintro e w' ⟨rfl, rfl⟩)
            go_region_held3 (fun w' => True) (trivial) (first | (go_at_call 94; (with_reducible refine (Sealed_any HR1.out.drew HP4.out).mono ?_); rintro e w5 ⟨s5, rfl, hacc5⟩) | (go_at_call 107; (with_reducible refine (Same_r HS.out _ hacc5.rd (HR2.out.drew.below hacc5.bel)).mono ?_); rintro e w6 ⟨rfl, rfl⟩))
            have hb6 := below_undrew hacc5.bel
            go_wp2_with (go_at_call 105; (with_reducible refine (HN.out _ hb6).mono ?_); rintro e w7 ⟨rfl, rfl⟩)
            go_ret3
            exact GivesPE.of HR.out ((Acc.nil _ _).later hb6)
          · rw [if_neg htorn] at hR
            obtain ⟨a3, n3, c3, hs5, hs6, hn3, hrd3⟩ := RdB.sl h ((p : Int) + 8 + n) ((p : Int) + 12 + n) (by omega) (by omega) (by omega)
            rw [show ((p : Int) + 12 + n).toNat - ((p : Int) + 8 + n).toNat = 4 by omega] at hrd3 hn3
            rw [show ((p : Int) + 8 + n).toNat = p + 8 + n by omega] at hrd3
            have HR3 : Hid (RdB w (.slice a3 n3 c3) (piece bs (p + 8 + n) 4)) := Lib.hid hrd3
            have hpn : (piece bs (p + 8) n).length = n := piece_len _ _ _ (by omega)
            have HPN : Hid ((piece bs (p + 8) n).length ≤ 70368744177664) := Lib.hid (by rw [hpn]; omega)
            have HPart : Hid (∀ W, Below w.heap.size w W → Calls Tryd.prog 106 #[.slice a bs.length cap, .int .i64 ((p : Int) + 8), .int .i64 ((p : Int) + 8 + n)] W (Gives W (piece bs (p + 8) n))) :=
              Lib.hid fun W hb => by
                have := Part_any W (HV.out.below hb) ((p : Int) + 8) ((p : Int) + 8 + n) (by omega) (by omega) (by omega) hmax
                rw [show ((p : Int) + 8 + n).toNat - ((p : Int) + 8).toNat = n by omega, show ((p : Int) + 8).toNat = p + 8 by omega] at this
                exact this
            have hsm : p + 8 + n + 4 ≤ bs.length := by omega
            have hw12 : IntKind.i64.wrap ((p : Int) + 12) = (p : Int) + 12 := IntWalk.i64_in _ (by omega)
            have hw8n : IntKind.i64.wrap ((p : Int) + 8 + n) = (p : Int) + 8 + n := IntWalk.i64_in _ (by omega)
            have hw12n : IntKind.i64.wrap ((p : Int) + 12 + n) = (p : Int) + 12 + n := IntWalk.i64_in _ (by omega)
            clear hrd3 hpn
            by_cases hsb : (piece bs (p + 8 + n) 4 == le4 (crc (piece bs (p + 8) n))) = false
            · rw [if_pos hsb] at hR
              have HR := Lib.hid hR.symm
              have HS2 : Hid ((le4 (crc (piece bs (p + 8) n)) == piece bs (p + 8 + n) 4) = false) := Lib.hid (by rw [Bool.eq_false_iff] at *; simp at *; exact fun e => hsb e.symm)
              clear hR h hsb
              go_enter Tryd.func85, Tryd.ntmps85
              go_wp2_with (go_at_call 103; refine (refOutside_any _ _ _ _ _ _ HD.out).mono ?_; rintro e w' ⟨rfl, rfl⟩)
              go_region_held3 (fun w' => True) (trivial) (first | (go_at_call 94; (with_reducible refine (Sealed_any HR1.out.drew HP4.out).mono ?_); rintro e w5 ⟨s5, rfl, hacc5⟩) | (go_at_call 107; (with_reducible refine (Same_r HS.out _ hacc5.rd (HR2.out.drew.below hacc5.bel)).mono ?_); rintro e w6 ⟨rfl, rfl⟩))
              have hb6 := below_undrew hacc5.bel
              go_wp2_with (first
                | (go_at_call 105; (with_reducible refine (HN.out _ hb6).mono ?_); rintro e w7 ⟨rfl, rfl⟩)
                | (go_at_call 106; (with_reducible refine (HPart.out _ hb6).mono ?_); rintro e w8 ⟨s8, rfl, hacc8⟩; obtain ⟨a8, n8, c8, rfl, hn8⟩ := hacc8.sl))
              have hb8 := hb6.trans (hacc8.bel.mono hb6.size)
              go_region_held3 (fun w' => True) (trivial) (first | (go_at_call 94; (with_reducible refine (Sealed_any hacc8.rd.drew HPN.out).mono ?_); rintro e w9 ⟨s9, rfl, hacc9⟩) | (go_at_call 107; (with_reducible refine (Same_r HS2.out _ hacc9.rd ((HR3.out.below hb8).drew.below hacc9.bel)).mono ?_); rintro e w10 ⟨rfl, rfl⟩))
              have hb9 := below_undrew hacc9.bel
              go_wp2
              go_ret3
              exact GivesPE.of HR.out ((Acc.nil _ _).later (hb8.trans (hb9.mono hb8.size)))
            · rw [if_neg hsb] at hR
              have HR := Lib.hid hR.symm
              have HS2 : Hid ((le4 (crc (piece bs (p + 8) n)) == piece bs (p + 8 + n) 4) = true) := Lib.hid (by simp at *; exact hsb.symm)
              clear hR h hsb
              go_enter Tryd.func85, Tryd.ntmps85
              go_wp2_with (go_at_call 103; refine (refOutside_any _ _ _ _ _ _ HD.out).mono ?_; rintro e w' ⟨rfl, rfl⟩)
              go_region_held3 (fun w' => True) (trivial) (first | (go_at_call 94; (with_reducible refine (Sealed_any HR1.out.drew HP4.out).mono ?_); rintro e w5 ⟨s5, rfl, hacc5⟩) | (go_at_call 107; (with_reducible refine (Same_r HS.out _ hacc5.rd (HR2.out.drew.below hacc5.bel)).mono ?_); rintro e w6 ⟨rfl, rfl⟩))
              have hb6 := below_undrew hacc5.bel
              go_wp2_with (first
                | (go_at_call 105; (with_reducible refine (HN.out _ hb6).mono ?_); rintro e w7 ⟨rfl, rfl⟩)
                | (go_at_call 106; (with_reducible refine (HPart.out _ hb6).mono ?_); rintro e w8 ⟨s8, rfl, hacc8⟩; obtain ⟨a8, n8, c8, rfl, hn8⟩ := hacc8.sl))
              have hb8 := hb6.trans (hacc8.bel.mono hb6.size)
              go_region_held3 (fun w' => True) (trivial) (first | (go_at_call 94; (with_reducible refine (Sealed_any hacc8.rd.drew HPN.out).mono ?_); rintro e w9 ⟨s9, rfl, hacc9⟩) | (go_at_call 107; (with_reducible refine (Same_r HS2.out _ hacc9.rd ((HR3.out.below hb8).drew.below hacc9.bel)).mono ?_); rintro e w10 ⟨rfl, rfl⟩))
              have hb9 := below_undrew hacc9.bel
              go_wp2
              go_ret3
              exact GivesPE.of HR.out ((hacc8.weaken hb6).later hb9)
end Go.Proofs.YtmlmbampgbiaeaaDoor
