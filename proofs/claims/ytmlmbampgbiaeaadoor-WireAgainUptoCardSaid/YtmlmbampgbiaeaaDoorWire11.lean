/- The walks of layer 1: the sum, of the program and of the reference. The lists are shorter than 2^46. -/
import Derived.Test.YtmlmbampgbiaeaaDoorWire10
namespace Go.Proofs.YtmlmbampgbiaeaaDoor
open Go.RowKit

theorem flat_snoc (l : List (List UInt8)) (k : Nat) (h : k < l.length) : (l.take (k + 1)).flatten = (l.take k).flatten ++ l[k] := by
  rw [List.take_succ_eq_append_getElem h, List.flatten_append]; simp
theorem and15 (n : Nat) (h : n < 256) : bits .and .u8 (n : Int) 15 = ((n % 16 : Nat) : Int) := by
  rw [show (15 : Int) = ((15 : Nat) : Int) from rfl, u8_and_nat _ _ h (by omega)]
  congr 1
  exact Nat.and_two_pow_sub_one_eq_mod n 4
theorem sum_facts {w : World} (hT : Tab w) (q : Nat) (c : UInt8) (hq : q < 4294967296) :
    ∃ (i1 q1 i2 q2 : Nat) (t1 t2 : Int), i1 < 16 ∧ i2 < 16 ∧ q1 < 4294967296 ∧ q2 < 4294967296 ∧ Hid (q2 = crcB q c) ∧
      bits .and .u8 (bits .xor .u8 ((q : Int) % 256) (c.toNat : Int)) 15 = (i1 : Int) ∧ w.cell? ⟨0, i1, none⟩ = some (.int .u32 t1) ∧ bits .xor .u32 ((q : Int) / 16) t1 = (q1 : Int) ∧
      bits .and .u8 (bits .xor .u8 ((q1 : Int) % 256) ((c.toNat : Int) / 16)) 15 = (i2 : Int) ∧ w.cell? ⟨0, i2, none⟩ = some (.int .u32 t2) ∧ bits .xor .u32 ((q1 : Int) / 16) t2 = (q2 : Int) := by
  have hcb := c.toNat_lt
  have h1 := half1_lt c hq
  have x1 : q % 256 ^^^ c.toNat < 256 := xor_lt 8 (by omega) (by omega)
  have x2 : half1 q c % 256 ^^^ c.toNat / 16 < 256 := xor_lt 8 (by omega) (by omega)
  refine ⟨(q % 256 ^^^ c.toNat) % 16, half1 q c, (half1 q c % 256 ^^^ c.toNat / 16) % 16, crcB q c, _, _, by omega, by omega, h1, crcB_lt c hq, Lib.hid rfl, ?_, hT.2 _ (by omega), ?_, ?_, hT.2 _ (by omega), ?_⟩
  · rw [show (q : Int) % 256 = ((q % 256 : Nat) : Int) by omega, u8_xor_nat _ _ (by omega) (by omega), and15 _ x1]
  · rw [show (q : Int) / 16 = ((q / 16 : Nat) : Int) by omega, u32_xor_nat _ _ (by omega) (tab_lt (by omega))]; rfl
  · rw [show ((half1 q c : Nat) : Int) % 256 = ((half1 q c % 256 : Nat) : Int) by omega, show (c.toNat : Int) / 16 = ((c.toNat / 16 : Nat) : Int) by omega, u8_xor_nat _ _ (by omega) (by omega), and15 _ x2]
  · rw [show ((half1 q c : Nat) : Int) / 16 = ((half1 q c / 16 : Nat) : Int) by omega, u32_xor_nat _ _ (by omega) (tab_lt (by omega)), ← halves]; rfl
theorem u8_xor_cast (a b : Nat) (ha : a < 256) (hb : b < 256) : bits .xor .u8 (a : Int) (b : Int) = ((a ^^^ b : Nat) : Int) := u8_xor_nat a b ha hb

set_option maxRecDepth 20000 in
set_option maxHeartbeats 1000000 in
theorem Sum_any {v : Value} {bss : List (List UInt8)} (w : World) (hT : Tab w) (hv : RdBB w v bss) (hmax : bss.length ≤ 70368744177664) (hmb : ∀ b ∈ bss, b.length ≤ 70368744177664) :
    Calls Tryd.prog 57 #[v] w fun e w' => e = .returned (.int .u32 (crc bss.flatten)) ∧ w = w' := by
  obtain ⟨a, b, off, cap, rfl, hcap, hix, hld⟩ := hv.open
  have HLD := Lib.hid hld
  have HMB := Lib.hid hmb
  obtain ⟨R, hR⟩ : ∃ R, crc bss.flatten = R := ⟨_, rfl⟩
  have HR := Lib.hid hR
  rw [hR]
  clear hld hv hmb hR
  go_enter Tryd.func57, Tryd.ntmps57
  go_wp2
  go_loop [3, 10] (fun x i => ∃ (r k : Nat), r < 4294967296 ∧ x = .int .u32 r ∧ i = .int .i64 k ∧ k ≤ bss.length ∧ r = crcF 4294967295 (bss.take k).flatten)
    (fun _ i => bss.length - (intOf i).toNat)
  case atStart => exact ⟨4294967295, 0, by omega, rfl, rfl, by omega, by simp [crcF]⟩
  case round =>
    obtain ⟨r, k, hr, rfl, rfl, hk, heq⟩ := hrel
    have HE := Lib.hid heq; clear heq
    by_cases h : k < bss.length
    · obtain ⟨bs, hbs⟩ : ∃ bs, bs = bss[k] := ⟨_, rfl⟩
      obtain ⟨hv, hhc, hrd⟩ := HLD.out k h
      rw [← hbs] at hrd
      have hbl : bs.length ≤ 70368744177664 := HMB.out bs (by rw [hbs]; exact List.getElem_mem _)
      have HS := Lib.hid (flat_snoc bss k h)
      have HBS := Lib.hid hbs
      obtain ⟨a', b', off', cap', rfl, -, -, hix', hld', _⟩ := hrd.open
      have HLD' := Lib.hid hld'
      have HT := Lib.hid hT
      clear hbs hld' hrd hT
      go_wp2_with fail
      go_loop [3, 16] (fun x i => ∃ (q j : Nat), q < 4294967296 ∧ x = .int .u32 q ∧ i = .int .i64 j ∧ j ≤ bs.length ∧ q = crcF r (bs.take j))
        (fun _ i => bs.length - (intOf i).toNat)
      case atStart => exact ⟨r, 0, hr, rfl, rfl, by omega, by simp [crcF]⟩
      case round =>
        obtain ⟨q, j, hq, rfl, rfl, hj, heq⟩ := hrel
        have HQ := Lib.hid heq; clear heq
        by_cases hlt : j < bs.length
        · obtain ⟨c, hc⟩ : ∃ c, c = bs[j] := ⟨_, rfl⟩
          have hcell := HLD'.out j hlt
          rw [← hc] at hcell
          have hcb := c.toNat_lt
          have HS' := Lib.hid (take_snoc bs j hlt)
          have HC := Lib.hid hc
          clear hc
          obtain ⟨i1, q1, i2, q2, t1, t2, hi1, hi2, hq1, hq2, HC2, e1, e2, e3, e4, e5, e6⟩ := sum_facts HT.out q c hq
          go_wp2_with fail
          go_round
          case rel => exact ⟨q2, j + 1, hq2, rfl, by go_num, by omega, by rw [HC2.out, HS'.out, crcF_snoc, ← HQ.out, ← HC.out]⟩
          case measure => simp [intOf] <;> omega
        · obtain rfl : j = bs.length := by omega
          go_wp2
          go_round
          case rel => exact ⟨q, k + 1, hq, rfl, by go_num, by omega, by rw [HS.out, crcF_append, ← HE.out, ← HBS.out, HQ.out, List.take_length]⟩
          case measure => simp [intOf] <;> omega
    · obtain rfl : k = bss.length := by omega
      have HX : Hid (bits .xor .u32 IntKind.u32.max (r : Int) = ((4294967295 - r : Nat) : Int)) := Lib.hid (by
        rw [show IntKind.u32.max = ((4294967295 : Nat) : Int) by simp [IntKind.max, IntKind.bits, IntKind.signed], u32_xor_nat _ _ (by omega) hr, ones_sub hr])
      have HF : Hid (4294967295 - r = R) := Lib.hid (by rw [← HR.out, HE.out, List.take_length]; rfl)
      go_wp2
      go_ret
      exact ⟨ret_eq (by rw [HX.out, HF.out]), rfl⟩

theorem odd_eq (r c : Nat) : (((r : Int) % 2 != (c : Int) % 2) : Bool) = decide (r % 2 ≠ c % 2) := by
  rw [Bool.eq_iff_iff]; simp; omega
theorem xor_poly {r : Nat} (h : r < 4294967296) : bits .xor .u32 ((r : Int) / 2) 2197175160 = ((r / 2 ^^^ poly : Nat) : Int) := by
  rw [show (2197175160 : Int) = ((2197175160 : Nat) : Int) from rfl, show (r : Int) / 2 = ((r / 2 : Nat) : Int) by omega, u32_xor_nat _ _ (by omega) (by omega)]; rfl

set_option maxRecDepth 20000 in
set_option maxHeartbeats 2000000 in
theorem refSum_any {v : Value} {bss : List (List UInt8)} (w : World) (hv : RdBB w v bss) (hmax : bss.length ≤ 70368744177664) (hmb : ∀ b ∈ bss, b.length ≤ 70368744177664) :
    Calls Tryd.prog 83 #[v] w fun e w' => e = .returned (.int .u32 (crc bss.flatten)) ∧ w = w' := by
  obtain ⟨a, b, off, cap, rfl, hcap, hix, hld⟩ := hv.open
  have HLD := Lib.hid hld
  have HMB := Lib.hid hmb
  obtain ⟨R, hR⟩ : ∃ R, crc bss.flatten = R := ⟨_, rfl⟩
  have HR := Lib.hid hR
  rw [hR]
  clear hld hv hmb hR
  go_enter Tryd.func83, Tryd.ntmps83
  go_wp2
  go_loop [3, 4] (fun x i => ∃ (r k : Nat), r < 4294967296 ∧ x = .int .u32 r ∧ i = .int .i64 k ∧ k ≤ bss.length ∧ r = crcF 4294967295 (bss.take k).flatten)
    (fun _ i => bss.length - (intOf i).toNat)
  case atStart => exact ⟨4294967295, 0, by omega, rfl, rfl, by omega, by simp [crcF]⟩
  case round =>
    obtain ⟨r, k, hr, rfl, rfl, hk, heq⟩ := hrel
    have HE := Lib.hid heq; clear heq
    by_cases h : k < bss.length
    · obtain ⟨bs, hbs⟩ : ∃ bs, bs = bss[k] := ⟨_, rfl⟩
      obtain ⟨hv, hhc, hrd⟩ := HLD.out k h
      rw [← hbs] at hrd
      have hbl : bs.length ≤ 70368744177664 := HMB.out bs (by rw [hbs]; exact List.getElem_mem _)
      have HS := Lib.hid (flat_snoc bss k h)
      have HBS := Lib.hid hbs
      obtain ⟨a', b', off', cap', rfl, -, -, hix', hld', _⟩ := hrd.open
      have HLD' := Lib.hid hld'
      clear hbs hld' hrd
      go_wp2_with fail
      go_loop [3, 5] (fun x i => ∃ (q j : Nat), q < 4294967296 ∧ x = .int .u32 q ∧ i = .int .i64 j ∧ j ≤ bs.length ∧ q = crcF r (bs.take j))
        (fun _ i => bs.length - (intOf i).toNat)
      case atStart => exact ⟨r, 0, hr, rfl, rfl, by omega, by simp [crcF]⟩
      case round =>
        obtain ⟨q, j, hq, rfl, rfl, hj, heq⟩ := hrel
        have HQ := Lib.hid heq; clear heq
        by_cases hlt : j < bs.length
        · obtain ⟨c, hc⟩ : ∃ c, c = bs[j] := ⟨_, rfl⟩
          have hcell := HLD'.out j hlt
          rw [← hc] at hcell
          have hcb := c.toNat_lt
          have HS' := Lib.hid (take_snoc bs j hlt)
          have HC := Lib.hid hc
          clear hc
          go_wp2_with fail
          go_loop [3, 6, 7] (fun x y i => ∃ (p d m : Nat), p < 4294967296 ∧ d < 256 ∧ x = .int .u32 p ∧ y = .int .u8 d ∧ i = .int .i64 m ∧ m ≤ 8 ∧ (p, d) = bitsR m (q, c.toNat))
            (fun _ _ i => 8 - (intOf i).toNat)
          case atStart => exact ⟨q, c.toNat, 0, hq, by omega, rfl, rfl, rfl, by omega, rfl⟩
          case round =>
            obtain ⟨p, d, m, hp, hd, rfl, rfl, rfl, hm, heq⟩ := hrel
            have HB := Lib.hid heq; clear heq
            by_cases hm8 : m < 8
            · have HB2 : Hid (bitR (p, d) = bitsR (m + 1) (q, c.toNat)) := Lib.hid (by rw [bitsR, HB.out])
              have HB3 := Lib.hid (bitsR_lt (m + 1) (q, c.toNat) hq)
              by_cases hodd : p % 2 ≠ d % 2
              · have ho : (((p : Int) % 2 != (d : Int) % 2) : Bool) = true := by rw [odd_eq]; simpa using hodd
                have hx := xor_poly hp
                have HN : Hid ((p / 2 ^^^ poly, d / 2) = bitsR (m + 1) (q, c.toNat)) := Lib.hid (by rw [← HB2.out, bitR, if_pos hodd])
                have HL : Hid (p / 2 ^^^ poly < 4294967296) := Lib.hid (by have := HB3.out; rw [← HN.out] at this; exact this)
                clear hodd
                go_wp2_with fail
                go_round
                case rel => exact ⟨p / 2 ^^^ poly, d / 2, m + 1, HL.out, by omega, rfl, by simp, by go_num, by omega, HN.out⟩
                case measure => simp [intOf] <;> omega
              · have ho : (((p : Int) % 2 != (d : Int) % 2) : Bool) = false := by rw [odd_eq]; simpa using hodd
                have HN : Hid ((p / 2, d / 2) = bitsR (m + 1) (q, c.toNat)) := Lib.hid (by rw [← HB2.out, bitR, if_neg hodd])
                clear hodd
                go_wp2_with fail
                go_round
                case rel => exact ⟨p / 2, d / 2, m + 1, by omega, by omega, by simp, by simp, by go_num, by omega, HN.out⟩
                case measure => simp [intOf] <;> omega
            · obtain rfl : m = 8 := by omega
              have HN : Hid (p = crcB q c) := Lib.hid (by rw [← bitsR_eight, ← HB.out])
              go_wp2_with fail
              go_round
              case rel => exact ⟨p, j + 1, hp, rfl, by go_num, by omega, by rw [HS'.out, crcF_snoc, ← HQ.out, ← HC.out]; exact HN.out⟩
              case measure => simp [intOf] <;> omega
        · obtain rfl : j = bs.length := by omega
          go_wp2
          go_round
          case rel => exact ⟨q, k + 1, hq, rfl, by go_num, by omega, by rw [HS.out, crcF_append, ← HE.out, ← HBS.out, HQ.out, List.take_length]⟩
          case measure => simp [intOf] <;> omega
    · obtain rfl : k = bss.length := by omega
      have HF : Hid (4294967295 - r = R) := Lib.hid (by rw [← HR.out, HE.out, List.take_length]; rfl)
      go_wp2
      go_ret
      exact ⟨ret_eq (by rw [← HF.out]; omega), rfl⟩
end Go.Proofs.YtmlmbampgbiaeaaDoor
