/- The check sum: bit by bit, and by halves of a byte. No program in sight. -/
import Derived.Test.YtmlmbampgbiaeaaDoorPlain2
namespace Go.Proofs.YtmlmbampgbiaeaaDoor

def poly : Nat := 2197175160
/-- One step of the sum. -/
def st (x : Nat) : Nat := if x % 2 = 1 then x / 2 ^^^ poly else x / 2
def st4 (x : Nat) : Nat := st (st (st (st x)))
def crcB (r : Nat) (b : UInt8) : Nat := st4 (st4 (r ^^^ b.toNat))
def crcF (r : Nat) (bs : List UInt8) : Nat := bs.foldl crcB r
def crc (bs : List UInt8) : Nat := 4294967295 - crcF 4294967295 bs

theorem xor_half (a b : Nat) : (a ^^^ b) / 2 = a / 2 ^^^ b / 2 := by
  apply Nat.eq_of_testBit_eq; intro i
  simp [Nat.testBit_div_two, Nat.testBit_xor]
theorem xor_mod2 (a b : Nat) : (a ^^^ b) % 2 = (a % 2 + b % 2) % 2 := by
  have h := Nat.testBit_xor a b 0
  simp only [Nat.testBit_zero] at h
  rcases Nat.mod_two_eq_zero_or_one a with h1 | h1 <;> rcases Nat.mod_two_eq_zero_or_one b with h2 | h2 <;>
    rcases Nat.mod_two_eq_zero_or_one (a ^^^ b) with h3 | h3 <;> simp_all
theorem st_xor (a b : Nat) : st (a ^^^ b) = st a ^^^ st b := by
  unfold st
  rw [xor_half, xor_mod2]
  rcases Nat.mod_two_eq_zero_or_one a with h1 | h1 <;> rcases Nat.mod_two_eq_zero_or_one b with h2 | h2 <;> simp [h1, h2]
  · rw [Nat.xor_assoc]
  · rw [Nat.xor_assoc, Nat.xor_assoc, Nat.xor_comm (b / 2)]
  · rw [show a / 2 ^^^ poly ^^^ (b / 2 ^^^ poly) = a / 2 ^^^ b / 2 ^^^ (poly ^^^ poly) by
      rw [Nat.xor_assoc, Nat.xor_assoc, ← Nat.xor_assoc poly, Nat.xor_comm poly (b / 2), Nat.xor_assoc]]
    simp
theorem st4_xor (a b : Nat) : st4 (a ^^^ b) = st4 a ^^^ st4 b := by simp only [st4, st_xor]
theorem st_even (a : Nat) : st (2 * a) = a := by unfold st; rw [if_neg (by omega)]; omega
theorem st4_sixteen (a : Nat) : st4 (16 * a) = a := by
  unfold st4
  rw [show 16 * a = 2 * (8 * a) by omega, st_even, show 8 * a = 2 * (4 * a) by omega, st_even, show 4 * a = 2 * (2 * a) by omega, st_even, st_even]
theorem split16 (x : Nat) : x = 16 * (x / 16) ^^^ x % 16 := by
  have h := Nat.two_pow_add_eq_or_of_lt (i := 4) (b := x % 16) (by omega) (x / 16)
  have hx : 16 * (x / 16) ^^^ x % 16 = 16 * (x / 16) ||| x % 16 := by
    apply Nat.eq_of_testBit_eq; intro i
    rw [Nat.testBit_xor, Nat.testBit_or, show (16 : Nat) = 2 ^ 4 from rfl, Nat.testBit_two_pow_mul, Nat.testBit_mod_two_pow]
    rcases Nat.lt_or_ge i 4 with hi | hi
    · have h1 : ¬ 4 ≤ i := by omega
      simp [h1]
    · have h2 : ¬ i < 4 := by omega
      simp [h2]
  rw [hx]; simp at h; omega
/-- What four steps make of half a byte. -/
def tab (i : Nat) : Nat := st4 i
theorem st4_eq (x : Nat) : st4 x = x / 16 ^^^ tab (x % 16) := by
  conv => lhs; rw [split16 x]
  rw [st4_xor, st4_sixteen]; rfl
theorem xor_lt {a b : Nat} (k : Nat) (ha : a < 2 ^ k) (hb : b < 2 ^ k) : a ^^^ b < 2 ^ k := Nat.xor_lt_two_pow ha hb
theorem st_lt {x : Nat} (h : x < 4294967296) : st x < 4294967296 := by
  unfold st
  split
  · exact xor_lt 32 (by omega) (by unfold poly; omega)
  · omega
theorem st4_lt {x : Nat} (h : x < 4294967296) : st4 x < 4294967296 := st_lt (st_lt (st_lt (st_lt h)))
theorem crcB_lt {r : Nat} (b : UInt8) (h : r < 4294967296) : crcB r b < 4294967296 :=
  st4_lt (st4_lt (xor_lt 32 h (by have := b.toNat_lt; omega)))
theorem crcF_lt (bs : List UInt8) : ∀ {r : Nat}, r < 4294967296 → crcF r bs < 4294967296 := by
  induction bs with
  | nil => intro r h; exact h
  | cons b bs ih => intro r h; exact ih (crcB_lt b h)
theorem crcF_snoc (r : Nat) (l : List UInt8) (c : UInt8) : crcF r (l ++ [c]) = crcB (crcF r l) c := by simp [crcF]
theorem crcF_append (r : Nat) (l m : List UInt8) : crcF r (l ++ m) = crcF (crcF r l) m := by simp [crcF]
theorem crc_lt (bs : List UInt8) : crc bs < 4294967296 := by unfold crc; omega

theorem xor16 (a b : Nat) : (a ^^^ b) / 16 = a / 16 ^^^ b / 16 := by
  rw [show (16 : Nat) = 2 * 2 * 2 * 2 from rfl]
  simp only [← Nat.div_div_eq_div_mul, xor_half]
theorem xor_mod16 (a b : Nat) : (a ^^^ b) % 16 = (a % 16) ^^^ (b % 16) := by
  apply Nat.eq_of_testBit_eq; intro i
  rw [show (16 : Nat) = 2 ^ 4 from rfl, Nat.testBit_mod_two_pow, Nat.testBit_xor, Nat.testBit_xor, Nat.testBit_mod_two_pow, Nat.testBit_mod_two_pow]
  by_cases h : i < 4 <;> simp [h]
theorem xor_mod16_l (a b : Nat) : (a % 256 ^^^ b) % 16 = (a ^^^ b) % 16 := by
  rw [xor_mod16, xor_mod16 a b]; congr 1; omega
/-- The two lines of the program. -/
def half1 (r : Nat) (b : UInt8) : Nat := r / 16 ^^^ tab ((r % 256 ^^^ b.toNat) % 16)
def half2 (r : Nat) (b : UInt8) : Nat := r / 16 ^^^ tab ((r % 256 ^^^ b.toNat / 16) % 16)
theorem halves (r : Nat) (b : UInt8) : half2 (half1 r b) b = crcB r b := by
  have h1 : st4 (r ^^^ b.toNat) = half1 r b ^^^ b.toNat / 16 := by
    rw [st4_eq, half1, xor16, xor_mod16_l, Nat.xor_assoc, Nat.xor_assoc, Nat.xor_comm (b.toNat / 16)]
  have hb := b.toNat_lt
  have h0 : b.toNat / 16 / 16 = 0 := by omega
  rw [crcB, h1, st4_eq, half2, xor16, h0, Nat.xor_zero, xor_mod16_l]
theorem tab_lt {i : Nat} (h : i < 16) : tab i < 4294967296 := st4_lt (by omega)
theorem half1_lt {r : Nat} (b : UInt8) (h : r < 4294967296) : half1 r b < 4294967296 := xor_lt 32 (by omega) (tab_lt (by omega))

/-- The lines of the reference: r and c after j of the eight bits. -/
def bitR (p : Nat × Nat) : Nat × Nat := (if p.1 % 2 ≠ p.2 % 2 then p.1 / 2 ^^^ poly else p.1 / 2, p.2 / 2)
theorem bitR_xor (p : Nat × Nat) : (bitR p).1 ^^^ (bitR p).2 = st (p.1 ^^^ p.2) := by
  unfold bitR st
  rw [xor_half, xor_mod2]
  rcases Nat.mod_two_eq_zero_or_one p.1 with h1 | h1 <;> rcases Nat.mod_two_eq_zero_or_one p.2 with h2 | h2 <;> simp [h1, h2]
  · rw [Nat.xor_assoc, Nat.xor_assoc, Nat.xor_comm poly]
  · rw [Nat.xor_assoc, Nat.xor_assoc, Nat.xor_comm poly]
def bitsR : Nat → Nat × Nat → Nat × Nat
  | 0, p => p
  | k + 1, p => bitR (bitsR k p)
def stN : Nat → Nat → Nat
  | 0, x => x
  | k + 1, x => st (stN k x)
theorem bitsR_xor (k : Nat) (p : Nat × Nat) : (bitsR k p).1 ^^^ (bitsR k p).2 = stN k (p.1 ^^^ p.2) := by
  induction k with
  | zero => rfl
  | succ k ih => rw [bitsR, bitR_xor, ih, stN]
theorem bitsR_snd (k : Nat) (p : Nat × Nat) : (bitsR k p).2 = p.2 / 2 ^ k := by
  induction k with
  | zero => simp [bitsR]
  | succ k ih => rw [bitsR]; simp only [bitR]; rw [ih, Nat.div_div_eq_div_mul, Nat.pow_succ]
theorem bitsR_eight (r : Nat) (b : UInt8) : (bitsR 8 (r, b.toNat)).1 = crcB r b := by
  have h := bitsR_xor 8 (r, b.toNat)
  have hb := b.toNat_lt
  have h2 : (bitsR 8 (r, b.toNat)).2 = 0 := by rw [bitsR_snd]; simp; omega
  rw [h2, Nat.xor_zero] at h
  rw [h]; rfl
theorem bitsR_lt (k : Nat) (p : Nat × Nat) (h : p.1 < 4294967296) : (bitsR k p).1 < 4294967296 := by
  induction k with
  | zero => exact h
  | succ k ih =>
    rw [bitsR]; simp only [bitR]
    split
    · exact xor_lt 32 (by omega) (by unfold poly; omega)
    · omega

theorem ones_sub {r : Nat} (h : r < 4294967296) : 4294967295 ^^^ r = 4294967295 - r := by
  apply Nat.eq_of_testBit_eq; intro i
  rw [Nat.testBit_xor, show (4294967295 : Nat) = 2 ^ 32 - 1 from rfl, Nat.testBit_two_pow_sub_one, show 2 ^ 32 - 1 - r = 2 ^ 32 - (r + 1) by omega, Nat.testBit_two_pow_sub_succ (by omega)]
  by_cases hi : i < 32
  · simp [hi]
  · simp [hi]
    exact Nat.testBit_lt_two_pow (Nat.lt_of_lt_of_le (show r < 2 ^ 32 by omega) (Nat.pow_le_pow_right (by omega) (by omega)))
end Go.Proofs.YtmlmbampgbiaeaaDoor
