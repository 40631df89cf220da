/- The plain functions of layer 1: numbers as bytes, and back. No program in sight. -/
namespace Go.Proofs.YtmlmbampgbiaeaaDoor

def U64 (v : Nat) : Prop := v < 18446744073709551616

/-- Groups of seven bits, the lowest first. -/
def uintL (v : Nat) : List UInt8 := if 128 ≤ v then UInt8.ofNat (v % 128 + 128) :: uintL (v / 128) else [UInt8.ofNat v]
termination_by v
decreasing_by omega

theorem uintL_big {v : Nat} (h : 128 ≤ v) : uintL v = UInt8.ofNat (v % 128 + 128) :: uintL (v / 128) := by rw [uintL, if_pos h]
theorem uintL_small {v : Nat} (h : v < 128) : uintL v = [UInt8.ofNat v] := by rw [uintL, if_neg (by omega)]

theorem uintL_len_pow (k : Nat) : ∀ v, v < 128 ^ (k + 1) → (uintL v).length ≤ k + 1 := by
  induction k with
  | zero => intro v hv; rw [uintL_small (by simpa using hv)]; simp
  | succ k ih =>
    intro v hv
    by_cases h : 128 ≤ v
    · rw [uintL_big h]
      have := ih (v / 128) (by rw [Nat.div_lt_iff_lt_mul (by omega)]; rw [Nat.pow_succ] at hv; exact hv)
      simp; omega
    · rw [uintL_small (by omega)]; simp
theorem uintL_len {v : Nat} (h : U64 v) : (uintL v).length ≤ 10 := uintL_len_pow 9 v (by unfold U64 at h; omega)
theorem uintL_pos (v : Nat) : 0 < (uintL v).length := by
  by_cases h : 128 ≤ v
  · rw [uintL_big h]; simp
  · rw [uintL_small (by omega)]; simp

theorem U64.div {u : Nat} (h : U64 u) : U64 (u / 128) := by unfold U64 at *; omega
theorem toNat_ofNat {n : Nat} (h : n < 256) : (UInt8.ofNat n).toNat = n := by simp; omega

/-- Reads a number off the bytes from its i-th on: v is what the earlier ones say. The number, how many bytes, the error. -/
def rdU : List UInt8 → Nat → Nat → Nat × Nat × Int
  | [], _, _ => (0, 0, 10)
  | c :: r, i, v =>
    if i = 9 ∧ 1 < c.toNat then (0, 0, 13)
    else if c.toNat < 128 then (if c.toNat = 0 ∧ 0 < i then (0, 0, 11) else (v + c.toNat % 128 * 128 ^ i, i + 1, 0))
    else rdU r (i + 1) (v + c.toNat % 128 * 128 ^ i)

/-- ReadUint: the number, the place behind it, the error. -/
def readUint (b : List UInt8) (at_ : Int) : Nat × Int × Int :=
  if at_ < 0 ∨ (b.length : Int) < at_ then (0, 0, 1)
  else let r := rdU (b.drop at_.toNat) 0 0; (r.1, if r.2.2 = 0 then at_ + r.2.1 else 0, r.2.2)

theorem rdU_le : ∀ (l : List UInt8) (i v n k : Nat), rdU l i v = (n, k, 0) → i < k ∧ k ≤ i + l.length
  | [], i, v, n, k, h => by simp [rdU] at h
  | c :: r, i, v, n, k, h => by
    rw [rdU] at h
    split at h
    · simp at h
    · split at h
      · split at h
        · simp at h
        · simp at h; simp; omega
      · have := rdU_le r (i + 1) _ n k h
        simp; omega

theorem readUint_ok {b : List UInt8} {at_ : Int} {n : Nat} {p : Int} (h : readUint b at_ = (n, p, 0)) : 0 ≤ at_ ∧ at_ < p ∧ p ≤ b.length := by
  unfold readUint at h
  split at h
  · simp at h
  · rcases hr : rdU (b.drop at_.toNat) 0 0 with ⟨x, y, z⟩
    rw [hr] at h
    simp at h
    obtain ⟨h1, h2, h3⟩ := h
    subst h3
    have := rdU_le _ _ _ _ _ hr
    simp at this h2; omega
theorem readUint_err {b : List UInt8} {at_ : Int} {n : Nat} {p e : Int} (h : readUint b at_ = (n, p, e)) (he : e ≠ 0) : p = 0 := by
  unfold readUint at h
  split at h
  · simp at h; omega
  · simp at h
    obtain ⟨h1, h2, h3⟩ := h
    rw [h3, if_neg he] at h2; omega

/-- ReadBytes: the bytes, the place behind them, the error. -/
def readBytes (b : List UInt8) (at_ most : Int) : List UInt8 × Int × Int :=
  if (at_ < 0 ∨ (b.length : Int) < at_) ∨ most < 0 then ([], 0, 1)
  else
    let r := readUint b at_
    if r.2.2 ≠ 0 then ([], 0, r.2.2)
    else if most < (r.1 : Int) then ([], 0, 13)
    else if (b.length : Int) - r.2.1 < r.1 then ([], 0, 10)
    else ((b.drop r.2.1.toNat).take r.1, r.2.1 + r.1, 0)

/-- Each 0 with a 255 behind it. -/
def ordL : List UInt8 → List UInt8
  | [] => []
  | c :: r => if c = 0 then 0 :: 255 :: ordL r else c :: ordL r
theorem ordL_snoc : ∀ (l : List UInt8) (c : UInt8), ordL (l ++ [c]) = ordL l ++ (if c = 0 then [0, 255] else [c])
  | [], c => by simp [ordL]
  | d :: l, c => by
    simp only [List.cons_append, ordL, ordL_snoc l c]
    split <;> simp
theorem ordL_len (l : List UInt8) : (ordL l).length ≤ 2 * l.length := by
  induction l with
  | nil => simp [ordL]
  | cons c l ih => simp only [ordL]; split <;> simp <;> omega
/-- Ordered. -/
def orderedL (b : List UInt8) : List UInt8 := ordL b ++ [0, 1]

/-- Reads such a byte string: what it says, how many bytes, the error. -/
def rdO : List UInt8 → List UInt8 × Nat × Int
  | [] => ([], 0, 10)
  | c :: r =>
    if c ≠ 0 then (let x := rdO r; if x.2.2 = 0 then (c :: x.1, x.2.1 + 1, 0) else ([], 0, x.2.2))
    else match r with
      | [] => ([], 0, 10)
      | d :: r' => if d = 1 then ([], 2, 0) else if d ≠ 255 then ([], 0, 11) else (let x := rdO r'; if x.2.2 = 0 then (0 :: x.1, x.2.1 + 2, 0) else ([], 0, x.2.2))
def readOrdered (b : List UInt8) (at_ : Int) : List UInt8 × Int × Int :=
  if at_ < 0 ∨ (b.length : Int) < at_ then ([], 0, 1)
  else let x := rdO (b.drop at_.toNat); (x.1, if x.2.2 = 0 then at_ + x.2.1 else 0, x.2.2)

end Go.Proofs.YtmlmbampgbiaeaaDoor
