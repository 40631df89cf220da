/- The plain functions of layer 1: numbers of eight bytes, the highest first. No program in sight. -/
import Derived.Test.YtmlmbampgbiaeaaDoorPlain1
namespace Go.Proofs.YtmlmbampgbiaeaaDoor

/-- k bytes of n, the highest first. -/
def be : Nat → Nat → List UInt8
  | 0, _ => []
  | k + 1, n => be k (n / 256) ++ [UInt8.ofNat (n % 256)]
theorem be_len : ∀ k n, (be k n).length = k
  | 0, _ => rfl
  | k + 1, n => by simp [be, be_len k]
theorem be_cons : ∀ k n, be (k + 1) n = UInt8.ofNat (n / 256 ^ k % 256) :: be k n
  | 0, n => by simp [be]
  | k + 1, n => by
    have h := be_cons k (n / 256)
    rw [be, h, be, Nat.div_div_eq_div_mul, Nat.pow_succ, Nat.mul_comm 256]
    rfl
/-- What bytes say, the highest first. -/
def num (l : List UInt8) : Nat := l.foldl (fun v c => 256 * v + c.toNat) 0
theorem num_snoc (l : List UInt8) (c : UInt8) : num (l ++ [c]) = 256 * num l + c.toNat := by simp [num]
theorem num_lt (l : List UInt8) : num l < 256 ^ l.length := by
  induction h : l.length generalizing l with
  | zero => have : l = [] := by cases l <;> simp_all
            subst this; simp [num]
  | succ n ih =>
    have hne : l ≠ [] := by intro e; subst e; simp at h
    have e := List.dropLast_concat_getLast hne
    have hl : l.dropLast.length = n := by simp [h]
    have := ih _ hl
    rw [← e, num_snoc, Nat.pow_succ]
    have := (l.getLast hne).toNat_lt
    omega
theorem num_be : ∀ k n, num (be k n) = n % 256 ^ k
  | 0, n => by simp [be, num, Nat.mod_one]
  | k + 1, n => by
    rw [be, num_snoc, num_be k, toNat_ofNat (by omega), Nat.pow_succ, Nat.mul_comm (256 ^ k), Nat.mod_mul, Nat.mul_comm]
    omega
theorem be_num : ∀ (l : List UInt8), be l.length (num l) = l := by
  intro l
  induction h : l.length generalizing l with
  | zero => cases l <;> simp_all [be]
  | succ n ih =>
    have hne : l ≠ [] := by intro e; subst e; simp at h
    have e := List.dropLast_concat_getLast hne
    have hl : l.dropLast.length = n := by simp [h]
    have hb := (l.getLast hne).toNat_lt
    have h2 := ih _ hl
    have h1 : num l = 256 * num l.dropLast + (l.getLast hne).toNat := by rw [← num_snoc, e]
    rw [be, h1, show (256 * num l.dropLast + (l.getLast hne).toNat) / 256 = num l.dropLast by omega, h2,
      show (256 * num l.dropLast + (l.getLast hne).toNat) % 256 = (l.getLast hne).toNat by omega]
    simp [e]

/-- Rising. -/
def rising (n : Int) : List UInt8 × Int := if n < 0 then ([], 1) else (be 8 n.toNat, 0)
def top : Int := 9223372036854775807
def falling (n : Int) : List UInt8 × Int := if n < 0 then ([], 1) else (be 8 (top - n).toNat, 0)
def readRising (b : List UInt8) (at_ : Int) : Int × Int × Int :=
  if at_ < 0 ∨ (b.length : Int) < at_ then (0, 0, 1)
  else if (b.length : Int) - at_ < 8 then (0, 0, 10)
  else
    let v := num ((b.drop at_.toNat).take 8)
    if 9223372036854775807 < v then (0, 0, 13) else (v, at_ + 8, 0)
def readFalling (b : List UInt8) (at_ : Int) : Int × Int × Int :=
  let r := readRising b at_
  if r.2.2 ≠ 0 then (0, 0, r.2.2) else (top - r.1, r.2.1, 0)
end Go.Proofs.YtmlmbampgbiaeaaDoor
