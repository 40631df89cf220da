/- Arguments opened: bytes, lists of bytes. -/
import Derived.Test.YtmlmbampgbiaeaaDoorBulk
import Derived.Test.YtmlmbampgbiaeaaDoorWire10
import Derived.ProofKit
import Derived.OpenShut
import Derived.Deep.Slices
namespace Go.Proofs.YtmlmbampgbiaeaaDoor
open Go.RowKit Go.ChangeShapes Go.WideShapes Go.Deep

section
variable {H : Type} {enc : TypeId × Value → H} {P : Program} {w : World} {held : Bool}
/-- A slice whose elements are one cell each. -/
theorem open_rd {t e : TypeId} {fuel : Nat} {cs : List Value} {x : DataW H × List MemPlace} (ht : P.underlying t = some (.slice e)) (hc : P.cellsOf e = 1) (h : DataW.trod enc P w 0 (fun _ => true) held fuel t cs = some x) :
    ∃ (v : Value) (n k : Nat) (V : Nat → Value) (D : Nat → DataW H) (Pl : Nat → List MemPlace), cs = [v] ∧ Rd w v n ((List.range n).map V) ∧ n + 1 ≤ Rows.uptoBulk x.1 + 1 ∧
      ∀ i, i < n → DataW.trod enc P w 0 (fun _ => true) held k e [V i] = some (D i, Pl i) ∧ Rows.uptoBulk (D i) + 1 ≤ Rows.uptoBulk x.1 := by
  rcases open_slice1 ht hc h with ⟨rfl, rfl⟩ | ⟨a, len, cap, m, n, V, D, Pl, rfl, hb, hl, hm, hmm, rfl, hx⟩
  · exact ⟨_, 0, 0, fun _ => undef, fun _ => .nil, fun _ => [], rfl, Rd.nil w, by omega, fun i hi => by omega⟩
  · simp only [if_true] at hmm
    have hmm : cap = m := hmm.symm
    subst hmm
    refine ⟨_, len, n, V, D, Pl, rfl, ⟨some a, a.block, a.off, cap, rfl, hl, by rw [← maxLen_eq]; exact hm, (fun h => by cases h), fun hne => ?_, fun j u hj => ?_⟩, ?_, fun i hi => ⟨(hx i (by omega)).2, ?_⟩⟩
    · have h0 : 0 < len := by
        rcases Nat.eq_zero_or_pos len with h0 | h0
        · subst h0; simp at hne
        · exact h0
      have h1 := (hx 0 (by omega)).1
      obtain ⟨b, o, s⟩ := a
      cases s with
      | none => rfl
      | some s =>
        simp [Addr.add, World.cell?] at h1
        split at h1 <;> simp at h1
    · have hjl : j < len := by
        rcases Nat.lt_or_ge j len with h | h
        · exact h
        · rw [List.getElem?_eq_none (by simpa using h)] at hj; cases hj
      have e1 : u = V j := by
        rw [List.getElem?_map, List.getElem?_range hjl] at hj
        exact (Option.some.inj hj).symm
      have h1 := (hx j (by omega)).1
      rw [e1]
      have h2 := (hx 0 (by omega)).1
      obtain ⟨b, o, s⟩ := a
      cases s with
      | none => rw [addr_add] at h1; exact h1
      | some s =>
        simp [Addr.add, World.cell?] at h2
        split at h2 <;> simp at h2
    · have := bulks.slice_len ((List.range len).map D) ((List.range (cap - len)).map fun j => D (len + j))
      simp only [List.length_map, List.length_range] at this
      simp only
      omega
    · exact bulks.slice_part (List.mem_map.2 ⟨i, List.mem_range.2 hi, rfl⟩) _

def byteOf : Value → UInt8
  | .int _ z => UInt8.ofNat z.toNat
  | _ => 0
theorem byteOf_eq {z : Int} (h : (Lit.int .u8 z).wf = true) : Value.int .u8 z = bv (byteOf (.int .u8 z)) := by
  simp only [Lit.wf, Bool.and_eq_true, decide_eq_true_eq] at h
  have h1 : 0 ≤ z ∧ z < 256 := by
    have e1 : IntKind.u8.min = 0 := by decide
    have e2 : IntKind.u8.max = 255 := by decide
    omega
  show Value.int .u8 z = Value.int .u8 ((UInt8.ofNat z.toNat).toNat : Int)
  rw [toNat_ofNat (by omega)]
  congr 1; omega
/-- Bytes. -/
theorem open_bytes {t e : TypeId} {fuel : Nat} {cs : List Value} {x : DataW H × List MemPlace} (ht : P.underlying t = some (.slice e)) (he : P.underlying e = some (.int .u8)) (hc : P.cellsOf e = 1) (h : DataW.trod enc P w 0 (fun _ => true) held fuel t cs = some x) :
    ∃ (v : Value) (bs : List UInt8), cs = [v] ∧ RdB w v bs ∧ bs.length ≤ Rows.uptoBulk x.1 := by
  obtain ⟨v, n, k, V, D, Pl, rfl, hrd, hn, hel⟩ := open_rd ht hc h
  have hV : ∀ i, i < n → V i = bv (byteOf (V i)) := fun i hi => by
    obtain ⟨z, hz, _, hw⟩ := DataW.trod_int he (hel i hi).1
    have : V i = .int .u8 z := by simpa using hz
    rw [this]; exact byteOf_eq hw
  refine ⟨v, (List.range n).map fun i => byteOf (V i), rfl, ?_, by simp; omega⟩
  unfold RdB
  simp only [List.length_map, List.length_range, List.map_map]
  have e1 : (List.range n).map (bv ∘ fun i => byteOf (V i)) = (List.range n).map V := List.map_congr_left fun i hi => (hV i (List.mem_range.1 hi)).symm
  rw [e1]; exact hrd
/-- A list of bytes. -/
theorem open_bss {t e q : TypeId} {fuel : Nat} {cs : List Value} {x : DataW H × List MemPlace} (ht : P.underlying t = some (.slice e)) (hc : P.cellsOf e = 1) (he : P.underlying e = some (.slice q)) (hq : P.underlying q = some (.int .u8)) (hcq : P.cellsOf q = 1) (h : DataW.trod enc P w 0 (fun _ => true) held fuel t cs = some x) :
    ∃ (v : Value) (bss : List (List UInt8)), cs = [v] ∧ RdBB w v bss ∧ bss.length ≤ Rows.uptoBulk x.1 ∧ ∀ b ∈ bss, b.length ≤ Rows.uptoBulk x.1 := by
  obtain ⟨v, n, k, V, D, Pl, rfl, hrd, hn, hel⟩ := open_rd ht hc h
  have hV : ∀ i, ∃ bs, i < n → RdB w (V i) bs ∧ bs.length ≤ Rows.uptoBulk x.1 := fun i => by
    by_cases hi : i < n
    · obtain ⟨v', bs, hv, hr, hl⟩ := open_bytes he hq hcq (hel i hi).1
      have : V i = v' := by simpa using hv
      have h2 := (hel i hi).2
      simp only at hl
      exact ⟨bs, fun _ => ⟨this ▸ hr, by omega⟩⟩
    · exact ⟨[], fun h => absurd h hi⟩
  obtain ⟨F, hF⟩ := Classical.axiomOfChoice hV
  refine ⟨v, (List.range n).map F, rfl, ⟨(List.range n).map V, by simp, by simpa using hrd, fun i hi => ?_⟩, by simp; omega, fun b hb => ?_⟩
  · have hi' : i < n := by simpa using hi
    refine ⟨V i, by simp [hi'], ?_⟩
    have := (hF i hi').1
    simpa using this
  · obtain ⟨i, hi, rfl⟩ := List.mem_map.1 hb
    exact (hF i (List.mem_range.1 hi)).2
end
end Go.Proofs.YtmlmbampgbiaeaaDoor
