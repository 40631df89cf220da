/- WireAgain: its argument opened. -/
import Derived.Test.YtmlmbampgbiaeaaDoorOpen
import Derived.Test.YtmlmbampgbiaeaaDoorAgain1
namespace Go.Proofs.YtmlmbampgbiaeaaDoor
open Go.RowKit Go.ChangeShapes Go.WideShapes Go.Deep

theorem cOp : Tryd.prog.cellsOf 32 = 6 := by kernel_rfl
theorem cInt : Tryd.prog.cellsOf 3 = 1 := by kernel_rfl
theorem cU64 : Tryd.prog.cellsOf 29 = 1 := by kernel_rfl
theorem cB : Tryd.prog.cellsOf 5 = 1 := by kernel_rfl
theorem cBs : Tryd.prog.cellsOf 25 = 1 := by kernel_rfl
theorem cBss : Tryd.prog.cellsOf 30 = 1 := by kernel_rfl

section
variable {H : Type} {enc : TypeId × Value → H} {w : World} {held : Bool}
set_option maxRecDepth 50000 in
theorem open_op {fuel : Nat} {cs : List Value} {x : DataW H × List MemPlace} (h : DataW.trod enc Tryd.prog w 0 (fun _ => true) held fuel 32 cs = some x) (hb : Rows.uptoBulk x.1 ≤ 1048576) :
    ∃ o : OpD, cs = o.cells.toList ∧ o.ok w := by
  obtain ⟨xs, n, -, rfl, hl, hxl, hx⟩ := DataW.trod_struct Tryd.underlying32 h
  rw [cOp] at hl
  have hxl : xs.length = 6 := by rw [hxl]; rfl
  have part : ∀ i (hi : i < xs.length), Rows.uptoBulk (xs[i]).1 ≤ 1048576 := fun i hi => by
    have := bulks.agg_part (List.mem_map.2 ⟨xs[i], List.getElem_mem hi, rfl⟩ : (xs[i]).1 ∈ xs.map (·.1))
    simp only at hb
    omega
  match cs, hl with
  | [a0, a1, a2, a3, a4, a5], _ =>
    have h0 := hx 0 _ rfl
    have h1 := hx 1 _ rfl
    have h2 := hx 2 _ rfl
    have h3 := hx 3 _ rfl
    have h4 := hx 4 _ rfl
    have h5 := hx 5 _ rfl
    simp only [List.getElem_toArray, List.getElem_cons_zero, List.getElem_cons_succ, cInt, cU64, cBs, cBss, List.drop_zero, List.drop_succ_cons, List.take_succ_cons, List.take_zero] at h0 h1 h2 h3 h4 h5
    rw [List.getElem?_eq_getElem (by omega)] at h0 h1 h2 h3 h4 h5
    obtain ⟨z0, e0, _, w0⟩ := DataW.trod_int Tryd.underlying3 h0
    obtain ⟨z2, e2, _, w2⟩ := DataW.trod_int Tryd.underlying3 h2
    obtain ⟨z3, e3, _, w3⟩ := DataW.trod_int Tryd.underlying3 h3
    obtain ⟨z4, e4, _, w4⟩ := DataW.trod_int Tryd.underlying29 h4
    obtain ⟨v1, bs, e1, r1, l1⟩ := open_bytes Tryd.underlying25 Tryd.underlying5 cB h1
    obtain ⟨v5, bss, e5, r5, l5, l6⟩ := open_bss Tryd.underlying30 cBs Tryd.underlying25 Tryd.underlying5 cB h5
    have p1 := part 1 (by omega)
    have p5 := part 5 (by omega)
    obtain ⟨ba, bc, rfl, _⟩ := Rd.shape r1
    obtain ⟨pa, pb, poff, pc, hv5, _⟩ := r5.open
    subst hv5
    cases e0; cases e1; cases e2; cases e3; cases e4; cases e5
    simp only [Lit.wf, Bool.and_eq_true, decide_eq_true_eq] at w3 w4
    have m1 : IntKind.i64.max = 9223372036854775807 := by decide
    have m2 : IntKind.u64.min = 0 := by decide
    have m3 : IntKind.u64.max = 18446744073709551615 := by decide
    refine ⟨⟨z0, z2, z3, z4.toNat, ba, bc, pa, pc, bs, bss⟩, ?_, r1, r5, by simp only; omega, by simp only; omega, fun b hb => by have := l6 b hb; omega, by simp only; omega, by simp only [U64]; omega⟩
    simp only [OpD.cells]
    rw [show ((z4.toNat : Nat) : Int) = z4 by omega]

set_option maxRecDepth 50000 in
theorem open_ops {fuel : Nat} {cs : List Value} {x : DataW H × List MemPlace} (h : DataW.trod enc Tryd.prog w 0 (fun _ => true) held fuel 22 cs = some x) (hb : Rows.uptoBulk x.1 ≤ 1048576) :
    ∃ v ops, cs = [v] ∧ RdOps w v ops := by
  rcases open_slice Tryd.underlying22 h with ⟨rfl, rfl⟩ | ⟨a, len, cap, m, n, D, Pl, rfl, _, hl, hm, hmm, rfl, hx⟩
  · exact ⟨_, [], rfl, none, 0, 0, 0, rfl, by simp, fun h => by simp at h, fun i hi => by simp at hi⟩
  simp only [if_true] at hmm
  have hmm : cap = m := hmm.symm
  subst hmm
  rw [cOp] at hx
  simp only at hb
  have hsl := bulks.slice_len ((List.range len).map D) ((List.range (cap - len)).map fun j => D (len + j))
  simp only [List.length_map, List.length_range] at hsl
  have hV : ∀ i, ∃ o : OpD, i < len → o.ok w ∧ ∀ j (hj : j < 6), w.cell? ((a.add (i * 6)).add j) = some (o.cells[j]'(by simpa [OpD.cells] using hj)) := fun i => by
    by_cases hi : i < len
    · obtain ⟨cs', h1, h2⟩ := hx i (by omega)
      obtain ⟨_, hlen, hc⟩ := World.cells?_some h1
      have hpart := bulks.slice_part (List.mem_map.2 ⟨i, List.mem_range.2 hi, rfl⟩ : D i ∈ (List.range len).map D) ((List.range (cap - len)).map fun j => D (len + j))
      obtain ⟨o, rfl, ho⟩ := open_op h2 (by simp only; omega)
      refine ⟨o, fun _ => ⟨ho, fun j hj => ?_⟩⟩
      rw [hc j hj]
      simp
    · exact ⟨⟨0, 0, 0, 0, none, 0, none, 0, [], []⟩, fun h => absurd h hi⟩
  obtain ⟨F, hF⟩ := Classical.axiomOfChoice hV
  have hspot : 0 < len → a = ⟨a.block, a.off, none⟩ := fun h0 => by
    have h1 := (hF 0 h0).2 0 (by omega)
    obtain ⟨b, o, s⟩ := a
    cases s with
    | none => rfl
    | some s =>
      simp [Addr.add, World.cell?] at h1
      split at h1 <;> simp at h1
  refine ⟨_, (List.range len).map F, rfl, some a, a.block, a.off, cap, by simp, by simp; omega, fun h0 => by rw [← hspot (by simpa using h0)], fun i hi => ?_⟩
  have hi' : i < len := by simpa using hi
  obtain ⟨h1, h2⟩ := hF i hi'
  have key : ∀ o : OpD, o = F i → o.ok w ∧ ∀ j (hj : j < 6), w.cell? ⟨a.block, a.off + i * 6 + j, none⟩ = some (o.cells[j]'(by simpa [OpD.cells] using hj)) := by
    rintro o rfl
    refine ⟨h1, fun j hj => ?_⟩
    have h3 := h2 j hj
    rw [hspot (by omega), addr_add, addr_add] at h3
    exact h3
  exact key _ (by simp)
end
end Go.Proofs.YtmlmbampgbiaeaaDoor
