/- The walks of layer 1: Clone, Part, Bytes and ReadBytes, of the program and of the reference. The bytes are fewer than 2^46. -/
import Derived.Test.YtmlmbampgbiaeaaDoorWire3
namespace Go.Proofs.YtmlmbampgbiaeaaDoor
open Go.RowKit

/-- Bytes, a place and an error are handed back; the bytes are new. -/
def GivesPE (w : World) (r : List UInt8 × Int × Int) (e : Ending) (w' : World) : Prop :=
  ∃ s, e = .returned (.tuple #[s, .int .i64 r.2.1, .int .i64 r.2.2]) ∧ Acc 5 w w' s r.1
theorem GivesPE.of {w w' : World} {r : List UInt8 × Int × Int} {s : Value} {bs : List UInt8} {x y : Int} (h : r = (bs, x, y)) (ha : Acc 5 w w' s bs) :
    GivesPE w r (.returned (.tuple #[s, .int .i64 x, .int .i64 y])) w' := by
  subst h; exact ⟨s, rfl, ha⟩

/-- The list that '[]byte{}' makes. -/
theorem Acc.empty (e : TypeId) (w : World) : Acc e w (w.alloc (.cells #[] e)) (.slice (some ⟨w.heap.size, 0, none⟩) 0 0) [] := by
  refine ⟨?_, (Below.refl _ _).alloc (Nat.le_refl _) _⟩
  simpa using World.ownsRow_made (e := e) (size := 1) w #[] 0 (Nat.le_refl _) (by simp [maxLen]) (by simp)

set_option maxRecDepth 20000 in
set_option maxHeartbeats 400000 in
theorem bytesClone_any {v : Value} {bs : List UInt8} (w : World) (hv : RdB w v bs) (hmax : bs.length ≤ 70368744177664) :
    Calls Tryd.prog 67 #[v] w (Gives w bs) := by
  obtain ⟨a, b, off, cap, rfl, hc1, hc2, hix, hld, _⟩ := hv.open
  clear hc1 hc2 hix hld
  have hnil : a = none → bs = [] := by
    obtain ⟨_, _, _, _, he, h2, h3, h4, _⟩ := hv; cases he
    intro h; have := h4 h; cases bs <;> simp_all
  cases a with
  | none =>
    have hb := hnil rfl
    have HB := Lib.hid hb; clear hb hnil
    have HV := Lib.hid hv; clear hv
    have he : ∀ (w : World) (n c : Nat), (binOp .eql 25 (.slice none n c) (.slice none 0 0)).run Tryd.prog w = .ok (.bool true) w := fun w n c => Lib.run_eql_slice_nil w _ _ _ n c 0 0 Tryd.underlying25
    go_enter Tryd.func67, Tryd.ntmps67
    go_wp2_with fail
    go_ret
    exact ⟨_, rfl, by rw [HB.out]; exact Acc.nil _ w⟩
  | some a =>
    have HV := Lib.hid hv; clear hv
    have he : ∀ (w : World) (n c : Nat), (binOp .eql 25 (.slice (some a) n c) (.slice none 0 0)).run Tryd.prog w = .ok (.bool false) w := fun w n c => Lib.run_eql_slice_nil w _ _ _ n c 0 0 Tryd.underlying25
    go_enter Tryd.func67, Tryd.ntmps67
    go_wp2_with (at_builtin; refine wpList_acc Ebs rfl _ _ rfl rfl (Acc.empty _ _) rfl (Rd.alloc HV.out _) ?c1 ?_)
    case c1 => simp; omega
    intro v' w1 hacc _
    go_wp2
    go_ret
    exact ⟨_, rfl, hacc⟩

set_option maxRecDepth 100000 in
theorem RdB.slice {w : World} {a : Option Addr} {n cap : Nat} {bs : List UInt8} (h : RdB w (.slice a n cap) bs) (hc : bs.length ≤ cap) (l m : Int) (h0 : 0 ≤ l) (hl : l ≤ m) (hm : m ≤ bs.length) :
    ∃ sv, (∀ w', (Instr.sliceAt 25 (.slice a n cap) (some (.int .i64 l)) (some (.int .i64 m)) none).run Tryd.prog w' = .ok sv w') ∧
      (∀ w', (Instr.slice 25 (.slice a n cap) (some (.int .i64 l)) (some (.int .i64 m)) none).run Tryd.prog w' = .ok sv w') ∧ RdB w sv ((bs.drop l.toNat).take (m.toNat - l.toNat)) := by
  refine ⟨_, fun w' => ?_, fun w' => ?_, RdB.sub h l.toNat m.toNat (by omega) (by omega)⟩
  · rw [run_sliceAt_slice (h := Tryd.underlying25), run_slice_lh (ht := Tryd.underlying25) (h0 := h0) (h1 := hl) (h2 := by omega)]
    simp [go_sem]
  · rw [run_slice_lh (ht := Tryd.underlying25) (h0 := h0) (h1 := hl) (h2 := by omega)]
    simp [go_sem]

/-- The three forms of 'v[l:m]', what comes written out. -/
theorem RdB.sl {w : World} {a : Option Addr} {n cap : Nat} {bs : List UInt8} (h : RdB w (.slice a n cap) bs) (l m : Int) (h0 : 0 ≤ l) (hl : l ≤ m) (hm : m ≤ bs.length) :
    ∃ a' n' c', (∀ w', (Instr.sliceAt 25 (.slice a n cap) (some (.int .i64 l)) (some (.int .i64 m)) none).run Tryd.prog w' = .ok (.slice a' n' c') w') ∧
      (∀ w', (Instr.slice 25 (.slice a n cap) (some (.int .i64 l)) (some (.int .i64 m)) none).run Tryd.prog w' = .ok (.slice a' n' c') w') ∧ Hid (n' = m.toNat - l.toNat) ∧ RdB w (.slice a' n' c') ((bs.drop l.toNat).take (m.toNat - l.toNat)) := by
  obtain ⟨_, _, he, hc, _⟩ := Rd.shape h
  cases he
  obtain ⟨sv, h1, h2, h3⟩ := RdB.slice h hc l m h0 hl hm
  obtain ⟨a', c', rfl, _⟩ := Rd.shape h3
  exact ⟨a', _, c', h1, h2, Lib.hid (by simp; omega), h3⟩
set_option maxRecDepth 100000 in
theorem RdB.slL {w : World} {a : Option Addr} {n cap : Nat} {bs : List UInt8} (h : RdB w (.slice a n cap) bs) (l : Int) (h0 : 0 ≤ l) (hl : l ≤ bs.length) :
    ∃ a' n' c', (∀ w', (Instr.sliceAt 25 (.slice a n cap) (some (.int .i64 l)) none none).run Tryd.prog w' = .ok (.slice a' n' c') w') ∧
      (∀ w', (Instr.slice 25 (.slice a n cap) (some (.int .i64 l)) none none).run Tryd.prog w' = .ok (.slice a' n' c') w') ∧ Hid (n' = bs.length - l.toNat) ∧ RdB w (.slice a' n' c') (bs.drop l.toNat) := by
  obtain ⟨_, _, he, hc, _⟩ := Rd.shape h
  cases he
  have h3 := RdB.sub h l.toNat bs.length (by omega) (Nat.le_refl _)
  rw [show (bs.drop l.toNat).take (bs.length - l.toNat) = bs.drop l.toNat by rw [← List.length_drop, List.take_length]] at h3
  refine ⟨_, _, _, fun w' => ?_, fun w' => ?_, rfl, h3⟩
  · rw [run_sliceAt_slice (h := Tryd.underlying25), run_slice_l (ht := Tryd.underlying25) (h0 := h0) (h1 := hl)]
    simp [go_sem]
  · rw [run_slice_l (ht := Tryd.underlying25) (h0 := h0) (h1 := hl)]
    simp [go_sem]
set_option maxRecDepth 100000 in
theorem RdB.slH {w : World} {a : Option Addr} {n cap : Nat} {bs : List UInt8} (h : RdB w (.slice a n cap) bs) (m : Int) (h0 : 0 ≤ m) (hm : m ≤ bs.length) :
    ∃ a' n' c', (∀ w', (Instr.sliceAt 25 (.slice a n cap) none (some (.int .i64 m)) none).run Tryd.prog w' = .ok (.slice a' n' c') w') ∧
      (∀ w', (Instr.slice 25 (.slice a n cap) none (some (.int .i64 m)) none).run Tryd.prog w' = .ok (.slice a' n' c') w') ∧ Hid (n' = m.toNat) ∧ RdB w (.slice a' n' c') (bs.take m.toNat) := by
  obtain ⟨_, _, he, hc, _⟩ := Rd.shape h
  cases he
  have h3 := RdB.sub h 0 m.toNat (by omega) (by omega)
  simp only [List.drop_zero, Nat.sub_zero] at h3
  refine ⟨_, _, _, fun w' => ?_, fun w' => ?_, rfl, h3⟩
  · rw [run_sliceAt_slice (h := Tryd.underlying25), run_slice_h (ht := Tryd.underlying25) (h0 := h0) (h2 := by omega)]
    simp [go_sem]
  · rw [run_slice_h (ht := Tryd.underlying25) (h0 := h0) (h2 := by omega)]
    simp [go_sem]

set_option maxRecDepth 100000 in
/-- 'v[:m]', whatever the world. -/
theorem slH_any (a : Option Addr) (n cap : Nat) (m : Int) (h0 : 0 ≤ m) (hm : m ≤ cap) :
    ∃ a' n' c', (∀ w', (Instr.sliceAt 25 (.slice a n cap) none (some (.int .i64 m)) none).run Tryd.prog w' = .ok (.slice a' n' c') w') ∧
      (∀ w', (Instr.slice 25 (.slice a n cap) none (some (.int .i64 m)) none).run Tryd.prog w' = .ok (.slice a' n' c') w') ∧ Hid (n' = m.toNat) ∧
      ∀ (w : World) (bs : List UInt8), RdB w (.slice a n cap) bs → m ≤ bs.length → RdB w (.slice a' n' c') (bs.take m.toNat) := by
  refine ⟨if cap = 0 then a else a.map (·.add 0), m.toNat, cap, fun w' => ?_, fun w' => ?_, rfl, fun w bs h hmb => ?_⟩
  · rw [run_sliceAt_slice (h := Tryd.underlying25), run_slice_h (ht := Tryd.underlying25) (h0 := h0) (h2 := hm)]
    simp [go_sem]
  · rw [run_slice_h (ht := Tryd.underlying25) (h0 := h0) (h2 := hm)]
    simp [go_sem]
  · have h3 := RdB.sub h 0 m.toNat (by omega) (by omega)
    simp only [List.drop_zero, Nat.sub_zero] at h3
    exact h3

set_option maxRecDepth 20000 in
set_option maxHeartbeats 400000 in
theorem Part_any {v : Value} {bs : List UInt8} (w : World) (hv : RdB w v bs) (lo hi : Int) (h1 : 0 ≤ lo) (h2 : lo ≤ hi) (h3 : hi ≤ bs.length) (hmax : bs.length ≤ 70368744177664) :
    Calls Tryd.prog 106 #[v, .int .i64 lo, .int .i64 hi] w (Gives w ((bs.drop lo.toNat).take (hi.toNat - lo.toNat))) := by
  obtain ⟨a, b, off, cap, rfl, hc1, hc2, hix, hld, _⟩ := hv.open
  clear hix hld
  obtain ⟨sv, hs1, hs2, hsv⟩ := RdB.slice hv hc1 lo hi h1 h2 h3
  have HV := Lib.hid hsv; clear hsv hv
  go_enter Tryd.func106, Tryd.ntmps106
  go_wp2_with (at_builtin; refine wpList_acc Ebs rfl _ _ rfl rfl (Acc.nil _ _) rfl HV.out ?c1 ?_)
  case c1 => simp; omega
  intro v' w1 hacc _
  go_wp2
  go_ret
  exact ⟨_, rfl, hacc⟩

theorem i64_u64 {n : Nat} (h : n < 4611686018427387904) : IntKind.u64.wrap (n : Int) = (n : Int) := by rw [IntKind.wrap_u64]; omega

set_option maxRecDepth 20000 in
set_option maxHeartbeats 400000 in
theorem Bytes_any {v : Value} {bs : List UInt8} (w : World) (hv : RdB w v bs) (hmax : bs.length ≤ 70368744177664) :
    Calls Tryd.prog 50 #[v] w (Gives w (uintL bs.length ++ bs)) := by
  obtain ⟨a, b, off, cap, rfl, hc1, hc2, hix, hld, _⟩ := hv.open
  clear hix hld
  have HV := Lib.hid hv; clear hv
  have hw := i64_u64 (n := bs.length) (by omega)
  have hu : U64 bs.length := by unfold U64; omega
  have hl := uintL_len hu
  go_enter Tryd.func50, Tryd.ntmps50
  go_wp2_with (first | (go_at_call 33; refine (Uint_any _ hu _).mono ?_; rintro e w1 ⟨s, rfl, hacc⟩) | (at_builtin; refine wpList_acc Ebs rfl _ _ rfl rfl hacc rfl (Rd.below HV.out hacc.bel) ?c1 ?_))
  case c1 => omega
  intro v' w2 hacc2 _
  go_wp2
  go_ret
  exact ⟨_, rfl, hacc2⟩
set_option maxRecDepth 20000 in
set_option maxHeartbeats 400000 in
theorem refBytes_any {v : Value} {bs : List UInt8} (w : World) (hv : RdB w v bs) (hmax : bs.length ≤ 70368744177664) :
    Calls Tryd.prog 45 #[v] w (Gives w (uintL bs.length ++ bs)) := by
  obtain ⟨a, b, off, cap, rfl, hc1, hc2, hix, hld, _⟩ := hv.open
  clear hix hld
  have HV := Lib.hid hv; clear hv
  have hw := i64_u64 (n := bs.length) (by omega)
  have hu : U64 bs.length := by unfold U64; omega
  have hl := uintL_len hu
  go_enter Tryd.func45, Tryd.ntmps45
  go_wp2_with (first | (go_at_call 44; refine (refUint_any _ hu _).mono ?_; rintro e w1 ⟨s, rfl, hacc⟩) | (at_builtin; refine wpList_acc Ebs rfl _ _ rfl rfl hacc rfl (Rd.below HV.out hacc.bel) ?c1 ?_))
  case c1 => omega
  intro v' w2 hacc2 _
  go_wp2
  go_ret
  exact ⟨_, rfl, hacc2⟩
end Go.Proofs.YtmlmbampgbiaeaaDoor
