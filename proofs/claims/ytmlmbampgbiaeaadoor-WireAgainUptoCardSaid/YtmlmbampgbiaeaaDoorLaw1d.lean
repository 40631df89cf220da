/- The law's own functions of layer 1: answered: whatever the call, its answer is the reference's. -/
import Derived.Test.YtmlmbampgbiaeaaDoorLaw1c
namespace Go.Proofs.YtmlmbampgbiaeaaDoor
open Go.RowKit

/-- What may be handed to a call: bytes, parts, numbers that lie in their types. -/
structure OpOk (w : World) (bv_ pv : Value) (bs : List UInt8) (bss : List (List UInt8)) (n : Int) (v : Nat) : Prop where
  b : RdB w bv_ bs
  p : RdBB w pv bss
  bl : bs.length ≤ 35184372088832
  p1 : bss.length ≤ 70368744177664
  p2 : ∀ b ∈ bss, b.length ≤ 70368744177664
  nn : n ≤ 9223372036854775807
  vv : U64 v
theorem OpOk.below {w w' : World} {bv_ pv : Value} {bs : List UInt8} {bss : List (List UInt8)} {n : Int} {v : Nat} (h : OpOk w bv_ pv bs bss n v) (hb : Below w.heap.size w w') : OpOk w' bv_ pv bs bss n v :=
  ⟨h.b.below hb, h.p.below hb, h.bl, h.p1, h.p2, h.nn, h.vv⟩

set_option maxRecDepth 50000 in
theorem answered_1 {w : World} (hT : Tab w) {bv_ pv : Value} {bs : List UInt8} {bss : List (List UInt8)} {n : Int} {v : Nat} (h : OpOk w bv_ pv bs bss n v) (at_ : Int) : Calls Tryd.prog 7 #[.agg #[.int .i64 1, bv_, .int .i64 at_, .int .i64 n, .int .u64 v, pv]] w fun e w' => e = .returned (.bool true) ∧ Below w.heap.size w w' := by
  have hc : ∀ W, Tab W → OpOk W bv_ pv bs bss n v → Calls Tryd.prog 35 #[.agg #[.int .i64 1, bv_, .int .i64 at_, .int .i64 n, .int .u64 v, pv]] W fun e w' => e = .returned (.bool true) ∧ Below W.heap.size W w' := fun W hT h => numbers_1 bv_ pv at_ n v h.vv
  have hb : Below w.heap.size w (w.alloc (.cells #[.int .i64 1, bv_, .int .i64 at_, .int .i64 n, .int .u64 v, pv] 32)) := (Below.refl _ _).alloc (Nat.le_refl _) _
  have HC := Lib.hid (hc _ (hT.below hb) (h.below hb))
  have HB := Lib.hid hb
  clear hc hb hT h
  go_enter Tryd.func7, Tryd.ntmps7
  go_wp2_with (go_at_call 35; (with_reducible refine HC.out.mono ?_); rintro e w1 ⟨rfl, hb1⟩)
  go_ret
  exact ⟨rfl, HB.out.trans (hb1.mono (by simp))⟩

set_option maxRecDepth 50000 in
theorem answered_2 {w : World} (hT : Tab w) {bv_ pv : Value} {bs : List UInt8} {bss : List (List UInt8)} {n : Int} {v : Nat} (h : OpOk w bv_ pv bs bss n v) (at_ : Int) : Calls Tryd.prog 7 #[.agg #[.int .i64 2, bv_, .int .i64 at_, .int .i64 n, .int .u64 v, pv]] w fun e w' => e = .returned (.bool true) ∧ Below w.heap.size w w' := by
  have hc : ∀ W, Tab W → OpOk W bv_ pv bs bss n v → Calls Tryd.prog 35 #[.agg #[.int .i64 2, bv_, .int .i64 at_, .int .i64 n, .int .u64 v, pv]] W fun e w' => e = .returned (.bool true) ∧ Below W.heap.size W w' := fun W hT h => numbers_2 bv_ pv bs h.b (by have := h.bl; omega) at_ n v
  have hb : Below w.heap.size w (w.alloc (.cells #[.int .i64 2, bv_, .int .i64 at_, .int .i64 n, .int .u64 v, pv] 32)) := (Below.refl _ _).alloc (Nat.le_refl _) _
  have HC := Lib.hid (hc _ (hT.below hb) (h.below hb))
  have HB := Lib.hid hb
  clear hc hb hT h
  go_enter Tryd.func7, Tryd.ntmps7
  go_wp2_with (go_at_call 35; (with_reducible refine HC.out.mono ?_); rintro e w1 ⟨rfl, hb1⟩)
  go_ret
  exact ⟨rfl, HB.out.trans (hb1.mono (by simp))⟩

set_option maxRecDepth 50000 in
theorem answered_3 {w : World} (hT : Tab w) {bv_ pv : Value} {bs : List UInt8} {bss : List (List UInt8)} {n : Int} {v : Nat} (h : OpOk w bv_ pv bs bss n v) (at_ : Int) : Calls Tryd.prog 7 #[.agg #[.int .i64 3, bv_, .int .i64 at_, .int .i64 n, .int .u64 v, pv]] w fun e w' => e = .returned (.bool true) ∧ Below w.heap.size w w' := by
  have hc : ∀ W, Tab W → OpOk W bv_ pv bs bss n v → Calls Tryd.prog 36 #[.agg #[.int .i64 3, bv_, .int .i64 at_, .int .i64 n, .int .u64 v, pv]] W fun e w' => e = .returned (.bool true) ∧ Below W.heap.size W w' := fun W hT h => strings_3 bv_ pv bs h.b h.bl at_ n v
  have hb : Below w.heap.size w (w.alloc (.cells #[.int .i64 3, bv_, .int .i64 at_, .int .i64 n, .int .u64 v, pv] 32)) := (Below.refl _ _).alloc (Nat.le_refl _) _
  have HC := Lib.hid (hc _ (hT.below hb) (h.below hb))
  have HB := Lib.hid hb
  clear hc hb hT h
  go_enter Tryd.func7, Tryd.ntmps7
  go_wp2_with (go_at_call 36; (with_reducible refine HC.out.mono ?_); rintro e w1 ⟨rfl, hb1⟩)
  go_ret
  exact ⟨rfl, HB.out.trans (hb1.mono (by simp))⟩

set_option maxRecDepth 50000 in
theorem answered_4 {w : World} (hT : Tab w) {bv_ pv : Value} {bs : List UInt8} {bss : List (List UInt8)} {n : Int} {v : Nat} (h : OpOk w bv_ pv bs bss n v) (at_ : Int) : Calls Tryd.prog 7 #[.agg #[.int .i64 4, bv_, .int .i64 at_, .int .i64 n, .int .u64 v, pv]] w fun e w' => e = .returned (.bool true) ∧ Below w.heap.size w w' := by
  have hc : ∀ W, Tab W → OpOk W bv_ pv bs bss n v → Calls Tryd.prog 36 #[.agg #[.int .i64 4, bv_, .int .i64 at_, .int .i64 n, .int .u64 v, pv]] W fun e w' => e = .returned (.bool true) ∧ Below W.heap.size W w' := fun W hT h => strings_4 bv_ pv bs h.b h.bl at_ n h.nn v
  have hb : Below w.heap.size w (w.alloc (.cells #[.int .i64 4, bv_, .int .i64 at_, .int .i64 n, .int .u64 v, pv] 32)) := (Below.refl _ _).alloc (Nat.le_refl _) _
  have HC := Lib.hid (hc _ (hT.below hb) (h.below hb))
  have HB := Lib.hid hb
  clear hc hb hT h
  go_enter Tryd.func7, Tryd.ntmps7
  go_wp2_with (go_at_call 36; (with_reducible refine HC.out.mono ?_); rintro e w1 ⟨rfl, hb1⟩)
  go_ret
  exact ⟨rfl, HB.out.trans (hb1.mono (by simp))⟩

set_option maxRecDepth 50000 in
theorem answered_5 {w : World} (hT : Tab w) {bv_ pv : Value} {bs : List UInt8} {bss : List (List UInt8)} {n : Int} {v : Nat} (h : OpOk w bv_ pv bs bss n v) (at_ : Int) : Calls Tryd.prog 7 #[.agg #[.int .i64 5, bv_, .int .i64 at_, .int .i64 n, .int .u64 v, pv]] w fun e w' => e = .returned (.bool true) ∧ Below w.heap.size w w' := by
  have hc : ∀ W, Tab W → OpOk W bv_ pv bs bss n v → Calls Tryd.prog 35 #[.agg #[.int .i64 5, bv_, .int .i64 at_, .int .i64 n, .int .u64 v, pv]] W fun e w' => e = .returned (.bool true) ∧ Below W.heap.size W w' := fun W hT h => numbers_5 bv_ pv at_ n h.nn v
  have hb : Below w.heap.size w (w.alloc (.cells #[.int .i64 5, bv_, .int .i64 at_, .int .i64 n, .int .u64 v, pv] 32)) := (Below.refl _ _).alloc (Nat.le_refl _) _
  have HC := Lib.hid (hc _ (hT.below hb) (h.below hb))
  have HB := Lib.hid hb
  clear hc hb hT h
  go_enter Tryd.func7, Tryd.ntmps7
  go_wp2_with (go_at_call 35; (with_reducible refine HC.out.mono ?_); rintro e w1 ⟨rfl, hb1⟩)
  go_ret
  exact ⟨rfl, HB.out.trans (hb1.mono (by simp))⟩

set_option maxRecDepth 50000 in
theorem answered_6 {w : World} (hT : Tab w) {bv_ pv : Value} {bs : List UInt8} {bss : List (List UInt8)} {n : Int} {v : Nat} (h : OpOk w bv_ pv bs bss n v) (at_ : Int) : Calls Tryd.prog 7 #[.agg #[.int .i64 6, bv_, .int .i64 at_, .int .i64 n, .int .u64 v, pv]] w fun e w' => e = .returned (.bool true) ∧ Below w.heap.size w w' := by
  have hc : ∀ W, Tab W → OpOk W bv_ pv bs bss n v → Calls Tryd.prog 35 #[.agg #[.int .i64 6, bv_, .int .i64 at_, .int .i64 n, .int .u64 v, pv]] W fun e w' => e = .returned (.bool true) ∧ Below W.heap.size W w' := fun W hT h => numbers_6 bv_ pv bs h.b (by have := h.bl; omega) at_ n v
  have hb : Below w.heap.size w (w.alloc (.cells #[.int .i64 6, bv_, .int .i64 at_, .int .i64 n, .int .u64 v, pv] 32)) := (Below.refl _ _).alloc (Nat.le_refl _) _
  have HC := Lib.hid (hc _ (hT.below hb) (h.below hb))
  have HB := Lib.hid hb
  clear hc hb hT h
  go_enter Tryd.func7, Tryd.ntmps7
  go_wp2_with (go_at_call 35; (with_reducible refine HC.out.mono ?_); rintro e w1 ⟨rfl, hb1⟩)
  go_ret
  exact ⟨rfl, HB.out.trans (hb1.mono (by simp))⟩

set_option maxRecDepth 50000 in
theorem answered_7 {w : World} (hT : Tab w) {bv_ pv : Value} {bs : List UInt8} {bss : List (List UInt8)} {n : Int} {v : Nat} (h : OpOk w bv_ pv bs bss n v) (at_ : Int) : Calls Tryd.prog 7 #[.agg #[.int .i64 7, bv_, .int .i64 at_, .int .i64 n, .int .u64 v, pv]] w fun e w' => e = .returned (.bool true) ∧ Below w.heap.size w w' := by
  have hc : ∀ W, Tab W → OpOk W bv_ pv bs bss n v → Calls Tryd.prog 35 #[.agg #[.int .i64 7, bv_, .int .i64 at_, .int .i64 n, .int .u64 v, pv]] W fun e w' => e = .returned (.bool true) ∧ Below W.heap.size W w' := fun W hT h => numbers_7 bv_ pv at_ n h.nn v
  have hb : Below w.heap.size w (w.alloc (.cells #[.int .i64 7, bv_, .int .i64 at_, .int .i64 n, .int .u64 v, pv] 32)) := (Below.refl _ _).alloc (Nat.le_refl _) _
  have HC := Lib.hid (hc _ (hT.below hb) (h.below hb))
  have HB := Lib.hid hb
  clear hc hb hT h
  go_enter Tryd.func7, Tryd.ntmps7
  go_wp2_with (go_at_call 35; (with_reducible refine HC.out.mono ?_); rintro e w1 ⟨rfl, hb1⟩)
  go_ret
  exact ⟨rfl, HB.out.trans (hb1.mono (by simp))⟩

set_option maxRecDepth 50000 in
theorem answered_8 {w : World} (hT : Tab w) {bv_ pv : Value} {bs : List UInt8} {bss : List (List UInt8)} {n : Int} {v : Nat} (h : OpOk w bv_ pv bs bss n v) (at_ : Int) : Calls Tryd.prog 7 #[.agg #[.int .i64 8, bv_, .int .i64 at_, .int .i64 n, .int .u64 v, pv]] w fun e w' => e = .returned (.bool true) ∧ Below w.heap.size w w' := by
  have hc : ∀ W, Tab W → OpOk W bv_ pv bs bss n v → Calls Tryd.prog 35 #[.agg #[.int .i64 8, bv_, .int .i64 at_, .int .i64 n, .int .u64 v, pv]] W fun e w' => e = .returned (.bool true) ∧ Below W.heap.size W w' := fun W hT h => numbers_8 bv_ pv bs h.b (by have := h.bl; omega) at_ n v
  have hb : Below w.heap.size w (w.alloc (.cells #[.int .i64 8, bv_, .int .i64 at_, .int .i64 n, .int .u64 v, pv] 32)) := (Below.refl _ _).alloc (Nat.le_refl _) _
  have HC := Lib.hid (hc _ (hT.below hb) (h.below hb))
  have HB := Lib.hid hb
  clear hc hb hT h
  go_enter Tryd.func7, Tryd.ntmps7
  go_wp2_with (go_at_call 35; (with_reducible refine HC.out.mono ?_); rintro e w1 ⟨rfl, hb1⟩)
  go_ret
  exact ⟨rfl, HB.out.trans (hb1.mono (by simp))⟩

set_option maxRecDepth 50000 in
theorem answered_9 {w : World} (hT : Tab w) {bv_ pv : Value} {bs : List UInt8} {bss : List (List UInt8)} {n : Int} {v : Nat} (h : OpOk w bv_ pv bs bss n v) (at_ : Int) : Calls Tryd.prog 7 #[.agg #[.int .i64 9, bv_, .int .i64 at_, .int .i64 n, .int .u64 v, pv]] w fun e w' => e = .returned (.bool true) ∧ Below w.heap.size w w' := by
  have hc : ∀ W, Tab W → OpOk W bv_ pv bs bss n v → Calls Tryd.prog 36 #[.agg #[.int .i64 9, bv_, .int .i64 at_, .int .i64 n, .int .u64 v, pv]] W fun e w' => e = .returned (.bool true) ∧ Below W.heap.size W w' := fun W hT h => strings_9 bv_ pv bs h.b h.bl at_ n v
  have hb : Below w.heap.size w (w.alloc (.cells #[.int .i64 9, bv_, .int .i64 at_, .int .i64 n, .int .u64 v, pv] 32)) := (Below.refl _ _).alloc (Nat.le_refl _) _
  have HC := Lib.hid (hc _ (hT.below hb) (h.below hb))
  have HB := Lib.hid hb
  clear hc hb hT h
  go_enter Tryd.func7, Tryd.ntmps7
  go_wp2_with (go_at_call 36; (with_reducible refine HC.out.mono ?_); rintro e w1 ⟨rfl, hb1⟩)
  go_ret
  exact ⟨rfl, HB.out.trans (hb1.mono (by simp))⟩

set_option maxRecDepth 50000 in
theorem answered_10 {w : World} (hT : Tab w) {bv_ pv : Value} {bs : List UInt8} {bss : List (List UInt8)} {n : Int} {v : Nat} (h : OpOk w bv_ pv bs bss n v) (at_ : Int) : Calls Tryd.prog 7 #[.agg #[.int .i64 10, bv_, .int .i64 at_, .int .i64 n, .int .u64 v, pv]] w fun e w' => e = .returned (.bool true) ∧ Below w.heap.size w w' := by
  have hc : ∀ W, Tab W → OpOk W bv_ pv bs bss n v → Calls Tryd.prog 36 #[.agg #[.int .i64 10, bv_, .int .i64 at_, .int .i64 n, .int .u64 v, pv]] W fun e w' => e = .returned (.bool true) ∧ Below W.heap.size W w' := fun W hT h => strings_10 bv_ pv bs h.b h.bl at_ n h.nn v
  have hb : Below w.heap.size w (w.alloc (.cells #[.int .i64 10, bv_, .int .i64 at_, .int .i64 n, .int .u64 v, pv] 32)) := (Below.refl _ _).alloc (Nat.le_refl _) _
  have HC := Lib.hid (hc _ (hT.below hb) (h.below hb))
  have HB := Lib.hid hb
  clear hc hb hT h
  go_enter Tryd.func7, Tryd.ntmps7
  go_wp2_with (go_at_call 36; (with_reducible refine HC.out.mono ?_); rintro e w1 ⟨rfl, hb1⟩)
  go_ret
  exact ⟨rfl, HB.out.trans (hb1.mono (by simp))⟩

set_option maxRecDepth 50000 in
theorem answered_11 {w : World} (hT : Tab w) {bv_ pv : Value} {bs : List UInt8} {bss : List (List UInt8)} {n : Int} {v : Nat} (h : OpOk w bv_ pv bs bss n v) (at_ : Int) : Calls Tryd.prog 7 #[.agg #[.int .i64 11, bv_, .int .i64 at_, .int .i64 n, .int .u64 v, pv]] w fun e w' => e = .returned (.bool true) ∧ Below w.heap.size w w' := by
  have hc : ∀ W, Tab W → OpOk W bv_ pv bs bss n v → Calls Tryd.prog 36 #[.agg #[.int .i64 11, bv_, .int .i64 at_, .int .i64 n, .int .u64 v, pv]] W fun e w' => e = .returned (.bool true) ∧ Below W.heap.size W w' := fun W hT h => strings_11 hT bv_ pv bss h.p h.p1 h.p2 at_ n v
  have hb : Below w.heap.size w (w.alloc (.cells #[.int .i64 11, bv_, .int .i64 at_, .int .i64 n, .int .u64 v, pv] 32)) := (Below.refl _ _).alloc (Nat.le_refl _) _
  have HC := Lib.hid (hc _ (hT.below hb) (h.below hb))
  have HB := Lib.hid hb
  clear hc hb hT h
  go_enter Tryd.func7, Tryd.ntmps7
  go_wp2_with (go_at_call 36; (with_reducible refine HC.out.mono ?_); rintro e w1 ⟨rfl, hb1⟩)
  go_ret
  exact ⟨rfl, HB.out.trans (hb1.mono (by simp))⟩

set_option maxRecDepth 50000 in
theorem answered_12 {w : World} (hT : Tab w) {bv_ pv : Value} {bs : List UInt8} {bss : List (List UInt8)} {n : Int} {v : Nat} (h : OpOk w bv_ pv bs bss n v) (at_ : Int) : Calls Tryd.prog 7 #[.agg #[.int .i64 12, bv_, .int .i64 at_, .int .i64 n, .int .u64 v, pv]] w fun e w' => e = .returned (.bool true) ∧ Below w.heap.size w w' := by
  have hc : ∀ W, Tab W → OpOk W bv_ pv bs bss n v → Calls Tryd.prog 36 #[.agg #[.int .i64 12, bv_, .int .i64 at_, .int .i64 n, .int .u64 v, pv]] W fun e w' => e = .returned (.bool true) ∧ Below W.heap.size W w' := fun W hT h => strings_12 hT bv_ pv bs h.b h.bl at_ n v
  have hb : Below w.heap.size w (w.alloc (.cells #[.int .i64 12, bv_, .int .i64 at_, .int .i64 n, .int .u64 v, pv] 32)) := (Below.refl _ _).alloc (Nat.le_refl _) _
  have HC := Lib.hid (hc _ (hT.below hb) (h.below hb))
  have HB := Lib.hid hb
  clear hc hb hT h
  go_enter Tryd.func7, Tryd.ntmps7
  go_wp2_with (go_at_call 36; (with_reducible refine HC.out.mono ?_); rintro e w1 ⟨rfl, hb1⟩)
  go_ret
  exact ⟨rfl, HB.out.trans (hb1.mono (by simp))⟩

set_option maxRecDepth 50000 in
theorem answered_13 {w : World} (hT : Tab w) {bv_ pv : Value} {bs : List UInt8} {bss : List (List UInt8)} {n : Int} {v : Nat} (h : OpOk w bv_ pv bs bss n v) (at_ : Int) : Calls Tryd.prog 7 #[.agg #[.int .i64 13, bv_, .int .i64 at_, .int .i64 n, .int .u64 v, pv]] w fun e w' => e = .returned (.bool true) ∧ Below w.heap.size w w' := by
  have hc : ∀ W, Tab W → OpOk W bv_ pv bs bss n v → Calls Tryd.prog 36 #[.agg #[.int .i64 13, bv_, .int .i64 at_, .int .i64 n, .int .u64 v, pv]] W fun e w' => e = .returned (.bool true) ∧ Below W.heap.size W w' := fun W hT h => strings_13 hT bv_ pv bs h.b h.bl at_ n h.nn v
  have hb : Below w.heap.size w (w.alloc (.cells #[.int .i64 13, bv_, .int .i64 at_, .int .i64 n, .int .u64 v, pv] 32)) := (Below.refl _ _).alloc (Nat.le_refl _) _
  have HC := Lib.hid (hc _ (hT.below hb) (h.below hb))
  have HB := Lib.hid hb
  clear hc hb hT h
  go_enter Tryd.func7, Tryd.ntmps7
  go_wp2_with (go_at_call 36; (with_reducible refine HC.out.mono ?_); rintro e w1 ⟨rfl, hb1⟩)
  go_ret
  exact ⟨rfl, HB.out.trans (hb1.mono (by simp))⟩

set_option maxRecDepth 50000 in
theorem answered_any {w : World} (hT : Tab w) {bv_ pv : Value} {bs : List UInt8} {bss : List (List UInt8)} {n : Int} {v : Nat} (h : OpOk w bv_ pv bs bss n v) (at_ : Int) (kind : Int) : Calls Tryd.prog 7 #[.agg #[.int .i64 kind, bv_, .int .i64 at_, .int .i64 n, .int .u64 v, pv]] w fun e w' => e = .returned (.bool true) ∧ Below w.heap.size w w' := by
  by_cases h1 : kind = 1
  · subst h1; exact answered_1 hT h at_
  by_cases h2 : kind = 2
  · subst h2; exact answered_2 hT h at_
  by_cases h3 : kind = 3
  · subst h3; exact answered_3 hT h at_
  by_cases h4 : kind = 4
  · subst h4; exact answered_4 hT h at_
  by_cases h5 : kind = 5
  · subst h5; exact answered_5 hT h at_
  by_cases h6 : kind = 6
  · subst h6; exact answered_6 hT h at_
  by_cases h7 : kind = 7
  · subst h7; exact answered_7 hT h at_
  by_cases h8 : kind = 8
  · subst h8; exact answered_8 hT h at_
  by_cases h9 : kind = 9
  · subst h9; exact answered_9 hT h at_
  by_cases h10 : kind = 10
  · subst h10; exact answered_10 hT h at_
  by_cases h11 : kind = 11
  · subst h11; exact answered_11 hT h at_
  by_cases h12 : kind = 12
  · subst h12; exact answered_12 hT h at_
  by_cases h13 : kind = 13
  · subst h13; exact answered_13 hT h at_
  have b1 : (kind == 1) = false := by rw [beq_eq_false_iff_ne]; exact h1
  have b2 : (kind == 2) = false := by rw [beq_eq_false_iff_ne]; exact h2
  have b3 : (kind == 3) = false := by rw [beq_eq_false_iff_ne]; exact h3
  have b4 : (kind == 4) = false := by rw [beq_eq_false_iff_ne]; exact h4
  have b5 : (kind == 5) = false := by rw [beq_eq_false_iff_ne]; exact h5
  have b6 : (kind == 6) = false := by rw [beq_eq_false_iff_ne]; exact h6
  have b7 : (kind == 7) = false := by rw [beq_eq_false_iff_ne]; exact h7
  have b8 : (kind == 8) = false := by rw [beq_eq_false_iff_ne]; exact h8
  have b9 : (kind == 9) = false := by rw [beq_eq_false_iff_ne]; exact h9
  have b10 : (kind == 10) = false := by rw [beq_eq_false_iff_ne]; exact h10
  have b11 : (kind == 11) = false := by rw [beq_eq_false_iff_ne]; exact h11
  have b12 : (kind == 12) = false := by rw [beq_eq_false_iff_ne]; exact h12
  have b13 : (kind == 13) = false := by rw [beq_eq_false_iff_ne]; exact h13
  clear h1 h2 h3 h4 h5 h6 h7 h8 h9 h10 h11 h12 h13 hT h
  go_enter Tryd.func7, Tryd.ntmps7
  go_wp2
  go_ret
  exact ⟨rfl, (Below.refl _ _).alloc (Nat.le_refl _) _⟩
end Go.Proofs.YtmlmbampgbiaeaaDoor
