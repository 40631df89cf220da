/- The walks of layer 1: bytes held against one another. The bytes are fewer than 2^62. -/
import Derived.Test.YtmlmbampgbiaeaaDoorWire9
import Derived.Test.YtmlmbampgbiaeaaDoorPlain3
namespace Go.Proofs.YtmlmbampgbiaeaaDoor
open Go.RowKit

def str (bs : List UInt8) : ByteArray := ⟨bs.toArray⟩
theorem str_nums (bs : List UInt8) : strOfNums (bs.map fun b => (b.toNat : Int)) = str bs := by
  simp only [strOfNums, str, List.map_map]
  congr 2
  conv => rhs; rw [← List.map_id bs]
  exact List.map_congr_left fun b _ => by simp

theorem RdB.str {w : World} {v : Value} {bs : List UInt8} (h : RdB w v bs) : (convert 25 9 v).run Tryd.prog w = .ok (.string (str bs)) w := by
  obtain ⟨a, b, off, cap, rfl, h2, h3, h4, h5, h6⟩ := h
  cases a with
  | none =>
    have hc := h4 rfl
    have : bs = [] := by cases bs <;> simp_all
    subst this
    rw [run_convert_bytes_nil _ _ 5 Tryd.underlying25 Tryd.underlying5 _ _ _ Tryd.underlying9]
    rfl
  | some a =>
    by_cases he : bs = []
    · subst he
      have hl := run_loadCells_list (P := Tryd.prog) w a [] (fun j v hj => by simp at hj)
      rw [run_convert_bytes_string _ _ _ _ _ _ _ Tryd.underlying25 Tryd.underlying5 Tryd.underlying9, run_bytesToString (ns := []) _ _ _ _ (by simpa using hl)]
      rfl
    · have := h5 (by simpa using he)
      cases this
      rw [run_convert_bytes_arg _ _ 5 Tryd.underlying25 Tryd.underlying5 b off bs.length cap (bs.map fun b => (b.toNat : Int)) (by simp) (fun i hi => ?_) _ Tryd.underlying9, str_nums]
      have := h6 i (bv bs[i]) (by simp [hi])
      rw [this]; simp [hi]

theorem str_eq (x y : List UInt8) : ((str x).toList == (str y).toList) = (x == y) := by
  rw [ByteArray.toList_eq, ByteArray.toList_eq]; rfl

theorem retb_eq {x y : Bool} (h : x = y) : Ending.returned (.bool x) = .returned (.bool y) := by rw [h]

theorem bytesEqual_any {v u : Value} {x y : List UInt8} (w : World) (hv : RdB w v x) (hu : RdB w u y) :
    Calls Tryd.prog 54 #[v, u] w fun e w' => e = .returned (.bool (x == y)) ∧ w = w' := by
  have h1 := hv.str
  have h2 := hu.str
  have HE := Lib.hid (str_eq x y)
  go_enter Tryd.func54, Tryd.ntmps54
  go_wp2
  go_ret
  exact ⟨retb_eq HE.out, rfl⟩
theorem refSame_any {v u : Value} {x y : List UInt8} (w : World) (hv : RdB w v x) (hu : RdB w u y) :
    Calls Tryd.prog 107 #[v, u] w fun e w' => e = .returned (.bool (x == y)) ∧ w = w' := by
  have h1 := hv.str
  have h2 := hu.str
  have HE := Lib.hid (str_eq x y)
  go_enter Tryd.func107, Tryd.ntmps107
  go_wp2
  go_ret
  exact ⟨retb_eq HE.out, rfl⟩
theorem same1_any {v u : Value} {x y : List UInt8} (w : World) (hv : RdB w v x) (hu : RdB w u y) :
    Calls Tryd.prog 32 #[v, u] w fun e w' => e = .returned (.bool (x == y)) ∧ w = w' := by
  have h1 := hv.str
  have h2 := hu.str
  have HE := Lib.hid (str_eq x y)
  go_enter Tryd.func32, Tryd.ntmps32
  go_wp2
  go_ret
  exact ⟨retb_eq HE.out, rfl⟩

/-- The table of the sum, at its place. -/
def Tab (w : World) : Prop := 0 < w.heap.size ∧ ∀ i, i < 16 → w.cell? ⟨0, i, none⟩ = some (.int .u32 ((tab i : Nat) : Int))
theorem Tab.below {w w' : World} (h : Tab w) (hb : Below w.heap.size w w') : Tab w' :=
  ⟨Nat.lt_of_lt_of_le h.1 hb.size, fun i hi => (hb.cell (p := ⟨0, i, none⟩) h.1).trans (h.2 i hi)⟩

/-- A slice of byte strings. -/
def RdBB (w : World) (v : Value) (bss : List (List UInt8)) : Prop :=
  ∃ hs : List Value, hs.length = bss.length ∧ Rd w v bss.length hs ∧ ∀ i (h : i < bss.length), ∃ hv, hs[i]? = some hv ∧ RdB w hv bss[i]
theorem RdBB.below {w w' : World} {v : Value} {bss : List (List UInt8)} (h : RdBB w v bss) (hb : Below w.heap.size w w') : RdBB w' v bss := by
  obtain ⟨hs, h1, h2, h3⟩ := h
  exact ⟨hs, h1, h2.below hb, fun i hi => by obtain ⟨hv, e, r⟩ := h3 i hi; exact ⟨hv, e, Rd.below r hb⟩⟩
/-- A new list of one byte string. -/
theorem RdBB.one {w : World} {v : Value} {bs : List UInt8} (h : RdB w v bs) (e : TypeId) : RdBB (w.alloc (.cells #[v] e)) (.slice (some ⟨w.heap.size, 0, none⟩) 1 1) [bs] :=
  ⟨[v], rfl, Rd.new w [v] e 1 (by omega), fun i hi => by
    have : i = 0 := by simpa using hi
    subst this
    exact ⟨v, rfl, Rd.alloc h _⟩⟩
theorem Ebss : Elem Tryd.prog 30 25 1 24 := Elem.mk (z := .slice none 0 0) Tryd.underlying30 (by kernel_rfl) rfl (by decide) (by decide)
theorem RdBB.open {w : World} {v : Value} {bss : List (List UInt8)} (h : RdBB w v bss) :
    ∃ (a : Option Addr) (b off cap : Nat), v = .slice a bss.length cap ∧ bss.length ≤ 9223372036854775807 ∧
      (∀ (k : IntKind) (i : Int) (w : World), (Instr.indexAt 30 (.slice a bss.length cap) (.int k i)).run Tryd.prog w = if 0 ≤ i ∧ i < bss.length then .ok (.pointer (some ⟨b, off + i.toNat, none⟩)) w else (boundsPanic k i bss.length .index).run Tryd.prog w) ∧
      (∀ i (hi : i < bss.length), ∃ hv, w.cell? ⟨b, off + i, none⟩ = some hv ∧ RdB w hv bss[i]) := by
  obtain ⟨hs, h1, h2, h3⟩ := h
  obtain ⟨a, b, off, cap, rfl, g2, g3, g4, g5, g6⟩ := h2
  refine ⟨a, b, off, cap, rfl, by omega, fun k i w => ?_, fun i hi => ?_⟩
  · have hp : 0 < bss.length → a = some ⟨b, off, none⟩ := fun hp => g5 (by intro e; subst e; simp at h1; omega)
    rw [idx_run Ebss.1 Ebss.size cap hp]
    simp
  · obtain ⟨hv, e, r⟩ := h3 i hi
    exact ⟨hv, g6 i hv e, r⟩
end Go.Proofs.YtmlmbampgbiaeaaDoor
