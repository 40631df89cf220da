/- A region that draws its order and whose LAST operation writes a cell that the region loads: the condition on the world is asked behind every operation but the last. No condition. -/
import Derived.Test.YtmlmbampgbiaeaaDoorBase
import Derived.OrdersHeld
import Derived.StillTail
namespace Go.Proofs.YtmlmbampgbiaeaaDoor
open Go.RowKit
section
variable {P : Program} {ops : Array Oper} {Q : Exit → Act → World → Prop} {md : Region.Mode} {S : World → Prop} {t : Nat}

/-- Whatever order is picked, and S holds behind each operation ahead of number t. -/
def wpAnyE (P : Program) (md : Region.Mode) (ops : Array Oper) (Q : Exit → Act → World → Prop) (S : World → Prop) (t : Nat) : Nat → Array Bool → Act → World → Prop
  | 0, l, a, w => Region.ready md ops l = [] ∧ Q .normal a w
  | n + 1, l, a, w => (Region.ready md ops l = [] → Q .normal a w) ∧
    ∀ i ∈ Region.ready md ops l, wpOp P ops Q i (fun a' w' => (i < t → S w') ∧ wpAnyE P md ops Q S t n (l.setIfInBounds i true) a' w') a w

theorem wpAnyE_any : ∀ (n : Nat) (l : Array Bool) (a : Act) (w : World), wpAnyE P md ops Q S t n l a w → wpAny P md ops Q n l a w
  | 0, _, _, _, h => h
  | n + 1, _, _, _, h => ⟨h.1, fun i hi => wpOp_mono (fun a' w' h' => wpAnyE_any n _ a' w' h'.2) (h.2 i hi)⟩

/-- Number t is the last: every other one is waited for. -/
def Ends (md : Region.Mode) (ops : Array Oper) (t : Nat) : Bool := Region.noSelect ops && Region.sinkB md ops t && Region.chainB md ops t && decide (t + 1 = ops.size)

theorem wpAnyE_firstOf (hE : Ends md ops t = true) {i : Nat} {oi : Oper} {v : Value} (hi : ops[i]? = some oi) (hit : i < t)
    (hQ : ∀ c a w, Q (.panic c) (a.put oi.dst v) w → Q (.panic c) a w) (n : Nat) : ∀ (l : Array Bool) (a : Act) (w : World), HeadInv md ops t l →
    (∀ j oj, ops[j]? = some oj → j ≠ i → l.getD j true = false → (∀ e ∈ oj.after, Region.binds md e = true → e.on ≠ i) → oi.apart ops oj = true) →
    i ∈ Region.ready md ops l → YieldsIf P ops S oi v a → S w → wpAnyE P md ops Q S t n (l.setIfInBounds i true) (a.put oi.dst v) w → wpAnyE P md ops Q S t (n + 1) l a w := by
  simp only [Ends, Bool.and_eq_true, decide_eq_true_eq] at hE
  obtain ⟨⟨⟨hsel, hs⟩, hc⟩, ht⟩ := hE
  induction n with
  | zero =>
    intro l a w _ _ hr hy hS H
    have one : ∀ j ∈ Region.ready md ops l, j = i := fun j hj => Decidable.byContradiction fun hne => by
      have h := ready_mono hj hne
      rw [H.1] at h; cases h
    exact ⟨fun h => (by rw [h] at hr; cases hr), fun j hj => (by rw [one j hj]; exact hy.wpOp hi hS ⟨fun _ => hS, H⟩)⟩
  | succ n ih =>
    intro l a w inv hfree hr hy hS H
    refine ⟨fun h => (by rw [h] at hr; cases hr), fun j hj => ?_⟩
    rcases Decidable.em (j = i) with hji | hji
    · rw [hji]; exact hy.wpOp hi hS ⟨fun _ => hS, H⟩
    have hiun := (mem_ready.1 hr).1
    obtain ⟨hjun, oj, hoj, hall⟩ := mem_ready.1 hj
    have hjs := (Array.getElem?_eq_some_iff.1 hoj).1
    have hjt : j < t := by
      rcases Nat.lt_or_ge j t with h | h
      · exact h
      · exact absurd hj (tail_waits hs hc (by omega) inv (t - i) i rfl hit hiun j h)
    have hnot : ∀ e ∈ oj.after, Region.binds md e = true → e.on ≠ i := fun e he hb heq => by
      have h1 := hall e he hb
      subst heq
      by_cases h' : e.on < l.size
      · simp [h'] at hiun h1; rw [hiun] at h1; cases h1
      · simp [Array.getElem?_eq_none (Nat.le_of_not_lt h')] at h1
    have h2 := wpOp_putIf hoj (hfree j oj hoj hji hjun hnot) (fun cs b => Region.noSelect_spec hsel i oi cs b hi) (fun cs b => Region.noSelect_spec hsel j oj cs b hoj) hQ hy (H.2 j (ready_mono hj hji))
    refine wpOp_mono (fun a' w' h3 => ?_) h2
    obtain ⟨hy', hS', h4⟩ := h3
    refine ⟨hS', ih (l.setIfInBounds j true) a' w' (inv.set hj hjt) (fun k ok hk hki hun hno => hfree k ok hk hki ?_ hno) (ready_mono hr (Ne.symm hji)) hy' (hS' hjt) ?_⟩
    · rcases Decidable.em (j = k) with hjk | hjk
      · rw [← hjk]; exact hjun
      · rw [getD_set_ne true hjk] at hun; exact hun
    · rw [Array.setIfInBounds_comm _ _ hji]; exact h4

/-- What is to be shown at a state, its history told. -/
def WE (P : Program) (md : Region.Mode) (ops : Array Oper) (Q : Exit → Act → World → Prop) (S : World → Prop) (t n : Nat) (l : Array Bool) (a : Act) (w : World) : Prop :=
  HeadInv md ops t l → wpAnyE P md ops Q S t n l a w

/-- The beginning. -/
theorem we_begin (S : World → Prop) (t : Nat) {id : Nat} {a : Act} {w : World} (hm : P.follows .mixedOrders = true) (_hE : Ends .any ops t = true) (h : WE P .any ops Q S t ops.size (Array.replicate ops.size false) a w.drew) : (Code.region id ops true).wp P Q a w := by
  refine wp_region_any hm (wpAnyE_any _ _ _ _ (h ?_))
  refine ⟨by simp, fun j oj _ hl => (by rw [getD_replicate_false] at hl; cases hl), fun k hk hks => ?_⟩
  exact getD_in (by simpa using hks) (getD_replicate_false _ _)
/-- Number i is taken first. -/
theorem we_take (hE : Ends md ops t = true) (i : Nat) {oi : Oper} {v : Value} {n : Nat} {l : Array Bool} {a : Act} {w : World} (hi : ops[i]? = some oi) (hit : i < t) (hf : Region.free md ops l i = true) (hr : (Region.ready md ops l).contains i = true)
    (hQ : ∀ c a w, Q (.panic c) (a.put oi.dst v) w → Q (.panic c) a w) (hy : YieldsIf P ops S oi v a) (hS : S w)
    (h : WE P md ops Q S t n (l.setIfInBounds i true) (a.put oi.dst v) w) : WE P md ops Q S t (n + 1) l a w := fun inv => by
  have hr' : i ∈ Region.ready md ops l := by simpa using hr
  exact wpAnyE_firstOf hE hi hit hQ n l a w inv (Region.free_spec hi hf) hr' hy hS (h (inv.set hr' hit))
/-- Number i alone may come up. -/
theorem we_one (i : Nat) {oi : Oper} {n : Nat} {l : Array Bool} {a : Act} {w : World} (hi : ops[i]? = some oi) (hit : i < t) (hr : Region.ready md ops l = [i])
    (h : ∀ K' : Act → World → Prop, Hid (∀ a w, S w → WE P md ops Q S t n (l.setIfInBounds i true) a w → K' a w) → if Region.wanted oi (yielded ops a.tmps) = true then Oper.wp P oi a w K' Q else K' (a.put oi.dst undef) w) : WE P md ops Q S t (n + 1) l a w := fun inv => by
  refine ⟨fun h0 => (by rw [h0] at hr; cases hr), fun j hj => ?_⟩
  have hjr := hj
  rw [hr] at hj
  have hji : j = i := by simpa using hj
  subst hji
  exact wpOp_step hi (fun K' hK => h K' (Lib.hid fun a w hS hW => hK a w ⟨fun _ => hS, hW (inv.set hjr hit)⟩))
/-- The last one. -/
theorem we_last (i : Nat) {oi : Oper} {n : Nat} {l : Array Bool} {a : Act} {w : World} (hi : ops[i]? = some oi) (hit : i = t) (hr : Region.ready md ops l = [i]) (hr2 : Region.ready md ops (l.setIfInBounds i true) = [])
    (h : ∀ K' : Act → World → Prop, Hid (∀ a w, Q .normal a w → K' a w) → if Region.wanted oi (yielded ops a.tmps) = true then Oper.wp P oi a w K' Q else K' (a.put oi.dst undef) w) : WE P md ops Q S t (n + 1) l a w := fun inv => by
  refine ⟨fun h0 => (by rw [h0] at hr; cases hr), fun j hj => ?_⟩
  rw [hr] at hj
  have hji : j = i := by simpa using hj
  subst hji
  refine wpOp_step hi (fun K' hK => h K' (Lib.hid fun a w hS => hK a w ⟨fun h => absurd h (by omega), ?_⟩))
  cases n with
  | zero => exact ⟨hr2, hS⟩
  | succ n => exact ⟨fun _ => hS, fun k hk => by rw [hr2] at hk; cases hk⟩
end
end Go.Proofs.YtmlmbampgbiaeaaDoor
