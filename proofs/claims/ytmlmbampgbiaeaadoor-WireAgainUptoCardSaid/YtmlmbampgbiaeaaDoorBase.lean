/- Slices as data in memory: a slice that reads as a list of cells (Rd), one of the call's own (ownsRow, Acc), and the laws of index and append over them. No condition. -/
import Derived.Test.YtmlmbampgbiaeaaDoorProg
import Derived.WalkKit
import Derived.WalkSpells
import Derived.WalkLawsBesides
import Derived.Outline
import Derived.Lib.Hide
import Derived.Laws.AppendOwnNone
import Derived.Deep.QuietTactic
import Derived.BigQuiet
namespace Go.Proofs.YtmlmbampgbiaeaaDoor
open Go.RowKit

abbrev bv (b : UInt8) : Value := .int .u8 (b.toNat : Int)

/-- v is a slice of n elements; the cells from its first on are cs. -/
def Rd (w : World) (v : Value) (n : Nat) (cs : List Value) : Prop :=
  ∃ (a : Option Addr) (b off cap : Nat), v = .slice a n cap ∧ n ≤ cap ∧ cap ≤ 9223372036854775807 ∧ (a = none → cap = 0) ∧
    (cs ≠ [] → a = some ⟨b, off, none⟩) ∧ (∀ j u, cs[j]? = some u → w.cell? ⟨b, off + j, none⟩ = some u)
def RdB (w : World) (v : Value) (bs : List UInt8) : Prop := Rd w v bs.length (bs.map bv)

theorem addr_add (b off j : Nat) : (⟨b, off, none⟩ : Addr).add j = ⟨b, off + j, none⟩ := by unfold Addr.add; split <;> simp_all
theorem maxLen_eq : maxLen = 9223372036854775807 := by simp [maxLen]

theorem Rd.same {w w' : World} {v : Value} {n : Nat} {cs : List Value} (h : Rd w v n cs) (hw : ∀ b o u, w.cell? ⟨b, o, none⟩ = some u → w'.cell? ⟨b, o, none⟩ = some u) : Rd w' v n cs := by
  obtain ⟨a, b, off, cap, h1, h2, h3, h4, h5, h6⟩ := h
  exact ⟨a, b, off, cap, h1, h2, h3, h4, h5, fun j u hj => hw _ _ _ (h6 j u hj)⟩
theorem Rd.below {w w' : World} {v : Value} {n : Nat} {cs : List Value} (h : Rd w v n cs) (hb : Below w.heap.size w w') : Rd w' v n cs :=
  h.same fun _ _ _ hu => (hb.cell (World.block_lt_of_cell? w _ hu)).trans hu
/-- w lies below in w' up to B, and all that v reads lies below B. -/
theorem Rd.alloc {w : World} {v : Value} {n : Nat} {cs : List Value} (h : Rd w v n cs) (o : Obj) : Rd (w.alloc o) v n cs :=
  h.below ((Below.refl _ _).alloc (Nat.le_refl _) o)
theorem Rd.drew {w : World} {v : Value} {n : Nat} {cs : List Value} (h : Rd w v n cs) : Rd w.drew v n cs := h.same fun _ _ _ hu => hu
theorem Rd.grown {w w' : World} {v : Value} {n : Nat} {cs : List Value} {row : Option Nat} (h : Rd w v n cs) (hg : w.grownBy w' row) (hr : ∀ g, row = some g → v.ownBlock ≠ some g) : Rd w' v n cs := by
  obtain ⟨a, b, off, cap, rfl, h2, h3, h4, h5, h6⟩ := h
  refine ⟨a, b, off, cap, rfl, h2, h3, h4, h5, fun j u hj => ?_⟩
  have hne : cs ≠ [] := by intro e; subst e; simp at hj
  have hlt := World.block_lt_of_cell? w _ (h6 j u hj)
  have hbl := hg.block b hlt (fun e => by have := hr b e.symm; rw [h5 hne] at this; simp [Value.ownBlock] at this)
  exact (World.cell?_of_block (a := ⟨b, off + j, none⟩) hbl).trans (h6 j u hj)
theorem Rd.nil (w : World) : Rd w (.slice none 0 0) 0 [] :=
  ⟨none, 0, 0, 0, rfl, Nat.le_refl _, by omega, fun _ => rfl, fun h => absurd rfl h, fun j u hj => by simp at hj⟩
theorem Rd.new (w : World) (cs : List Value) (e : TypeId) (n : Nat) (hn : n ≤ 9223372036854775807) : Rd (w.alloc (.cells cs.toArray e)) (.slice (some ⟨w.heap.size, 0, none⟩) n n) n cs := by
  refine ⟨_, w.heap.size, 0, n, rfl, Nat.le_refl _, hn, (fun h => by cases h), fun _ => rfl, fun j u hj => ?_⟩
  rw [World.cell?_alloc_at _ _ _ _ rfl]
  simpa using hj
theorem Rd.ofOwn {w : World} {base : Nat} {e : TypeId} {size : Nat} {v : Value} {n : Nat} {cs : List Value} (h : w.ownsRow base e size v n cs) : Rd w v n cs := by
  obtain ⟨hl, ⟨rfl, rfl⟩ | ⟨g, cap, cur, rfl, hb, hg, hn, hm, hs, ht⟩⟩ := h
  · have : cs = [] := by cases cs <;> simp_all
    subst this; exact Rd.nil w
  · refine ⟨_, g, 0, cap, rfl, hn, (by rw [← maxLen_eq]; exact hm), (fun h => by cases h), fun _ => rfl, fun j u hj => ?_⟩
    rw [cell_of_row w g (0 + j) cur e (0, 0) hg]
    rw [← ht, List.getElem?_take] at hj
    split at hj
    · simpa using hj
    · cases hj
theorem Rd.cap {w : World} {v : Value} {n : Nat} {cs : List Value} (h : Rd w v n cs) : n ≤ 9223372036854775807 := by
  obtain ⟨a, b, off, cap, _, h2, h3, _⟩ := h; omega
theorem Rd.shape {w : World} {v : Value} {n : Nat} {cs : List Value} (h : Rd w v n cs) : ∃ a cap, v = .slice a n cap ∧ n ≤ cap ∧ cap ≤ 9223372036854775807 := by
  obtain ⟨a, b, off, cap, h1, h2, h3, _⟩ := h; exact ⟨a, cap, h1, h2, h3⟩

theorem RdB.below {w w' : World} {v : Value} {bs : List UInt8} (h : RdB w v bs) (hb : Below w.heap.size w w') : RdB w' v bs := Rd.below h hb
theorem RdB.alloc {w : World} {v : Value} {bs : List UInt8} (h : RdB w v bs) (o : Obj) : RdB (w.alloc o) v bs := Rd.alloc h o
theorem RdB.drew {w : World} {v : Value} {bs : List UInt8} (h : RdB w v bs) : RdB w.drew v bs := Rd.drew h

/-- The slice expression 'v[l:h]'. -/
theorem Rd.sub {w : World} {a : Option Addr} {n cap : Nat} {cs : List Value} (h : Rd w (.slice a n cap) n cs) (l m : Nat) (hl : l ≤ m) (hm : m ≤ n) (hlen : cs.length = n) :
    Rd w (.slice (if cap = l then a else a.map (·.add l)) (m - l) (cap - l)) (m - l) ((cs.drop l).take (m - l)) := by
  obtain ⟨a', b, off, cap', he, h2, h3, h4, h5, h6⟩ := h
  cases he
  by_cases hc : cap = l
  · have e : (cs.drop l).take (m - l) = [] := by rw [show m - l = 0 by omega]; simp
    rw [e, if_pos hc]
    exact ⟨a, b, off, _, rfl, by omega, by omega, (fun hn => by have := h4 hn; omega), fun h => absurd rfl h, fun j u hj => by simp at hj⟩
  · rw [if_neg hc]
    refine ⟨_, b, off + l, _, rfl, by omega, by omega, fun hn => ?_, fun hne => ?_, fun j u hj => ?_⟩
    · cases a with
      | none => have := h4 rfl; omega
      | some x => simp at hn
    · have : cs ≠ [] := by intro e; subst e; simp at hne
      rw [h5 this]; simp [addr_add]
    · rw [List.getElem?_take] at hj
      split at hj
      · rw [List.getElem?_drop] at hj
        have := h6 _ _ hj
        rw [show off + l + j = off + (l + j) by omega]; exact this
      · cases hj

theorem RdB.sub {w : World} {a : Option Addr} {n cap : Nat} {bs : List UInt8} (h : RdB w (.slice a n cap) bs) (l m : Nat) (hl : l ≤ m) (hm : m ≤ bs.length) :
    RdB w (.slice (if cap = l then a else a.map (·.add l)) (m - l) (cap - l)) ((bs.drop l).take (m - l)) := by
  unfold RdB at *
  have hn : n = bs.length := by obtain ⟨_, _, _, _, he, _⟩ := h; cases he; rfl
  subst hn
  have h' := Rd.sub h l m hl hm (by simp)
  have e1 : ((bs.drop l).take (m - l)).length = m - l := by simp; omega
  rw [e1, List.map_take, List.map_drop]
  exact h'

theorem idx_run {P : Program} {t e : TypeId} {size : Nat} (ht : P.underlying t = some (.slice e)) (hs : (P.info? e).map (·.size) = some size) {a : Option Addr} {b off n : Nat} (cap : Nat)
    (ha : 0 < n → a = some ⟨b, off, none⟩) (k : IntKind) (i : Int) (w : World) :
    (Instr.indexAt t (.slice a n cap) (.int k i)).run P w = if 0 ≤ i ∧ i < n then .ok (.pointer (some ⟨b, off + i.toNat * size, none⟩)) w else (boundsPanic k i n .index).run P w := by
  cases hq : P.info? e with
  | none => simp [hq] at hs
  | some inf =>
    have hi : inf.size = size := by simpa [hq] using hs
    by_cases hn : 0 < n
    · obtain rfl := ha hn
      by_cases hc : 0 ≤ i ∧ i < n
      · rw [if_pos hc]
        simp [Instr.indexAt, run_underlying ht, asIntOf, hc, sizeOf, typeInfo, hq, hi, addr_add]
      · rw [if_neg hc]
        simp [Instr.indexAt, run_underlying ht, asIntOf, hc]
    · have hz : n = 0 := by omega
      subst hz
      rw [if_neg (by omega)]
      cases a with
      | none => simp [Instr.indexAt, run_underlying ht, asIntOf]
      | some x =>
        have hc : ¬ (0 ≤ i ∧ i < ((0 : Nat) : Int)) := by omega
        simp [Instr.indexAt, run_underlying ht, asIntOf]
        intro h1 h2; omega

theorem RdB.opn {P : Program} {t e : TypeId} (ht : P.underlying t = some (.slice e)) (hs : (P.info? e).map (·.size) = some 1) {w : World} {v : Value} {bs : List UInt8} (h : RdB w v bs) :
    ∃ (a : Option Addr) (b off cap : Nat), v = .slice a bs.length cap ∧ bs.length ≤ cap ∧ cap ≤ 9223372036854775807 ∧
      (∀ (k : IntKind) (i : Int) (w : World), (Instr.indexAt t (.slice a bs.length cap) (.int k i)).run P w = if 0 ≤ i ∧ i < bs.length then .ok (.pointer (some ⟨b, off + i.toNat, none⟩)) w else (boundsPanic k i bs.length .index).run P w) ∧
      (∀ i (hi : i < bs.length), w.cell? ⟨b, off + i, none⟩ = some (bv bs[i])) ∧ RdB w (.slice a bs.length cap) bs := by
  have h' := h
  obtain ⟨a, b, off, cap, rfl, h2, h3, h4, h5, h6⟩ := h
  refine ⟨a, b, off, cap, rfl, h2, h3, fun k i w => ?_, fun i hi => h6 i _ (by simp [hi]), h'⟩
  have hp : 0 < bs.length → a = some ⟨b, off, none⟩ := fun hp => h5 (by intro e; simp at e; subst e; simp at hp)
  rw [idx_run ht hs cap hp]
  simp

theorem cell_new (w : World) (v : Value) (e : TypeId) : (w.alloc (.cells #[v] e)).cell? ⟨w.heap.size, 0, none⟩ = some v := by
  rw [World.cell?_alloc_at _ _ _ _ rfl]; rfl
theorem cell_newd (w : World) (n : Nat) (v : Value) (e : TypeId) : ((w.drewN n).alloc (.cells #[v] e)).cell? ⟨w.heap.size, 0, none⟩ = some v := cell_new (w.drewN n) v e

/-- The bytes that a list of numbers lays in a new block. -/
theorem RdB.lit (w : World) (bs : List UInt8) {cs : Array Value} {e : TypeId} {n : Nat} (hn : n = bs.length) (hcs : cs.toList = bs.map bv) (hlen : bs.length ≤ 9223372036854775807) : RdB (w.alloc (.cells cs e)) (.slice (some ⟨w.heap.size, 0, none⟩) n n) bs := by
  subst hn
  have := Rd.new w cs.toList e bs.length hlen
  rw [hcs] at this
  have hc : cs = (bs.map bv).toArray := by rw [← hcs]
  rw [← hc] at this
  exact this

/-- What is known of a slice type: its elements' cells and bytes. -/
def Elem (P : Program) (t e : TypeId) (size bytes : Nat) : Prop :=
  P.underlying t = some (.slice e) ∧ 0 < size ∧ 0 < bytes ∧ ∃ i z, P.info? e = some i ∧ i.zero = some z ∧ i.size = size ∧ i.bytes = bytes ∧ z.cells.size = size
theorem Elem.mk {P : Program} {t e : TypeId} {z : Value} {size bytes : Nat} (ht : P.underlying t = some (.slice e)) (h : (P.info? e).map (fun i => (i.zero, i.size, i.bytes)) = some (some z, size, bytes)) (hz : z.cells.size = size) (h1 : 0 < size) (h2 : 0 < bytes) : Elem P t e size bytes := by
  obtain ⟨i, hi, hz0, hz1, hz2⟩ := info_parts h
  exact ⟨ht, h1, h2, i, z, hi, hz0, hz1, hz2, hz⟩
theorem Elem.size {P : Program} {t e : TypeId} {size bytes : Nat} (h : Elem P t e size bytes) : (P.info? e).map (·.size) = some size := by
  obtain ⟨_, _, _, i, z, hi, _, hs, _⟩ := h
  rw [hi]; simpa using hs

section
variable {P : Program} {w : World} {ops : Array Oper} {rest : List Oper} {o : Oper} {a : Act} {Q : Exit → Act → World → Prop}

/-- append(s, x...), s of the call's own, x any slice that reads. -/
theorem wpList_app {t e : TypeId} {size bytes : Nat} (hE : Elem P t e size bytes) (hgd : o.guard = none) (s x : Operand)
    (ho : o.op = .call { callee := .builtin .append, args := #[s, x], argTypes := #[t, t] }) (base n : Nat) (xs : List Value) {sv xv : Value} (hs : a.eval s = sv) (hown : w.ownsRow base e size sv n xs)
    {m : Nat} {news : List Value} (hx : a.eval x = xv) (hrd : Rd w xv m news) (hl : news.length = m * size) (h1 : ∀ u ∈ news, u.oneCell' = true) (hby : (n + m) * bytes ≤ 140737488355328) (hbase : base ≤ w.heap.size)
    (h : ∀ v' w', w'.ownsRow base e size v' (n + m) (xs ++ news) → w.grownBy w' sv.ownBlock → wpList P ops Q rest (a.put o.dst v') w') : wpList P ops Q (o :: rest) a w := by
  obtain ⟨ht, hsz, hbz, i, z, hi, hz0, hz1, hz2, hzs⟩ := hE
  obtain ⟨ad, b, off, cap, rfl, h2, h3, h4, h5, h6⟩ := hrd
  have hlen : n + m ≤ maxLen := by
    rw [maxLen_eq]
    have := Nat.le_mul_of_pos_right (n + m) hbz
    omega
  cases ad with
  | none =>
    have hc := h4 rfl
    have hm : m = 0 := by omega
    subst hm; subst hc
    have hn : news = [] := by cases news <;> simp_all
    subst hn
    refine wpList_append_own_none hgd s x t ho base e i size ht hi sv n xs hs hown hx ?_
    have := h sv w (by simpa using hown) ⟨rfl, rfl, rfl, Nat.le_refl _, fun _ _ _ => rfl⟩
    exact this
  | some ad =>
    refine wpList_append_own w hgd s x t ho base e i z size bytes ht hi hz0 hz1 hz2 hzs hsz sv n xs hs hown ad m cap news hx hl (fun j u hj => ?_) h1 hlen hby hbase fun v' w' g1 g2 _ => h v' w' g1 g2
    have hne : news ≠ [] := by intro e; subst e; simp at hj
    have := h5 hne
    cases this
    rw [addr_add]; exact h6 j u hj
end

/-- One list of bytes that the call gathers; nothing that lay there when it began has turned. -/
structure Acc (e : TypeId) (w0 w : World) (v : Value) (bs : List UInt8) : Prop where
  own : w.ownsRow w0.heap.size e 1 v bs.length (bs.map bv)
  bel : Below w0.heap.size w0 w

theorem Acc.nil (e : TypeId) (w : World) : Acc e w w (.slice none 0 0) [] := ⟨by simpa using World.ownsRow_nil w w.heap.size e 1, Below.refl _ _⟩
theorem Acc.alloc {e : TypeId} {w0 w : World} {v : Value} {bs : List UInt8} (h : Acc e w0 w v bs) (o : Obj) : Acc e w0 (w.alloc o) v bs := ⟨h.own.alloc o, h.bel.alloc h.bel.size o⟩
theorem Acc.rd {e : TypeId} {w0 w : World} {v : Value} {bs : List UInt8} (h : Acc e w0 w v bs) : RdB w v bs := by
  have := Rd.ofOwn h.own
  exact this
theorem Acc.step {e : TypeId} {w0 w w' : World} {v v' : Value} {bs bs' : List UInt8} (h : Acc e w0 w v bs) (hg : w.grownBy w' v.ownBlock) (ho : w'.ownsRow w0.heap.size e 1 v' bs'.length (bs'.map bv)) : Acc e w0 w' v' bs' :=
  ⟨ho, h.bel.grown hg h.bel.size fun k hk => (h.own.lt k hk).1⟩
/-- A call that turns nothing of what there was. -/
theorem Acc.later {e : TypeId} {w0 w w' : World} {v : Value} {bs : List UInt8} (h : Acc e w0 w v bs) (hb : Below w.heap.size w w') : Acc e w0 w' v bs := by
  refine ⟨⟨h.own.1, ?_⟩, h.bel.trans (hb.mono h.bel.size)⟩
  rcases h.own.2 with hn | ⟨g, cap, cur, rfl, hg, hh, r⟩
  · exact .inl hn
  · exact .inr ⟨g, cap, cur, rfl, hg, (hb.block g (Array.getElem?_eq_some_iff.1 hh).1).trans hh, r⟩

/-- What was gathered since w1 is gathered since an elder w0. -/
theorem Acc.weaken {e : TypeId} {w0 w1 w : World} {v : Value} {bs : List UInt8} (h : Acc e w1 w v bs) (hb : Below w0.heap.size w0 w1) : Acc e w0 w v bs := by
  refine ⟨⟨h.own.1, ?_⟩, hb.trans (h.bel.mono hb.size)⟩
  rcases h.own.2 with hn | ⟨g, cap, cur, rfl, hg, r⟩
  · exact .inl hn
  · exact .inr ⟨g, cap, cur, rfl, Nat.le_trans hb.size hg, r⟩

theorem map_bv_one (bs : List UInt8) : ∀ u ∈ bs.map bv, u.oneCell' = true := by
  intro u hu
  simp at hu
  obtain ⟨b, _, rfl⟩ := hu
  rfl

theorem Acc.sl {e : TypeId} {w0 w : World} {v : Value} {bs : List UInt8} (h : Acc e w0 w v bs) : ∃ a n c, v = .slice a n c ∧ Hid (n = bs.length) := by
  obtain ⟨a, c, rfl, _⟩ := Rd.shape (Rd.ofOwn h.own)
  exact ⟨a, _, c, rfl, rfl⟩

section
variable {P : Program} {w : World} {ops : Array Oper} {rest : List Oper} {o : Oper} {a : Act} {Q : Exit → Act → World → Prop}

theorem wpList_acc {t e : TypeId} (hE : Elem P t e 1 1) (hgd : o.guard = none) (s x : Operand)
    (ho : o.op = .call { callee := .builtin .append, args := #[s, x], argTypes := #[t, t] }) {w0 : World} {bs ys : List UInt8} {sv xv : Value} (hs : a.eval s = sv) (hacc : Acc e w0 w sv bs)
    (hx : a.eval x = xv) (hrd : RdB w xv ys) (hby : bs.length + ys.length ≤ 140737488355328)
    (h : ∀ v' w', Acc e w0 w' v' (bs ++ ys) → w.grownBy w' sv.ownBlock → wpList P ops Q rest (a.put o.dst v') w') : wpList P ops Q (o :: rest) a w := by
  refine wpList_app hE hgd s x ho w0.heap.size _ _ hs hacc.own hx hrd (by simp) (map_bv_one _) (by omega) hacc.bel.size fun v' w' h1 h2 => ?_
  exact h v' w' (hacc.step h2 (by simpa using h1)) h2

/-- append(s, y): the one byte lies in a new block of its own. -/
theorem wpList_acc1 {t e : TypeId} (hE : Elem P t e 1 1) (hgd : o.guard = none) (s x : Operand)
    (ho : o.op = .call { callee := .builtin .append, args := #[s, x], argTypes := #[t, t] }) {w0 : World} {bs : List UInt8} {sv : Value} (hs : a.eval s = sv) (hacc : Acc e w0 w sv bs)
    (hx : a.eval x = .slice (some ⟨w.heap.size, 0, none⟩) 1 1) {y : Int} (b : UInt8) (hb : y = (b.toNat : Int)) (hby : bs.length + 1 ≤ 140737488355328)
    (h : ∀ v' w', Acc e w0 w' v' (bs ++ [b]) → wpList P ops Q rest (a.put o.dst v') w') : wpList P ops Q (o :: rest) a (w.alloc (.cells #[.int .u8 y] e)) := by
  subst hb
  refine wpList_acc hE hgd s x ho hs (hacc.alloc _) hx (ys := [b]) (Rd.new w [bv b] e 1 (by omega)) (by simpa using hby) fun v' w' h1 _ => h v' w' h1

/-- append(s, y1, y2 ..): the bytes lie in a new block of their own. -/
theorem wpList_accl {t e : TypeId} (hE : Elem P t e 1 1) (hgd : o.guard = none) (s x : Operand)
    (ho : o.op = .call { callee := .builtin .append, args := #[s, x], argTypes := #[t, t] }) {w0 : World} {bs : List UInt8} {sv : Value} (hs : a.eval s = sv) (hacc : Acc e w0 w sv bs)
    (ys : List UInt8) {n : Nat} {cs : Array Value} (hx : a.eval x = .slice (some ⟨w.heap.size, 0, none⟩) n n) (hn : n = ys.length) (hcs : cs.toList = ys.map bv) (hby : bs.length + ys.length ≤ 140737488355328)
    (h : ∀ v' w', Acc e w0 w' v' (bs ++ ys) → wpList P ops Q rest (a.put o.dst v') w') : wpList P ops Q (o :: rest) a (w.alloc (.cells cs e)) := by
  subst hn
  have hrd := Rd.new w cs.toList e ys.length (by omega)
  rw [hcs] at hrd
  have hc : cs = (ys.map bv).toArray := by rw [← hcs]
  rw [hc] at *
  exact wpList_acc hE hgd s x ho hs (hacc.alloc _) hx (ys := ys) hrd hby fun v' w' h1 _ => h v' w' h1

/-- A byte of the call's own is written. -/
theorem Acc.store {e : TypeId} {w0 w : World} {g n cap : Nat} {bs : List UInt8} (h : Acc e w0 w (.slice (some ⟨g, 0, none⟩) n cap) bs) (j : Nat) (hj : j < bs.length) :
    n = bs.length ∧ w.cell? ⟨g, j, none⟩ = some (bv bs[j]) ∧ w.frozen? ⟨g, j, none⟩ = false ∧ ∀ c : UInt8, Acc e w0 (w.setCell ⟨g, j, none⟩ (bv c)) (.slice (some ⟨g, 0, none⟩) n cap) (bs.set j c) := by
  have hn : n = bs.length := by
    rcases h.own.2 with ⟨hq, _⟩ | ⟨_, _, _, hq, _⟩
    · cases hq
    · cases hq; rfl
  subst hn
  refine ⟨rfl, ?_, h.own.frozenAt j, fun c => ?_⟩
  · rw [h.own.cellAt j (by omega)]; simp [hj]
  · have h1 := h.own.stored j (bv c)
    exact ⟨by simpa [List.map_set] using h1.1, h.bel.setCell (h.own.lt g rfl).1 _⟩

theorem Acc.lit {e : TypeId} {w0 w : World} (hb : Below w0.heap.size w0 w) (ys : List UInt8) (cs : Array Value) (n : Nat) (hn : n = ys.length) (hcs : cs.toList = ys.map bv) (hlen : ys.length ≤ 4611686018427387904) :
    Acc e w0 (w.alloc (.cells cs e)) (.slice (some ⟨w.heap.size, 0, none⟩) n n) ys := by
  subst hn
  refine ⟨?_, hb.alloc hb.size _⟩
  have hs : cs.size = ys.length * 1 := by rw [← Array.length_toList, hcs]; simp
  have := World.ownsRow_lit (e := e) (size := 1) (base := w0.heap.size) w cs ys.length hb.size (by rw [maxLen_eq]; omega) hs
  rw [hcs] at this
  exact this

/-- The same three laws, the new slice written out. -/
theorem wpList_accS {t e : TypeId} (hE : Elem P t e 1 1) (hgd : o.guard = none) (s x : Operand)
    (ho : o.op = .call { callee := .builtin .append, args := #[s, x], argTypes := #[t, t] }) {w0 : World} {bs ys : List UInt8} {sv xv : Value} (hs : a.eval s = sv) (hacc : Acc e w0 w sv bs)
    (hx : a.eval x = xv) (hrd : RdB w xv ys) (hby : bs.length + ys.length ≤ 140737488355328)
    (h : ∀ a' n' c' w', Acc e w0 w' (.slice a' n' c') (bs ++ ys) → Hid (n' = (bs ++ ys).length) → wpList P ops Q rest (a.put o.dst (.slice a' n' c')) w') : wpList P ops Q (o :: rest) a w := by
  refine wpList_acc hE hgd s x ho hs hacc hx hrd hby fun v' w' h1 _ => ?_
  obtain ⟨a', n', c', rfl, hn⟩ := h1.sl
  exact h a' n' c' w' h1 hn
theorem wpList_acc1S {t e : TypeId} (hE : Elem P t e 1 1) (hgd : o.guard = none) (s x : Operand)
    (ho : o.op = .call { callee := .builtin .append, args := #[s, x], argTypes := #[t, t] }) {w0 : World} {bs : List UInt8} {sv : Value} (hs : a.eval s = sv) (hacc : Acc e w0 w sv bs)
    (hx : a.eval x = .slice (some ⟨w.heap.size, 0, none⟩) 1 1) {y : Int} (b : UInt8) (hb : y = (b.toNat : Int)) (hby : bs.length + 1 ≤ 140737488355328)
    (h : ∀ a' n' c' w', Acc e w0 w' (.slice a' n' c') (bs ++ [b]) → Hid (n' = (bs ++ [b]).length) → wpList P ops Q rest (a.put o.dst (.slice a' n' c')) w') : wpList P ops Q (o :: rest) a (w.alloc (.cells #[.int .u8 y] e)) := by
  refine wpList_acc1 hE hgd s x ho hs hacc hx b hb hby fun v' w' h1 => ?_
  obtain ⟨a', n', c', rfl, hn⟩ := h1.sl
  exact h a' n' c' w' h1 hn
theorem wpList_acclS {t e : TypeId} (hE : Elem P t e 1 1) (hgd : o.guard = none) (s x : Operand)
    (ho : o.op = .call { callee := .builtin .append, args := #[s, x], argTypes := #[t, t] }) {w0 : World} {bs : List UInt8} {sv : Value} (hs : a.eval s = sv) (hacc : Acc e w0 w sv bs)
    (ys : List UInt8) {n : Nat} {cs : Array Value} (hx : a.eval x = .slice (some ⟨w.heap.size, 0, none⟩) n n) (hn : n = ys.length) (hcs : cs.toList = ys.map bv) (hby : bs.length + ys.length ≤ 140737488355328)
    (h : ∀ a' n' c' w', Acc e w0 w' (.slice a' n' c') (bs ++ ys) → Hid (n' = (bs ++ ys).length) → wpList P ops Q rest (a.put o.dst (.slice a' n' c')) w') : wpList P ops Q (o :: rest) a (w.alloc (.cells cs e)) := by
  refine wpList_accl hE hgd s x ho hs hacc ys hx hn hcs hby fun v' w' h1 => ?_
  obtain ⟨a', n', c', rfl, hn⟩ := h1.sl
  exact h a' n' c' w' h1 hn

/-- make([]byte, 0, n). -/
theorem wpList_mkacc {t e : TypeId} (hE : Elem P t e 1 1) (hgd : o.guard = none) (l c : Operand) (ho : o.op = Op.makeSlice t l c)
    (kl kc : IntKind) {C : Int} (n : Nat) (hl : a.eval l = .int kl 0) (hc : a.eval c = .int kc C) (hC : C = (n : Int)) (hn : n ≤ 281474976710656) {w0 : World} (hb : Below w0.heap.size w0 w)
    (h : ∀ w', Acc e w0 w' (.slice (some ⟨w.heap.size, 0, none⟩) 0 n) [] → wpList P ops Q rest (a.put o.dst (.slice (some ⟨w.heap.size, 0, none⟩) 0 n)) w') : wpList P ops Q (o :: rest) a w := by
  obtain ⟨ht, hsz, hbz, i, z, hi, hz0, hz1, hz2, hzs⟩ := hE
  refine wpList_make_own w hgd l c t ho w0.heap.size e i z 1 ht hi hz0 hz1 kl kc C n hl hc hC (by rw [hz2]; omega) (by rw [maxLen_eq]; omega) hb.size fun w' h1 h2 => ?_
  exact h w' ⟨by simpa using h1, hb.grown h2 hb.size (fun k hk => by cases hk)⟩

/-- make([]byte, n): n zeros. -/
theorem wpList_mkzeros {t e : TypeId} (hE : Elem P t e 1 1) (hz0 : (P.info? e).map (·.zero) = some (some (.int .u8 0))) (hgd : o.guard = none) (l c : Operand) (ho : o.op = Op.makeSlice t l c)
    (kl kc : IntKind) {L C : Int} (n : Nat) (hl : a.eval l = .int kl L) (hc : a.eval c = .int kc C) (hL : L = (n : Int)) (hC : C = (n : Int)) (hn : n ≤ 281474976710656) {w0 : World} (hb : Below w0.heap.size w0 w)
    (h : ∀ w', Acc e w0 w' (.slice (some ⟨w.heap.size, 0, none⟩) n n) (List.replicate n 0) → Below w.heap.size w w' → wpList P ops Q rest (a.put o.dst (.slice (some ⟨w.heap.size, 0, none⟩) n n)) w') : wpList P ops Q (o :: rest) a w := by
  obtain ⟨ht, hsz, hbz, i, z, hi, hzz, hz1, hz2, hzs⟩ := hE
  have hz : z = .int .u8 0 := by simpa [hi, hzz] using hz0
  subst hz
  refine wpList_make_full w hgd l c t ho w0.heap.size e i (.int .u8 0) 1 ht hi hzz hz1 kl kc L C n hl hc hL hC (by rw [hz2]; omega) (by rw [maxLen_eq]; omega) hb.size fun w' h1 h2 => ?_
  have e1 : (madeCells (Value.int .u8 0).cells (n * 1)).toList = (List.replicate n (0 : UInt8)).map bv := by
    rw [Nat.mul_one]
    have : (Value.int IntKind.u8 0).cells = #[.int .u8 0] := rfl
    rw [this, toList_madeCells_one]
    simp [bv]
  rw [e1] at h1
  exact h w' ⟨by simpa using h1, hb.grown h2 hb.size (fun k hk => by cases hk)⟩ ((Below.refl _ _).grown h2 (Nat.le_refl _) (fun k hk => by cases hk))
end

/-- append at a step of a region that draws its order: the appended elements lie in one block. -/
theorem step_app {P : Program} {w : World} {ops : Array Oper} {o : Oper} {a : Act} {K : Act → World → Prop} {Q : Exit → Act → World → Prop} {E : Prop} {t e : TypeId} {size bytes : Nat} (hE : Elem P t e size bytes) (hgd : o.guard = none) (s x : Operand)
    (ho : o.op = .call { callee := .builtin .append, args := #[s, x], argTypes := #[t, t] }) (base n : Nat) (xs : List Value) {sv : Value} (hs : a.eval s = sv) (hown : w.ownsRow base e size sv n xs)
    {ad : Addr} {m c : Nat} {news : List Value} (hx : a.eval x = .slice (some ad) m c) (hrd : Rd w (.slice (some ad) m c) m news) (hl : news.length = m * size) (h1 : ∀ u ∈ news, u.oneCell' = true) (hby : (n + m) * bytes ≤ 140737488355328) (hbase : base ≤ w.heap.size)
    (h : ∀ a' n' c' w', w'.ownsRow base e size (.slice a' n' c') (n + m) (xs ++ news) → w.grownBy w' sv.ownBlock → K (a.put o.dst (.slice a' n' c')) w') :
    if Region.wanted o (yielded ops a.tmps) = true then Oper.wp P o a w K Q else E := by
  have hw : Region.wanted o (yielded ops a.tmps) = true := by simp [Region.wanted, hgd]
  rw [if_pos hw]
  obtain ⟨ht, hsz, hbz, i, z, hi, hz0, hz1, hz2, hzs⟩ := hE
  have hlen : n + m ≤ maxLen := by
    rw [maxLen_eq]
    have := Nat.le_mul_of_pos_right (n + m) hbz
    omega
  refine wp_append_own w s x t ho base e i z size bytes ht hi hz0 hz1 hz2 hzs hsz sv n xs hs hown ad m c news hx hl (fun j u hj => ?_) h1 hlen hby hbase fun v' w' g1 g2 _ => ?_
  · obtain ⟨a', b, off, cap, he, h2, h3, h4, h5, h6⟩ := hrd
    have hne : news ≠ [] := by intro e; subst e; simp at hj
    cases he
    have := h5 hne
    cases this
    rw [addr_add]; exact h6 j u hj
  · obtain ⟨a', c', rfl, _⟩ := Rd.shape (Rd.ofOwn g1)
    exact h a' _ c' w' g1 g2

theorem quiet_left {P : Program} {f : FuncId} {args : Array Value} {w : World} {n : Nat} {v : Value}
    (h : Calls P f args (w.drewN n) fun e w' => e = .returned v ∧ w.drewN n = w') : Calls P f args (w.drewN n) fun e w'' => e = .returned v ∧ ∃ m, w'' = w.drewN m :=
  h.mono fun _ _ ⟨he, hm⟩ => ⟨he, n, hm.symm⟩
theorem quiet_add_left {P : Program} {f : FuncId} {args : Array Value} {w : World} {a n : Nat} {v : Value}
    (h : Calls P f args (w.drewN (a + n)) fun e w' => e = .returned v ∧ w.drewN (a + n) = w') :
    Calls P f args (w.drewN (a + n)) fun e w'' => e = .returned v ∧ ∃ m, w'' = w.drewN (a + m) :=
  h.mono fun _ _ ⟨he, hm⟩ => ⟨he, n, hm.symm⟩
theorem RdB.drewN {w : World} {v : Value} {bs : List UInt8} (h : RdB w v bs) (n : Nat) : RdB (w.drewN n) v bs := Rd.same h fun _ _ _ hu => hu

/-- copy(d, s): the whole of s into a row of the call's own that is no shorter. -/
theorem wpList_copyB {P : Program} {w : World} {ops : Array Oper} {rest : List Oper} {o : Oper} {a : Act} {Q : Exit → Act → World → Prop}
    {t e : TypeId} (hE : Elem P t e 1 1) (hgd : o.guard = none) (d s : Operand)
    (ho : o.op = .call { callee := .builtin .copy, args := #[d, s], argTypes := #[t, t] }) {g n cap base : Nat} {xs : List Value} (hd : a.eval d = .slice (some ⟨g, 0, none⟩) n cap) (hown : w.ownsRow base e 1 (.slice (some ⟨g, 0, none⟩) n cap) n xs)
    {sv : Value} {m : Nat} {cs : List Value} (hs : a.eval s = sv) (hrd : Rd w sv m cs) (hl : cs.length = m) (hm : m ≤ n) (h1 : ∀ u ∈ cs, u.oneCell' = true)
    (h : ∀ w', w'.ownsRow base e 1 (.slice (some ⟨g, 0, none⟩) n cap) n (cs ++ xs.drop m) → w.grownBy w' (some g) → wpList P ops Q rest (a.put o.dst (goInt m)) w') : wpList P ops Q (o :: rest) a w := by
  obtain ⟨ht, hsz, hbz, i, z, hi, hz0, hz1, hz2, hzs⟩ := hE
  have hsize : (P.info? e).map (·.size) = some 1 := by rw [hi]; simpa using hz1
  refine wpList_plain hgd fun K hK => ?_
  unfold Oper.wp
  have fin : ∀ w', (Builtin.copy_ #[t, t] o.type #[.slice (some ⟨g, 0, none⟩) n cap, sv]).run P w = .ok (goInt m) w' → w'.ownsRow base e 1 (.slice (some ⟨g, 0, none⟩) n cap) n (cs ++ xs.drop m) → w.grownBy w' (some g) → o.upon P a K Q ((execOp a.eval o).run P w) := by
    intro w' hrun g1 g2
    simp [execOp, ho, resolve, invoke, builtin, hd, hs, hrun, Result.andThen]
    exact hK _ _ (h w' g1 g2)
  obtain ⟨ad, b, off, c, rfl, h2, h3, h4, h5, h6⟩ := hrd
  obtain ⟨hxl, ⟨hq, _⟩ | ⟨g', cap', cur, hq, hb, hg, hnc, hcm, hcs, htake⟩⟩ := hown
  · cases hq
  · cases hq
    cases ad with
    | none =>
      have hc := h4 rfl
      have hm0 : m = 0 := by omega
      have hc0 : c = 0 := by omega
      have hcs0 : cs = [] := by cases cs <;> simp_all
      subst hm0; subst hcs0; subst hc0
      refine fin w ?_ ?_ ⟨rfl, rfl, rfl, Nat.le_refl _, fun _ _ _ => rfl⟩
      · exact run_copy_nil P w t t o.type e ⟨g, 0, none⟩ n cap ht (by rw [hsize]; rfl)
      · refine ⟨by simpa using hxl, .inr ⟨g, cap, cur, rfl, hb, hg, hnc, hcm, hcs, ?_⟩⟩
        simpa using htake
    | some ad =>
      have hsrc : ∀ j v, cs[j]? = some v → w.cell? (ad.add j) = some v := by
        intro j v hj
        have hne : cs ≠ [] := by intro e; subst e; simp at hj
        have := h5 hne
        cases this
        rw [addr_add]; exact h6 j v hj
      have hcsz : cur.size = cap := by simpa using hcs
      have hrun := run_copy_row (P := P) w t t o.type e g 0 n cap ad m c cur e cs ht hsize hg (by rw [hl]; exact (Nat.min_eq_left hm).symm) hsrc (by omega) h1
      rw [hl] at hrun
      refine fin _ hrun ?_ ?_
      · refine ⟨?_, .inr ⟨g, cap, _, rfl, hb, setRow_heap w g cur _ e _ hg, hnc, hcm, ?_, ?_⟩⟩
        · simp only [List.length_append, List.length_drop, hxl]; omega
        · simp; omega
        · have hxs : xs = cur.toList.take n := by rw [← htake]; simp
          rw [hxs]
          simp only [List.take_zero, List.nil_append, Nat.zero_add, Nat.mul_one]
          rw [List.take_append, List.take_of_length_le (by omega), List.drop_take, hl]
      · exact ⟨rfl, rfl, rfl, by simp, fun k _ hk => setRow_other w g k _ (fun e => hk (by rw [e]))⟩
theorem Ebs : Elem Tryd.prog 25 5 1 1 := Elem.mk (z := .int .u8 0) Tryd.underlying25 (by kernel_rfl) rfl (by decide) (by decide)
theorem Zb : (Tryd.prog.info? 5).map (·.zero) = some (some (.int .u8 0)) := by kernel_rfl
theorem RdB.open {w : World} {v : Value} {bs : List UInt8} (h : RdB w v bs) :
    ∃ (a : Option Addr) (b off cap : Nat), v = .slice a bs.length cap ∧ bs.length ≤ cap ∧ cap ≤ 9223372036854775807 ∧
      (∀ (k : IntKind) (i : Int) (w : World), (Instr.indexAt 25 (.slice a bs.length cap) (.int k i)).run Tryd.prog w = if 0 ≤ i ∧ i < bs.length then .ok (.pointer (some ⟨b, off + i.toNat, none⟩)) w else (boundsPanic k i bs.length .index).run Tryd.prog w) ∧
      (∀ i (hi : i < bs.length), w.cell? ⟨b, off + i, none⟩ = some (bv bs[i])) ∧ RdB w (.slice a bs.length cap) bs := RdB.opn Ebs.1 Ebs.size h
end Go.Proofs.YtmlmbampgbiaeaaDoor
