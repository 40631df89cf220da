/- WireAgain: what its loops keep. -/
import Derived.Test.YtmlmbampgbiaeaaDoorDesks
namespace Go.Proofs.YtmlmbampgbiaeaaDoor
open Go.RowKit

/-- One call of the script, as data; the two slices as they came in. -/
structure OpD where
  kind : Int
  at_ : Int
  n : Int
  v : Nat
  ba : Option Addr
  bc : Nat
  pa : Option Addr
  pc : Nat
  bs : List UInt8
  bss : List (List UInt8)
def OpD.bv_ (o : OpD) : Value := .slice o.ba o.bs.length o.bc
def OpD.pv (o : OpD) : Value := .slice o.pa o.bss.length o.pc
def OpD.cells (o : OpD) : Array Value := #[.int .i64 o.kind, .slice o.ba o.bs.length o.bc, .int .i64 o.at_, .int .i64 o.n, .int .u64 o.v, .slice o.pa o.bss.length o.pc]
structure OpD.ok (w : World) (o : OpD) : Prop where
  b : RdB w o.bv_ o.bs
  p : RdBB w o.pv o.bss
  bl : o.bs.length ≤ 1073741824
  p1 : o.bss.length ≤ 1073741824
  p2 : ∀ b ∈ o.bss, b.length ≤ 1073741824
  nn : o.n ≤ 9223372036854775807
  vv : U64 o.v
def RdOps (w : World) (v : Value) (ops : List OpD) : Prop :=
  ∃ (a : Option Addr) (b off cap : Nat), v = .slice a ops.length cap ∧ ops.length ≤ 1073741824 ∧ (0 < ops.length → a = some ⟨b, off, none⟩) ∧
    (∀ i (h : i < ops.length), (ops[i]).ok w ∧ ∀ j (hj : j < 6), w.cell? ⟨b, off + i * 6 + j, none⟩ = some ((ops[i]).cells[j]'(by simpa [OpD.cells] using hj)))

theorem Eops : Elem Tryd.prog 22 32 6 80 := Elem.mk (z := .agg #[.int .i64 0, .slice none 0 0, .int .i64 0, .int .i64 0, .int .u64 0, .slice none 0 0]) Tryd.underlying22 (by kernel_rfl) rfl (by decide) (by decide)
theorem Edp : Elem Tryd.prog 28 24 1 8 := Elem.mk (z := .pointer none) Tryd.underlying28 (by kernel_rfl) rfl (by decide) (by decide)

/-- What kind of cells lies in a block. -/
def ty (w : World) (k : Nat) (e : TypeId) : Prop := ∃ cs f, w.heap[k]? = some (.cells cs e f)
theorem ty_ne {w : World} {k l : Nat} {e e' : TypeId} (h : ty w k e) (h' : ty w l e') (he : e ≠ e') : k ≠ l := by
  rintro rfl
  obtain ⟨cs, f, h⟩ := h
  obtain ⟨cs', f', h'⟩ := h'
  rw [h] at h'; cases h'; exact he rfl
theorem ty_own {w : World} {base : Nat} {e : TypeId} {size : Nat} {v : Value} {n : Nat} {xs : List Value} (h : w.ownsRow base e size v n xs) {g : Nat} (hg : v.ownBlock = some g) : ty w g e := by
  rcases h.2 with ⟨rfl, _⟩ | ⟨g', cap, cur, rfl, _, hh, _⟩
  · simp [Value.ownBlock] at hg
  · simp [Value.ownBlock] at hg
    subst hg
    exact ⟨_, _, hh⟩
theorem Desks.notown {B : Nat} {w : World} {L : List DK} (h : Desks B w L) {x : DK} (hx : x ∈ L) {k : Nat} {e : TypeId} (hk : ty w k e) (h1 : e ≠ 27) (h2 : e ≠ 5) : ¬ x.own k := by
  rintro (rfl | ho)
  · exact ty_ne hk ⟨_, _, (h.each x hx).1.blk⟩ h1 rfl
  · exact ty_ne hk (ty_own (h.each x hx).1.own ho) h2 rfl
theorem one_ptr (d : Nat) : ∀ u ∈ [ptr d], u.oneCell' = true := by
  intro u hu
  simp at hu
  subst hu; rfl
theorem one_sl (a : Option Addr) (n c : Nat) : ∀ u ∈ [Value.slice a n c], u.oneCell' = true := by
  intro u hu
  simp at hu
  subst hu; rfl
theorem size_alloc2 {B : Nat} {w : World} (h : B ≤ w.heap.size) (x y : Obj) : B ≤ ((w.alloc x).alloc y).heap.size := by simp; omega
theorem size_alloc1 {B : Nat} {w : World} (h : B ≤ w.heap.size) (x : Obj) : B ≤ (w.alloc x).heap.size := by simp; omega
theorem Rd.newAt (w : World) (cs : List Value) (e : TypeId) (n : Nat) (hn : n ≤ 9223372036854775807) {g : Nat} (hg : g = w.heap.size) : Rd (w.alloc (.cells cs.toArray e)) (.slice (some ⟨g, 0, none⟩) n n) n cs := by
  subst hg; exact Rd.new w cs e n hn
theorem own_len {w : World} {base : Nat} {e : TypeId} {size : Nat} {a : Option Addr} {k c n : Nat} {xs : List Value} (h : w.ownsRow base e size (.slice a k c) n xs) : k = n := by
  rcases h.2 with ⟨hq, hz⟩ | ⟨_, _, _, hq, _⟩
  · cases hq; exact hz.symm
  · cases hq; rfl
theorem drewN_drewN (w : World) (a b : Nat) : (w.drewN a).drewN b = w.drewN (a + b) := by simp [World.drewN, Nat.add_assoc]
theorem own_below {w w' : World} {base : Nat} {e : TypeId} {size : Nat} {v : Value} {n : Nat} {xs : List Value} (h : w.ownsRow base e size v n xs) (hb : Below w.heap.size w w') : w'.ownsRow base e size v n xs :=
  own_block h fun g hg => hb.block g (h.lt g hg).2

/-- What lies in memory while one call of the script is under way. -/
structure Fr (B : Nat) (w0 w : World) (x0 : DK) (L : List DK) (dsv : Value) (ob pb : Nat) (oc pc : Array Value) (pvv : Value) (hs : List Value) : Prop where
  desks : Desks B w (x0 :: L)
  row : w.ownsRow B 24 1 dsv L.length (ptrs L)
  fo : w.heap[ob]? = some (.cells oc 32 (0, 0))
  fp : w.heap[pb]? = some (.cells pc 32 (0, 0))
  ne : ob ≠ pb
  lob : B ≤ ob
  lpb : B ≤ pb
  prow : w.ownsRow B 25 1 pvv hs.length hs
  bel : Below B w0 w

section
variable {B : Nat} {w0 w : World} {x0 : DK} {L : List DK} {dsv : Value} {ob pb : Nat} {oc pc : Array Value} {pvv : Value} {hs : List Value}
theorem Fr.co (h : Fr B w0 w x0 L dsv ob pb oc pc pvv hs) (j : Nat) : w.cell? ⟨ob, j, none⟩ = oc[j]? := cell_of_row w ob j _ _ (0, 0) h.fo
theorem Fr.cp (h : Fr B w0 w x0 L dsv ob pb oc pc pvv hs) (j : Nat) : w.cell? ⟨pb, j, none⟩ = pc[j]? := cell_of_row w pb j _ _ (0, 0) h.fp
theorem Fr.pf (h : Fr B w0 w x0 L dsv ob pb oc pc pvv hs) (j : Nat) : w.frozen? ⟨pb, j, none⟩ = false := by simp [World.frozen?, h.fp]
theorem Fr.size (h : Fr B w0 w x0 L dsv ob pb oc pc pvv hs) : B ≤ w.heap.size := by have := h.lob; have := heap_lt h.fo; omega

theorem Fr.below {w' : World} (h : Fr B w0 w x0 L dsv ob pb oc pc pvv hs) (hb : Below w.heap.size w w') : Fr B w0 w' x0 L dsv ob pb oc pc pvv hs :=
  ⟨h.desks.below hb, own_below h.row hb, (hb.block _ (heap_lt h.fo)).trans h.fo, (hb.block _ (heap_lt h.fp)).trans h.fp, h.ne, h.lob, h.lpb, own_below h.prow hb, h.bel.trans (hb.mono h.size)⟩
theorem Fr.drew (h : Fr B w0 w x0 L dsv ob pb oc pc pvv hs) : Fr B w0 w.drew x0 L dsv ob pb oc pc pvv hs := h.below ⟨rfl, rfl, rfl, Nat.le_refl _, fun _ _ => rfl⟩
theorem Fr.drewN (h : Fr B w0 w x0 L dsv ob pb oc pc pvv hs) (n : Nat) : Fr B w0 (w.drewN n) x0 L dsv ob pb oc pc pvv hs := h.below ⟨rfl, rfl, rfl, Nat.le_refl _, fun _ _ => rfl⟩

/-- One desk turns. -/
theorem Fr.turn {w' : World} (h : Fr B w0 w x0 L dsv ob pb oc pc pvv hs) {x : DK} (hx : x ∈ x0 :: L) (ht : Turned (DeskS x.d x.rv) w w') {x0' : DK} {L' : List DK} (hd : Desks B w' (x0' :: L')) (hl : L'.length = L.length) (hp : ptrs L' = ptrs L) :
    Fr B w0 w' x0' L' dsv ob pb oc pc pvv hs := by
  have hno : ∀ k e, ty w k e → e ≠ 27 → e ≠ 5 → ¬ DeskS x.d x.rv k := fun k e hk h1 h2 => h.desks.notown hx hk h1 h2
  refine ⟨hd, ?_, ?_, ?_, h.ne, h.lob, h.lpb, ?_, h.bel.trans (ht.below (fun k hk => (h.desks.lt hx hk).1) h.size)⟩
  · rw [hl, hp]; exact own_turned h.row ht fun g hg => hno g _ (ty_own h.row hg) (by decide) (by decide)
  · rw [ht.block ob (heap_lt h.fo) (hno ob _ ⟨_, _, h.fo⟩ (by decide) (by decide))]; exact h.fo
  · rw [ht.block pb (heap_lt h.fp) (hno pb _ ⟨_, _, h.fp⟩ (by decide) (by decide))]; exact h.fp
  · exact own_turned h.prow ht fun g hg => hno g _ (ty_own h.prow hg) (by decide) (by decide)
theorem Fr.lend0 {w' : World} (h : Fr B w0 w x0 L dsv ob pb oc pc pvv hs) {rv' : Value} {room' : List UInt8} {n most : Nat} (hl : Lending B w w' x0.d x0.rv rv' room' n most) (hm : most ≤ 4294967296) (bs : List UInt8) (hdr : Value) :
    Fr B w0 w' ⟨x0.d, rv', room', n, bs, hdr⟩ L dsv ob pb oc pc pvv hs :=
  h.turn (x := x0) (by simp) hl.turned (Desks.upd (l1 := []) (x := x0) (y := ⟨x0.d, rv', room', n, bs, hdr⟩) h.desks rfl hl hm) rfl rfl
theorem Fr.lendK {w' : World} {l1 l2 : List DK} {x : DK} (h : Fr B w0 w x0 (l1 ++ x :: l2) dsv ob pb oc pc pvv hs) {rv' : Value} {room' : List UInt8} {n most : Nat} (hl : Lending B w w' x.d x.rv rv' room' n most) (hm : most ≤ 4294967296) (bs : List UInt8) (hdr : Value) :
    Fr B w0 w' x0 (l1 ++ ⟨x.d, rv', room', n, bs, hdr⟩ :: l2) dsv ob pb oc pc pvv hs :=
  h.turn (x := x) (by simp) hl.turned (Desks.upd (l1 := x0 :: l1) (x := x) (y := ⟨x.d, rv', room', n, bs, hdr⟩) h.desks rfl hl hm) (by simp) (by simp [ptrs])
theorem Fr.wipe0 {w' : World} (h : Fr B w0 w x0 L dsv ob pb oc pc pvv hs) {room' : List UInt8} (hr : room'.length = x0.room.length) (hd : Desk B w' x0.d x0.rv room' x0.n) (ht : Turned (DeskS x0.d x0.rv) w w') :
    Fr B w0 w' { x0 with room := room' } L dsv ob pb oc pc pvv hs :=
  h.turn (x := x0) (by simp) ht (Desks.updW (l1 := []) (x := x0) (y := { x0 with room := room' }) h.desks rfl rfl hd hr ht) rfl rfl
theorem Fr.wipeK {w' : World} {l1 l2 : List DK} {x : DK} (h : Fr B w0 w x0 (l1 ++ x :: l2) dsv ob pb oc pc pvv hs) {room' : List UInt8} (hr : room'.length = x.room.length) (hd : Desk B w' x.d x.rv room' x.n) (ht : Turned (DeskS x.d x.rv) w w') :
    Fr B w0 w' x0 (l1 ++ { x with room := room' } :: l2) dsv ob pb oc pc pvv hs :=
  h.turn (x := x) (by simp) ht (Desks.updW (l1 := x0 :: l1) (x := x) (y := { x with room := room' }) h.desks rfl rfl hd hr ht) (by simp) (by simp [ptrs])

/-- A cell of the copy is written. -/
theorem Fr.setp (h : Fr B w0 w x0 L dsv ob pb oc pc pvv hs) (j : Nat) (v : Value) : Fr B w0 (w.setCell ⟨pb, j, none⟩ v) x0 L dsv ob pb oc (pc.setIfInBounds j v) pvv hs := by
  have ht : Turned (fun k => k = pb) w (w.setCell ⟨pb, j, none⟩ v) := (Turned.refl _ w).setCell _ _ fun _ => rfl
  have tpb : ty w pb 32 := ⟨_, _, h.fp⟩
  refine ⟨h.desks.turned ht fun x hx k hk e => h.desks.notown hx tpb (by decide) (by decide) (e ▸ hk), own_turned h.row ht fun g hg e => ty_ne (ty_own h.row hg) tpb (by decide) e, ?_, ?_, h.ne, h.lob, h.lpb, own_turned h.prow ht fun g hg e => ty_ne (ty_own h.prow hg) tpb (by decide) e, h.bel.trans (ht.below (fun k hk => hk ▸ h.lpb) h.size)⟩
  · rw [ht.block ob (heap_lt h.fo) h.ne]; exact h.fo
  · rw [heap_setCell_same w pb j _ _ v h.fp]
/-- The lists grow. -/
theorem Fr.parts {w' : World} (h : Fr B w0 w x0 L dsv ob pb oc pc pvv hs) {pvv' : Value} {hs' : List Value} (hg : w.grownBy w' pvv.ownBlock) (ho : w'.ownsRow B 25 1 pvv' hs'.length hs') : Fr B w0 w' x0 L dsv ob pb oc pc pvv' hs' := by
  have ht : Turned (fun k => pvv.ownBlock = some k) w w' := Turned.ofGrown hg fun g hg => hg
  have tp : ∀ k, pvv.ownBlock = some k → ty w k 25 := fun k hk => ty_own h.prow hk
  refine ⟨h.desks.turned ht fun x hx k hk e => h.desks.notown hx (tp k e) (by decide) (by decide) hk, own_turned h.row ht fun g hg e => ty_ne (ty_own h.row hg) (tp g e) (by decide) rfl, ?_, ?_, h.ne, h.lob, h.lpb, ho, h.bel.trans (ht.below (fun k hk => (h.prow.lt k hk).1) h.size)⟩
  · rw [ht.block ob (heap_lt h.fo) fun e => ty_ne ⟨_, _, h.fo⟩ (tp _ e) (by decide) rfl]; exact h.fo
  · rw [ht.block pb (heap_lt h.fp) fun e => ty_ne ⟨_, _, h.fp⟩ (tp _ e) (by decide) rfl]; exact h.fp
theorem Fr.more {wa w' : World} (h : Fr B w0 w x0 L dsv ob pb oc pc pvv hs) {dsv' : Value} (hwa : Below (w.alloc (.cells #[.slice none 0 0, .int .i64 0] 27)).heap.size (w.alloc (.cells #[.slice none 0 0, .int .i64 0] 27)) wa) (hg : wa.grownBy w' dsv.ownBlock) (ho : w'.ownsRow B 24 1 dsv' (L.length + 1) (ptrs L ++ [ptr w.heap.size])) :
    Fr B w0 w' x0 (L ++ [DK.fresh w]) dsv' ob pb oc pc pvv hs := by
  have h0 := h.below ((Below.refl _ w).alloc (Nat.le_refl _) (.cells #[.slice none 0 0, .int .i64 0] 27))
  have h1 := h0.below hwa
  have hd := (Desks.add h.desks h.size).below hwa
  have ht : Turned (fun k => dsv.ownBlock = some k) _ w' := Turned.ofGrown hg fun g hg => hg
  have tp : ∀ k, dsv.ownBlock = some k → ty wa k 24 := fun k hk => ty_own h1.row hk
  refine ⟨hd.turned ht fun x hx k hk e => hd.notown hx (tp k e) (by decide) (by decide) hk, by simpa [ptrs, DK.fresh] using ho, ?_, ?_, h.ne, h.lob, h.lpb, own_turned h1.prow ht fun g hg e => ty_ne (ty_own h1.prow hg) (tp g e) (by decide) rfl, h1.bel.trans (ht.below (fun k hk => (h1.row.lt k hk).1) h1.size)⟩
  · rw [ht.block ob (heap_lt h1.fo) fun e => ty_ne ⟨_, _, h1.fo⟩ (tp _ e) (by decide) rfl]; exact h1.fo
  · rw [ht.block pb (heap_lt h1.fp) fun e => ty_ne ⟨_, _, h1.fp⟩ (tp _ e) (by decide) rfl]; exact h1.fp
/-- The row of desks, opened. -/
theorem Fr.dsx (h : Fr B w0 w x0 L dsv ob pb oc pc pvv hs) : ∃ (da : Option Addr) (db dc : Nat), dsv = .slice da L.length dc ∧
    (∀ (k : IntKind) (i : Int) (w : World), (Instr.indexAt 28 (.slice da L.length dc) (.int k i)).run Tryd.prog w = if 0 ≤ i ∧ i < L.length then .ok (.pointer (some ⟨db, i.toNat, none⟩)) w else (boundsPanic k i L.length .index).run Tryd.prog w) ∧
    (∀ i (hi : i < L.length), w.cell? ⟨db, i, none⟩ = some (ptr (L[i]).d)) := by
  obtain ⟨hl, ⟨rfl, hz⟩ | ⟨g, cap, cur, rfl, hb, hg, hn, hm, hs, ht⟩⟩ := h.row
  · refine ⟨none, 0, 0, by rw [hz], fun k i w => ?_, fun i hi => by omega⟩
    rw [idx_run (b := 0) (off := 0) Edp.1 Edp.size 0 (fun hp => by omega)]
    simp
  · refine ⟨some ⟨g, 0, none⟩, g, cap, rfl, fun k i w => ?_, fun i hi => ?_⟩
    · rw [idx_run (b := g) (off := 0) Edp.1 Edp.size cap (fun _ => rfl)]
      simp
    · rw [h.row.cellAt i (by omega)]
      simp [ptrs, hi]
theorem Fr.dscell {g n dc : Nat} (h : Fr B w0 w x0 L (.slice (some ⟨g, 0, none⟩) n dc) ob pb oc pc pvv hs) (i : Nat) (hi : i < L.length) : w.cell? ⟨g, i, none⟩ = some (ptr (L[i]).d) := by
  have hn : n = L.length := by
    rcases h.row.2 with ⟨hq, _⟩ | ⟨_, _, _, hq, _⟩
    · cases hq
    · cases hq; rfl
  subst hn
  rw [h.row.cellAt i (by omega)]
  simp [ptrs, hi]
theorem Fr.dsat (h : Fr B w0 w x0 L dsv ob pb oc pc pvv hs) (h0 : 0 < L.length) : ∃ g dc, dsv = .slice (some ⟨g, 0, none⟩) L.length dc := by
  rcases h.row.2 with ⟨rfl, hz⟩ | ⟨g, cap, cur, rfl, _⟩
  · omega
  · exact ⟨g, cap, rfl⟩
theorem Fr.mid {l1 l2 : List DK} {x : DK} {g n dc : Nat} (h : Fr B w0 w x0 (l1 ++ x :: l2) (.slice (some ⟨g, 0, none⟩) n dc) ob pb oc pc pvv hs) : w.cell? ⟨g, l1.length, none⟩ = some (.pointer (some ⟨x.d, 0, none⟩)) := by
  have h1 := h.dscell l1.length (by simp)
  rw [List.getElem_append_right (by omega)] at h1
  simpa [ptr] using h1
end

/-- Each desk's header, of the first ones, is what was lent there. -/
def LentAll (B : Nat) (L : List DK) (bss : List (List UInt8)) : Prop := ∀ j (h : j < L.length), (L[j]).lent B ∧ bss[j]? = some (L[j]).bs
theorem LentAll.snoc {B : Nat} {L : List DK} {bss : List (List UInt8)} (h : LentAll B L bss) {x : DK} (hx : x.lent B) (hb : bss[L.length]? = some x.bs) : LentAll B (L ++ [x]) bss := fun j hj => by
  by_cases hjl : j < L.length
  · have := h j hjl
    rw [List.getElem_append_left hjl]; exact this
  · have e : j = L.length := by simp at hj; omega
    subst e
    simp; exact ⟨hx, hb⟩
theorem LentAll.rd {B : Nat} {L : List DK} {bss : List (List UInt8)} (h : LentAll B L bss) (hl : L.length = bss.length) {w : World} {L2 : List DK} (hd : Desks B w L2) (hin : ∀ x ∈ L, x ∈ L2) {v : Value} (hv : Rd w v bss.length (L.map DK.hdr)) : RdBB w v bss := by
  refine ⟨L.map DK.hdr, by simp [hl], hv, fun i hi => ?_⟩
  obtain ⟨h1, h2⟩ := h i (by omega)
  refine ⟨(L[i]'(by omega)).hdr, by simp [hl, hi], ?_⟩
  have h3 : bss[i] = (L[i]'(by omega)).bs := by
    rw [List.getElem?_eq_getElem hi] at h2; exact Option.some.inj h2
  rw [h3]
  exact h1.2.2 w ((hd.each _ (hin _ (List.getElem_mem _))).1)
end Go.Proofs.YtmlmbampgbiaeaaDoor
