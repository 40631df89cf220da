/- The desk: Lend. -/
import Derived.Test.YtmlmbampgbiaeaaDoorDesk
namespace Go.Proofs.YtmlmbampgbiaeaaDoor
open Go.RowKit

/-- What a desk holds that lends bs: the bytes, and behind them the marks. -/
def Lent (room bs : List UInt8) : Prop := bs.length + 70 ≤ room.length ∧ room.take bs.length = bs ∧ ∀ i, bs.length ≤ i → (h : i < room.length) → room[i] = markB i

theorem Desk.store {B : Nat} {w : World} {d g n' cap : Nat} {room : List UInt8} {n : Nat} (h : Desk B w d (.slice (some ⟨g, 0, none⟩) n' cap) room n) (j : Nat) (hj : j < room.length) :
    w.cell? ⟨g, j, none⟩ = some (bv room[j]) ∧ w.frozen? ⟨g, j, none⟩ = false ∧ ∀ c : UInt8, Desk B (w.setCell ⟨g, j, none⟩ (bv c)) d (.slice (some ⟨g, 0, none⟩) n' cap) (room.set j c) n := by
  have hn : n' = room.length := by
    rcases h.own.2 with ⟨hq, _⟩ | ⟨_, _, _, hq, _⟩
    · cases hq
    · cases hq; rfl
  subst hn
  have hgd : g ≠ d := own_ne h.own h.blk (by decide) g rfl
  refine ⟨?_, h.own.frozenAt j, fun c => ?_⟩
  · rw [h.own.cellAt j (by omega)]; simp [hj]
  · have h1 := h.own.stored j (bv c)
    refine ⟨?_, h.lo, by simpa [List.map_set] using h1.1⟩
    rw [Below.heap_setCell _ _ _ _ (fun e => hgd e.symm)]; exact h.blk
theorem Desk.shape {B : Nat} {w : World} {d : Nat} {rv : Value} {room : List UInt8} {n : Nat} (h : Desk B w d rv room n) (h0 : 0 < room.length) : ∃ g cap, rv = .slice (some ⟨g, 0, none⟩) room.length cap ∧ B ≤ g ∧ g ≠ d ∧ g < w.heap.size := by
  have hne := own_ne h.own h.blk (by decide)
  rcases h.own.2 with ⟨_, hz⟩ | ⟨g, cap, cur, rfl, hb, hh, _⟩
  · omega
  · exact ⟨g, cap, rfl, hb, hne g rfl, heap_lt hh⟩

/-- The room is new, or is what it was. -/
def Keeps (w : World) (rv rv' : Value) : Prop := rv'.ownBlock = rv.ownBlock ∨ ∀ g, rv'.ownBlock = some g → w.heap.size ≤ g
def DeskS (d : Nat) (rv : Value) (k : Nat) : Prop := k = d ∨ rv.ownBlock = some k
/-- What has turned of what there was: the desk and its room. -/
structure Lending (B : Nat) (w w' : World) (d : Nat) (rv rv' : Value) (room' : List UInt8) (n : Nat) (most : Nat) : Prop where
  desk : Desk B w' d rv' room' n
  keeps : Keeps w rv rv'
  turned : Turned (DeskS d rv) w w'
  len : room'.length ≤ most

/-- The desk gets a new room. -/
theorem Desk.renew {B : Nat} {w w1 : World} {d : Nat} {rv rv1 : Value} {room room1 : List UInt8} {n : Nat} (h : Desk B w d rv room n) (hb : Below w.heap.size w w1)
    (ho : w1.ownsRow w.heap.size 5 1 rv1 room1.length (room1.map bv)) (hB : B ≤ w.heap.size) (most : Nat) (hm : room1.length ≤ most) : Lending B w (w1.setCell ⟨d, 0, none⟩ rv1) d rv rv1 room1 n most := by
  have hblk : w1.heap[d]? = _ := (hb.block d h.lt).trans h.blk
  have hdg : ∀ g, rv1.ownBlock = some g → g ≠ d := own_ne ho hblk (by decide)
  refine ⟨⟨?_, h.lo, ?_⟩, .inr fun g hg => (ho.lt g hg).1, ?_, hm⟩
  · rw [heap_setCell_same w1 d 0 _ _ rv1 hblk]; rfl
  · have h2 : w1.ownsRow B 5 1 rv1 room1.length (room1.map bv) := by
      refine ⟨ho.1, ?_⟩
      rcases ho.2 with hn | ⟨g, cap, cur, rfl, hg, r⟩
      · exact .inl hn
      · exact .inr ⟨g, cap, cur, rfl, Nat.le_trans hB hg, r⟩
    exact own_block h2 fun g hg => Below.heap_setCell _ _ _ _ (hdg g hg)
  · exact (Turned.ofBelow hb).setCell _ _ fun _ => .inl rfl

theorem Desk.drew {B : Nat} {w : World} {d : Nat} {rv : Value} {room : List UInt8} {n : Nat} (h : Desk B w d rv room n) : Desk B w.drew d rv room n := ⟨h.blk, h.lo, h.own⟩
theorem Lending.drew {B : Nat} {w w' : World} {d : Nat} {rv rv' : Value} {room' : List UInt8} {n most : Nat} (h : Lending B w w' d rv rv' room' n most) : Lending B w w'.drew d rv rv' room' n most :=
  ⟨h.desk.drew, h.keeps, h.turned.drew, h.len⟩
theorem Lending.in {B : Nat} {w w' : World} {d g n' cap : Nat} {rv : Value} {room' : List UInt8} {n most : Nat} (h : Lending B w w' d rv (.slice (some ⟨g, 0, none⟩) n' cap) room' n most) : g < w.heap.size → DeskS d rv g := by
  intro hlt
  rcases h.keeps with hk | hk
  · exact .inr hk.symm
  · have := hk g rfl; omega
theorem Lending.store {B : Nat} {w w' : World} {d g n' cap : Nat} {rv : Value} {room' : List UInt8} {n most : Nat} (h : Lending B w w' d rv (.slice (some ⟨g, 0, none⟩) n' cap) room' n most) (j : Nat) (hj : j < room'.length) (c : UInt8) :
    Lending B w (w'.setCell ⟨g, j, none⟩ (bv c)) d rv (.slice (some ⟨g, 0, none⟩) n' cap) (room'.set j c) n most :=
  ⟨(h.desk.store j hj).2.2 c, h.keeps, h.turned.setCell _ _ h.in, by simpa using h.len⟩
theorem Lending.below {B : Nat} {w w' : World} {d : Nat} {rv rv' : Value} {room room' : List UInt8} {n n' most : Nat} (h : Lending B w w' d rv rv' room' n' most) (hd : Desk B w d rv room n) (hB : B ≤ w.heap.size) : Below B w w' := by
  refine h.turned.below (fun k hk => ?_) hB
  rcases hk with rfl | hk
  · exact hd.lo
  · exact (hd.own.lt k hk).1
/-- The whole room is written anew (copy). -/
theorem Lending.row {B : Nat} {w w' w2 : World} {d g n' cap : Nat} {rv : Value} {room' room2 : List UInt8} {n most : Nat} (h : Lending B w w' d rv (.slice (some ⟨g, 0, none⟩) n' cap) room' n most)
    (ho : w2.ownsRow B 5 1 (.slice (some ⟨g, 0, none⟩) n' cap) room2.length (room2.map bv)) (hg : w'.grownBy w2 (some g)) (hl : room2.length ≤ most) : Lending B w w2 d rv (.slice (some ⟨g, 0, none⟩) n' cap) room2 n most := by
  have hgd : g ≠ d := own_ne h.desk.own h.desk.blk (by decide) g rfl
  refine ⟨⟨(hg.block d h.desk.lt (fun e => hgd (by cases e; rfl))).trans h.desk.blk, h.desk.lo, ho⟩, h.keeps, ⟨hg.os.trans h.turned.os, hg.tape.trans h.turned.tape, hg.output.trans h.turned.output, Nat.le_trans h.turned.size hg.size, fun k hk hs => ?_⟩, hl⟩
  have hkg : k ≠ g := fun e => hs (e ▸ h.in (e ▸ hk))
  exact (hg.block k (Nat.lt_of_lt_of_le hk h.turned.size) (fun e => hkg (by cases e; rfl))).trans (h.turned.block k hk hs)
/-- How much is lent is noted. -/
theorem Lending.note {B : Nat} {w w' : World} {d g n' cap : Nat} {rv : Value} {room' : List UInt8} {n most : Nat} (h : Lending B w w' d rv (.slice (some ⟨g, 0, none⟩) n' cap) room' n most) (m : Nat) :
    Lending B w (w'.setCell ⟨d, 1, none⟩ (.int .i64 m)) d rv (.slice (some ⟨g, 0, none⟩) n' cap) room' m most := by
  have hgd : g ≠ d := own_ne h.desk.own h.desk.blk (by decide) g rfl
  refine ⟨⟨?_, h.desk.lo, own_block h.desk.own fun k hk => ?_⟩, h.keeps, h.turned.setCell _ _ fun _ => .inl rfl, h.len⟩
  · rw [heap_setCell_same w' d 1 _ _ _ h.desk.blk]; rfl
  · have : k = g := by simp [Value.ownBlock] at hk; exact hk.symm
    subst this
    exact Below.heap_setCell _ _ _ _ hgd

set_option maxRecDepth 50000 in
set_option maxHeartbeats 2000000 in
theorem Lend_any {B : Nat} {w0 w : World} (hB : B = w0.heap.size) (hbel : Below B w0 w) {d : Nat} {rv : Value} {room : List UInt8} {n : Nat} (hd : Desk B w d rv room n) (hrl : room.length ≤ 4294967296) {v : Value} {bs : List UInt8} (hv : RdB w0 v bs) (hmax : bs.length ≤ 1073741824) :
    Calls Tryd.prog 6 #[.pointer (some ⟨d, 0, none⟩), v] w fun e w' => ∃ rv' room' a' n' c', e = .returned (.slice a' n' c') ∧ Lending B w w' d rv rv' room' bs.length (max room.length (2 * bs.length + 512)) ∧ Lent room' bs ∧ Hid (n' = bs.length) ∧ ∀ w2, Desk B w2 d rv' room' bs.length → RdB w2 (.slice a' n' c') bs := by
  obtain ⟨a, b, off, cap, rfl, hc1, hc2, hix, hld, hrd⟩ := hv.open
  have HV := Lib.hid hv
  have HD := Lib.hid hd
  have HBEL := Lib.hid hbel
  obtain ⟨k1, k2, k3, k4⟩ := hd.cells
  obtain ⟨ra, rn, rc, rfl, hrn⟩ : ∃ ra rn rc, rv = .slice ra rn rc ∧ rn = room.length := by
    obtain ⟨x, y, hxy, _⟩ := Rd.shape (Rd.ofOwn hd.own); exact ⟨x, _, y, hxy, rfl⟩
  subst hrn
  clear hv hrd hd hbel hix hld
  go_enter Tryd.func6, Tryd.ntmps6
  go_upto_if 15 with fail
  go_cut [] (fun w1 => ∃ rv1 room1, Lending B w w1 d (.slice ra room.length rc) rv1 room1 n (max room.length (2 * bs.length + 512)) ∧ 2 * bs.length + 70 ≤ room1.length)
  case first =>
    by_cases henough : room.length < 2 * bs.length + 70
    · go_wp2_with (at_make; refine wpList_mkzeros Ebs Zb rfl _ _ rfl .i64 .i64 (2 * bs.length + 512) rfl rfl ?c1 ?c2 (by omega) (Below.refl _ _) ?_)
      case c1 => omega
      case c2 => omega
      intro w1 hacc hb1
      have hdl := HD.out.lt
      have g1 := (hb1.cell (p := ⟨d, 0, none⟩) hdl).trans k1
      have g3 := (hb1.frozen (p := ⟨d, 0, none⟩) hdl).trans k3
      have HACC := Lib.hid hacc
      have HB1 := Lib.hid hb1
      clear hacc hb1 hdl
      go_wp2
      go_meet
      exact ⟨_, _, HD.out.renew HB1.out HACC.out.own (by rw [hB]; exact HBEL.out.size) _ (by simp <;> omega), by simp <;> omega⟩
    · go_wp2
      go_meet
      exact ⟨_, room, ⟨HD.out, .inl rfl, Turned.refl _ _, by omega⟩, by omega⟩
  case rest =>
    obtain ⟨rv1, room1, HL, hlen1⟩ := hcut
    obtain ⟨g, cp, rfl, hBg, hgd, hglt⟩ := HL.desk.shape (by omega)
    have hlm := HL.len
    have hcap : room1.length ≤ cp := by
      obtain ⟨_, _, he, hc, _⟩ := Rd.shape (Rd.ofOwn HL.desk.own); cases he; exact hc
    have HLen := Lib.hid HL
    have HLL := Lib.hid hlen1
    clear HL k1 k2 k3 k4
    go_wp2
    go_loopw [5] (fun i wr => ∃ (k : Nat) (room2 : List UInt8), i = .int .i64 k ∧ k ≤ room1.length ∧ room2.length = room1.length ∧ (∀ j (h : j < room2.length), j < k → room2[j] = markB j) ∧ Lending B w wr d (.slice ra room.length rc) (.slice (some ⟨g, 0, none⟩) room1.length cp) room2 n (max room.length (2 * bs.length + 512)))
      (fun i _ => room1.length - (intOf i).toNat)
    case atStart => exact ⟨0, room1, rfl, by omega, rfl, (fun _ _ h => by omega), HLen.out⟩
    case round =>
      obtain ⟨k, room2, rfl, hk, hl2, hmk, HL2⟩ := hrel
      obtain ⟨q1, q2, q3, q4⟩ := HL2.desk.cells
      have HMK := Lib.hid hmk
      have HL2' := Lib.hid HL2
      have HEQ := Lib.hid hl2
      clear hmk HL2
      by_cases hlt : k < room1.length
      · obtain ⟨s1, s2, s3⟩ := HL2'.out.desk.store k (by rw [HEQ.out]; exact hlt)
        have HS := Lib.hid (s3 (markB k))
        have hms : k ≤ 70368744177664 := by omega
        have hkeep : ∀ v, (wr.setCell ⟨g, k, none⟩ v).drew.cell? ⟨d, 0, none⟩ = some (.slice (some ⟨g, 0, none⟩) room1.length cp) := fun v =>
          (World.cell?_of_block (w := wr) (a := ⟨d, 0, none⟩) (Below.heap_setCell wr ⟨g, k, none⟩ v d (fun e => hgd e.symm))).trans q1
        clear s3 hl2
        go_wp2
        go_region_held3 (fun w' => w'.cell? ⟨d, 0, none⟩ = some (.slice (some ⟨g, 0, none⟩) room1.length cp)) (first | assumption | exact hkeep _) (first
          | (go_at_call 34; (with_reducible refine (mark_any k hms _).mono ?_); rintro e w2 ⟨rfl, rfl⟩))
        go_wp2
        go_roundw
        case rel =>
          refine ⟨k + 1, room2.set k (markB k), by go_num, by omega, by simp [HEQ.out], ?_, (HL2'.out.store k (by rw [HEQ.out]; exact hlt) (markB k)).drew⟩
          intro j hj hjk
          rw [List.getElem_set]
          split
          · rename_i e; subst e; rfl
          · exact HMK.out j (by simpa using hj) (by omega)
        case measure => simp [intOf] <;> omega
      · obtain rfl : k = room1.length := by omega
        have hbw := (HBEL.out.trans (HL2'.out.below HD.out (by rw [hB]; exact HBEL.out.size)))
        have hrdb : RdB wr (.slice a bs.length cap) bs := HV.out.below (hB ▸ hbw)
        have HRD := Lib.hid hrdb
        have HOWN := HL2'.out.desk.own
        rw [HEQ.out] at HOWN
        have HO := Lib.hid HOWN
        clear hbw hrdb hl2 HOWN
        go_wp2_with (first
          | (refine wpList_copyB Ebs rfl (.tmp 44) (.tmp 45) rfl rfl HO.out rfl HRD.out (by simp) (by omega) (map_bv_one _) ?_))
        intro w2 ho hg
        have e3 : (bs ++ room2.drop bs.length).length = room1.length := by simp [HEQ.out]; omega
        have ho3 : w2.ownsRow B 5 1 (.slice (some ⟨g, 0, none⟩) room1.length cp) (bs ++ room2.drop bs.length).length ((bs ++ room2.drop bs.length).map bv) := by
          rw [e3, hB]; simpa using ho
        have HL3 := HL2'.out.row ho3 hg (by rw [e3]; exact hlm)
        have HL4 := HL3.note bs.length
        obtain ⟨a', n', c', hs1, hs2, hn', hrd'⟩ := slH_any (some ⟨g, 0, none⟩) room1.length cp bs.length (by omega) (by have := hcap; omega)
        obtain ⟨t1, t2, t3, t4⟩ := HL3.desk.cells
        have HLF := Lib.hid HL4
        have HRDF := Lib.hid hrd'
        have HE3 := Lib.hid e3
        clear ho hg e3 ho3 HL3 HL4 hrd' q1 q2 q3 q4
        go_wp2
        go_ret
        refine ⟨_, _, a', n', c', rfl, HLF.out, ⟨by rw [HE3.out]; omega, by simp, ?_⟩, Lib.hid (by rw [hn'.out]; simp), fun w2 hd2 => ?_⟩
        rotate_left
        · have h9 := HRDF.out w2 _ (Rd.ofOwn hd2.own) (by rw [HE3.out]; omega)
          simpa using h9
        intro i hi h
        rw [List.getElem_append_right hi]
        rw [List.getElem_drop]
        have := HMK.out (bs.length + (i - bs.length)) (by rw [HEQ.out]; rw [HE3.out] at h; omega) (by rw [HE3.out] at h; omega)
        rw [this]; congr 1; omega
end Go.Proofs.YtmlmbampgbiaeaaDoor
