/- WireAgain: the walk. -/
import Derived.Test.YtmlmbampgbiaeaaDoorAgain1
import Derived.Test.YtmlmbampgbiaeaaDoorRegion
namespace Go.Proofs.YtmlmbampgbiaeaaDoor
open Go.RowKit

set_option maxRecDepth 100000 in
set_option maxHeartbeats 4000000 in
theorem WireAgain_walk {w0 : World} (hT : Tab w0) {sv : Value} {ops : List OpD} (hs : RdOps w0 sv ops) :
    Calls Tryd.prog 3 #[sv] w0 fun e w' => e = .returned (.bool true) ∧ Below w0.heap.size w0 w' := by
  obtain ⟨a, b, off, cap, rfl, hn, ha, hops⟩ := hs
  have hix := fun k i w => idx_run Eops.1 Eops.size cap ha k i w
  have HO := Lib.hid hops
  have HT := Lib.hid hT
  obtain ⟨B, hB⟩ : ∃ B, B = w0.heap.size := ⟨_, rfl⟩
  have HB := Lib.hid hB
  clear hops hT ha
  go_enter Tryd.func3, Tryd.ntmps3
  go_wp2_with (go_at_call 5; (with_reducible refine (started1_any HT.out).mono ?_); rintro e w1 ⟨rfl, hb1⟩)
  have HB1 := Lib.hid hb1
  clear hB hb1
  go_loopw [4, 5] (fun dsv i wr => ∃ (k : Nat) (x0 : DK) (L : List DK), i = .int .i64 k ∧ k ≤ ops.length ∧ x0.d = w1.heap.size ∧ Desks B wr (x0 :: L) ∧ wr.ownsRow B 24 1 dsv L.length (ptrs L) ∧ L.length ≤ 1073741824 ∧ Below B w0 wr)
    (fun _ i _ => ops.length - (intOf i).toNat)
  case atStart =>
    have hb2 : Below B w0 w1 := by rw [HB.out]; exact HB1.out
    have hsz : B ≤ w1.heap.size := by rw [HB.out]; exact hb2.size
    have hd : Desks B w1 [] := ⟨by simp, by simp⟩
    have hd2 := hd.add hsz
    refine ⟨0, DK.fresh w1, [], rfl, by omega, rfl, by simpa using hd2, by simpa [ptrs] using World.ownsRow_nil _ B _ 1, by simp, hb2.alloc hsz _⟩
  case round =>
    obtain ⟨k, x0, L, rfl, hk, hx0, hds, hown, hLl, hbel⟩ := hrel
    by_cases hlt : k < ops.length
    · obtain ⟨o, ho⟩ : ∃ o, o = ops[k] := ⟨_, rfl⟩
      obtain ⟨hok, hcells⟩ := HO.out k hlt
      rw [← ho] at hok
      have hcl : ∀ j (hj : j < 6), wr.cell? ⟨b, off + k * 6 + j, none⟩ = some (o.cells[j]'(by simpa [OpD.cells] using hj)) := fun j hj => by
        have h := hcells j hj
        subst ho
        exact (hbel.cell (HB.out ▸ World.block_lt_of_cell? w0 _ h)).trans h
      have c0 := hcl 0 (by omega)
      have c1 := hcl 1 (by omega)
      have c2 := hcl 2 (by omega)
      have c3 := hcl 3 (by omega)
      have c4 := hcl 4 (by omega)
      have c5 := hcl 5 (by omega)
      simp only [OpD.cells, List.getElem_toArray, List.getElem_cons_zero, List.getElem_cons_succ, Nat.add_zero] at c0 c1 c2 c3 c4 c5
      obtain ⟨d0, rv0, room0, n0, bs0, hdr0⟩ := x0
      obtain rfl : d0 = w1.heap.size := hx0
      have hB0 : B ≤ wr.heap.size := by have := (hds.lt (x := ⟨w1.heap.size, rv0, room0, n0, bs0, hdr0⟩) (by simp) (.inl rfl)); omega
      have hfr : Fr B w0 ((wr.alloc (.cells o.cells 32)).alloc (.cells o.cells 32)) ⟨w1.heap.size, rv0, room0, n0, bs0, hdr0⟩ L u4 wr.heap.size (wr.heap.size + 1) o.cells o.cells (.slice none 0 0) [] := by
        have b1 : Below wr.heap.size wr ((wr.alloc (.cells o.cells 32)).alloc (.cells o.cells 32)) := ((Below.refl _ wr).alloc (Nat.le_refl _) _).alloc (by simp) _
        refine ⟨hds.below b1, own_below hown b1, ?_, ?_, by omega, hB0, by omega, World.ownsRow_nil _ B _ 1, hbel.trans (b1.mono hB0)⟩
        · rw [Below.heap_alloc _ _ _ (by simp)]; exact heap_alloc_new wr _
        · have := heap_alloc_new (wr.alloc (.cells o.cells 32)) (.cells o.cells 32)
          simpa using this
      have hlend := Lend_any (w := (wr.alloc (.cells o.cells 32)).alloc (.cells o.cells 32)) HB.out hfr.bel (hfr.desks.each ⟨w1.heap.size, rv0, room0, n0, bs0, hdr0⟩ (by simp)).1 (hfr.desks.each ⟨w1.heap.size, rv0, room0, n0, bs0, hdr0⟩ (by simp)).2 hok.b hok.bl
      simp only [OpD.cells, OpD.bv_] at hlend
      have HFR := Lib.hid hfr
      have HL := Lib.hid hlend
      have HOK := Lib.hid hok
      clear hcl hcells ho hok hds hown hbel hfr hlend hB0
      go_wp2_with (go_at_call 6; (refine HL.out.mono ?_); rintro e w2 ⟨rv', room', a', n', c', rfl, hL, hLent, hn', hrd⟩; have h2 : room0.length ≤ 4294967296 := (HFR.out.desks.each ⟨w1.heap.size, rv0, room0, n0, bs0, hdr0⟩ (by simp)).2; have FR1 := Lib.hid (HFR.out.lend0 hL (by have h1 := HOK.out.bl; omega) o.bs (.slice a' n' c')); have f1 := FR1.out.cp 1; have f2 := FR1.out.pf 1; have f3 := FR1.out.pf 5; have f4 := FR1.out.cp 5; have f5 := FR1.out.co 5; simp only [OpD.cells] at f1 f4 f5; clear hL h2)
      have FR2 : Hid (Fr B w0 ((w2.setCell ⟨wr.heap.size + 1, 1, none⟩ (.slice a' n' c')).setCell ⟨wr.heap.size + 1, 5, none⟩ (.slice none 0 0)) ⟨w1.heap.size, rv', room', o.bs.length, o.bs, .slice a' n' c'⟩ L u4 wr.heap.size (wr.heap.size + 1) o.cells #[.int .i64 o.kind, .slice a' n' c', .int .i64 o.at_, .int .i64 o.n, .int .u64 o.v, .slice none 0 0] (.slice none 0 0) []) := Lib.hid ((FR1.out.setp 1 _).setp 5 _)
      obtain ⟨qa, qb, qo, qc, hqe, hql, hqi, hqc⟩ := HOK.out.p.open
      simp only [OpD.pv, Value.slice.injEq] at hqe
      obtain ⟨hqe1, -, hqe2⟩ := hqe
      subst hqe1 hqe2
      have HQC := Lib.hid hqc
      have HLENT := Lib.hid hLent
      have HRD := Lib.hid hrd
      have hp1 := HOK.out.p1
      clear hLent hrd hqc f1 f2 f3 f4 f5 c0 c1 c2 c3 c4 c5 HL FR1 HFR
      obtain ⟨ob, hob⟩ : ∃ ob, wr.heap.size = ob := ⟨_, rfl⟩
      rw [hob] at FR2
      rw [hob]
      clear hob
      go_loopw [4, 8] (fun dsv jv wq => ∃ (j : Nat) (L1 L2 : List DK) (pa : Option Addr) (pc : Nat), jv = .int .i64 j ∧ j ≤ o.bss.length ∧ L1.length = j ∧ LentAll B L1 o.bss ∧ (L1 ++ L2).length ≤ 1073741824 ∧ Fr B w0 wq ⟨w1.heap.size, rv', room', o.bs.length, o.bs, .slice a' n' c'⟩ (L1 ++ L2) dsv ob (ob + 1) o.cells #[.int .i64 o.kind, .slice a' n' c', .int .i64 o.at_, .int .i64 o.n, .int .u64 o.v, .slice pa j pc] (.slice pa j pc) (L1.map DK.hdr))
        (fun _ jv _ => o.bss.length - (intOf jv).toNat)
      case atStart => exact ⟨0, [], L, none, 0, rfl, by omega, rfl, fun _ h => by simp at h, by simpa using hLl, FR2.out⟩
      case round =>
        obtain ⟨j, L1, L2, pa, pc, rfl, hj, hL1, hla, hln, hfr⟩ := hrel
        have g5 := hfr.co 5
        have p5 := hfr.cp 5
        simp only [OpD.cells] at g5 p5
        obtain ⟨da, db, dc, hdv, hdi, hdc⟩ := hfr.dsx
        obtain ⟨m, hm⟩ : ∃ m, (L1 ++ L2).length = m := ⟨_, rfl⟩
        rw [hm] at hdi hdv hln
        subst hdv
        simp only [hm] at hdc
        have HFRJ := Lib.hid hfr
        have HLA := Lib.hid hla
        have HDC := Lib.hid hdc
        clear hfr hla hdc
        by_cases hjl : j < o.bss.length
        · go_upto_if 42 with fail
          go_cut [4] (fun dv wq => ∃ (x : DK) (L2' : List DK), (L1 ++ x :: L2').length ≤ 1073741824 ∧ Fr B w0 wq ⟨w1.heap.size, rv', room', o.bs.length, o.bs, .slice a' n' c'⟩ (L1 ++ x :: L2') dv ob (ob + 1) o.cells #[.int .i64 o.kind, .slice a' n' c', .int .i64 o.at_, .int .i64 o.n, .int .u64 o.v, .slice pa j pc] (.slice pa j pc) (L1.map DK.hdr))
          case first =>
            cases L2 with
            | nil =>
              have hmj : m = j := by simpa [hL1] using hm.symm
              subst hmj
              have hown : Hid _ := Lib.hid HFRJ.out.row
              have hsz := HFRJ.out.size
              go_wp2_with (at_builtin; go_loud (refine wpList_app Edp rfl (.tmp 43) (.tmp 46) rfl B (L1 ++ []).length (ptrs (L1 ++ [])) rfl ((hown.out.alloc _).alloc _) rfl (m := 1) (Rd.newAt (wr.alloc (.cells #[.slice none 0 0, .int .i64 0] 27)) [ptr wr.heap.size] 24 1 (by omega) (g := wr.heap.size + 1) (by simp)) rfl (one_ptr _) (by rw [hm]; omega) (size_alloc2 HFRJ.out.size _ _) ?_); intro v' w' ho hg)
              go_meet
              refine ⟨DK.fresh wr, [], by simp [hL1] <;> omega, ?_⟩
              have := HFRJ.out.more (w' := w') ((Below.refl _ _).alloc (Nat.le_refl _) _) hg ho
              simpa using this
            | cons x L2' =>
              have hmj : ((j : Int) == (m : Int)) = false := by rw [← hm]; simp; omega
              go_wp2
              go_meet
              exact ⟨x, L2', by rw [hm]; exact hln, HFRJ.out⟩
          case rest =>
            obtain ⟨x, L2', hlx, hfx⟩ := hcut
            clear g5 p5 hdi HDC HFRJ hm hln
            have g5 := hfx.drew.co 5
            have p5 := hfx.drew.cp 5
            simp only [OpD.cells] at g5 p5
            obtain ⟨eb, ec, hev⟩ := hfx.dsat (by simp <;> omega)
            obtain ⟨m2, hm2⟩ : ∃ m2, (L1 ++ x :: L2').length = m2 := ⟨_, rfl⟩
            have hjm : j < m2 := by rw [← hm2]; simp; omega
            rw [hm2] at hev hlx
            subst hev
            have hei := fun k i w => idx_run (b := eb) (off := 0) Edp.1 Edp.size ec (n := m2) (fun _ => rfl) k i w
            have hec := hfx.drew.mid
            rw [hL1] at hec
            obtain ⟨hv, hvc, hvr⟩ := HQC.out j hjl
            obtain ⟨va, vc, rfl, _⟩ := Rd.shape hvr
            have hvc2 : wc.drew.cell? ⟨qb, qo + j, none⟩ = some (.slice va (o.bss[j]).length vc) := (hfx.drew.bel.cell (HB.out ▸ World.block_lt_of_cell? w0 _ hvc)).trans hvc
            have HVC := Lib.hid hvc
            have HFX := Lib.hid hfx.drew
            have hbl := HOK.out.p2 _ (List.getElem_mem hjl)
            have hlend := Lend_any HB.out HFX.out.bel (HFX.out.desks.each x (by simp)).1 (HFX.out.desks.each x (by simp)).2 hvr hbl
            have HSOF : Hid (∀ (wq : World) (y : DK) (pvx : Value) (hs' : List Value), Fr B w0 wq ⟨w1.heap.size, rv', room', o.bs.length, o.bs, .slice a' n' c'⟩ (L1 ++ y :: L2') (.slice (some ⟨eb, 0, none⟩) m2 ec) ob (ob + 1) o.cells #[.int .i64 o.kind, .slice a' n' c', .int .i64 o.at_, .int .i64 o.n, .int .u64 o.v, .slice pa j pc] pvx hs' → y.d = x.d → (fun w : World => w.cell? ⟨ob + 1, 5, none⟩ = some (.slice pa j pc) ∧ w.cell? ⟨ob, 5, none⟩ = some (.slice o.pa o.bss.length o.pc) ∧ w.cell? ⟨eb, j, none⟩ = some (.pointer (some ⟨x.d, 0, none⟩)) ∧ w.cell? ⟨qb, qo + j, none⟩ = some (.slice va (o.bss[j]).length vc)) wq) := Lib.hid fun wq y pvx hs' hq hd => by
              refine ⟨hq.cp 5, hq.co 5, ?_, (hq.bel.cell (HB.out ▸ World.block_lt_of_cell? w0 _ HVC.out)).trans HVC.out⟩
              have := hq.mid
              rw [hL1, hd] at this
              exact this
            have HL := Lib.hid hlend
            have HBL := Lib.hid hbl
            have HM2 := Lib.hid hm2
            clear hlend hbl hm2 hvr hvc hfx
            go_upto_region 17 with fail
            refine we_begin (fun w => w.cell? ⟨ob + 1, 5, none⟩ = some (.slice pa j pc) ∧ w.cell? ⟨ob, 5, none⟩ = some (.slice o.pa o.bss.length o.pc) ∧ w.cell? ⟨eb, j, none⟩ = some (.pointer (some ⟨x.d, 0, none⟩)) ∧ w.cell? ⟨qb, qo + j, none⟩ = some (.slice va (o.bss[j]).length vc)) 15 (by kernel_rfl) (by kernel_rfl) ?_
            have HS : (fun w : World => w.cell? ⟨ob + 1, 5, none⟩ = some (.slice pa j pc) ∧ w.cell? ⟨ob, 5, none⟩ = some (.slice o.pa o.bss.length o.pc) ∧ w.cell? ⟨eb, j, none⟩ = some (.pointer (some ⟨x.d, 0, none⟩)) ∧ w.cell? ⟨qb, qo + j, none⟩ = some (.slice va (o.bss[j]).length vc)) wc.drew := ⟨p5, g5, hec, hvc2⟩
            refine we_take (by kernel_rfl) 0 (v := ?v0) rfl (by decide) (by kernel_rfl) (by kernel_rfl) (fun _ _ _ h => h) (Or.inl ⟨by rfl, ?hy0⟩) (by assumption) ?rest0
            case hy0 => intro w hSw; obtain ⟨_, _, _, _⟩ := hSw; go_simp; try with_reducible rfl
            simp only [Act.put, List.setIfInBounds_toArray]
            refine we_take (by kernel_rfl) 1 (v := ?v1) rfl (by decide) (by kernel_rfl) (by kernel_rfl) (fun _ _ _ h => h) (Or.inl ⟨by rfl, ?hy1⟩) (by assumption) ?rest1
            case hy1 => intro w hSw; obtain ⟨_, _, _, _⟩ := hSw; go_simp; try with_reducible rfl
            simp only [Act.put]
            refine we_take (by kernel_rfl) 2 (v := ?v2) rfl (by decide) (by kernel_rfl) (by kernel_rfl) (fun _ _ _ h => h) (Or.inl ⟨by rfl, ?hy2⟩) (by assumption) ?rest2
            case hy2 => intro w hSw; obtain ⟨_, _, _, _⟩ := hSw; go_simp; try with_reducible rfl
            simp only [Act.put]
            refine we_take (by kernel_rfl) 3 (v := ?v3) rfl (by decide) (by kernel_rfl) (by kernel_rfl) (fun _ _ _ h => h) (Or.inl ⟨by rfl, ?hy3⟩) (by assumption) ?rest3
            case hy3 => intro w hSw; obtain ⟨_, _, _, _⟩ := hSw; go_simp; try with_reducible rfl
            simp only [Act.put]
            refine we_take (by kernel_rfl) 4 (v := ?v4) rfl (by decide) (by kernel_rfl) (by kernel_rfl) (fun _ _ _ h => h) (Or.inl ⟨by rfl, ?hy4⟩) (by assumption) ?rest4
            case hy4 => intro w hSw; obtain ⟨_, _, _, _⟩ := hSw; go_simp; try with_reducible rfl
            simp only [Act.put]
            refine we_take (by kernel_rfl) 5 (v := ?v5) rfl (by decide) (by kernel_rfl) (by kernel_rfl) (fun _ _ _ h => h) (Or.inl ⟨by rfl, ?hy5⟩) (by assumption) ?rest5
            case hy5 => intro w hSw; obtain ⟨_, _, _, _⟩ := hSw; go_simp; try with_reducible rfl
            simp only [Act.put]
            refine we_take (by kernel_rfl) 6 (v := ?v6) rfl (by decide) (by kernel_rfl) (by kernel_rfl) (fun _ _ _ h => h) (Or.inl ⟨by rfl, ?hy6⟩) (by assumption) ?rest6
            case hy6 => intro w hSw; obtain ⟨_, _, _, _⟩ := hSw; go_simp; try with_reducible rfl
            simp only [Act.put]
            refine we_take (by kernel_rfl) 7 (v := ?v7) rfl (by decide) (by kernel_rfl) (by kernel_rfl) (fun _ _ _ h => h) (Or.inl ⟨by rfl, ?hy7⟩) (by assumption) ?rest7
            case hy7 => intro w hSw; obtain ⟨_, _, _, _⟩ := hSw; go_simp; try with_reducible rfl
            simp only [Act.put]
            refine we_take (by kernel_rfl) 8 (v := ?v8) rfl (by decide) (by kernel_rfl) (by kernel_rfl) (fun _ _ _ h => h) (Or.inl ⟨by rfl, ?hy8⟩) (by assumption) ?rest8
            case hy8 => intro w hSw; obtain ⟨_, _, _, _⟩ := hSw; go_simp; try with_reducible rfl
            simp only [Act.put]
            refine we_take (by kernel_rfl) 9 (v := ?v9) rfl (by decide) (by kernel_rfl) (by kernel_rfl) (fun _ _ _ h => h) (Or.inl ⟨by rfl, ?hy9⟩) (by assumption) ?rest9
            case hy9 => intro w hSw; obtain ⟨_, _, _, _⟩ := hSw; go_simp; try with_reducible rfl
            simp only [Act.put]
            refine we_take (by kernel_rfl) 10 (v := ?v10) rfl (by decide) (by kernel_rfl) (by kernel_rfl) (fun _ _ _ h => h) (Or.inl ⟨by rfl, ?hy10⟩) (by assumption) ?rest10
            case hy10 => intro w hSw; obtain ⟨_, _, _, _⟩ := hSw; go_simp; try with_reducible rfl
            simp only [Act.put]
            refine we_one 11 rfl (by decide) (by kernel_rfl) (fun K hK => ?_)
            go_simp
            go_at_call 6
            refine HL.out.mono ?_
            rintro e w3 ⟨rv3, room3, a3, n3, c3, rfl, hL3, hLent3, hn3, hrd3⟩
            have h2 : x.room.length ≤ 4294967296 := (HFX.out.desks.each x (by simp)).2
            have FR3 := Lib.hid (HFX.out.lendK hL3 (by have := HBL.out; omega) (o.bss[j]) (.slice a3 n3 c3))
            clear hL3 h2 HL
            go_simp
            refine hK.out _ _ (HSOF.out _ _ _ _ FR3.out rfl) ?_
            clear hK K
            try simp only [Act.put, List.setIfInBounds_toArray, List.set_cons_zero, List.set_cons_succ]
            have FR4 := Lib.hid (FR3.out.below ((Below.refl _ w3).alloc (Nat.le_refl _) (.cells #[.slice a3 n3 c3] 25)))
            refine we_one 12 rfl (by decide) (by kernel_rfl) (fun K hK => ?_)
            go_simp
            refine hK.out _ _ (HSOF.out _ _ _ _ FR4.out rfl) ?_
            clear hK K
            try simp only [Act.put, List.setIfInBounds_toArray, List.set_cons_zero, List.set_cons_succ]
            refine we_one 13 rfl (by decide) (by kernel_rfl) (fun K hK => ?_)
            refine step_app Ebss rfl (.tmp 49) (.tmp 60) rfl B (L1.map DK.hdr).length (L1.map DK.hdr) rfl FR4.out.prow rfl (Rd.newAt w3 [.slice a3 n3 c3] 25 1 (by omega) rfl) rfl (one_sl _ _ _) (by simp; omega) FR4.out.size ?_
            intro a5 n5 c5 w5 ho hg
            obtain rfl : n5 = j + 1 := by rw [own_len ho]; simp [hL1]
            have FR5 := Lib.hid (FR4.out.parts (hs' := L1.map DK.hdr ++ [.slice a3 n3 c3]) hg (by simpa using ho))
            refine hK.out _ _ (HSOF.out _ _ _ _ FR5.out rfl) ?_
            clear hK K
            try simp only [Act.put, List.setIfInBounds_toArray]
            have HS5 := HSOF.out _ _ _ _ FR5.out rfl
            refine we_take (by kernel_rfl) 14 (v := ?v14) rfl (by decide) (by kernel_rfl) (by kernel_rfl) (fun _ _ _ h => h) (Or.inl ⟨by rfl, ?hy14⟩) (by assumption) ?rest14
            case hy14 => intro w hSw; obtain ⟨_, _, _, _⟩ := hSw; go_simp; try with_reducible rfl
            simp only [Act.put]
            have k1 := FR5.out.cp 5
            have k2 := FR5.out.pf 5
            refine we_last 15 rfl rfl (by kernel_rfl) (by kernel_rfl) (fun K hK => ?_)
            go_simp
            refine hK.out _ _ ?_
            clear hK K HS5 HS
            try simp only [Act.put, List.setIfInBounds_toArray, List.set_cons_zero, List.set_cons_succ]
            have FR6 := Lib.hid (FR5.out.setp 5 (.slice a5 (j + 1) c5))
            go_wp2
            go_roundw
            case rel =>
              refine ⟨j + 1, L1 ++ [⟨x.d, rv3, room3, (o.bss[j]).length, o.bss[j], .slice a3 n3 c3⟩], L2', a5, c5, by go_num, by omega, by simp; omega, ?_, ?_, ?_⟩
              · exact HLA.out.snoc ⟨rfl, hLent3, fun w hd => hrd3 w hd⟩ (by rw [hL1, List.getElem?_eq_getElem hjl])
              · have := HM2.out
                simp at this ⊢; omega
              · have := FR6.out
                simpa using this
            case measure => simp [intOf] <;> omega
        · obtain rfl : j = o.bss.length := by omega
          have hpv : RdBB wr (.slice pa o.bss.length pc) o.bss := HLA.out.rd hL1 HFRJ.out.desks (fun x hx => by simp [hx]) (by have := Rd.ofOwn HFRJ.out.prow; simpa [hL1] using this)
          have hbv := HRD.out wr (HFRJ.out.desks.each ⟨w1.heap.size, rv', room', o.bs.length, o.bs, .slice a' n' c'⟩ (by simp)).1
          have hLentM : Hid (Lent room' o.bs) := HLENT
          have e1 := hn'.out
          subst e1
          have hbw : Below w0.heap.size w0 wr := HB.out ▸ HFRJ.out.bel
          have HOPOK := Lib.hid (show OpOk wr (.slice a' o.bs.length c') (.slice pa o.bss.length pc) o.bs o.bss o.n o.v from ⟨hbv, hpv, by have := HOK.out.bl; omega, by have := HOK.out.p1; omega, fun b hb => by have := HOK.out.p2 b hb; omega, HOK.out.nn, HOK.out.vv⟩)
          have HTW := Lib.hid (HT.out.below hbw)
          have r0 := HFRJ.out.cp 0
          have r1 := HFRJ.out.cp 1
          have r2 := HFRJ.out.cp 2
          have r3 := HFRJ.out.cp 3
          have r4 := HFRJ.out.cp 4
          clear hpv hbv hbw hdi HDC
          go_upto_region 19 with (go_at_call 7; (refine (answered_any HTW.out HOPOK.out _ _).mono ?_); rintro e w4 ⟨rfl, hb4⟩; have FRA := Lib.hid (HFRJ.out.below hb4); clear hb4 r0 r1 r2 r3 r4 g5 p5)
          have HD0 := Lib.hid (FRA.out.desks.each ⟨w1.heap.size, rv', room', o.bs.length, o.bs, .slice a' o.bs.length c'⟩ (by simp))
          have hback := Back_any HB.out FRA.out.bel HD0.out.1 hLentM.out HD0.out.2 HOK.out.b
          have g1 := FRA.out.co 1
          have g5 := FRA.out.co 5
          simp only [OpD.cells] at g1 g5
          have HBK := Lib.hid hback
          clear hback
          go_wp2_with (first
            | (go_at_call 8; (refine HBK.out.mono ?_); rintro e w5 ⟨rfl, q5, rfl⟩; have FRB := Lib.hid (FRA.out.drewN q5); have HWP := Lib.hid (Wipe_any (FRB.out.desks.each ⟨w1.heap.size, rv', room', o.bs.length, o.bs, .slice a' o.bs.length c'⟩ (by simp)).1 (by have := hLentM.out.1; simp only; omega) (by have := hLentM.out.1; simp only; omega) HD0.out.2))
            | (go_at_call 9; (refine HWP.out.mono ?_); rintro e w6 ⟨rfl, room6, hr6, hd6, ht6⟩; have FRC := Lib.hid (FRB.out.wipe0 hr6 hd6 ht6); clear hr6 hd6 ht6))
          go_loopw [10] (fun jv wq => ∃ (j2 : Nat) (La : List DK), jv = .int .i64 j2 ∧ j2 ≤ o.bss.length ∧ La.length = j2 ∧ Fr B w0 wq ⟨w1.heap.size, rv', room6, o.bs.length, o.bs, .slice a' o.bs.length c'⟩ (La ++ (L1.drop j2 ++ L2)) (.slice da m dc) ob (ob + 1) o.cells #[.int .i64 o.kind, .slice a' o.bs.length c', .int .i64 o.at_, .int .i64 o.n, .int .u64 o.v, .slice pa o.bss.length pc] (.slice pa o.bss.length pc) (L1.map DK.hdr))
            (fun jv _ => o.bss.length - (intOf jv).toNat)
          case atStart => exact ⟨0, [], rfl, by omega, rfl, by simpa using FRC.out⟩
          case round =>
            obtain ⟨j2, La, rfl, hj2, hLa, hf2⟩ := hrel
            have g5 := hf2.co 5
            simp only [OpD.cells] at g5
            by_cases hlt2 : j2 < o.bss.length
            · obtain ⟨y, hy⟩ : ∃ y, L1.drop j2 = y :: L1.drop (j2 + 1) := ⟨L1[j2]'(by omega), List.drop_eq_getElem_cons (by omega)⟩
              have hyl : y.lent B ∧ o.bss[j2]? = some y.bs := by
                have h1 := HLA.out j2 (by omega)
                rw [List.drop_eq_getElem_cons (by omega)] at hy
                cases hy
                exact h1
              obtain ⟨hyl, hyb⟩ := hyl
              rw [List.getElem?_eq_getElem hlt2] at hyb
              have hyb := Option.some.inj hyb
              rw [hy] at hf2
              obtain ⟨eb, ec, hev⟩ := hf2.dsat (by simp <;> omega)
              simp only [Value.slice.injEq] at hev
              obtain ⟨hev1, hev2, hev3⟩ := hev
              subst hev1 hev3
              have hmj : j2 < m := by rw [hev2]; simp; omega
              have hei := fun k i w => idx_run (b := eb) (off := 0) Edp.1 Edp.size dc (n := m) (fun _ => rfl) k i w
              have hec := hf2.mid
              rw [hLa] at hec
              obtain ⟨hv, hvc, hvr⟩ := HQC.out j2 hlt2
              obtain ⟨va, vc, rfl, _⟩ := Rd.shape hvr
              have hvc2 : wr.cell? ⟨qb, qo + j2, none⟩ = some (.slice va (o.bss[j2]).length vc) := (hf2.bel.cell (HB.out ▸ World.block_lt_of_cell? w0 _ hvc)).trans hvc
              have hyd := hf2.desks.each y (by simp)
              have hvr : RdB w0 (.slice va (o.bss[j2]).length vc) y.bs := by rw [← hyb]; exact hvr
              have hyn : y.n = y.bs.length := hyl.1
              have HBK2 : Hid (∀ n, Calls Tryd.prog 8 #[.pointer (some ⟨y.d, 0, none⟩), .slice va (o.bss[j2]).length vc] (wr.drewN n) fun e w'' => e = .returned (.bool true) ∧ ∃ q, w'' = wr.drewN q) := Lib.hid fun n => by
                have hd0 : Desk B (wr.drewN n) y.d y.rv y.room y.bs.length := by
                  have := ((hf2.drewN n).desks.each y (by simp)).1
                  rw [hyn] at this; exact this
                refine (Back_any HB.out (hf2.drewN n).bel hd0 hyl.2.1 hyd.2 hvr).mono ?_
                rintro e w'' ⟨he, q, hq⟩
                exact ⟨he, n + q, by rw [hq, drewN_drewN]⟩
              have HYN : Hid (y.n ≤ y.room.length ∧ 0 < y.room.length) := Lib.hid (by have := hyl.2.1.1; rw [hyn]; omega)
              have HF2 := Lib.hid hf2
              have HYD := Lib.hid hyd.2
              have HYL := Lib.hid hyl
              have HY := Lib.hid hy
              clear hvr hvc hf2 hyd hyl hyb hy hev2 hyn
              go_wp2
              go_quiet ((go_at_call 8; with_reducible exact HBK2.out _))
              go_wp2_with (go_at_call 9; (refine (Wipe_any (HF2.out.drewN _ |>.desks.each y (by simp)).1 (HYN.out.1) (HYN.out.2) HYD.out).mono ?_); rintro e w7 ⟨rfl, room7, hr7, hd7, ht7⟩; have FRD := Lib.hid ((HF2.out.drewN _).wipeK hr7 hd7 ht7); clear hr7 hd7 ht7)
              go_roundw
              case rel => exact ⟨j2 + 1, La ++ [{ y with room := room7 }], by go_num, by omega, by simp [hLa], by simpa using FRD.out⟩
              case measure => simp [intOf] <;> omega
            · obtain rfl : j2 = o.bss.length := by omega
              go_wp2
              go_roundw
              case rel =>
                have hf3 := hf2
                rw [List.drop_of_length_le (by omega), List.nil_append] at hf3
                refine ⟨k + 1, ⟨w1.heap.size, rv', room6, o.bs.length, o.bs, .slice a' o.bs.length c'⟩, La ++ L2, by go_num, by omega, rfl, hf3.desks, hf3.row, ?_, hf3.bel⟩
                rw [← hm] at hln
                simp at hln ⊢; omega
              case measure => simp [intOf] <;> omega
    · obtain rfl : k = ops.length := by omega
      go_wp2
      go_ret
      exact ⟨rfl, HB.out ▸ hbel⟩
end Go.Proofs.YtmlmbampgbiaeaaDoor
