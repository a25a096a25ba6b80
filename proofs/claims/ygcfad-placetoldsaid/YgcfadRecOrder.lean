/-
  THE WALK of package rec's order.
-/
import Derived.Test.YgcfadRecOrderMem2
import Derived.BigRegion
namespace Go.Proofs.Ygcfad
open Go.RowKit Plain
set_option linter.unusedSimpArgs false
set_option linter.unusedVariables false

set_option maxRecDepth 100000 in
set_option maxHeartbeats 3000000 in
theorem orderR_any (P k : Nat) (T : List Nat) (w0 w : World) (M : RM) (pre : List SR) (m : SR) (rs : List Row) (hS : Hid (RStd P T w0 w M rs)) (hss : Hid (M.ss = pre ++ [m])) (hk : Hid (k = pre.length)) (hin : Hid (RIn M m)) :
    Calls Fadg.prog 125 #[.pointer (some ⟨P, 0, none⟩), .int .i64 (k : Int)] w (OrderRPost P T w0 M k m rs (orderR (absR M m.fl))) := by
  obtain ⟨g, cap, hsv, hPg⟩ := hS.out.sFormR (by rw [hss.out]; simp)
  obtain ⟨n, hn⟩ : ∃ n, n = M.ss.length := ⟨_, rfl⟩
  rw [← hn] at hsv
  have hkn2 : k < n := by rw [hn, hss.out, hk.out]; simp
  have hkn : (k : Int) < (n : Int) := by omega
  have hn2 : n ≤ 4 := by rw [hn]; exact hS.out.wf.ss
  have HN := hid hn
  have HSV := hid hsv
  have hkm : Hid (M.ss[k]? = some m) := by show _ = _; rw [hss.out, hk.out]; simp
  have hmm : Hid (m ∈ M.ss) := by show m ∈ M.ss; rw [hss.out]; simp
  obtain ⟨ao, fcap, hfv, hform⟩ := RStd.fForm (hS.out.okF hmm.out)
  obtain ⟨nf, hnf⟩ : ∃ nf, nf = m.fl.length := ⟨_, rfl⟩
  rw [← hnf] at hfv hform
  have hnf2 : nf ≤ 16 := by rw [hnf, ← hin.out.ns]; exact hS.out.wf.ns
  have HNF := hid hnf
  have HFV := hid hfv
  have HFORM := hid hform
  have hread : Hid (∀ wx rx, RStd P T w0 wx M rx → wx.cell? ⟨g, k * 8 + 1, none⟩ = some (.slice ao nf fcap)) := fun wx rx hx => by
    rw [hx.sCell HSV.out HN.out hkm.out 1 (by decide), ← HFV.out]; rfl
  have c3 := hS.out.p.cells.2.2.2.1
  rw [hsv] at c3
  have cF := hread.out _ _ hS.out
  clear hn hsv hnf hfv hform
  obtain ⟨i8, hi8, hz0, hz1, hz2⟩ := info_parts Fadg.info212
  go_enter Fadg.func125, Fadg.ntmps125
  go_upto_region 3 with (at_make; go_must (refine wpList_make_full _ rfl _ _ 202 rfl (P + 1) 212 i8 _ 11 Fadg.underlying202 hi8 hz0 hz1 _ _ _ _ nf rfl rfl rfl rfl (by rw [hz2]; omega) (by unfold maxLen; omega) (Nat.succ_le_of_lt hS.out.lt) ?_; intro w1 hown1 hg1))
  have hR1 := hid (hS.out.madeX hown1 hg1)
  clear hown1 hg1
  generalize w.heap.size = X at *
  have cF2 := hread.out _ _ hR1.out
  clear hS c3 cF
  go_wp2_with fail
  go_loopg [33] nf (fun gk i wr => ∃ (i' : Nat) (so : List RF), i = .int .i64 (i' : Int) ∧ i' + gk = nf ∧ Hid (so.length = nf) ∧ Hid (RStd P T w0 wr M (qX X nf so :: rs)) ∧ Hid (sortR nf ((m.fl.drop i').map gf) (M.ns.drop i') (accR so) = sortR nf (m.fl.map gf) M.ns (List.replicate nf none)) ∧ Hid (∀ f ∈ so, (f.b.size = 0 → gf f = zeroFR) ∧ f.k ≤ 14 ∧ RefF M.us.length f))
  case atStart =>
    refine ⟨0, List.replicate nf zeroRF, rfl, by omega, ?_, hR1, ?_, ?_⟩
    · show _ = _; simp
    · show _ = _
      have e : accR (List.replicate nf zeroRF) = List.replicate nf none := by unfold accR; rw [List.map_replicate]; rfl
      rw [e]; rfl
    · intro f hf
      refine ⟨zero_gf f hf, ?_⟩
      rw [List.eq_of_mem_replicate hf]
      exact ⟨by decide, fun h => by rcases h with h | ⟨h, _⟩ <;> cases h⟩
  case round =>
    clear hR1 cF2
    obtain ⟨i, so, rfl, hi, hsl, hR, hsrt, hz⟩ := hrel
    have cF := hread.out _ _ hR.out
    by_cases hlt : i < nf
    · have hlt' : (i : Int) < (nf : Int) := by omega
      obtain ⟨gf', hao⟩ : ∃ gf', ao = some ⟨gf', 0, none⟩ := HFORM.out.resolve_left (by omega)
      subst hao
      have hil : i < m.fl.length := by rw [← HNF.out]; exact hlt
      obtain ⟨f, hf⟩ : ∃ f, m.fl[i]? = some f := ⟨_, List.getElem?_eq_getElem hil⟩
      have hff := hid (hin.out.fl f (List.mem_of_getElem? hf))
      have HC := hid (qF_load (hR.out.okF hmm.out) HFV.out HNF.out hf)
      have hdrop : Hid ((m.fl.drop i).map gf = gf f :: (m.fl.drop (i + 1)).map gf) := by
        show _ = _
        have e : m.fl[i] = f := by rw [List.getElem?_eq_getElem hil] at hf; simpa using hf
        rw [List.drop_eq_getElem_cons hil, e]; rfl
      clear hf
      -- the numbers
      obtain ⟨nao, ncap, hnv, hnform⟩ := hR.out.okN.form'
      obtain ⟨nn, hnn⟩ : ∃ nn, nn = M.ns.length := ⟨_, rfl⟩
      have hnn2 : nn = nf := by rw [hnn, hin.out.ns]; exact HNF.out.symm
      have hnv' : M.p.nv = .slice nao nn ncap := by rw [hnn]; exact hnv
      obtain ⟨gn, hgn⟩ : ∃ gn, nao = some ⟨gn, 0, none⟩ := hnform.resolve_left (by show ¬ M.ns.length = 0; omega)
      subst hgn
      subst hnn2
      obtain ⟨d, hd⟩ : ∃ d, d = M.ns.getD i 0 := ⟨_, rfl⟩
      have hR2 := hid (hR.out.newV f)
      have cN := hR2.out.okN.at (g := gn) (cap := ncap) (by show M.p.nv = _; rw [hnv', hnn]; rfl) i (by show i < M.ns.length * 1; omega)
      have cN2 : (qN M).xs[i]? = some (.int .i64 (d : Int)) := by
        have h1 : M.ns[i]? = some d := by rw [hd]; simp [List.getD, List.getElem?_eq_getElem (show i < M.ns.length by omega)]
        have := flat_get nc_len h1 0 (by decide)
        rw [Nat.mul_one, Nat.add_zero] at this
        exact this
      rw [cN2] at cN
      have c5 := hR2.out.p.cells.2.2.2.2.2.1
      rw [hnv'] at c5
      have hhead : Hid ((M.ns.drop i).headD 0 = d) := (headD_drop M.ns i).trans hd.symm
      clear hd cN2 hnv hnv' hnform hnn
      have cF3 := hread.out _ _ hR2.out
      go_upto_region 7 with (refine wpList_load_cells' rfl 212 (.tmp 36) rfl ⟨gf', i * 11, none⟩ rfl _ _ HC.out Fadg.underlying212 rfl Fadg.len212 ?_)
      generalize wr.alloc (.cells #[.string f.b, .int .u8 (f.k : Int), .int .u8 (f.e : Int), .int .u8 (f.r : Int), .int .u8 f.ns, .int .u8 f.q1, .int .u16 f.q2, .int .u8 f.q3, .bool f.q4, .int .u64 f.d, .bool f.u] 212) = w2 at *
      generalize wr.heap.size = V at *
      clear HC cF hR
      have HFA := hid (rfail_std hR2.out 5 5 rfl)
      by_cases hdn : nn ≤ d
      · have hdn' : (nn : Int) ≤ (d : Int) := by omega
        have hbad : Hid (sortR nn (m.fl.map gf) M.ns (List.replicate nn none) = none) := by
          show _ = _
          rw [← hsrt.out, hdrop.out]
          exact sortR_bad (.inl (by rw [hhead.out]; exact hdn))
        go_wp2_with (go_at_call 151; go_must (refine HFA.out.mono ?_; rintro e w4 ⟨rfl, hf4, ho4⟩))
        go_ret
        rw [orderR_bad HNF.out hbad.out]
        exact ⟨rfl, hf4⟩
      · have hdn' : ¬ (nn : Int) ≤ (d : Int) := by omega
        have hdn2 : d < nn := by omega
        obtain ⟨gg, hgg⟩ : ∃ gg, so[d]? = some gg := ⟨_, List.getElem?_eq_getElem (by rw [hsl.out]; exact hdn2)⟩
        have HXA := hid (fun (j : Nat) (hj : j < 11) => qX_at hR2.out.less.headR hsl.out hgg j hj)
        have HXF := hid (fun (j : Nat) => qX_fr hR2.out.less.headR j)
        have hacc := hid (accR_get hgg)
        have HGG := hid hgg
        clear hgg
        have x0 := HXA.out 0 (by decide)
        simp only [gc, Nat.add_zero, List.getElem?_cons_zero] at x0
        by_cases hgb : gg.b.size = 0
        · have hq := empty_of_size hgb
          have hok : Hid (sortR nn (m.fl.map gf) M.ns (List.replicate nn none) = sortR nn ((m.fl.drop (i + 1)).map gf) (M.ns.drop (i + 1)) (accR (so.set d f))) := by
            show _ = _
            rw [← hsrt.out, hdrop.out, sortR_ok (by rw [hhead.out, hacc.out, hgb]; simp; omega), hhead.out, accR_set hff.out.1, List.tail_drop]
          have hz2' : Hid (∀ x ∈ so.set d f, (x.b.size = 0 → gf x = zeroFR) ∧ x.k ≤ 14 ∧ RefF M.us.length x) := by
            intro x hx
            rcases List.mem_or_eq_of_mem_set hx with hx | rfl
            · exact hz.out x hx
            · exact ⟨fun h => by have h2 := hff.out.1; omega, hff.out.2⟩
          have hl2 : Hid ((so.set d f).length = nn) := by show _ = _; rw [List.length_set]; exact hsl.out
          clear hgb
          have x1 := HXA.out 1 (by decide)
          have x2 := HXA.out 2 (by decide)
          have x3 := HXA.out 3 (by decide)
          have x4 := HXA.out 4 (by decide)
          have x5 := HXA.out 5 (by decide)
          have x6 := HXA.out 6 (by decide)
          have x7 := HXA.out 7 (by decide)
          have x8 := HXA.out 8 (by decide)
          have x9 := HXA.out 9 (by decide)
          have x10 := HXA.out 10 (by decide)
          simp only [gc, List.getElem?_cons_zero, List.getElem?_cons_succ] at x1 x2 x3 x4 x5 x6 x7 x8 x9 x10
          have z0 := HXF.out (d * 11)
          have z1 := HXF.out (d * 11 + 1)
          have z2 := HXF.out (d * 11 + 2)
          have z3 := HXF.out (d * 11 + 3)
          have z4 := HXF.out (d * 11 + 4)
          have z5 := HXF.out (d * 11 + 5)
          have z6 := HXF.out (d * 11 + 6)
          have z7 := HXF.out (d * 11 + 7)
          have z8 := HXF.out (d * 11 + 8)
          have z9 := HXF.out (d * 11 + 9)
          have z10 := HXF.out (d * 11 + 10)
          have HCV := hid (qV_load hR2.out.headR)
          have hR3 := hid (RStd.put11 (f := f) hR2.out.less HGG.out)
          clear hR2 HFA HXA HXF cN c5 hdrop hsrt hz hsl hhead hacc
          go_upto_region 9 with fail
          clear cF3 hq
          go_wp2_with (have HCW := HCV.out; clear HCV; refine wpList_load_cells' rfl 212 (.tmp 8) rfl ⟨V, 0, none⟩ rfl _ _ HCW Fadg.underlying212 rfl Fadg.len212 ?_; clear HCW)
          clear x0 x1 x2 x3 x4 x5 x6 x7 x8 x9 x10 z0 z1 z2 z3 z4 z5 z6 z7 z8 z9 z10
          go_roundg (gk - 1)
          case measure => omega
          case rel =>
            have hR4 := hR3.out
            unfold putX11 at hR4
            exact ⟨i + 1, so.set d f, by go_num, by omega, hl2, hR4, hok.out.symm, hz2'⟩
        · have hq := empty_ne (b := gg.b) (by omega)
          have hbad : Hid (sortR nn (m.fl.map gf) M.ns (List.replicate nn none) = none) := by
            show _ = _
            rw [← hsrt.out, hdrop.out]
            exact sortR_bad (.inr (by rw [hhead.out, hacc.out]; simp; omega))
          clear hgb
          go_wp2_with (go_at_call 151; go_must (refine HFA.out.mono ?_; rintro e w4 ⟨rfl, hf4, ho4⟩))
          go_ret
          rw [orderR_bad HNF.out hbad.out]
          exact ⟨rfl, hf4⟩
    · have hlt' : ¬ (i : Int) < (nf : Int) := by omega
      obtain rfl : i = nf := by omega
      have hsort : Hid (sortR i (m.fl.map gf) M.ns (List.replicate i none) = some (accR so)) := by
        show _ = _
        rw [← hsrt.out, List.drop_eq_nil_of_le (by rw [← HNF.out]; exact Nat.le_refl _)]; rfl
      have hord := hid (orderR_go HNF.out hsort.out (fun f hf => (hz.out f hf).1))
      have HL := hid (layoutR_any (some ⟨X, 0, none⟩) i i so wr hsl.out.symm hnf2 (fun f hf => (hz.out f hf).2.1) (qX_row hR.out.headR hsl.out) (fun g' hg' => by injection hg' with hg'; injection hg' with hg'; subst hg'; exact (hR.out.headR.lt (g := X) rfl).2))
      unfold LayRPost at HL
      clear hsort hsrt
      cases hlay : layR (so.map gf) with
      | false =>
        rw [hlay] at HL hord
        have hord2 : Hid (orderR (absR M m.fl) = .error (M.p.at_, 2)) := hord.out
        clear hlay hord
        have HFA := hid (fun wx (hx : RStd P T w0 wx M (qX X i so :: rs)) => rfail_std hx 2 2 rfl)
        go_wp2_with (first | (go_at_call 157; go_must (refine HL.out.mono ?_; rintro e w4 ⟨hb4, rfl⟩; have hR4 := hid ((hR.out.grow hb4).alloc (.cells #[.int .u8 0, .int .u16 0, .int .u8 0, .bool false] 196)))) | (go_at_call 151; go_must (refine (HFA.out _ hR4.out).mono ?_; rintro e w5 ⟨rfl, hf5, ho5⟩)))
        go_ret
        rw [hord2.out]
        exact ⟨rfl, hf5⟩
      | true =>
        rw [hlay] at HL hord
        have hord2 : Hid (orderR (absR M m.fl) = .ok ()) := hord.out
        clear hlay hord
        go_upto_region 12 with (go_at_call 157; go_must (refine HL.out.mono ?_; rintro e w4 ⟨hb4, ov, fs', p, dd, q, rfl, hown4, hfl4, hsm4⟩))
        obtain ⟨ao9, cap9, hov⟩ : ∃ ao9 cap9, ov = .slice ao9 so.length cap9 := by
          obtain ⟨ao9, cap9, h9, -⟩ := Row.ok.form' (r := ⟨ov, 212, 11, so.length, fs'.flatMap gc⟩) hown4
          exact ⟨ao9, cap9, h9⟩
        rw [hsl.out] at hov
        subst hov
        have hall : Hid (∀ f ∈ fs', f.k ≤ 14 ∧ RefF M.us.length f) := by
          intro f' hf'
          obtain ⟨j, hj, hj2⟩ := List.getElem_of_mem hf'
          obtain ⟨f, hf1, hf2⟩ := hsm4 j f' (by rw [List.getElem?_eq_getElem hj, hj2])
          have h1 := hz.out f (List.mem_of_getElem? hf1)
          refine ⟨by rw [hf2.k]; exact h1.2.1, fun h => ?_⟩
          rw [hf2.r]; rw [hf2.k, hf2.e] at h; exact h1.2.2 h
        have hR4 : RStd P T w0 w4 M (qF ⟨m.b, .slice ao9 i cap9, p.1, p.2.1, p.2.2.1, p.2.2.2, dd, q, fs'⟩ :: rs) := by
          have e : qF ⟨m.b, .slice ao9 i cap9, p.1, p.2.1, p.2.2.1, p.2.2.2, dd, q, fs'⟩ = ⟨.slice ao9 i cap9, 212, 11, so.length, fs'.flatMap gc⟩ := by unfold qF; simp only [hfl4]
          rw [e]
          exact hR.out.less.more hb4 (owns_mono hown4 (Nat.succ_le_of_lt hR.out.lt)) (fun g' hg' => (World.ownsRow.lt hown4 g' hg').1)
        have hR5 := hid (hR4.more (r := lP w4.heap.size p) ((Below.refl _ _).alloc (Nat.le_refl _) _) (lP_new w4 (P + 1) (Nat.succ_le_of_lt hR4.lt) p) (fun g' hg' => by simp [lP, Value.ownBlock] at hg'; omega))
        have hgY : g ≠ w4.heap.size := by
          have := (hR4.okS.lt (g := g) (by show M.p.sv.ownBlock = _; rw [HSV.out]; rfl)).2
          omega
        clear hR4 hown4 hfl4 hsm4 hb4 hR HL hz cF
        generalize w4.alloc (.cells #[.int .u8 p.1, .int .u16 p.2.1, .int .u8 p.2.2.1, .bool p.2.2.2] 196) = w5 at *
        generalize w4.heap.size = Y at *
        obtain ⟨k0, k1, k2, k3, kf⟩ := lP_cells hR5.out.headR
        clear kf
        have t0 := (World.cell?_setCell_other (w := w5) (v := Value.slice ao9 i cap9) (h := addr_ne (a := k * 8 + 1) (b := 0) hgY)).trans k0
        have t1 := (World.cell?_setCell_other (w := w5) (v := Value.slice ao9 i cap9) (h := addr_ne (a := k * 8 + 1) (b := 1) hgY)).trans k1
        have t2 := (World.cell?_setCell_other (w := w5) (v := Value.slice ao9 i cap9) (h := addr_ne (a := k * 8 + 1) (b := 2) hgY)).trans k2
        have t3 := (World.cell?_setCell_other (w := w5) (v := Value.slice ao9 i cap9) (h := addr_ne (a := k * 8 + 1) (b := 3) hgY)).trans k3
        clear hgY
        have HSC := hid (fun (j : Nat) (hj : j < 8) => hR5.out.sCell HSV.out HN.out hkm.out j hj)
        have HSF := hid (fun (j : Nat) => hR5.out.sFrz HSV.out HN.out j)
        have g1 := HSC.out 1 (by decide)
        have g2 := HSC.out 2 (by decide)
        have g3 := HSC.out 3 (by decide)
        have g4 := HSC.out 4 (by decide)
        have g5 := HSC.out 5 (by decide)
        have g6 := HSC.out 6 (by decide)
        have g7 := HSC.out 7 (by decide)
        simp only [hc, List.getElem?_cons_zero, List.getElem?_cons_succ] at g1 g2 g3 g4 g5 g6 g7
        have z1 := HSF.out (k * 8 + 1)
        have z2 := HSF.out (k * 8 + 2)
        have z3 := HSF.out (k * 8 + 3)
        have z4 := HSF.out (k * 8 + 4)
        have z5 := HSF.out (k * 8 + 5)
        have z6 := HSF.out (k * 8 + 6)
        have z7 := HSF.out (k * 8 + 7)
        have hR6 := hid (hR5.out.less.setS hss.out hk.out HSV.out HN.out rfl).drew1
        clear hR5 HSC HSF
        go_upto_region 14 with fail
        go_region
        all_goals go_wp2_with fail
        all_goals go_ret
        all_goals rw [hord2.out]
        all_goals exact ⟨rfl, _, hR6.out, rfl, hall.out⟩
end Go.Proofs.Ygcfad
