/-
  THE WALK of package rec's bind.
-/
import Derived.Test.YgcfadRecBindMem
import Derived.BigQuiet
namespace Go.Proofs.Ygcfad
open Go.RowKit Plain
set_option linter.unusedSimpArgs false
set_option linter.unusedVariables false

set_option maxRecDepth 100000 in
set_option maxHeartbeats 16000000 in
theorem bindR_any (P : Nat) (T : List Nat) (w0 w : World) (M : RM) (rs : List Row) (hS : Hid (RStd P T w0 w M rs)) (hA : Hid (RAll M)) :
    Calls Fadg.prog 76 #[.pointer (some ⟨P, 0, none⟩)] w (BindRPost P w0 (bindR (M.ss.map (fun m => nats m.b)) (M.us.map vOf))) := by
  obtain ⟨uao, ucap, huv, huform⟩ := hS.out.okU.form'
  obtain ⟨nu, hnu⟩ : ∃ nu, nu = M.us.length := ⟨_, rfl⟩
  have huv' : M.p.uv = .slice uao nu ucap := by rw [hnu]; exact huv
  have huform' : Hid (nu = 0 ∨ ∃ g, uao = some ⟨g, 0, none⟩) := by rw [hnu]; exact huform
  have hnu2 : nu ≤ 4096 := by
    have h1 := hS.out.wf.us; have h2 := hS.out.wf.ae; have h3 := hS.out.wf.en; have h4 := hS.out.wf.sz
    omega
  obtain ⟨sao, scap, hsv, hsform⟩ := hS.out.okS.form'
  obtain ⟨ns, hns⟩ : ∃ ns, ns = M.ss.length := ⟨_, rfl⟩
  have hsv' : M.p.sv = .slice sao ns scap := by rw [hns]; exact hsv
  have hsform' : Hid (ns = 0 ∨ ∃ g, sao = some ⟨g, 0, none⟩) := by rw [hns]; exact hsform
  have hns2 : ns ≤ 4 := by rw [hns]; exact hS.out.wf.ss
  have HNU := hid hnu
  have HUV := hid huv'
  have HNS := hid hns
  have HSV := hid hsv'
  have c4 := hS.out.p.cells.2.2.2.2.1
  rw [huv'] at c4
  obtain ⟨nms, hnms⟩ : ∃ nms, nms = M.ss.map (fun m => nats m.b) := ⟨_, rfl⟩
  rw [← hnms]
  have HNM := hid hnms
  have hnl : Hid (nms.length = ns) := by show _ = _; rw [hnms, List.length_map, ← hns]
  have hread : Hid (∀ wx Mx rx, RStd P T w0 wx Mx rx → Mx.p = M.p → wx.cell? ⟨P, 3, none⟩ = some (.slice sao ns scap)) := fun wx Mx rx hx e => by
    rw [hx.p.cells.2.2.2.1, e, HSV.out]
  have hS0 := hid hS.out.nilR
  clear huv huform hnu huv' hsv hsform hns hsv' hnms hS
  go_enter Fadg.func76, Fadg.ntmps76
  go_upto_if 17 with fail
  go_loopg [16, 3] nu (fun gk i v3 wr => ∃ (i' : Nat) (rao : Option Addr) (nr rcap : Nat) (xs : List Nat), i = .int .i64 (i' : Int) ∧ v3 = .slice rao nr rcap ∧ i' + gk = nu ∧ Hid (nr = xs.length) ∧ i' ≤ nr ∧ nr ≤ 4 * i' ∧ Hid (RStd P T w0 wr M (qR (.slice rao nr rcap) xs :: rs)) ∧ Hid (bindR nms ((M.us.drop i').map vOf) = bindR nms (M.us.map vOf)))
  case atStart => exact ⟨0, none, 0, 0, [], rfl, rfl, by omega, rfl, by omega, by omega, hS0, rfl⟩
  case round =>
    clear c4 hS0
    obtain ⟨i, rao, nr, rcap, xs, rfl, rfl, hi, HXL, hlo, hhi, hR, hbx⟩ := hrel
    obtain ⟨go, hgo⟩ : ∃ go, go = gk := ⟨_, rfl⟩
    by_cases hlt : i < nu
    · have hlt' : (i : Int) < (nu : Int) := by omega
      obtain ⟨gu, huao⟩ : ∃ gu, uao = some ⟨gu, 0, none⟩ := huform'.out.resolve_left (by omega)
      subst huao
      obtain ⟨u, hu⟩ : ∃ u, M.us[i]? = some u := ⟨_, List.getElem?_eq_getElem (by rw [← HNU.out]; exact hlt)⟩
      have HC := hid (uc_load hR.out HUV.out HNU.out hu)
      have HBN := hid (fun h => bindR_no (names := nms) hu h)
      have HBY := hid (fun h => bindR_yes (names := nms) hu h)
      have hW := hid (hR.out.newW u)
      have c3 := hread.out _ _ _ hW.out rfl
      clear hu hR
      go_upto_if 27 with (refine wpList_load_cells' rfl 209 (.tmp 18) rfl ⟨gu, i * 2, none⟩ rfl _ _ HC.out Fadg.underlying209 rfl Fadg.len209 ?_)
      generalize wr.alloc (.cells #[.int .i64 (u.a : Int), .string u.b] 209) = w2 at *
      generalize wr.heap.size = V at *
      clear HC
      go_loopg [26, 3, 6] ns (fun gk j v3 v6 wr2 => ∃ (j' : Nat) (rao : Option Addr) (nr rcap : Nat) (xs : List Nat), j = .int .i64 (j' : Int) ∧ v3 = .slice rao nr rcap ∧ v6 = .bool ((nms.take j').any (· == nats u.b)) ∧ j' + gk = ns ∧ Hid (nr = xs.length) ∧ i ≤ nr ∧ Hid ((nms.take j').any (· == nats u.b) = true → i + 1 ≤ nr) ∧ nr ≤ 4 * i + j' ∧ Hid (RStd P T w0 wr2 M (qW V u :: qR (.slice rao nr rcap) xs :: rs)))
      case atStart => exact ⟨0, rao, nr, rcap, xs, rfl, rfl, by simp, by omega, HXL, hlo, hid (fun h => by simp at h), by omega, hW⟩
      case round =>
        clear c3 hW HXL hlo hhi
        clear xs rcap nr rao
        obtain ⟨j, rao, nr, rcap, xs, rfl, rfl, rfl, hj, HXL, hlo, hfd, hhi, hR⟩ := hrel
        by_cases hjn : j < ns
        · have hjn' : (j : Int) < (ns : Int) := by omega
          obtain ⟨g, hao⟩ : ∃ g, sao = some ⟨g, 0, none⟩ := hsform'.out.resolve_left (by omega)
          subst hao
          have hjl : j < M.ss.length := by rw [← HNS.out]; exact hjn
          obtain ⟨m, hm⟩ : ∃ m, M.ss[j]? = some m := ⟨_, List.getElem?_eq_getElem hjl⟩
          have cN := hR.out.sCell HSV.out HNS.out hm 0 (by decide)
          simp only [hc, Nat.add_zero, List.getElem?_cons_zero] at cN
          have d3 := hread.out _ _ _ hR.out rfl
          have v1 := (qW_at hR.out.headR).2
          obtain ⟨eqb, heqb⟩ : ∃ eqb, eqb = (nats m.b == nats u.b) := ⟨_, rfl⟩
          have hq := str_beq m.b u.b
          rw [← heqb] at hq
          have htk : Hid ((nms.take (j + 1)).any (· == nats u.b) = ((nms.take j).any (· == nats u.b) || eqb)) := by
            show _ = _
            have hil2 : j < nms.length := by rw [hnl.out]; exact hjn
            have e : nms[j] = nats m.b := by
              have h1 : nms[j]? = some (nats m.b) := by rw [HNM.out, List.getElem?_map, hm]; rfl
              rw [List.getElem?_eq_getElem hil2] at h1; simpa using h1
            rw [List.take_succ_eq_append_getElem hil2, List.any_append, e, heqb]; simp
          clear hm heqb
          obtain ⟨fd, hfdd⟩ : ∃ fd, fd = (nms.take j).any (· == nats u.b) := ⟨_, rfl⟩
          rw [← hfdd] at hfd htk ⊢
          clear hfdd
          go_upto_region 9 with fail
          go_cut [40] (fun v wx => v = .bool eqb ∧ Hid (RStd P T w0 wx M (qW V u :: qR (.slice rao nr rcap) xs :: rs)))
          case first =>
            go_quiet (fail)
            go_wp2_with fail
            go_meet
            exact ⟨rfl, hid (hR.out.drew _)⟩
          case rest =>
            obtain ⟨rfl, hR2⟩ := hcut
            clear hR hq cN d3 v1
            cases eqb with
            | true =>
              obtain ⟨i5, hi5, hz0, hz1, hz2⟩ := info_parts Fadg.info5
              have hR3 := hid ((hR2.out.perm (List.Perm.swap _ _ _)).alloc (.cells #[.int .u8 (j : Int)] 5))
              go_wp2_with (at_builtin; go_must (refine wpList_append_sep (B := P + 1) _ rfl (.tmp 41) (.tmp 44) 26 rfl 5 i5 _ 1 1 Fadg.underlying26 hi5 hz0 hz1 hz2 rfl (by decide) (.slice rao nr rcap) nr (xs.flatMap rc) rfl (ownR hR3.out.headR HXL.out) ⟨_, 0, none⟩ 1 1 (rc j) rfl rfl (one_new _ _ _ _ (by simp)) (rc_one _) (by omega) (by decide) (Nat.succ_le_of_lt hR3.out.lt) ?_); intro ao9 n9 cap9 w16 hn9 hown9 hg9 hnew9; obtain rfl : n9 = nr + 1 := hn9.out; have hR4 := hid ((hR3.out.pushR (by rw [← HXL.out]) hown9 hg9 hnew9).perm (List.Perm.swap _ _ _)))
              go_roundg (gk - 1)
              case measure => omega
              case rel => exact ⟨j + 1, ao9, nr + 1, cap9, xs ++ [j], by go_num, rfl, by rw [htk.out]; simp, by omega, by show _ = _; rw [List.length_append, ← HXL.out]; rfl, by omega, hid (fun _ => by omega), by omega, hR4⟩
            | false =>
              go_wp2_with fail
              go_roundg (gk - 1)
              case measure => omega
              case rel => exact ⟨j + 1, rao, nr, rcap, xs, by go_num, rfl, by rw [htk.out]; simp, by omega, HXL, hlo, hid (fun h => hfd.out (by rw [htk.out] at h; simpa using h)), by omega, hR2⟩
        · have hjn' : ¬ (j : Int) < (ns : Int) := by omega
          have hfull : nms.take j = nms := List.take_of_length_le (by rw [hnl.out]; omega)
          rw [hfull] at hfd ⊢
          clear hfull
          obtain ⟨fd, hfdd⟩ : ∃ fd, fd = nms.any (· == nats u.b) := ⟨_, rfl⟩
          rw [← hfdd] at hfd ⊢
          cases fd with
          | true =>
            have hby := hid (hbx.out.symm.trans (HBY.out hfdd.symm))
            have hlo2 : i + 1 ≤ nr := hfd.out rfl
            clear hfdd
            go_wp2_with fail
            go_roundg (go - 1)
            case measure => omega
            case rel => exact ⟨i + 1, rao, nr, rcap, xs, by go_num, rfl, by omega, HXL, hlo2, by omega, hR.out.less, hby.out.symm⟩
          | false =>
            have hbn := hid (hbx.out.symm.trans (HBN.out hfdd.symm))
            clear hfdd
            have v0 := (qW_at hR.out.headR).1
            have HF := hid (failAt_std hR.out u.a 4 (u.a : Int) 4 rfl rfl)
            go_wp2_with (go_at_call 121; go_must (refine HF.out.mono ?_; rintro e w6 ⟨rfl, hf6, ho6⟩))
            go_ret
            rw [hbn.out]
            exact ⟨rfl, hf6⟩
    · have hlt' : ¬ (i : Int) < (nu : Int) := by omega
      obtain rfl : i = nu := by omega
      have hnone : Hid (bindR nms (M.us.map vOf) = none) := by
        show _ = _
        rw [← hbx.out, List.drop_eq_nil_of_le (by rw [← HNU.out]; exact Nat.le_refl _)]; rfl
      have hpend : Hid (Pend nr 0 0 M) := Pend.start hA.out (by rw [← HNU.out]; exact hlo)
      have c3 := hread.out _ _ _ hR.out rfl
      go_wp2_with fail
      go_loopg [60] ns (fun gk k wr => ∃ (k' : Nat) (Mx : RM), k = .int .i64 (k' : Int) ∧ k' + gk = ns ∧ Hid (RStd P T w0 wr Mx (qR (.slice rao nr rcap) xs :: rs)) ∧ Hid (Mx.p = M.p ∧ ns = Mx.ss.length) ∧ Hid (Pend nr k' 0 Mx))
      case atStart => exact ⟨0, M, rfl, by omega, hR, ⟨rfl, HNS.out⟩, hpend⟩
      case round =>
        clear c3 hR hpend
        obtain ⟨k, Mx, rfl, hk, hR, hex, hpend⟩ := hrel
        obtain ⟨go2, hgo2⟩ : ∃ go2, go2 = gk := ⟨_, rfl⟩
        have c3 := hread.out _ _ _ hR.out hex.out.1
        by_cases hkn : k < ns
        · have hkn' : (k : Int) < (ns : Int) := by omega
          obtain ⟨g, hao⟩ : ∃ g, sao = some ⟨g, 0, none⟩ := hsform'.out.resolve_left (by omega)
          subst hao
          obtain ⟨m, hm⟩ : ∃ m, Mx.ss[k]? = some m := ⟨_, List.getElem?_eq_getElem (by rw [← hex.out.2]; exact hkn)⟩
          obtain ⟨fao, fcap, hfv, hform⟩ := RStd.fForm (hR.out.okF (List.mem_of_getElem? hm))
          obtain ⟨nf, hnf⟩ : ∃ nf, nf = m.fl.length := ⟨_, rfl⟩
          rw [← hnf] at hfv hform
          have cF := hR.out.sCell (by rw [hex.out.1]; exact HSV.out) hex.out.2 hm 1 (by decide)
          simp only [hc, List.getElem?_cons_zero, List.getElem?_cons_succ] at cF
          rw [hfv] at cF
          have HNF := hid hnf
          have HFV := hid hfv
          have HFORM := hid hform
          have HM := hid hm
          have hnf2 : nf ≤ 9223372036854775807 := by
            rcases (hR.out.okF (List.mem_of_getElem? hm)).2 with ⟨_, h0⟩ | ⟨_, _, _, _, _, _, h1, h2, _⟩
            · have : m.fl.length = 0 := h0
              omega
            · have h3 : m.fl.length ≤ _ := Nat.le_trans h1 h2
              unfold maxLen at h3
              omega
          clear hm hnf hfv hform
          go_upto_if 74 with fail
          go_loopg [73] nf (fun gk i wr => ∃ (i' : Nat) (My : RM) (my : SR), i = .int .i64 (i' : Int) ∧ i' + gk = nf ∧ Hid (RStd P T w0 wr My (qR (.slice rao nr rcap) xs :: rs)) ∧ Hid (My.p = M.p ∧ ns = My.ss.length) ∧ Hid (My.ss[k]? = some my ∧ my.fv = .slice fao nf fcap ∧ nf = my.fl.length) ∧ Hid (Pend nr k i' My))
          case atStart => exact ⟨0, Mx, m, rfl, by omega, hR, hex, ⟨HM.out, HFV.out, HNF.out⟩, hpend⟩
          case round =>
            clear c3 hR hpend hex HM HFV HNF cF
            clear m Mx
            obtain ⟨i, My, my, rfl, hi, hR, hex, hmy, hpend⟩ := hrel
            by_cases hin : i < nf
            · have hin' : (i : Int) < (nf : Int) := by omega
              obtain ⟨gf', hfao⟩ : ∃ gf', fao = some ⟨gf', 0, none⟩ := HFORM.out.resolve_left (by omega)
              subst hfao
              obtain ⟨f, hf⟩ : ∃ f, my.fl[i]? = some f := ⟨_, List.getElem?_eq_getElem (by rw [← hmy.out.2.2]; exact hin)⟩
              have hokF := hid (hR.out.okF (List.mem_of_getElem? hmy.out.1))
              have d3 := hread.out _ _ _ hR.out hex.out.1
              have cF := hR.out.sCell (by rw [hex.out.1]; exact HSV.out) hex.out.2 hmy.out.1 1 (by decide)
              simp only [hc, List.getElem?_cons_zero, List.getElem?_cons_succ] at cF
              rw [hmy.out.2.1] at cF
              have f1 := qF_at hokF.out hmy.out.2.1 hmy.out.2.2 hf 1 (by decide)
              have f2 := qF_at hokF.out hmy.out.2.1 hmy.out.2.2 hf 2 (by decide)
              have f3 := qF_at hokF.out hmy.out.2.1 hmy.out.2.2 hf 3 (by decide)
              simp only [gc, List.getElem?_cons_zero, List.getElem?_cons_succ] at f1 f2 f3
              have z3 := hokF.out.fr (g := gf') (cap := fcap) (by show my.fv = _; rw [hmy.out.2.1, hmy.out.2.2]; rfl) (i * 11 + 3)
              have href := hid ((hpend.out k my hmy.out.1).2 rfl i f (Nat.le_refl _) hf)
              have HRD := hid (fun x => hR.out.refd hmy.out.1 hmy.out.2.1 hmy.out.2.2 hf x)
              have HPN := hid (fun (f' : RF) => hpend.out.set (f := f') hmy.out.1)
              clear hf
              obtain ⟨rb, hrb⟩ : ∃ rb, rb = decide (f.k = 13 ∨ (f.k = 12 ∧ f.e = 13)) := ⟨_, rfl⟩
              have HRB := hid hrb
              clear hrb
              go_upto_region 22 with fail
              go_cut [106] (fun v wx => v = .bool rb ∧ wx = wr)
              case first =>
                by_cases h13 : f.k = 13
                · have h13' : ((f.k : Int) == 13) = true := by simp [h13]
                  have hrb : Hid (rb = true) := by show _ = _; rw [HRB.out]; simp [h13]
                  clear h13
                  go_wp2
                  go_meet
                  exact ⟨by rw [hrb.out], rfl⟩
                · have h13' : ((f.k : Int) == 13) = false := by simp; omega
                  by_cases h12 : f.k = 12
                  · have h12' : ((f.k : Int) == 12) = true := by simp [h12]
                    obtain ⟨eb, heb⟩ : ∃ eb, eb = ((f.e : Int) == 13) := ⟨_, rfl⟩
                    have hrb : Hid (rb = eb) := by
                      show _ = _
                      rw [HRB.out, heb, Bool.eq_iff_iff]; simp [h12]; omega
                    have heb' := heb.symm
                    clear h13 h12 heb
                    go_wp2
                    go_meet
                    exact ⟨by rw [hrb.out], rfl⟩
                  · have h12' : ((f.k : Int) == 12) = false := by simp; omega
                    have hrb : Hid (rb = false) := by show _ = _; rw [HRB.out]; simp [h13, h12]
                    clear h13 h12
                    go_wp2
                    go_meet
                    exact ⟨by rw [hrb.out], rfl⟩
              case rest =>
                obtain ⟨rfl, rfl⟩ := hcut
                cases rb with
                | true =>
                  have hlr : f.r < nr := href.out (of_decide_eq_true HRB.out.symm)
                  have hlr' : (f.r : Int) < (nr : Int) := by omega
                  obtain ⟨gr, hrao⟩ : ∃ gr, rao = some ⟨gr, 0, none⟩ := qR_form hR.out.headR (by rw [← HXL.out]; omega)
                  subst hrao
                  obtain ⟨x, hx⟩ : ∃ x, xs[f.r]? = some x := ⟨_, List.getElem?_eq_getElem (by rw [← HXL.out]; exact hlr)⟩
                  have cR := qR_at hR.out.headR HXL.out hx
                  clear hx
                  go_wp2_with fail
                  go_roundg (gk - 1)
                  case measure => omega
                  case rel => exact ⟨i + 1, _, _, by go_num, by omega, hid (HRD.out x), ⟨hex.out.1, by show ns = (My.ss.set _ _).length; rw [List.length_set]; exact hex.out.2⟩, ⟨getSR hmy.out.1, hmy.out.2.1, by show nf = (my.fl.set _ _).length; rw [List.length_set]; exact hmy.out.2.2⟩, hid (HPN.out _)⟩
                | false =>
                  go_wp2_with fail
                  go_roundg (gk - 1)
                  case measure => omega
                  case rel => exact ⟨i + 1, My, my, by go_num, by omega, hR, hex, hmy, hid hpend.out.step⟩
            · have hin' : ¬ (i : Int) < (nf : Int) := by omega
              go_wp2_with fail
              go_roundg (go2 - 1)
              case measure => omega
              case rel => exact ⟨k + 1, My, by go_num, by omega, hR, hex, hid hpend.out.next⟩
        · have hkn' : ¬ (k : Int) < (ns : Int) := by omega
          go_wp2_with fail
          go_ret
          rw [hnone.out]
          exact ⟨rfl, hR.out.bel⟩
end Go.Proofs.Ygcfad
