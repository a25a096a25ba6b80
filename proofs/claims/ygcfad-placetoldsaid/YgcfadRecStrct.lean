/-
  THE WALK of package rec's strct.
-/
import Derived.Test.YgcfadRecOrder
import Derived.Test.YgcfadRecStrctMem
namespace Go.Proofs.Ygcfad
open Go.RowKit Plain
set_option linter.unusedSimpArgs false
set_option linter.unusedVariables false

set_option maxRecDepth 100000 in
set_option maxHeartbeats 4000000 in
theorem strctR_bad (P : Nat) (T : List Nat) (w0 w : World) (M : RM) (fs : List RF) (rs : List Row) (hS : Hid (RStd P T w0 w M rs)) (h : Hid (¬ nats (tokM M) = STRUCT)) :
    Calls Fadg.prog 75 #[.pointer (some ⟨P, 0, none⟩)] w (StrctRPost P T w0 rs (strctR T (absR M fs))) := by
  have HE := hid (expectR_no hS.out ⟨#[115, 116, 114, 117, 99, 116]⟩ h.out)
  have hp := hid (strctR_no1 (abs_exp_no hS.out (s := STRUCT) h.out fs))
  go_enter Fadg.func75, Fadg.ntmps75
  go_wp2_with (go_at_call 119; go_must (refine HE.out.mono ?_; rintro e w1 ⟨rfl, hf1, q1, ho1⟩))
  go_ret
  rw [hp.out]
  exact ⟨rfl, hf1⟩

set_option maxRecDepth 100000 in
set_option maxHeartbeats 4000000 in
theorem strctR_noname (P : Nat) (T : List Nat) (w0 w : World) (M : RM) (fs : List RF) (rs : List Row) (x : Nat × Nat) (hS : Hid (RStd P T w0 w M rs)) (h : Hid (nats (tokM M) = STRUCT)) (hn : Hid (nameR T true (absR (nextM M) fs) = .error x)) :
    Calls Fadg.prog 75 #[.pointer (some ⟨P, 0, none⟩)] w (StrctRPost P T w0 rs (strctR T (absR M fs))) := by
  have HE := hid (expectR_yes hS.out ⟨#[115, 116, 114, 117, 99, 116]⟩ h.out)
  have hp := hid (strctR_no2 (abs_exp_yes hS.out (s := STRUCT) h.out fs) hn.out)
  have HN := hid (fun wx (hx : RStd P T w0 wx (nextM M) rs) => nameR_no hx hn.out)
  go_enter Fadg.func75, Fadg.ntmps75
  go_wp2_with (first | (go_at_call 119; go_must (refine HE.out.mono ?_; rintro e w1 ⟨rfl, hs1, q1, ho1⟩; have c1 := hs1.p.cells.2.1)) | (go_at_call 120; go_must (refine (HN.out _ hs1).mono ?_; rintro e w2 ⟨rfl, hf2, q2, ho2⟩)))
  go_ret
  rw [hp.out]
  exact ⟨rfl, hf2⟩

set_option maxRecDepth 100000 in
set_option maxHeartbeats 4000000 in
theorem strctR_full (P : Nat) (T nm : List Nat) (s2 : RSt) (w0 w : World) (M : RM) (fs : List RF) (rs : List Row) (hS : Hid (RStd P T w0 w M rs)) (h : Hid (nats (tokM M) = STRUCT)) (hn : Hid (nameR T true (absR (nextM M) fs) = .ok (nm, s2))) (h4 : 4 ≤ M.ss.length) :
    Calls Fadg.prog 75 #[.pointer (some ⟨P, 0, none⟩)] w (StrctRPost P T w0 rs (strctR T (absR M fs))) := by
  have HE := hid (expectR_yes hS.out ⟨#[115, 116, 114, 117, 99, 116]⟩ h.out)
  have hpA := hid (abs_exp_yes hS.out (s := STRUCT) h.out fs)
  have HN := hid (fun wx (hx : RStd P T w0 wx (nextM M) rs) => nameR_yes hx hn.out)
  obtain ⟨a, ha⟩ : ∃ a, a = (nextM M).p.at_ := ⟨_, rfl⟩
  have HA := hid ha
  obtain ⟨k, hk⟩ : ∃ k, k = M.ss.length := ⟨_, rfl⟩
  obtain ⟨sao, scap, hsv, hsform⟩ := hS.out.okS.form'
  have HSV : Hid ((nextM (nextM M)).p.sv = .slice sao k scap) := by rw [hk]; exact hsv
  have h4' : (4 : Int) ≤ (k : Int) := by omega
  have HF := hid (fun wx (hx : RStd P T w0 wx (nextM (nextM M)) rs) => failAt_std hx a 2 (a : Int) 2 rfl rfl)
  clear hsv hsform ha hk
  go_enter Fadg.func75, Fadg.ntmps75
  go_wp2_with (first | (go_at_call 119; go_must (refine HE.out.mono ?_; rintro e w1 ⟨rfl, hs1, q1, ho1⟩; have c1 := hs1.p.cells.2.1; rw [← HA.out] at c1)) | (go_at_call 120; go_must (refine (HN.out _ hs1).1.mono ?_; rintro e w2 ⟨rfl, hs2, q2, ho2⟩; have c3 := hs2.p.cells.2.2.2.1; rw [HSV.out] at c3)) | (go_at_call 121; go_must (refine (HF.out _ hs2).mono ?_; rintro e w3 ⟨rfl, hf3, ho3⟩)))
  go_ret
  rw [strctR_lim hpA.out hn.out (by rw [(HN.out _ hs1).2.2.1]; show 4 ≤ (M.ss.map _).length; rw [List.length_map]; exact h4)]
  rw [HA.out] at hf3
  exact ⟨rfl, hf3⟩

theorem eight_new' (w : World) (m : SR) (v : Value) (hv : m.fv = v) (g : Nat) (hg : g = w.heap.size) : ∀ j u, (hc m)[j]? = some u → (w.alloc (.cells #[.string m.b, v, .int .u8 m.g1, .int .u16 m.g2, .int .u8 m.g3, .bool m.g4, .int .u8 m.d, .int .u8 m.p] 204)).cell? ((⟨g, 0, none⟩ : Addr).add j) = some u := by
  subst hv; exact eight_new w m g hg

set_option maxRecDepth 100000 in
set_option maxHeartbeats 16000000 in
theorem strctR_yes (P : Nat) (T nm : List Nat) (s2 : RSt) (w0 w : World) (M : RM) (fs : List RF) (rs : List Row) (hS : Hid (RStd P T w0 w M rs)) (hA : Hid (RAll M)) (h : Hid (nats (tokM M) = STRUCT)) (hn : Hid (nameR T true (absR (nextM M) fs) = .ok (nm, s2))) (h4 : Hid (¬ 4 ≤ M.ss.length)) :
    Calls Fadg.prog 75 #[.pointer (some ⟨P, 0, none⟩)] w (StrctRPost P T w0 rs (strctR T (absR M fs))) := by
  have HE := hid (expectR_yes hS.out ⟨#[115, 116, 114, 117, 99, 116]⟩ h.out)
  have hpA := hid (abs_exp_yes hS.out (s := STRUCT) h.out fs)
  have HN := hid (fun wx (hx : RStd P T w0 wx (nextM M) rs) => nameR_yes hx hn.out)
  obtain ⟨a, ha⟩ : ∃ a, a = (nextM M).p.at_ := ⟨_, rfl⟩
  have HA := hid ha
  obtain ⟨k, hk⟩ : ∃ k, k = M.ss.length := ⟨_, rfl⟩
  obtain ⟨sao, scap, hsv, hsform⟩ := hS.out.okS.form'
  have HSV : Hid (M.p.sv = .slice sao k scap) := by rw [hk]; exact hsv
  have hsform' : Hid (k = 0 ∨ ∃ g, sao = some ⟨g, 0, none⟩) := by rw [hk]; exact hsform
  have hk4 : k < 4 := by have := h4.out; omega
  have h4' : ¬ (4 : Int) ≤ (k : Int) := by omega
  have HK := hid hk
  obtain ⟨M2, hM2⟩ : ∃ M2, M2 = nextM (nextM M) := ⟨_, rfl⟩
  obtain ⟨b, hb⟩ : ∃ b, b = tokM (nextM M) := ⟨_, rfl⟩
  rw [← hM2, ← hb] at HN
  have e2 : Hid (M2.ss = M.ss ∧ M2.us = M.us ∧ M2.p.sv = M.p.sv) := by rw [hM2]; exact ⟨rfl, rfl, rfl⟩
  have hread : Hid (∀ wx Mx rx, RStd P T w0 wx Mx rx → Mx.p.sv = M.p.sv → wx.cell? ⟨P, 3, none⟩ = some (.slice sao k scap)) := fun wx Mx rx hx e => by
    rw [hx.p.cells.2.2.2.1, e, HSV.out]
  have HBI := hid (builtR_any b)
  clear hsv hsform ha hk hM2 hb
  go_enter Fadg.func75, Fadg.ntmps75
  go_upto_if 43 with (first | (go_at_call 119; go_must (refine HE.out.mono ?_; rintro e w1 ⟨rfl, hs1, q1, ho1⟩; have c1 := hs1.p.cells.2.1; rw [← HA.out] at c1)) | (go_at_call 120; go_must (refine (HN.out _ hs1).1.mono ?_; rintro e w2 ⟨rfl, hs2, q2, ho2⟩; have c3 := hread.out _ _ _ hs2 e2.out.2.2)) | (go_at_call 122; go_must (refine (HBI.out _).mono ?_; rintro e w3 ⟨rfl, hw3⟩; subst hw3)))
  have hnm := hid (HN.out _ hs1)
  have hs2 := hid hs2
  have hnm1 : Hid (nm = nats b ∧ s2 = absR M2 fs) := ⟨hnm.out.2.1, hnm.out.2.2.1⟩
  clear HE HN hnm hs1 c1 ho1 ho2 hS
  go_loopg [42, 6] k (fun gk j d wr => ∃ j' : Nat, j = .int .i64 (j' : Int) ∧ j' + gk = k ∧ d = .bool (builtR (nats b) || (M.ss.take j').any (fun m => nats m.b == nats b)) ∧ Hid (RStd P T w0 wr M2 rs))
  case atStart => exact ⟨0, rfl, by omega, by simp, hs2⟩
  case round =>
    clear c3
    obtain ⟨j, rfl, hj, rfl, hs5⟩ := hrel
    by_cases hlt : j < k
    · have hlt' : (j : Int) < (k : Int) := by omega
      obtain ⟨g, hao⟩ : ∃ g, sao = some ⟨g, 0, none⟩ := hsform'.out.resolve_left (by omega)
      subst hao
      have hjl : j < M.ss.length := by rw [← HK.out]; exact hlt
      obtain ⟨m, hm⟩ : ∃ m, M.ss[j]? = some m := ⟨_, List.getElem?_eq_getElem hjl⟩
      have hm2 : M2.ss[j]? = some m := by rw [e2.out.1]; exact hm
      have HC := hc_load hs5.out (e2.out.2.2.trans HSV.out) (HK.out.trans (by rw [e2.out.1])) hm2
      obtain ⟨fao, fcap, hfv, -⟩ := RStd.fForm (hs5.out.okF (List.mem_of_getElem? hm2))
      rw [hfv] at HC
      have HC := hid HC
      have htk : Hid ((M.ss.take (j + 1)).any (fun m => nats m.b == nats b) = ((M.ss.take j).any (fun m => nats m.b == nats b) || (nats m.b == nats b))) := by
        show _ = _
        have e : M.ss[j] = m := by rw [List.getElem?_eq_getElem hjl] at hm; simpa using hm
        rw [List.take_succ_eq_append_getElem hjl, List.any_append, e]; simp
      have hs6 := hid (hs5.out.alloc (.cells #[.string m.b, .slice fao m.fl.length fcap, .int .u8 m.g1, .int .u16 m.g2, .int .u8 m.g3, .bool m.g4, .int .u8 m.d, .int .u8 m.p] 204))
      generalize m.fl.length = nfm at *
      clear hm hm2 hfv
      obtain ⟨dd, hdd⟩ : ∃ dd, dd = (builtR (nats b) || (M.ss.take j).any (fun m => nats m.b == nats b)) := ⟨_, rfl⟩
      rw [← hdd]
      have hor : Hid ((builtR (nats b) || (M.ss.take (j + 1)).any (fun m => nats m.b == nats b)) = (dd || (nats m.b == nats b))) := by
        show _ = _; rw [htk.out, hdd, Bool.or_assoc]
      clear hdd htk
      cases dd with
      | true =>
        go_wp2_with (refine wpList_load_cells' rfl 204 (.tmp 44) rfl ⟨g, j * 8, none⟩ rfl _ _ HC.out Fadg.underlying204 rfl Fadg.len204 ?_)
        go_roundg (gk - 1)
        case measure => omega
        case rel => exact ⟨j + 1, by go_num, by omega, by rw [hor.out]; rfl, hs6⟩
      | false =>
        have hq := str_beq m.b b
        cases hqq : (nats m.b == nats b) with
        | true =>
          rw [hqq] at hq
          go_wp2_with (refine wpList_load_cells' rfl 204 (.tmp 44) rfl ⟨g, j * 8, none⟩ rfl _ _ HC.out Fadg.underlying204 rfl Fadg.len204 ?_)
          go_roundg (gk - 1)
          case measure => omega
          case rel => exact ⟨j + 1, by go_num, by omega, by rw [hor.out, hqq]; rfl, hs6⟩
        | false =>
          rw [hqq] at hq
          go_wp2_with (refine wpList_load_cells' rfl 204 (.tmp 44) rfl ⟨g, j * 8, none⟩ rfl _ _ HC.out Fadg.underlying204 rfl Fadg.len204 ?_)
          go_roundg (gk - 1)
          case measure => omega
          case rel => exact ⟨j + 1, by go_num, by omega, by rw [hor.out, hqq]; rfl, hs6⟩
    · have hlt' : ¬ (j : Int) < (k : Int) := by omega
      have hall : (M.ss.take j).any (fun m => nats m.b == nats b) = M.ss.any (fun m => nats m.b == nats b) := by
        rw [List.take_of_length_le (by rw [← HK.out]; omega)]
      rw [hall]
      obtain ⟨dd, hdd⟩ : ∃ dd, dd = (builtR (nats b) || M.ss.any (fun m => nats m.b == nats b)) := ⟨_, rfl⟩
      rw [← hdd]
      have hnames : Hid ((absR M2 fs).names = M.ss.map (fun m => nats m.b)) := by show M2.ss.map _ = _; rw [e2.out.1]
      have hl4 : Hid (¬ 4 ≤ s2.names.length) := by rw [hnm1.out.2, hnames.out, List.length_map]; exact h4.out
      have hdd2 : Hid ((builtR nm || s2.names.any (· == nm)) = dd) := by
        show _ = _
        rw [hnm1.out.2, hnm1.out.1, hnames.out, any_namesR, hdd]
      clear hdd hall hs2
      cases dd with
      | true =>
        have HF := hid (failAt_std hs5.out a 3 (a : Int) 3 rfl rfl)
        go_wp2_with (go_at_call 121; go_must (refine HF.out.mono ?_; rintro e w6 ⟨rfl, hf6, ho6⟩))
        go_ret
        rw [strctR_dup hpA.out hn.out hl4.out hdd2.out]
        rw [HA.out] at hf6
        exact ⟨rfl, hf6⟩
      | false =>
        have hcon : Hid (strctR T (absR M fs) = sconR T (nats b) (absR M2 fs)) := by
          show _ = _
          rw [strctR_con hpA.out hn.out hl4.out hdd2.out, hnm1.out.1, hnm1.out.2]
        clear hdd2 hl4 hnames hpA
        by_cases hB : nats (tokM M2) = [123]
        · have HE := hid (expectR_yes hs5.out ⟨#[123]⟩ hB)
          have hcon2 := hid (hcon.out.trans (sconR_go (abs_exp_yes hs5.out hB fs)))
          clear hB hcon
          go_wp2_with (go_at_call 119; go_must (refine HE.out.mono ?_; rintro e w6 ⟨rfl, hs6, q6, ho6⟩; have hsB := hid (hs6.newB b); have c5 := hsB.out.p.cells.2.2.2.2.2.1; have f5 := hsB.out.p.2 5))
          have hs7 := hid hsB.out.clearN
          have e7 : Hid ((clearN (nextM M2)).ss = M.ss ∧ (clearN (nextM M2)).p.sv = M.p.sv ∧ (clearN (nextM M2)).us.length = M.us.length) := ⟨e2.out.1, e2.out.2.2, by show M2.us.length = _; rw [e2.out.2.1]⟩
          have hcon3 : Hid (strctR T (absR M fs) = sconR2 T (nats b) (absR (clearN (nextM M2)) [])) := hcon2.out
          have hin7 : Hid (RIn (clearN (nextM M2)) (newSR b)) := ⟨rfl, fun f hf => by cases hf⟩
          clear hsB hs6 c5 f5 hcon2 HE hs5 ho6
          generalize clearN (nextM M2) = M5 at *
          generalize (w6.alloc (.cells #[.string b, .slice none 0 0, .int .u8 0, .int .u16 0, .int .u8 0, .bool false, .int .u8 0, .int .u8 0] 204)).setCell ⟨P, 5, none⟩ (.slice none 0 0) = w7 at *
          generalize w6.heap.size = B at *
          go_loopg [] (T.length + 1) (fun gk wr => ∃ (Mx : RM) (mx : SR), Hid (RStd P T w0 wr Mx (qB B mx :: qF mx :: rs)) ∧ Hid (RIn Mx mx) ∧ Hid (mx.b = b ∧ Mx.ss = M.ss ∧ Mx.p.sv = M.p.sv ∧ M.us.length ≤ Mx.us.length) ∧ Hid (bodyR T gk (absR Mx mx.fl) = bodyR T (T.length + 1) (absR M5 [])) ∧ T.length < Mx.p.at_ + gk)
          case atStart => exact ⟨M5, newSR b, hs7, hin7, ⟨rfl, e7.out.1, e7.out.2.1, by rw [e7.out.2.2]; exact Nat.le_refl _⟩, rfl, by omega⟩
          case round =>
            clear hs7 hin7
            obtain ⟨Mx, mx, hsx, hix, hex, hux, hgk⟩ := hrel
            have hlen := hsx.out.len
            have hax : Mx.p.at_ ≤ T.length := by have := hsx.out.wf.ae; have := hsx.out.wf.en; omega
            obtain ⟨g, rfl⟩ : ∃ g, gk = g + 1 := ⟨gk - 1, by omega⟩
            have HTK := hid (tok_std hsx.out)
            have HTK2 := hid (fun wx (hx : RStd P T w0 wx Mx (qB B mx :: qF mx :: rs)) => tok_std hx)
            have habx := hid (abs_tok hsx.out mx.fl)
            have hlx := hid (str_lit (tokM Mx) [125])
            have hlu := hid (str_lit (tokM Mx) [117, 110, 105, 111, 110])
            by_cases hE : nats (tokM Mx) = [125]
            · have hq : ((tokM Mx).toList == [125]) = true := by rw [hlx.out, hE]; rfl
              have hbody := hid (hux.out.symm.trans (bodyR_end (T := T) (f := g) (s := absR Mx mx.fl) (by rw [habx.out]; exact hE)))
              have HE2 := hid (fun wx My (hx : RStd P T w0 wx My rs) (ht : nats (tokM My) = [125]) => expectR_yes hx ⟨#[125]⟩ ht)
              have HTE := hid hE
              clear hE hux
              go_upto_region 27 with (go_at_call 74; go_must (refine HTK.out.mono ?_; rintro e w8 ⟨rfl, q8, hw8⟩; have hs8 : Hid (RStd P T w0 w8 Mx (qB B mx :: qF mx :: rs)) := (by rw [hw8]; exact hsx.out.drew q8); clear hw8))
              clear HTK HTK2 hsx hq
              obtain ⟨fao, fcap, hfv, -⟩ := RStd.fForm hs8.out.less.headR
              obtain ⟨nfx, hnfx⟩ : ∃ nfx, nfx = mx.fl.length := ⟨_, rfl⟩
              rw [← hnfx] at hfv
              clear hnfx
              have HFV := hid hfv
              have HU := hid (fun (j : Nat) (hj : j < 8) => qB_at hs8.out.headR j hj)
              have u0 := HU.out 0 (by decide)
              have u1 := HU.out 1 (by decide)
              have u2 := HU.out 2 (by decide)
              have u3 := HU.out 3 (by decide)
              have u4' := HU.out 4 (by decide)
              have u5' := HU.out 5 (by decide)
              have u6' := HU.out 6 (by decide)
              have u7' := HU.out 7 (by decide)
              simp only [hc, List.getElem?_cons_zero, List.getElem?_cons_succ] at u0 u1 u2 u3 u4' u5' u6' u7'
              rw [hfv] at u1
              clear hfv HU
              have c3 := hread.out _ _ _ hs8.out hex.out.2.2.1
              have HSX : Hid (Mx.p.sv = .slice sao k scap) := hex.out.2.2.1.trans HSV.out
              have HKX : Hid (k = Mx.ss.length) := by rw [hex.out.2.1]; exact HK.out
              obtain ⟨i8, hi8, hz0, hz1, hz2⟩ := info_parts Fadg.info204
              go_cut [] (fun wx => ∃ ao cap, Hid (RStd P T w0 wx (addSR Mx (.slice ao (k + 1) cap) mx) rs))
              case first =>
                have hsB := hid (hs8.out.alloc (.cells #[.string mx.b, .slice fao nfx fcap, .int .u8 mx.g1, .int .u16 mx.g2, .int .u8 mx.g3, .bool mx.g4, .int .u8 mx.d, .int .u8 mx.p] 204))
                have cB3 := hread.out _ _ _ hsB.out hex.out.2.2.1
                have hown2 := hid (ownSR hsB.out.okS HSX.out HKX.out)
                have hsD := hid hsB.out.less.drew1
                have hu4 : Hid (Mx.ss.length + 1 ≤ 4) := by show _ ≤ _; rw [← HKX.out]; omega
                go_region_law (refine step_append_sep (B := P + 1) _ rfl (.tmp 83) (.tmp 85) 104 rfl 204 i8 _ 8 48 Fadg.underlying104 hi8 hz0 hz1 hz2 rfl (by decide) (.slice sao k scap) k (Mx.ss.flatMap hc) rfl hown2.out ⟨_, 0, none⟩ 1 1 (hc mx) rfl rfl (eight_new' _ mx _ HFV.out _ (by simp)) (hc_one _ HFV.out) (by decide) (by omega) (by decide) ?_ (Nat.succ_le_of_lt hsB.out.lt); intro ao8 n8 cap8 w8' hn8 hown8 hg8 hnew8; obtain rfl : n8 = k + 1 := hn8.out; rw [← HSX.out] at hg8 hnew8; have hc8 := hid (hsD.out.structed (by rw [← HKX.out]) hown8 hg8 hnew8 hu4.out); have hpp := hid (hsD.out.grownS hg8); have g3 := hpp.out.cells.2.2.2.1; have g3f := hpp.out.2 3)
                all_goals go_wp2_with fail
                all_goals go_meet
                all_goals exact ⟨_, _, hc8⟩
              case rest =>
                obtain ⟨ao9, cap9, hs9⟩ := hcut
                clear hs8 u0 u1 u2 u3 u4' u5' u6' u7' c3
                have c3 : wc.cell? ⟨P, 3, none⟩ = some (.slice ao9 (k + 1) cap9) := hs9.out.p.cells.2.2.2.1
                have HO := hid (fun (A : Int) (hA : A = (k : Int)) => hA ▸ orderR_any P k T w0 wc (addSR Mx (.slice ao9 (k + 1) cap9) mx) Mx.ss mx rs hs9 rfl HKX ⟨hix.out.ns, hix.out.fl⟩)
                rw [order_add] at HO
                have hM9 : Hid ((addSR Mx (.slice ao9 (k + 1) cap9) mx).ss = M.ss ++ [mx]) := by show Mx.ss ++ [mx] = _; rw [hex.out.2.1]
                have hab9 : Hid (absR (addSR Mx (.slice ao9 (k + 1) cap9) mx) mx.fl = { absR Mx mx.fl with names := (absR Mx mx.fl).names ++ [nats b] }) := by
                  show _ = _; rw [abs_addSR, hex.out.1]
                have hk9 : Hid ((addSR Mx (.slice ao9 (k + 1) cap9) mx).ss[k]? = some mx) := by show _ = _; rw [hM9.out, HK.out]; simp
                have hu9 : Hid (M.us.length ≤ (addSR Mx (.slice ao9 (k + 1) cap9) mx).us.length) := hex.out.2.2.2
                have ht9 : Hid (∀ m', nats (tokM (setSR (addSR Mx (.slice ao9 (k + 1) cap9) mx) k m')) = [125]) := fun m' => HTE.out
                generalize addSR Mx (.slice ao9 (k + 1) cap9) mx = M9 at *
                cases hor : orderR (absR Mx mx.fl) with
                | error x =>
                  rw [hor] at HO
                  have hp := hid (hcon3.out.trans (sconR2_bad (nm := nats b) hbody.out hor))
                  clear hor
                  go_wp2_with (go_at_call 125; go_must (refine (HO.out _ (by omega)).mono ?_; rintro e w10 ⟨rfl, hf10⟩))
                  go_ret
                  rw [hp.out]
                  exact ⟨rfl, hf10⟩
                | ok u =>
                  rw [hor] at HO
                  have hp := hid (hcon3.out.trans (sconR2_go (nm := nats b) hbody.out hor))
                  clear hor
                  go_wp2_with (first | (go_at_call 125; go_must (refine (HO.out _ (by omega)).mono ?_; rintro e w10 ⟨rfl, m', hs10, hb10, hfl10⟩)) | (go_at_call 119; go_must (refine (HE2.out _ _ hs10 (ht9.out m')).mono ?_; rintro e w11 ⟨rfl, hs11, q11, ho11⟩)))
                  go_ret
                  rw [hp.out, ← hab9.out, ← abs_setSR (m' := m') hk9.out hb10, abs_exp_yes hs10 (ht9.out m') mx.fl]
                  exact ⟨rfl, _, _, hs11, rfl, RAll.set hA.out hM9.out HK.out hu9.out hfl10⟩
            · have hq : ((tokM Mx).toList == [125]) = false := by rw [hlx.out]; simp only [beq_eq_false_iff_ne]; exact hE
              by_cases hU : nats (tokM Mx) = UNION
              · have hq2 : ((tokM Mx).toList == [117, 110, 105, 111, 110]) = true := by rw [hlu.out, hU]; rfl
                have hst : Hid (bodyR T (T.length + 1) (absR M5 []) = rbnd (unionR T) (fun _ => bodyR T g) (absR Mx mx.fl)) := by
                  show _ = _
                  rw [← hux.out]; exact bodyR_uni (by rw [habx.out]; exact hE) (by rw [habx.out]; exact hU)
                have HUN := hid (fun wx (hx : Hid (RStd P T w0 wx Mx (qB B mx :: qF mx :: rs))) => unionR_any P B T w0 wx Mx mx rs hx hix)
                have htne : Hid (tokR T (absR Mx mx.fl) ≠ []) := by show _ ≠ _; rw [habx.out, hU]; decide
                clear hE hU hux
                cases hfl : unionR T (absR Mx mx.fl) with
                | error x =>
                  rw [hfl] at HUN
                  have hp : Hid (strctR T (absR M fs) = .error x) := by
                    show _ = _
                    rw [hcon3.out]; exact sconR2_no (by rw [hst.out]; exact rbnd_error hfl)
                  clear hfl
                  go_wp2_with (first | (go_at_call 74; refine HTK.out.mono ?_; rintro e w8 ⟨rfl, q8, hw8⟩; have hs8 : Hid (RStd P T w0 w8 Mx (qB B mx :: qF mx :: rs)) := (by rw [hw8]; exact hsx.out.drew q8); clear hw8 HTK) | (go_at_call 74; go_must (refine (HTK2.out _ hs8.out).mono ?_; rintro e w9 ⟨rfl, q9, hw9⟩; have hs9 : Hid (RStd P T w0 w9 Mx (qB B mx :: qF mx :: rs)) := (by rw [hw9]; exact hs8.out.drew q9); clear hw9)) | (go_at_call 123; go_must (refine (HUN.out _ hs9).mono ?_; rintro e w10 ⟨rfl, hf10⟩)))
                  go_ret
                  rw [hp.out]
                  exact ⟨rfl, hf10⟩
                | ok r =>
                  obtain ⟨u, s10⟩ := r
                  rw [hfl] at HUN
                  have hst2 : Hid (bodyR T (T.length + 1) (absR M5 []) = bodyR T g s10) := hst.out.trans (rbnd_ok hfl)
                  have hfar := hid (union_far htne.out hfl)
                  clear hfl hst
                  go_wp2_with (first | (go_at_call 74; refine HTK.out.mono ?_; rintro e w8 ⟨rfl, q8, hw8⟩; have hs8 : Hid (RStd P T w0 w8 Mx (qB B mx :: qF mx :: rs)) := (by rw [hw8]; exact hsx.out.drew q8); clear hw8 HTK) | (go_at_call 74; go_must (refine (HTK2.out _ hs8.out).mono ?_; rintro e w9 ⟨rfl, q9, hw9⟩; have hs9 : Hid (RStd P T w0 w9 Mx (qB B mx :: qF mx :: rs)) := (by rw [hw9]; exact hs8.out.drew q9); clear hw9)) | (go_at_call 123; go_must (refine (HUN.out _ hs9).mono ?_; rintro e w10 ⟨rfl, My, my, hsy, haby, hiy, hby, hssy, hsvy, husy⟩)))
                  have hay : Mx.p.at_ + 1 ≤ My.p.at_ := by
                    have h1 := hfar.out
                    rw [← haby] at h1; exact h1
                  go_roundg g
                  case measure => omega
                  case rel => exact ⟨My, my, hsy, hiy, ⟨hby.trans hex.out.1, hssy.trans hex.out.2.1, hsvy.trans hex.out.2.2.1, Nat.le_trans hex.out.2.2.2 husy⟩, by rw [haby, hst2.out]; rfl, by omega⟩
              · have hq2 : ((tokM Mx).toList == [117, 110, 105, 111, 110]) = false := by rw [hlu.out]; simp only [beq_eq_false_iff_ne]; exact hU
                have hst : Hid (bodyR T (T.length + 1) (absR M5 []) = rbnd (fieldR T false) (fun _ => bodyR T g) (absR Mx mx.fl)) := by
                  show _ = _
                  rw [← hux.out]; exact bodyR_fld (by rw [habx.out]; exact hE) (by rw [habx.out]; exact hU)
                have HFI := hid (fun wx (hx : Hid (RStd P T w0 wx Mx (qB B mx :: qF mx :: rs))) => fieldR_any P B T w0 wx Mx mx rs false hx hix.out.ns)
                clear hE hU hux
                cases hfl : fieldR T false (absR Mx mx.fl) with
                | error x =>
                  rw [hfl] at HFI
                  have hp : Hid (strctR T (absR M fs) = .error x) := by
                    show _ = _
                    rw [hcon3.out]; exact sconR2_no (by rw [hst.out]; exact rbnd_error hfl)
                  clear hfl
                  go_wp2_with (first | (go_at_call 74; refine HTK.out.mono ?_; rintro e w8 ⟨rfl, q8, hw8⟩; have hs8 : Hid (RStd P T w0 w8 Mx (qB B mx :: qF mx :: rs)) := (by rw [hw8]; exact hsx.out.drew q8); clear hw8 HTK) | (go_at_call 74; go_must (refine (HTK2.out _ hs8.out).mono ?_; rintro e w9 ⟨rfl, q9, hw9⟩; have hs9 : Hid (RStd P T w0 w9 Mx (qB B mx :: qF mx :: rs)) := (by rw [hw9]; exact hs8.out.drew q9); clear hw9)) | (go_at_call 124; go_must (refine (HFI.out _ hs9).mono ?_; rintro e w10 ⟨rfl, hf10⟩)))
                  go_ret
                  rw [hp.out]
                  exact ⟨rfl, hf10⟩
                | ok r =>
                  obtain ⟨u, s10⟩ := r
                  rw [hfl] at HFI
                  have hst2 : Hid (bodyR T (T.length + 1) (absR M5 []) = bodyR T g s10) := hst.out.trans (rbnd_ok hfl)
                  clear hfl hst
                  go_wp2_with (first | (go_at_call 74; refine HTK.out.mono ?_; rintro e w8 ⟨rfl, q8, hw8⟩; have hs8 : Hid (RStd P T w0 w8 Mx (qB B mx :: qF mx :: rs)) := (by rw [hw8]; exact hsx.out.drew q8); clear hw8 HTK) | (go_at_call 74; go_must (refine (HTK2.out _ hs8.out).mono ?_; rintro e w9 ⟨rfl, q9, hw9⟩; have hs9 : Hid (RStd P T w0 w9 Mx (qB B mx :: qF mx :: rs)) := (by rw [hw9]; exact hs8.out.drew q9); clear hw9)) | (go_at_call 124; go_must (refine (HFI.out _ hs9).mono ?_; rintro e w10 ⟨rfl, My, my, fy, hsy, haby, hfy, hby, hgy, hssy, hsvy, hnsy, husy, haty⟩)))
                  go_roundg g
                  case measure => omega
                  case rel => exact ⟨My, my, hsy, hix.out.field hfy hgy hnsy husy, ⟨hby.trans hex.out.1, hssy.trans hex.out.2.1, hsvy.trans hex.out.2.2.1, Nat.le_trans hex.out.2.2.2 husy⟩, by rw [haby, hst2.out]; rfl, by omega⟩
        · have HE := hid (expectR_no hs5.out ⟨#[123]⟩ hB)
          have hcon2 := hid (hcon.out.trans (sconR_no (abs_exp_no hs5.out hB fs)))
          clear hB hcon
          go_wp2_with (go_at_call 119; go_must (refine HE.out.mono ?_; rintro e w6 ⟨rfl, hf6, q6, ho6⟩))
          go_ret
          rw [hcon2.out]
          exact ⟨rfl, hf6⟩
/-- strct, whatever stands there. -/
theorem strctR_any (P : Nat) (T : List Nat) (w0 w : World) (M : RM) (fs : List RF) (rs : List Row) (hS : RStd P T w0 w M rs) (hA : RAll M) :
    Calls Fadg.prog 75 #[.pointer (some ⟨P, 0, none⟩)] w (StrctRPost P T w0 rs (strctR T (absR M fs))) := by
  by_cases h : nats (tokM M) = STRUCT
  · cases hn : nameR T true (absR (nextM M) fs) with
    | error x => exact strctR_noname P T w0 w M fs rs x hS h hn
    | ok r =>
      obtain ⟨nm, s2⟩ := r
      by_cases h4 : 4 ≤ M.ss.length
      · exact strctR_full P T nm s2 w0 w M fs rs hS h hn h4
      · exact strctR_yes P T nm s2 w0 w M fs rs hS hA h hn h4
  · exact strctR_bad P T w0 w M fs rs hS h
end Go.Proofs.Ygcfad
