/-
  THE WALK of (*parser).bind.
-/
import Derived.Test.YgcfadStrct
namespace Go.Proofs.Ygcfad
open Go.RowKit Plain
set_option linter.unusedSimpArgs false
set_option linter.unusedVariables false

theorem Fadg.len192 : (Fadg.prog.info? 192).map (·.size) = some 4 := by kernel_rfl
theorem rS_setS {M : MM} {pre post : List MS} {m m' : MS} (hss : M.ss = pre ++ m :: post) (hc : sc m' = sc m) : rS (setS M pre.length m') = rS M := by
  unfold rS setS
  simp only [List.length_set]
  rw [hss]
  simp [hc]
/-- A field's Ref set. -/
theorem Std.refd {P : Nat} {T : List Nat} {w0 w : World} {M : MM} {m : MS} {pre post : List MS} (h : Std P T w0 w M) (hss : M.ss = pre ++ m :: post) {gf nf fcap fd : Nat} (hv : m.fv = .slice (some ⟨gf, 0, none⟩) nf fcap) (hn : nf = m.fl.length) {f : MF} (hf : m.fl[fd]? = some f) (x : Int) :
    Std P T w0 (w.setCell ⟨gf, fd * 9 + 3, none⟩ (.int .u8 x)) (setS M pre.length { m with fl := m.fl.set fd { f with r := x } }) := by
  have hmem : m ∈ M.ss := by rw [hss]; simp
  have hgb : (rF m).v.ownBlock = some gf := by show m.fv.ownBlock = _; rw [hv]; rfl
  have hgP := ((h.m.rf hmem).lt hgb).1
  have s1 := (h.m.sep.perm (rows_at hss)).store (g := gf) (cap := fcap) (by show m.fv = _; rw [hv, hn]; rfl) (fd * 9 + 3) (.int .u8 x)
  have e : ({ rF m with xs := (rF m).xs.set (fd * 9 + 3) (.int .u8 x) } : Row) = rF { m with fl := m.fl.set fd { f with r := x } } := by
    unfold rF; simp only [List.length_set]; rw [flat_set fc_len hf 3 (by decide) _ (x' := { f with r := x }) rfl]
  rw [e, ← rS_setS (m' := { m with fl := m.fl.set fd { f with r := x } }) hss rfl] at s1
  have s2 := s1.perm (rows_setS hss)
  have hP : (w.setCell ⟨gf, fd * 9 + 3, none⟩ (.int .u8 x)).heap[P]? = w.heap[P]? := Below.heap_setCell w ⟨gf, _, none⟩ _ P (by show P ≠ gf; omega)
  refine ⟨⟨h.m.p.same hP, by simp [World.setCell]; exact h.m.lt, s2⟩, ⟨h.wf.ae, h.wf.en, h.wf.sz, h.wf.tok, h.wf.us, by show (M.ss.set _ _).length ≤ _; rw [List.length_set]; exact h.wf.ss, h.wf.num⟩, h.tx, h.bel.setCell (by show P ≤ gf; omega) _⟩
theorem refd_names {M : MM} {m m' : MS} {pre post : List MS} (hss : M.ss = pre ++ m :: post) (hb : m'.b = m.b) : (setS M pre.length m').ss.map (fun m => nats m.b) = M.ss.map (fun m => nats m.b) := by
  show (M.ss.set pre.length m').map _ = _
  rw [hss]; simp [hb]
theorem refd_in {M : MM} {m m' : MS} {pre post : List MS} (hss : M.ss = pre ++ m :: post) (hl : m'.fl.length = m.fl.length) (h : InU M) : InU (setS M pre.length m') := by
  intro u hu
  obtain ⟨m0, h1, h2⟩ := h u hu
  show ∃ m, (M.ss.set pre.length m')[u.st]? = some m ∧ _
  rw [List.getElem?_set]
  by_cases e : pre.length = u.st
  · rw [if_pos e]
    have hlt : pre.length < M.ss.length := by rw [hss]; simp
    rw [if_pos (e ▸ hlt)]
    have : m0 = m := by rw [← e, hss] at h1; simp at h1; exact h1.symm
    exact ⟨m', rfl, by rw [hl, ← this]; exact h2⟩
  · rw [if_neg e]; exact ⟨m0, h1, h2⟩
theorem bindQ_step {names : List (List Nat)} {us : List MU} {j : Nat} {u : MU} (hu : us[j]? = some u) (q : Q) : bindQ names ((us.drop j).map uOf) q = bindQ names ((us.drop (j + 1)).map uOf) (if names.any (· == nats u.b) then q else failQ q u.a 4) := by
  have hl := (List.getElem?_eq_some_iff.1 hu).1
  have e : us[j] = u := by rw [List.getElem?_eq_getElem hl] at hu; simpa using hu
  rw [List.drop_eq_getElem_cons hl, e]; rfl
/-- What bind leaves. -/
def BindPost (P : Nat) (T : List Nat) (w0 : World) (q : Q) (e : Ending) (w' : World) : Prop :=
  e = .returned (.tuple #[]) ∧ ∃ M', Std P T w0 w' M' ∧ qOf M'.p = q

set_option maxRecDepth 100000 in
set_option maxHeartbeats 4000000 in
theorem bind_any (P : Nat) (T : List Nat) (w0 w : World) (M : MM) (hS : Hid (Std P T w0 w M)) (hU : Hid (M.p.code = 0 → InU M)) :
    Calls Fadg.prog 72 #[.pointer (some ⟨P, 0, none⟩)] w (BindPost P T w0 (bindQ (M.ss.map (fun m => nats m.b)) (M.us.map uOf) (qOf M.p))) := by
  have hwf := hid hS.out.wf
  obtain ⟨uao, ucap, huv, huform⟩ := hS.out.m.ru.form'
  obtain ⟨nu, hnu⟩ : ∃ nu, nu = M.us.length := ⟨_, rfl⟩
  have huv' : M.p.uv = .slice uao nu ucap := by rw [hnu]; exact huv
  have huform' : Hid (nu = 0 ∨ ∃ g, uao = some ⟨g, 0, none⟩) := by rw [hnu]; exact huform
  have hnu2 : nu ≤ 1024 := by rw [hnu]; exact Nat.le_trans hwf.out.us (Nat.le_trans hwf.out.ae (Nat.le_trans hwf.out.en hwf.out.sz))
  obtain ⟨sao, scap, hsv, hsform⟩ := hS.out.m.rs.form'
  obtain ⟨ns, hns⟩ : ∃ ns, ns = M.ss.length := ⟨_, rfl⟩
  have hsv' : M.p.sv = .slice sao ns scap := by rw [hns]; exact hsv
  have hsform' : Hid (ns = 0 ∨ ∃ g, sao = some ⟨g, 0, none⟩) := by rw [hns]; exact hsform
  have hns2 : ns ≤ 1024 := by rw [hns]; exact Nat.le_trans hwf.out.ss (Nat.le_trans hwf.out.ae (Nat.le_trans hwf.out.en hwf.out.sz))
  have HNU := hid hnu
  have HUV := hid huv'
  have HNS := hid hns
  have HSV := hid hsv'
  have c23 := hS.out.m.p.cells.2.2.2.2.2.2.2
  rw [huv'] at c23
  obtain ⟨nms, hnms⟩ : ∃ nms, nms = M.ss.map (fun m => nats m.b) := ⟨_, rfl⟩
  rw [← hnms]
  have HNM := hid hnms
  have hnl : Hid (nms.length = ns) := by show _ = _; rw [hnms, List.length_map, ← hns]
  clear huv huform hnu huv' hsv hsform hns hsv' hnms
  go_enter Fadg.func72, Fadg.ntmps72
  go_upto_if 12 with fail
  go_loopg [11] nu (fun gk j wr => ∃ (j' : Nat) (Mx : MM), j = .int .i64 (j' : Int) ∧ j' + gk = nu ∧ Hid (Std P T w0 wr Mx) ∧ Hid (Mx.us = M.us ∧ Mx.p.sv = M.p.sv ∧ Mx.p.uv = M.p.uv ∧ Mx.ss.map (fun m => nats m.b) = nms) ∧ Hid (Mx.p.code = 0 → InU Mx) ∧ Hid (bindQ nms ((M.us.drop j').map uOf) (qOf Mx.p) = bindQ nms (M.us.map uOf) (qOf M.p)))
  case atStart => exact ⟨0, M, rfl, by omega, hS, ⟨rfl, rfl, rfl, HNM.out.symm⟩, hU, rfl⟩
  case round =>
    obtain ⟨j, Mx, rfl, hj, hsx, hex, hux, hbx⟩ := hrel
    have hnx : Hid (ns = Mx.ss.length) := by show ns = _; have := congrArg List.length hex.out.2.2.2; rw [List.length_map] at this; rw [this]; exact hnl.out.symm
    obtain ⟨go, hgo⟩ : ∃ go, go = gk := ⟨_, rfl⟩
    by_cases hlt : j < nu
    · have hlt' : (j : Int) < (nu : Int) := by omega
      obtain ⟨gu, huao⟩ : ∃ gu, uao = some ⟨gu, 0, none⟩ := huform'.out.resolve_left (by omega)
      subst huao
      obtain ⟨u, hu⟩ : ∃ u, M.us[j]? = some u := ⟨_, List.getElem?_eq_getElem (by rw [← HNU.out]; exact hlt)⟩
      have hux2 : Hid (Mx.us[j]? = some u) := by show _ = _; rw [hex.out.1]; exact hu
      have hucell := hid (fun (t : Nat) (ht : t < 4) => hsx.out.m.uCells (u := u) (hex.out.2.2.1.trans HUV.out) (HNU.out.trans (by rw [hex.out.1])) hux2.out t ht)
      have hbs := hid (bindQ_step (names := nms) hu (qOf Mx.p))
      have hum : Hid (u ∈ Mx.us) := List.mem_of_getElem? hux2.out
      clear hu
      obtain ⟨ua, ust, ufd, ub⟩ := u
      have HC4 : Hid (∀ t v, [Value.int .i64 (ua : Int), .int .i64 (ust : Int), .int .i64 (ufd : Int), .string ub][t]? = some v → wr.cell? ((⟨gu, j * 4, none⟩ : Addr).add t) = some v) := by
        intro t v ht
        have ht4 : t < 4 := by have := (List.getElem?_eq_some_iff.1 ht).1; simpa using this
        rw [Addr.add_lit]
        exact (hucell.out t ht4).trans ht
      have hsa := hid (hsx.out.grow ((Below.refl _ _).alloc (Nat.le_refl _) (.cells #[.int .i64 (ua : Int), .int .i64 (ust : Int), .int .i64 (ufd : Int), .string ub] 192)))
      have c6 := hsa.out.m.p.cells.2.2.2.2.2.2.1
      rw [hex.out.2.1, HSV.out] at c6
      go_upto_if 22 with (refine wpList_load_cells' rfl 192 (.tmp 13) rfl ⟨gu, j * 4, none⟩ rfl _ _ HC4.out Fadg.underlying192 rfl Fadg.len192 ?_)
      have hvc : Hid (∀ t, t < 4 → (wr.alloc (.cells #[.int .i64 (ua : Int), .int .i64 (ust : Int), .int .i64 (ufd : Int), .string ub] 192)).cell? ⟨wr.heap.size, t, none⟩ = [Value.int .i64 (ua : Int), .int .i64 (ust : Int), .int .i64 (ufd : Int), .string ub][t]?) := by
        intro t ht
        match t, ht with
        | 0, _ => simp
        | 1, _ => simp
        | 2, _ => simp
        | 3, _ => simp
      clear c6
      go_loopg [21, 4] ns (fun gk i fd wr2 => ∃ (i' : Nat) (fnd : Int), i = .int .i64 (i' : Int) ∧ fd = .int .i64 fnd ∧ i' + gk = ns ∧ ((fnd = -1 ∧ (nms.take i').any (· == nats ub) = false) ∨ (∃ x : Nat, fnd = (x : Int) ∧ x ≤ 1024 ∧ (nms.take i').any (· == nats ub) = true)) ∧ Hid (Std P T w0 wr2 Mx) ∧ Hid (∀ t, t < 4 → wr2.cell? ⟨wr.heap.size, t, none⟩ = [Value.int .i64 (ua : Int), .int .i64 (ust : Int), .int .i64 (ufd : Int), .string ub][t]?))
      case atStart => exact ⟨0, -1, rfl, rfl, by omega, .inl ⟨rfl, by simp⟩, hsa, hvc⟩
      case round =>
        obtain ⟨i, fnd, rfl, rfl, hi, hfnd, hsb, hvb⟩ := hrel
        generalize wr.heap.size = V at *
        have d6 := hsb.out.m.p.cells.2.2.2.2.2.2.1
        rw [hex.out.2.1, HSV.out] at d6
        have v3 := hvb.out 3 (by decide)
        simp only [List.getElem?_cons_zero, List.getElem?_cons_succ] at v3
        by_cases hin : i < ns
        · have hin' : (i : Int) < (ns : Int) := by omega
          obtain ⟨g, hao⟩ : ∃ g, sao = some ⟨g, 0, none⟩ := hsform'.out.resolve_left (by omega)
          subst hao
          have hil : i < Mx.ss.length := by rw [← hnx.out]; exact hin
          obtain ⟨m, hm⟩ : ∃ m, Mx.ss[i]? = some m := ⟨_, List.getElem?_eq_getElem hil⟩
          have cN := (hsb.out.m.sCells (hex.out.2.1.trans HSV.out) hnx.out hm).1
          have htk : Hid ((nms.take (i + 1)).any (· == nats ub) = ((nms.take i).any (· == nats ub) || (nats m.b == nats ub))) := by
            show _ = _
            have hil2 : i < nms.length := by rw [hnl.out]; exact hin
            have e : nms[i] = nats m.b := by
              have h1 : nms[i]? = some (nats m.b) := by rw [← hex.out.2.2.2, List.getElem?_map, hm]; rfl
              rw [List.getElem?_eq_getElem hil2] at h1; simpa using h1
            rw [List.take_succ_eq_append_getElem hil2, List.any_append, e]; simp
          clear hm
          rcases hfnd with ⟨rfl, hany⟩ | ⟨x, rfl, hx, hany⟩
          · have HANY := hid hany
            clear hany
            have hq := str_beq m.b ub
            go_upto_region 7 with fail
            cases hqq : (nats m.b == nats ub) with
            | true =>
              rw [hqq] at hq
              have HQQ := hid hqq
              clear hqq
              go_quiet (fail)
              go_wp2_with fail
              go_roundg (gk - 1)
              case measure => omega
              case rel => exact ⟨i + 1, (i : Int), by go_num, rfl, by omega, .inr ⟨i, rfl, by omega, by rw [htk.out, HANY.out, HQQ.out]; rfl⟩, hid (hsb.out.drew _), hid hvb.out⟩
            | false =>
              rw [hqq] at hq
              have HQQ := hid hqq
              clear hqq
              go_quiet (fail)
              go_wp2_with fail
              go_roundg (gk - 1)
              case measure => omega
              case rel => exact ⟨i + 1, -1, by go_num, rfl, by omega, .inl ⟨rfl, by rw [htk.out, HANY.out, HQQ.out]; rfl⟩, hid (hsb.out.drew _), hid hvb.out⟩
          · have HANY := hid hany
            clear hany
            have hx0 : ¬ (x : Int) < 0 := by omega
            go_upto_region 7 with fail
            go_quiet (fail)
            go_wp2_with fail
            go_roundg (gk - 1)
            case measure => omega
            case rel => exact ⟨i + 1, (x : Int), by go_num, rfl, by omega, .inr ⟨x, rfl, hx, by rw [htk.out, HANY.out]; rfl⟩, hid (hsb.out.drew _), hid hvb.out⟩
        · have hin' : ¬ (i : Int) < (ns : Int) := by omega
          have hfull : Hid (nms.take i = nms) := List.take_of_length_le (by rw [hnl.out]; omega)
          rw [hfull.out] at hfnd
          rcases hfnd with ⟨rfl, hany⟩ | ⟨x, rfl, hx, hany⟩
          · have v0 := hvb.out 0 (by decide)
            simp only [List.getElem?_cons_zero] at v0
            have HFA := hid (fail_std hsb.out ua 4 (ua : Int) 4 rfl rfl)
            go_wp2_with (go_at_call 111; go_must (refine HFA.out.mono ?_; rintro e w4 ⟨rfl, hs4, ho4⟩))
            go_roundg (go - 1)
            case measure => omega
            case rel =>
              refine ⟨j + 1, _, by go_num, by omega, hs4, ⟨hex.out.1, (failP_sv _ _ _).1.trans hex.out.2.1, (failP_sv _ _ _).2.1.trans hex.out.2.2.1, hex.out.2.2.2⟩, hid (fun h => absurd h (failP_code _ _ _ (by decide))), ?_⟩
              show _ = _
              rw [← hbx.out, hbs.out, qOf_fail, if_neg (by rw [hany]; decide)]
          · have hx0 : ¬ (x : Int) < 0 := by omega
            have hb2 : Hid (bindQ nms ((M.us.drop (j + 1)).map uOf) (qOf Mx.p) = bindQ nms (M.us.map uOf) (qOf M.p)) := by
              show _ = _
              rw [← hbx.out, hbs.out, if_pos hany]
            clear hany
            have d4 := hsb.out.m.p.cells.2.2.2.2.1
            by_cases hc : Mx.p.code = 0
            · have hc' : ((Mx.p.code : Int) == 0) = true := by simp [hc]
              have hIn := hid (hux.out hc)
              clear hc
              obtain ⟨m, hm, hfd⟩ := hIn.out _ hum.out
              simp only at hm hfd
              have hul : ust < Mx.ss.length := (List.getElem?_eq_some_iff.1 hm).1
              have hst' : (ust : Int) < (ns : Int) := by rw [hnx.out]; omega
              have hns0 : 0 < ns := by rw [hnx.out]; omega
              obtain ⟨g, hao⟩ : ∃ g, sao = some ⟨g, 0, none⟩ := hsform'.out.resolve_left (by omega)
              subst hao
              have cF := (hsb.out.m.sCells (hex.out.2.1.trans HSV.out) hnx.out hm).2.1
              have hmm : m ∈ Mx.ss := List.mem_of_getElem? hm
              obtain ⟨fao, fcap, hfv, hform⟩ := hsb.out.m.fForm hmm
              obtain ⟨gf, hfao⟩ : ∃ gf, fao = some ⟨gf, 0, none⟩ := hform.resolve_left (by omega)
              subst hfao
              obtain ⟨nf, hnf⟩ : ∃ nf, nf = m.fl.length := ⟨_, rfl⟩
              rw [← hnf] at hfv hfd
              have hfd' : (ufd : Int) < (nf : Int) := by omega
              obtain ⟨f, hf⟩ : ∃ f, m.fl[ufd]? = some f := ⟨_, List.getElem?_eq_getElem (by rw [← hnf]; exact hfd)⟩
              have c3 := hsb.out.m.fCells (m := m) hmm hfv hnf hf 3 (by decide)
              simp only [fc, List.getElem?_cons_zero, List.getElem?_cons_succ] at c3
              have z3 := (hsb.out.m.rf hmm).fr (g := gf) (cap := fcap) (by show m.fv = _; rw [hfv, hnf]; rfl) (ufd * 9 + 3)
              rw [hfv] at cF
              obtain ⟨pre, post, hpp, hpl⟩ : ∃ pre post, Mx.ss = pre ++ m :: post ∧ pre.length = ust := by
                refine ⟨Mx.ss.take ust, Mx.ss.drop (ust + 1), ?_, by simp; omega⟩
                have e : Mx.ss[ust] = m := by rw [List.getElem?_eq_getElem hul] at hm; simpa using hm
                rw [← e, ← List.drop_eq_getElem_cons hul, List.take_append_drop]
              have HR := hid (fun x => stdDrew (hsb.out.refd hpp hfv hnf hf x))
              have HRN := hid (fun (m' : MS) (hb : m'.b = m.b) => refd_names (m' := m') hpp hb)
              have HRI := hid (fun (m' : MS) (hl : m'.fl.length = m.fl.length) => refd_in (m' := m') hpp hl hIn.out)
              clear hm hmm hform hnf hf hpp hul hfv
              have v1 := hvb.out 1 (by decide)
              have v2 := hvb.out 2 (by decide)
              simp only [List.getElem?_cons_zero, List.getElem?_cons_succ] at v1 v2
              go_upto_region 13 with fail
              go_region
              go_wp2_with fail
              go_roundg (go - 1)
              case measure => omega
              case rel =>
                refine ⟨j + 1, _, by go_num, by omega, hid (HR.out _), ⟨hex.out.1, hex.out.2.1, hex.out.2.2.1, ?_⟩, ?_, hb2⟩
                · refine Eq.trans (HRN.out _ ?_) hex.out.2.2.2; rfl
                · exact hid (fun _ => HRI.out _ (by simp))
            · have hc' : ((Mx.p.code : Int) == 0) = false := by simp; omega
              have HC := hid hc
              clear hc
              go_wp2_with fail
              go_roundg (go - 1)
              case measure => omega
              case rel => exact ⟨j + 1, Mx, by go_num, by omega, hsb, hex, hux, hb2⟩
    · have hlt' : ¬ (j : Int) < (nu : Int) := by omega
      obtain rfl : j = nu := by omega
      go_wp2
      refine bodyPost_ret (results_none rfl _ _ _) rfl ?_
      refine ⟨rfl, Mx, hsx.out, ?_⟩
      rw [← hbx.out, List.drop_eq_nil_of_le (by rw [← HNU.out]; exact Nat.le_refl _)]; rfl
end Go.Proofs.Ygcfad
