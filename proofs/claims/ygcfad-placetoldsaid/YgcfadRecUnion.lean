/-
  THE WALK of package rec's union.
-/
import Derived.Test.YgcfadRecField
namespace Go.Proofs.Ygcfad
open Go.RowKit Plain
set_option linter.unusedSimpArgs false
set_option linter.unusedVariables false

/-- The struct in hand: as many numbers as fields; the fields have names, known kinds, and Refs among the uses. -/
structure RIn (M : RM) (m : SR) : Prop where
  ns : M.ns.length = m.fl.length
  fl : ∀ f ∈ m.fl, 0 < f.b.size ∧ f.k ≤ 14 ∧ RefF M.us.length f
/-- What union leaves. -/
def UnionRPost (P : Nat) (T : List Nat) (w0 : World) (M : RM) (B : Nat) (m : SR) (rs : List Row) (r : RR Unit) (e : Ending) (w' : World) : Prop :=
  match r with
  | .error x => e = .returned (.bool false) ∧ RFail P w0 x w'
  | .ok (_, s') => e = .returned (.bool true) ∧ ∃ (M' : RM) (m' : SR), RStd P T w0 w' M' (qB B m' :: qF m' :: rs) ∧ absR M' m'.fl = s' ∧ RIn M' m' ∧ m'.b = m.b ∧ M'.ss = M.ss ∧ M'.p.sv = M.p.sv ∧ M.us.length ≤ M'.us.length
theorem RIn.field {M M' : RM} {m m' : SR} {f : RF} (h : RIn M m) (h1 : m'.fl = m.fl ++ [f]) (h2 : 0 < f.b.size ∧ f.k ≤ 14 ∧ RefF M'.us.length f) (h3 : M'.ns.length = M.ns.length + 1) (h4 : M.us.length ≤ M'.us.length) : RIn M' m' := by
  refine ⟨by rw [h3, h1, h.ns]; simp, fun g hg => ?_⟩
  rw [h1] at hg
  rcases List.mem_append.1 hg with hg | hg
  · have := h.fl g hg; exact ⟨this.1, this.2.1, this.2.2.mono h4⟩
  · rw [List.mem_singleton.1 hg]; exact h2
def uconR (T : List Nat) (a : Nat) (s1 : RSt) : RR Unit :=
  if (decide (tokR T s1 = [125]) || s1.fs.any (fun f => f.u)) = true then .error (a, 8)
  else rbnd (ufieldsR T (T.length + 1)) (fun _ s2 => .ok ((), nextS T s2)) s1
theorem unionR_no {T : List Nat} {s : RSt} {x : Nat × Nat} (h : expR T [123] (nextS T s) = .error x) : unionR T s = .error x := rbnd_error h
theorem unionR_go {T : List Nat} {s s1 : RSt} (h : expR T [123] (nextS T s) = .ok ((), s1)) : unionR T s = uconR T s.a s1 := rbnd_ok h
theorem any_gfu (l : List RF) : (l.map gf).any (fun f => f.u) = l.any (fun f => f.u) := by rw [List.any_map]; rfl

set_option maxRecDepth 100000 in
set_option maxHeartbeats 8000000 in
theorem unionR_any (P B : Nat) (T : List Nat) (w0 w : World) (M : RM) (m : SR) (rs : List Row) (hS : Hid (RStd P T w0 w M (qB B m :: qF m :: rs))) (hin : Hid (RIn M m)) :
    Calls Fadg.prog 123 #[.pointer (some ⟨P, 0, none⟩), .pointer (some ⟨B, 0, none⟩)] w (UnionRPost P T w0 M B m rs (unionR T (absR M m.fl))) := by
  have c1 := hS.out.p.cells.2.1
  obtain ⟨a0, ha0⟩ : ∃ a0, a0 = M.p.at_ := ⟨_, rfl⟩
  rw [← ha0] at c1
  have HA0 : Hid ((absR M m.fl).a = a0) := ha0.symm
  clear ha0
  have HN := hid (rnext_std hS.out)
  have habn := hid (abs_next hS.out m.fl)
  by_cases hA : nats (tokM (nextM M)) = [123]
  · have HE := hid (fun wx (hx : RStd P T w0 wx (nextM M) (qB B m :: qF m :: rs)) => expectR_yes hx ⟨#[123]⟩ hA)
    have hpA := hid (fun wx (hx : RStd P T w0 wx (nextM M) (qB B m :: qF m :: rs)) => abs_exp_yes hx hA m.fl)
    clear hA
    obtain ⟨ao, fcap, hfv, hform⟩ := RStd.fForm hS.out.less.headR
    obtain ⟨nf, hnf⟩ : ∃ nf, nf = m.fl.length := ⟨_, rfl⟩
    rw [← hnf] at hfv hform
    have hnf2 : nf ≤ 16 := by rw [hnf, ← hin.out.ns]; exact hS.out.wf.ns
    have HNF := hid hnf
    have HFV := hid hfv
    have hform := hid hform
    have hread : Hid (∀ wx Mx, RStd P T w0 wx Mx (qB B m :: qF m :: rs) → wx.cell? ⟨B, 1, none⟩ = some (.slice ao nf fcap)) := fun wx Mx hx => by
      rw [qB_at hx.headR 1 (by decide), ← HFV.out]; rfl
    clear hnf hfv
    go_enter Fadg.func123, Fadg.ntmps123
    go_upto_region 5 with (first | (go_at_call 73; go_must (refine HN.out.mono ?_; rintro e w1 ⟨rfl, hs1, ho1⟩)) | (go_at_call 119; go_must (refine (HE.out _ hs1).mono ?_; rintro e w2 ⟨rfl, hs2, q2, ho2⟩)))
    have hs2 := hid hs2
    have hgo : Hid (unionR T (absR M m.fl) = uconR T a0 (absR (nextM (nextM M)) m.fl)) := by
      show _ = _
      rw [unionR_go (by rw [← habn.out]; exact hpA.out _ hs1), HA0.out]
    obtain ⟨M2, hM2⟩ : ∃ M2, M2 = nextM (nextM M) := ⟨_, rfl⟩
    rw [← hM2] at hs2 hgo
    have hsame : Hid (SameR M M2) := by rw [hM2]; exact (SameR.refl M).next.next
    have hin2 : Hid (RIn M2 m) := by rw [hM2]; exact ⟨hin.out.ns, hin.out.fl⟩
    clear hM2 HE HN hpA habn
    have HTK := hid (tok_std hs2.out)
    have habt := hid (abs_tok hs2.out m.fl)
    obtain ⟨eqb, heqb⟩ : ∃ eqb, eqb = decide (nats (tokM M2) = [125]) := ⟨_, rfl⟩
    have hlit : ((tokM M2).toList == [125]) = eqb := by rw [str_lit, heqb, Bool.eq_iff_iff]; simp
    have HEQ := hid heqb
    clear heqb
    go_upto_if 27 with (go_at_call 74; go_must (refine HTK.out.mono ?_; rintro e w3 ⟨rfl, q3, hw3⟩; have hs3 : Hid (RStd P T w0 w3 M2 (qB B m :: qF m :: rs)) := (by rw [hw3]; exact hs2.out.drew q3); have cF := hread.out _ _ hs3.out; clear hw3))
    clear HTK hs2
    go_loopg [26, 6] nf (fun gk j v6 wr => ∃ j' : Nat, j = .int .i64 (j' : Int) ∧ j' + gk = nf ∧ v6 = .bool (eqb || (m.fl.take j').any (fun f => f.u)) ∧ Hid (RStd P T w0 wr M2 (qB B m :: qF m :: rs)))
    case atStart => exact ⟨0, rfl, by omega, by simp, hs3⟩
    case round =>
      obtain ⟨j, rfl, hj, rfl, hs4⟩ := hrel
      clear cF
      by_cases hlt : j < nf
      · have hlt' : (j : Int) < (nf : Int) := by omega
        obtain ⟨g, hao⟩ : ∃ g, ao = some ⟨g, 0, none⟩ := hform.out.resolve_left (by omega)
        subst hao
        have hjl : j < m.fl.length := by rw [← HNF.out]; exact hlt
        obtain ⟨f, hf⟩ : ∃ f, m.fl[j]? = some f := ⟨_, List.getElem?_eq_getElem hjl⟩
        have HC := hid (qF_load hs4.out.less.headR HFV.out HNF.out hf)
        have htk : Hid ((m.fl.take (j + 1)).any (fun f => f.u) = ((m.fl.take j).any (fun f => f.u) || f.u)) := by
          show _ = _
          have e : m.fl[j] = f := by rw [List.getElem?_eq_getElem hjl] at hf; simpa using hf
          rw [List.take_succ_eq_append_getElem hjl, List.any_append, e]; simp
        clear hf
        have hs5 := hid (hs4.out.alloc (.cells #[.string f.b, .int .u8 (f.k : Int), .int .u8 (f.e : Int), .int .u8 (f.r : Int), .int .u8 f.ns, .int .u8 f.q1, .int .u16 f.q2, .int .u8 f.q3, .bool f.q4, .int .u64 f.d, .bool f.u] 212))
        obtain ⟨dd, hdd⟩ : ∃ dd, dd = (eqb || (m.fl.take j).any (fun f => f.u)) := ⟨_, rfl⟩
        rw [← hdd]
        have hor : Hid ((eqb || (m.fl.take (j + 1)).any (fun f => f.u)) = (dd || f.u)) := by
          show _ = _; rw [htk.out, hdd, Bool.or_assoc]
        clear hdd
        cases dd with
        | true =>
          go_wp2_with (refine wpList_load_cells' rfl 212 (.tmp 28) rfl ⟨g, j * 11, none⟩ rfl _ _ HC.out Fadg.underlying212 rfl Fadg.len212 ?_)
          go_roundg (gk - 1)
          case measure => omega
          case rel => exact ⟨j + 1, by go_num, by omega, by rw [hor.out]; rfl, hs5⟩
        | false =>
          go_wp2_with (refine wpList_load_cells' rfl 212 (.tmp 28) rfl ⟨g, j * 11, none⟩ rfl _ _ HC.out Fadg.underlying212 rfl Fadg.len212 ?_)
          go_roundg (gk - 1)
          case measure => omega
          case rel => exact ⟨j + 1, by go_num, by omega, by rw [hor.out]; rfl, hs5⟩
      · have hlt' : ¬ (j : Int) < (nf : Int) := by omega
        have hall : (m.fl.take j).any (fun f => f.u) = m.fl.any (fun f => f.u) := by rw [List.take_of_length_le (by rw [← HNF.out]; omega)]
        rw [hall]
        obtain ⟨dd, hdd⟩ : ∃ dd, dd = (eqb || m.fl.any (fun f => f.u)) := ⟨_, rfl⟩
        rw [← hdd]
        have hcon : Hid (unionR T (absR M m.fl) = if dd = true then .error (a0, 8) else rbnd (ufieldsR T (T.length + 1)) (fun _ s2 => .ok ((), nextS T s2)) (absR M2 m.fl)) := by
          show _ = _
          rw [hgo.out, uconR, habt.out, show (absR M2 m.fl).fs = m.fl.map gf from rfl, any_gfu, hdd, HEQ.out]
        clear hdd hall hgo
        cases dd with
        | true =>
          have HF := hid (failAt_std hs4.out a0 8 (a0 : Int) 8 rfl rfl)
          go_wp2_with (go_at_call 121; go_must (refine HF.out.mono ?_; rintro e w5 ⟨rfl, hf5, ho5⟩))
          go_ret
          rw [hcon.out]
          exact ⟨rfl, hf5⟩
        | false =>
          have hcon2 : Hid (unionR T (absR M m.fl) = rbnd (ufieldsR T (T.length + 1)) (fun _ s2 => .ok ((), nextS T s2)) (absR M2 m.fl)) := hcon.out
          clear hcon hs3
          go_wp2_with fail
          go_loopg [] (T.length + 1) (fun gk wr => ∃ (Mx : RM) (mx : SR), Hid (RStd P T w0 wr Mx (qB B mx :: qF mx :: rs)) ∧ Hid (RIn Mx mx) ∧ Hid (mx.b = m.b ∧ Mx.ss = M.ss ∧ Mx.p.sv = M.p.sv ∧ M.us.length ≤ Mx.us.length) ∧ Hid (ufieldsR T gk (absR Mx mx.fl) = ufieldsR T (T.length + 1) (absR M2 m.fl)) ∧ T.length < Mx.p.at_ + gk)
          case atStart => exact ⟨M2, m, hs4, hin2, ⟨rfl, hsame.out.ss, hsame.out.sv, hsame.out.us⟩, rfl, by omega⟩
          case round =>
            obtain ⟨Mx, mx, hsx, hix, hex, hux, hgk⟩ := hrel
            have hlen := hsx.out.len
            have hax : Mx.p.at_ ≤ T.length := by have := hsx.out.wf.ae; have := hsx.out.wf.en; omega
            obtain ⟨g, rfl⟩ : ∃ g, gk = g + 1 := ⟨gk - 1, by omega⟩
            have HTK := hid (tok_std hsx.out)
            have habx := hid (abs_tok hsx.out mx.fl)
            have hlx := hid (str_lit (tokM Mx) [125])
            by_cases hE : nats (tokM Mx) = [125]
            · have hq : ((tokM Mx).toList == [125]) = true := by rw [hlx.out, hE]; rfl
              have hfin : Hid (unionR T (absR M m.fl) = .ok ((), absR (nextM Mx) mx.fl)) := by
                show _ = _
                rw [hcon2.out, rbnd_ok (a := ()) (s1 := absR Mx mx.fl) (by rw [← hux.out, ufieldsR, if_pos (by rw [habx.out]; exact hE)]), abs_next hsx.out]
              have HN := hid (fun q => rnext_std (hsx.out.drew q))
              clear hE
              go_wp2_with (first | (go_at_call 74; go_must (refine HTK.out.mono ?_; rintro e w6 ⟨rfl, q6, hw6⟩; subst hw6)) | (go_at_call 73; go_must (refine (HN.out _).mono ?_; rintro e w7 ⟨rfl, hs7, ho7⟩)))
              go_ret
              rw [hfin.out]
              exact ⟨rfl, nextM Mx, mx, hs7, rfl, ⟨hix.out.ns, hix.out.fl⟩, hex.out.1, hex.out.2.1, hex.out.2.2.1, hex.out.2.2.2⟩
            · have hq : ((tokM Mx).toList == [125]) = false := by rw [hlx.out]; simp only [beq_eq_false_iff_ne]; exact hE
              have hst : Hid (ufieldsR T (T.length + 1) (absR M2 m.fl) = rbnd (fieldR T true) (fun _ => ufieldsR T g) (absR Mx mx.fl)) := by
                show _ = _
                rw [← hux.out, ufieldsR, if_neg (by rw [habx.out]; exact hE)]
              have HFI := hid (fun q => fieldR_any P B T w0 _ Mx mx rs true (hsx.out.drew q) hix.out.ns)
              clear hE
              cases hfl : fieldR T true (absR Mx mx.fl) with
              | error x =>
                rw [hfl] at HFI
                have hp : Hid (unionR T (absR M m.fl) = .error x) := by
                  show _ = _
                  rw [hcon2.out]; exact rbnd_error (by rw [hst.out]; exact rbnd_error hfl)
                clear hfl
                go_wp2_with (first | (go_at_call 74; go_must (refine HTK.out.mono ?_; rintro e w6 ⟨rfl, q6, hw6⟩; subst hw6)) | (go_at_call 124; go_must (refine (HFI.out _).mono ?_; rintro e w7 ⟨rfl, hf7⟩)))
                go_ret
                rw [hp.out]
                exact ⟨rfl, hf7⟩
              | ok r =>
                obtain ⟨u, s7⟩ := r
                rw [hfl] at HFI
                have hst2 : Hid (ufieldsR T (T.length + 1) (absR M2 m.fl) = ufieldsR T g s7) := hst.out.trans (rbnd_ok hfl)
                clear hfl
                go_wp2_with (first | (go_at_call 74; go_must (refine HTK.out.mono ?_; rintro e w6 ⟨rfl, q6, hw6⟩; subst hw6)) | (go_at_call 124; go_must (refine (HFI.out _).mono ?_; rintro e w7 ⟨rfl, My, my, fy, hsy, haby, hfy, hby, hgy, hssy, hsvy, hnsy, husy, haty⟩)))
                go_roundg g
                case measure => omega
                case rel => exact ⟨My, my, hsy, hix.out.field hfy hgy hnsy husy, ⟨hby.trans hex.out.1, hssy.trans hex.out.2.1, hsvy.trans hex.out.2.2.1, Nat.le_trans hex.out.2.2.2 husy⟩, by rw [haby, hst2.out]; rfl, by omega⟩
  · have HE := hid (fun wx (hx : RStd P T w0 wx (nextM M) (qB B m :: qF m :: rs)) => expectR_no hx ⟨#[123]⟩ hA)
    have hpA := hid (fun wx (hx : RStd P T w0 wx (nextM M) (qB B m :: qF m :: rs)) => abs_exp_no hx hA m.fl)
    clear hA
    go_enter Fadg.func123, Fadg.ntmps123
    go_wp2_with (first | (go_at_call 73; go_must (refine HN.out.mono ?_; rintro e w1 ⟨rfl, hs1, ho1⟩)) | (go_at_call 119; go_must (refine (HE.out _ hs1).mono ?_; rintro e w2 ⟨rfl, hf2, q2, ho2⟩)))
    go_ret
    rw [unionR_no (by rw [← habn.out]; exact hpA.out _ hs1)]
    exact ⟨rfl, hf2⟩
end Go.Proofs.Ygcfad
