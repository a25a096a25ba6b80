/-
  THE WALK of package rec's value.
-/
import Derived.Test.YgcfadRecValue11
namespace Go.Proofs.Ygcfad
open Go.RowKit Plain
set_option linter.unusedSimpArgs false
set_option linter.unusedVariables false

set_option maxRecDepth 100000 in
set_option maxHeartbeats 8000000 in
theorem valueR_ff (P : Nat) (T : List Nat) (w0 w : World) (M : RM) (rs : List Row) (fs : List RF) (k : Nat) (hk : k < 256) (hS : Hid (RStd P T w0 w M rs)) (HW0 : Hid (¬ widthN k = 0)) (h45 : Hid (¬ nats (tokM M) = [45])) (hhx : Hid (isHex (nats (tokM M)) = false)) :
    Calls Fadg.prog 156 #[.pointer (some ⟨P, 0, none⟩), .int .u8 (k : Int)] w (ValRPost P T w0 M rs fs (valueR T k (absR M fs))) := by
  have c1 := hS.out.p.cells.2.1
  obtain ⟨a0, ha0⟩ : ∃ a0, a0 = M.p.at_ := ⟨_, rfl⟩
  rw [← ha0] at c1
  have HA0 : Hid ((absR M fs).a = a0) := ha0.symm
  clear ha0
  obtain ⟨wd, hwd⟩ : ∃ wd, wd = widthN k := ⟨_, rfl⟩
  have HWC : Hid (∀ wx, Calls Fadg.prog 159 #[.int .u8 (k : Int)] wx fun e w' => e = .returned (.int .u8 (wd : Int)) ∧ w' = wx) := fun wx => by rw [hwd]; exact widthR_any k hk wx
  have HWD := hid hwd
  have hw0' : ((wd : Int) == 0) = false := by have := HW0.out; rw [← hwd] at this; simp; omega
  clear hwd
  have hk10 := width_pos HW0.out
  have hlit : ((tokM M).toList == [45]) = false := by rw [str_lit]; simp only [beq_eq_false_iff_ne]; exact h45.out
  obtain ⟨M1, hM1⟩ : ∃ M1, M1 = M := ⟨_, rfl⟩
  rw [← hM1] at hhx
  have hval : Hid (valueR T k (absR M fs) = valTl T k a0 false (absR M1 fs)) := by
    show _ = _
    rw [valueR_pos HW0.out (by rw [abs_tok hS.out]; exact h45.out), HA0.out, hM1]
  have hsame : Hid (SameR M M1) := by rw [hM1]; exact SameR.refl M
  have HTK := hid (fun q => tok_std (hS.out.drew q))
  have HM1 := hid hM1
  clear hM1
  go_enter Fadg.func156, Fadg.ntmps156
  go_upto_region 1 with fail
  go_quiet ((go_at_call 159; exact Calls.quiet_of_same (HWC.out _)))
  go_upto_if 29 with (go_at_call 74; go_must (refine (HTK.out _).mono ?_; rintro e w1 ⟨rfl, q1, hw1⟩; have hs1 : Hid (RStd P T w0 w1 M rs) := (by rw [hw1]; exact (hS.out.drew _).drew q1); clear hw1))
  clear HTK HWC
  go_upto_region 7 with fail
  have hs2 : Hid (RStd P T w0 w1 M1 rs) := by rw [HM1.out]; exact hs1
  have HTK := hid (tok_std hs2.out)
  have hsz := tokM_size hs2.out
  have habt := hid (abs_tok hs2.out fs)
  have habn := hid (abs_next hs2.out fs)
  have habp : Hid ((absR M1 fs).a = M1.p.at_) := rfl
  have HNU := hid (fun wx => number_any (tokM M1) wx (by omega))
  have hlx := hid (str_lit ((tokM M1).extract 0 2) [48, 120])
  have hx2 : Hid ((nats ((tokM M1).extract 0 2) == [48, 120]) = isHex (nats (tokM M1))) := by show _ = _; rw [nats_extract]; rfl
  have htru := hid (str_lit (tokM M1) [116, 114, 117, 101])
  have hfal := hid (str_lit (tokM M1) [102, 97, 108, 115, 101])
  obtain ⟨tk, htk⟩ : ∃ tk, tk = tokM M1 := ⟨_, rfl⟩
  rw [← htk] at HTK hsz HNU hlx hx2 htru hfal hhx
  have HTKE := hid htk
  clear htk hlit
  go_upto_region 9 with (first | (go_at_call 74; go_must (refine HTK.out.mono ?_; rintro e w3 ⟨rfl, q3, hw3⟩; have hs3 : Hid (RStd P T w0 w3 M1 rs) := (by rw [hw3]; exact hs2.out.drew q3); clear hw3)) | (go_at_call 168; go_must (refine (HNU.out _).mono ?_; rintro e w4 ⟨rfl, q4, hw4⟩; have hs4 : Hid (RStd P T w0 w4 M1 rs) := (by rw [hw4]; exact hs3.out.drew q4); clear hw4)))
  clear hs2 hs3 HTK HNU
  have HL : Hid (((tk.extract 0 2).toList == [48, 120]) = false) := hlx.out.trans (hx2.out.trans hhx.out)
  go_cut [12] (fun v wx => v = .bool false ∧ wx = w4)
  case first =>
    by_cases h1 : 1 < tk.size
    · have h1' : (1 : Int) < (tk.size : Int) := by omega
      have h2' : (2 : Int) ≤ (tk.size : Int) := by omega
      have hq : ((tk.extract 0 2).toList == [48, 120]) = false := HL.out
      go_wp2
      go_meet
      exact ⟨rfl, rfl⟩
    · have h1' : ¬ (1 : Int) < (tk.size : Int) := by omega
      go_wp2
      go_meet
      exact ⟨rfl, rfl⟩
  case rest =>
    obtain ⟨rfl, rfl⟩ := hcut
    obtain ⟨sg, hsg⟩ : ∃ sg, sg = decide (1 ≤ k ∧ k ≤ 4) := ⟨_, rfl⟩
    obtain ⟨fl, hfl⟩ : ∃ fl, fl = decide (k = 9 ∨ k = 10) := ⟨_, rfl⟩
    obtain ⟨ms, hms⟩ : ∃ ms, ms = mostN k := ⟨_, rfl⟩
    have hms2 : ms < 18446744073709551616 := by rw [hms]; exact most_lt k hk10
    have HSG := hid hsg
    have HFL := hid hfl
    have HMS := hid hms
    clear hsg hfl hms
    clear hlx hx2 HL
    go_upto_region 10 with fail
    go_cut [13] (fun v wx => v = .bool sg ∧ wx = wc)
    case first =>
      by_cases r1 : k < 1
      · have e : sg = false := by rw [HSG.out]; simp; omega
        go_wp2
        go_meet
        exact ⟨congrArg Value.bool (by rw [e] <;> simp <;> omega), rfl⟩
      by_cases r2 : k ≤ 4
      · have e : sg = true := by rw [HSG.out]; simp; omega
        go_wp2
        go_meet
        exact ⟨congrArg Value.bool (by rw [e] <;> simp <;> omega), rfl⟩
      · have e : sg = false := by rw [HSG.out]; simp; omega
        go_wp2
        go_meet
        exact ⟨congrArg Value.bool (by rw [e] <;> simp <;> omega), rfl⟩
    case rest =>
      obtain ⟨rfl, rfl⟩ := hcut
      go_upto_region 11 with fail
      go_cut [14] (fun v wx => v = .bool fl ∧ wx = wc)
      case first =>
        by_cases r1 : k = 9
        · have r1' : ((k : Int) == 9) = true := by simp [r1]
          have e : fl = true := by rw [HFL.out]; simp [r1]
          clear r1
          go_wp2
          go_meet
          exact ⟨by rw [e], rfl⟩
        · have r1' : ((k : Int) == 9) = false := by simp; omega
          have e : fl = ((k : Int) == 10) := by rw [HFL.out, Bool.eq_iff_iff]; simp [r1]; omega
          clear r1
          go_wp2
          go_meet
          exact ⟨by rw [e], rfl⟩
      case rest =>
        obtain ⟨rfl, rfl⟩ := hcut
        go_upto_region 12 with fail
        go_cut [15] (fun v wx => v = .int .u64 (ms : Int) ∧ wx = wc)
        case first =>
          have h11 : k = 0 ∨ k = 1 ∨ k = 2 ∨ k = 3 ∨ k = 4 ∨ k = 5 ∨ k = 6 ∨ k = 7 ∨ k = 8 ∨ k = 9 ∨ k = 10 := by omega
          have hww : (wd = 1 ∧ ms = 1) ∨ (wd = 8 ∧ ms = 255) ∨ (wd = 16 ∧ ms = 65535) ∨ (wd = 32 ∧ ms = 4294967295) ∨ (wd = 64 ∧ ms = 18446744073709551615) := by
            rw [HWD.out, HMS.out]
            rcases h11 with rfl | rfl | rfl | rfl | rfl | rfl | rfl | rfl | rfl | rfl | rfl <;> decide
          clear h11
          rcases hww with ⟨rfl, e⟩ | ⟨rfl, e⟩ | ⟨rfl, e⟩ | ⟨rfl, e⟩ | ⟨rfl, e⟩
          all_goals
            have E := hid e
            clear e
            go_wp2
            go_meet
            exact ⟨by rw [E.out]; rfl, rfl⟩
        case rest =>
          obtain ⟨rfl, rfl⟩ := hcut
          obtain ⟨t1, ht1⟩ : ∃ t1, t1 = decide (k = 0 ∧ false = false ∧ (nats tk = TRUE ∨ nats tk = FALSE)) := ⟨_, rfl⟩
          have HT1 := hid ht1
          clear ht1
          have hv2 : Hid (valueR T k (absR M fs) = if t1 = true then .ok ((), absR (nextM M1) fs) else if nats tk = [] ∨ digitN ((nats tk).headD 0) = false then .error (M1.p.at_, 1) else if fitsN k false (nats tk) = true then .ok ((), absR (nextM M1) fs) else .error (a0, 7)) := by
            show _ = _
            rw [hval.out, valTl, habt.out, ← HTKE.out, ← habn.out, habp.out]
            by_cases h : k = 0 ∧ false = false ∧ (nats tk = TRUE ∨ nats tk = FALSE)
            · have ht : t1 = true := by rw [HT1.out]; exact decide_eq_true h
              rw [if_pos h, ht]; rfl
            · have ht : t1 = false := by rw [HT1.out]; exact decide_eq_false h
              rw [if_neg h, ht]; rfl
          clear hval habt habn habp
          go_upto_block 0 with fail
          go_cut [8, 10, 11, 12, 13, 14] (fun v8 v10 v11 v12 v13 v14 wx => ∃ v : Int, v10 = .int .u64 v ∧ v11 = .bool (t1 || fitsN k false (nats tk)) ∧ Hid (¬ (t1 = false ∧ (nats tk = [] ∨ digitN ((nats tk).headD 0) = false))) ∧ Hid (RStd P T w0 wx M1 rs))
          case first =>
            go_upto_region 14 with fail
            go_cut [68] (fun v wx => v = .bool t1 ∧ wx = wc)
            case first =>
              by_cases h0 : k = 0
              · have h0' : ((k : Int) == 0) = true := by simp [h0]
                have H0 := hid h0
                clear h0
                cases q1 : (tk.toList == [116, 114, 117, 101]) with
                | true =>
                  have e : t1 = true := by
                    have h := htru.out; rw [q1] at h
                    have h2 : nats tk = TRUE := (by simpa using h.symm : nats tk = [116, 114, 117, 101])
                    rw [HT1.out, H0.out, h2]; decide
                  go_wp2
                  go_meet
                  exact ⟨by rw [e], rfl⟩
                | false =>
                  cases q2 : (tk.toList == [102, 97, 108, 115, 101]) with
                  | true =>
                    have e : t1 = true := by
                      have h := hfal.out; rw [q2] at h
                      have h2 : nats tk = FALSE := (by simpa using h.symm : nats tk = [102, 97, 108, 115, 101])
                      rw [HT1.out, H0.out, h2]; decide
                    go_wp2
                    go_meet
                    exact ⟨by rw [e], rfl⟩
                  | false =>
                    have e : t1 = false := by
                      have h := htru.out; rw [q1] at h
                      have h2 := hfal.out; rw [q2] at h2
                      have h3 : ¬ nats tk = TRUE := (by simpa using h.symm : ¬ nats tk = [116, 114, 117, 101])
                      have h4 : ¬ nats tk = FALSE := (by simpa using h2.symm : ¬ nats tk = [102, 97, 108, 115, 101])
                      rw [HT1.out]; simp [h3, h4]
                    go_wp2
                    go_meet
                    exact ⟨by rw [e], rfl⟩
              · have h0' : ((k : Int) == 0) = false := by simp; omega
                have e : t1 = false := by rw [HT1.out]; simp [h0]
                go_wp2
                go_meet
                exact ⟨by rw [e], rfl⟩
            case rest =>
              obtain ⟨rfl, rfl⟩ := hcut
              cases ht : t1 with
              | true =>
                have hh : k = 0 ∧ (nats tk = TRUE ∨ nats tk = FALSE) := by have h := HT1.out; rw [ht] at h; simpa using h
                have hsz4 : tk.size = 4 ∨ tk.size = 5 := by
                  rcases hh.2 with h | h
                  · left; rw [← nats_length, h]; rfl
                  · right; rw [← nats_length, h]; rfl
                clear hh
                rcases hsz4 with h4 | h4
                all_goals
                  go_wp2_with fail
                  go_meet
                  exact ⟨_, rfl, by rw [ht]; rfl, fun h => absurd (ht.symm.trans h.1) (by decide), hs4⟩
              | false =>
                have HTF := hid ht
                clear ht
                have HF := hid (rfail_std hs4.out 1 1 rfl)
                by_cases h0 : nats tk = []
                · have hq := nats_nil h0
                  have hp : Hid (valueR T k (absR M fs) = .error (M1.p.at_, 1)) := by show _ = _; rw [hv2.out, HTF.out, if_neg (by decide), if_pos (.inl h0)]
                  clear h0
                  go_wp2_with (go_at_call 151; go_must (refine HF.out.mono ?_; rintro e w6 ⟨rfl, hf6, ho6⟩))
                  go_ret2
                  rw [hp.out]
                  exact ⟨rfl, hf6, _, ho6, M1, hs4.out⟩
                · have hq := nats_cons h0
                  have hsz0 : 0 < tk.size := by rw [← nats_length]; exact List.length_pos_iff.2 h0
                  have hidx : ∀ wx, (Instr.index 9 (.string tk) (.int .i64 0)).run Fadg.prog wx = .ok (.int .u8 (((nats tk).getD 0 0 : Nat) : Int)) wx := fun wx => idx_run tk 0 hsz0 wx
                  obtain ⟨c, hc⟩ : ∃ c, c = (nats tk).getD 0 0 := ⟨_, rfl⟩
                  rw [← hc] at hidx
                  have hhd : Hid ((nats tk).headD 0 = c) := by show _ = _; rw [hc]; cases nats tk <;> rfl
                  have H0 := hid h0
                  clear hc h0
                  have HD := hid (digit_any c)
                  cases hd : digitN c with
                  | false =>
                    rw [hd] at HD
                    have hp : Hid (valueR T k (absR M fs) = .error (M1.p.at_, 1)) := by show _ = _; rw [hv2.out, HTF.out, if_neg (by decide), if_pos (.inr (by rw [hhd.out]; exact hd))]
                    clear hd
                    go_wp2_with (first | (go_at_call 118; go_must (refine (HD.out _).mono ?_; rintro e w5 ⟨rfl, hw5⟩; subst hw5)) | (go_at_call 151; go_must (refine HF.out.mono ?_; rintro e w6 ⟨rfl, hf6, ho6⟩)))
                    go_ret2
                    rw [hp.out]
                    exact ⟨rfl, hf6, _, ho6, M1, hs4.out⟩
                  | true =>
                    rw [hd] at HD
                    have hnot : Hid (¬ (t1 = false ∧ (nats tk = [] ∨ digitN ((nats tk).headD 0) = false))) := by
                      rintro ⟨_, h | h⟩
                      · exact H0.out h
                      · rw [hhd.out, hd] at h; exact absurd h (by decide)
                    have hfit : Hid ((t1 || fitsN k false (nats tk)) = match numberN (nats tk) with
                        | none => false
                        | some v => if (fl && !false || (decide (k = 0) && !false) || (false && false) || (false && !sg)) = true then false else if false = true then decide (v ≤ ms / 2 + 1) else if (sg && !false) = true then decide (v ≤ ms / 2) else decide (v ≤ ms)) := by
                      show _ = _
                      rw [HTF.out, Bool.false_or, fitsN, HFL.out, HSG.out, hhx.out, HMS.out]
                      cases numberN (nats tk) with
                      | none => rfl
                      | some v => simp only [Bool.or_eq_true, Bool.and_eq_true, decide_eq_true_eq, Bool.not_eq_true', decide_eq_false_iff_not, or_assoc]
                    clear hd
                    go_upto_region 18 with (go_at_call 118; go_must (refine (HD.out _).mono ?_; rintro e w5 ⟨rfl, hw5⟩; subst hw5))
                    generalize numberN (nats tk) = nb at *
                    clear HTKE hidx HD HF
                    have hbad : Hid ((fl && !false || (decide (k = 0) && !false) || (false && false) || (false && !sg)) = true → (t1 || fitsN k false (nats tk)) = false) := fun h => by
                      rw [hfit.out]; cases nb with
                      | none => rfl
                      | some v => simp only [if_pos h]
                    cases fl with
                    | true =>
                      have hb := hid (hbad.out (by simp))
                      go_wp2_with fail
                      go_meet
                      exact ⟨_, rfl, congrArg Value.bool hb.out.symm, hnot, hs4⟩
                    | false =>
                      go_upto_region 19 with fail
                      go_cut [99] (fun v wx => v = .bool (decide (k = 0)) ∧ wx = w5)
                      case first =>
                        by_cases h0k : k = 0
                        · have h0' : ((k : Int) == 0) = true := by simp [h0k]
                          have H0K := hid h0k
                          clear h0k
                          go_wp2
                          go_meet
                          exact ⟨congrArg Value.bool (by simp [H0K.out]), rfl⟩
                        · have h0' : ((k : Int) == 0) = false := by simp; omega
                          go_wp2
                          go_meet
                          exact ⟨congrArg Value.bool (by simp [h0k]), rfl⟩
                      case rest =>
                        obtain ⟨rfl, rfl⟩ := hcut
                        cases b2 : decide (k = 0) with
                        | true =>
                          have B2 := hid b2
                          clear b2
                          have hb := hid (hbad.out (by rw [B2.out]; simp))
                          go_wp2_with fail
                          go_meet
                          exact ⟨_, rfl, congrArg Value.bool hb.out.symm, hnot, hs4⟩
                        | false =>
                          have B2 : Hid (¬ k = 0) := of_decide_eq_false b2
                          clear b2
                          cases sg with
                          | true =>
                            cases nb with
                            | none =>
                              go_wp2_with fail
                              go_meet
                              exact ⟨_, rfl, congrArg Value.bool hfit.out.symm, hnot, hs4⟩
                            | some v =>
                              have hf3 : Hid ((t1 || fitsN k false (nats tk)) = decide (v ≤ ms / 2)) := by show _ = _; rw [hfit.out]; simp [B2.out]
                              go_wp2_with fail
                              go_meet
                              exact ⟨_, rfl, congrArg Value.bool (by first | exact hf3.out.symm | (rw [hf3.out]; exact decide_eq_decide.2 (by omega)) | (rw [hf3.out, Bool.eq_iff_iff]; simp; omega)), hnot, hs4⟩
                          | false =>
                            cases nb with
                            | none =>
                              go_wp2_with fail
                              go_meet
                              exact ⟨_, rfl, congrArg Value.bool hfit.out.symm, hnot, hs4⟩
                            | some v =>
                              have hf3 : Hid ((t1 || fitsN k false (nats tk)) = decide (v ≤ ms)) := by show _ = _; rw [hfit.out]; simp [B2.out]
                              go_wp2_with fail
                              go_meet
                              exact ⟨_, rfl, congrArg Value.bool (by first | exact hf3.out.symm | (rw [hf3.out]; exact decide_eq_decide.2 (by omega)) | (rw [hf3.out, Bool.eq_iff_iff]; simp; omega)), hnot, hs4⟩
          case rest =>
            obtain ⟨v, rfl, rfl, hn2, hs5⟩ := hcut
            clear hs4
            cases hok : (t1 || fitsN k false (nats tk)) with
            | true =>
              have hp : Hid (valueR T k (absR M fs) = .ok ((), absR (nextM M1) fs)) := by
                show _ = _
                rw [hv2.out]
                cases ht : t1 with
                | true => rfl
                | false =>
                  rw [ht] at hok
                  rw [if_neg (by decide), if_neg (fun h => hn2.out ⟨ht, h⟩), if_pos (by simpa using hok)]
              have HN := hid (rnext_std hs5.out)
              clear hok
              go_wp2_with (go_at_call 73; go_must (refine HN.out.mono ?_; rintro e w6 ⟨rfl, hs6, ho6⟩))
              go_ret2
              rw [hp.out]
              exact ⟨nextM M1, v, rfl, hs6, rfl, hsame.out.next⟩
            | false =>
              have hp : Hid (valueR T k (absR M fs) = .error (a0, 7)) := by
                show _ = _
                rw [hv2.out]
                have h1 : t1 = false ∧ fitsN k false (nats tk) = false := by simpa using hok
                rw [if_neg (by rw [h1.1]; decide), if_neg (fun h => hn2.out ⟨h1.1, h⟩), if_neg (by rw [h1.2]; decide)]
              have HF := hid (failAt_std hs5.out a0 7 (a0 : Int) 7 rfl rfl)
              clear hok
              go_wp2_with (go_at_call 121; go_must (refine HF.out.mono ?_; rintro e w6 ⟨rfl, hf6, ho6⟩))
              go_ret2
              rw [hp.out]
              exact ⟨rfl, hf6, _, ho6, M1, hs5.out⟩
end Go.Proofs.Ygcfad
