/-
  THE WALK of (*parser).strct.
-/
import Derived.Test.YgcfadStrctMem
namespace Go.Proofs.Ygcfad
open Go.RowKit Plain
set_option linter.unusedSimpArgs false
set_option linter.unusedVariables false

set_option maxRecDepth 100000 in
set_option maxHeartbeats 4000000 in
theorem strct_bad (P : Nat) (T : List Nat) (w0 w : World) (M : MM) (fs : List (List Nat × Nat)) (hS : Hid (Std P T w0 w M)) (h : Hid (¬ (M.p.tok = 97 ∧ nats (M.p.tx.extract M.p.at_ M.p.en) = STRUCT))) :
    Calls Fadg.prog 71 #[.pointer (some ⟨P, 0, none⟩)] w (StrctPost P T w0 (strctS T (absM M fs))) := by
  have hp : Hid (strctS T (absM M fs) = (none, absM { M with p := failP M.p M.p.at_ 1 } fs)) := by
    show _ = _
    rw [strctS_bad (by rw [abs_word hS.out]; exact h.out), absM_fail]; rfl
  have c3 := hS.out.m.p.cells.2.2.2.1
  have hlit := hid (str_lit (M.p.tx.extract M.p.at_ M.p.en) [115, 116, 114, 117, 99, 116])
  by_cases ht : M.p.tok = 97
  · have ht' : ((M.p.tok : Int) == 97) = true := by simp [ht]
    have hq : ((M.p.tx.extract M.p.at_ M.p.en).toList == [115, 116, 114, 117, 99, 116]) = false := by
      rw [hlit.out]; simp only [beq_eq_false_iff_ne]; exact fun e => h.out ⟨ht, e⟩
    have HW := hid (word_std hS.out)
    obtain ⟨b, hb⟩ : ∃ b, b = M.p.tx.extract M.p.at_ M.p.en := ⟨_, rfl⟩
    rw [← hb] at HW hq
    clear hb ht h hlit
    have HF := hid (fun q => fail_std (hS.out.drew q) M.p.at_ 1 (M.p.at_ : Int) 1 rfl rfl)
    have cA := hid (fun q => (hS.out.drew q).m.p.cells.2.1)
    go_enter Fadg.func71, Fadg.ntmps71
    go_wp2_with (first | (go_at_call 70; go_must (refine HW.out.mono ?_; rintro e w1 ⟨rfl, q, hq1⟩; subst hq1; have cA2 := cA.out q)) | (go_at_call 111; go_must (refine (HF.out _).mono ?_; rintro e w1 ⟨rfl, hs1, ho1⟩)))
    go_ret
    rw [hp.out]
    exact ⟨_, _, hs1, rfl, failP_code _ _ _ (by decide), rfl⟩
  · have ht' : ((M.p.tok : Int) == 97) = false := by simp; omega
    have HE := hid (expect_std_no hS.out 97 97 rfl ht)
    have he : Hid (expM 97 M = { M with p := failP M.p M.p.at_ 1 }) := by show _ = _; unfold expM; rw [if_neg ht]
    clear ht h hlit
    go_enter Fadg.func71, Fadg.ntmps71
    go_wp2_with (first | (go_at_call 112; go_must (refine HE.out.mono ?_; rintro e w1 ⟨rfl, hs1, ho1⟩)))
    go_ret
    rw [hp.out]
    rw [he.out] at hs1
    exact ⟨_, _, hs1, rfl, failP_code _ _ _ (by decide), rfl⟩

set_option maxRecDepth 100000 in
set_option maxHeartbeats 4000000 in
theorem strct_no (P : Nat) (T : List Nat) (w0 w : World) (M : MM) (fs : List (List Nat × Nat)) (hS : Hid (Std P T w0 w M)) (h : Hid (M.p.tok = 97 ∧ nats (M.p.tx.extract M.p.at_ M.p.en) = STRUCT)) (hno : Hid (nameOk (nextP M.p) true = false)) :
    Calls Fadg.prog 71 #[.pointer (some ⟨P, 0, none⟩)] w (StrctPost P T w0 (strctS T (absM M fs))) := by
  have hp : Hid (∀ wx, Std P T w0 wx { M with p := nextP M.p } → strctS T (absM M fs) = (none, absM { M with p := failP (nextP M.p) (nextP M.p).at_ 1 } fs)) := by
    intro wx hx
    have hn := abs_name_no hx true fs hno.out
    rw [absM_next, hS.out.tx] at hn
    rw [strctS_no (by rw [abs_word hS.out]; exact h.out) hn]
    rw [absM_fail { M with p := nextP M.p } fs, absM_next]
  have c3 := hS.out.m.p.cells.2.2.2.1
  have hlit := hid (str_lit (M.p.tx.extract M.p.at_ M.p.en) [115, 116, 114, 117, 99, 116])
  have ht' : ((M.p.tok : Int) == 97) = true := by simp [h.out.1]
  have hq : ((M.p.tx.extract M.p.at_ M.p.en).toList == [115, 116, 114, 117, 99, 116]) = true := by
    rw [hlit.out, h.out.2]; rfl
  have HW := hid (word_std hS.out)
  obtain ⟨b, hb⟩ : ∃ b, b = M.p.tx.extract M.p.at_ M.p.en := ⟨_, rfl⟩
  rw [← hb] at HW hq
  have HE := hid (fun q => expect_std_yes (hS.out.drew q) 97 97 rfl h.out.1)
  have he : Hid (expM 97 M = { M with p := nextP M.p }) := by show _ = _; unfold expM; rw [if_pos h.out.1]
  rw [he.out] at HE
  have HN := hid (fun wx (hx : Std P T w0 wx { M with p := nextP M.p }) => name_std_no hx true hno.out)
  clear hb hlit h hno
  go_enter Fadg.func71, Fadg.ntmps71
  go_wp2_with (first | (go_at_call 70; go_must (refine HW.out.mono ?_; rintro e w1 ⟨rfl, q, hq1⟩; subst hq1)) | (go_at_call 112; go_must (refine (HE.out _).mono ?_; rintro e w2 ⟨rfl, hs2, ho2⟩)) | (go_at_call 113; go_must (refine (HN.out _ hs2).mono ?_; rintro e w3 ⟨rfl, hs3, ho3⟩)))
  go_ret
  rw [hp.out _ hs2]
  exact ⟨_, _, hs3, rfl, failP_code _ _ _ (by decide), rfl⟩

theorem strct_abs (M M1 : MM) (h1 : M1.ss = M.ss) (h2 : M1.us = M.us) (h3 : M1.p.num = M.p.num) (dd : Bool) (k a : Nat) (v : Value) (b : ByteArray) (fs : List (List Nat × Nat)) (hd : dd = (builtN (nats b) || M.ss.any (fun m => nats m.b == nats b))) :
    ({ absM M fs with q := if (builtN (nats b) || (absM M fs).names.any (· == nats b)) = true then failQ (if 4 ≤ k then failQ (absM (nameM M1) fs).q a 2 else (absM (nameM M1) fs).q) a 3 else (if 4 ≤ k then failQ (absM (nameM M1) fs).q a 2 else (absM (nameM M1) fs).q), names := (absM M fs).names ++ [nats b], fs := [] } : St) = absM (addM (dupM dd a (limS k a (nameM M1))) v b) [] := by
  have e : (absM M fs).names.any (· == nats b) = M.ss.any (fun m => nats m.b == nats b) := any_names _ _
  rw [e, ← hd, abs_addM _ v b fs, abs_dup, abs_limS, abs_nameM]
  have e1 : (absM M1 fs).names = (absM M fs).names := by show M1.ss.map _ = M.ss.map _; rw [h1]
  have e2 : (absM M1 fs).uses = (absM M fs).uses := by show M1.us.map _ = M.us.map _; rw [h2]
  have e3 : (absM M1 fs).num = (absM M fs).num := h3
  simp only [e1, e2, e3]
theorem ownS {B : Nat} {w : World} {M : MM} {v : Value} {n : Nat} (h : (rS M).ok B w) (hv : M.p.sv = v) (hn : n = M.ss.length) : w.ownsRow B 189 4 v n (M.ss.flatMap sc) := by
  subst hv hn; exact h

set_option maxRecDepth 100000 in
set_option maxHeartbeats 4000000 in
theorem strct_yes (P : Nat) (T : List Nat) (w0 w : World) (M : MM) (fs : List (List Nat × Nat)) (hS : Hid (Std P T w0 w M)) (hU : Hid (InU M)) (h : Hid (M.p.tok = 97 ∧ nats (M.p.tx.extract M.p.at_ M.p.en) = STRUCT)) (hyes : Hid (nameOk (nextP M.p) true = true)) :
    Calls Fadg.prog 71 #[.pointer (some ⟨P, 0, none⟩)] w (StrctPost P T w0 (strctS T (absM M fs))) := by
  have hwf := hid hS.out.wf
  obtain ⟨M1, hM1⟩ : ∃ M1 : MM, M1 = { M with p := nextP M.p } := ⟨_, rfl⟩
  obtain ⟨b, hb⟩ : ∃ b, b = M1.p.tx.extract M1.p.at_ M1.p.en := ⟨_, rfl⟩
  obtain ⟨a, ha⟩ : ∃ a, a = M1.p.at_ := ⟨_, rfl⟩
  obtain ⟨k, hk⟩ : ∃ k, k = M.ss.length := ⟨_, rfl⟩
  have hyes1 : Hid (nameOk M1.p true = true) := by rw [hM1]; exact hyes.out
  have hp : Hid (∀ wx, Std P T w0 wx M1 → strctS T (absM M fs) = scont T k { absM M fs with q := if (builtN (nats b) || (absM M fs).names.any (· == nats b)) = true then failQ (if 4 ≤ k then failQ (absM (nameM M1) fs).q a 2 else (absM (nameM M1) fs).q) a 3 else (if 4 ≤ k then failQ (absM (nameM M1) fs).q a 2 else (absM (nameM M1) fs).q), names := (absM M fs).names ++ [nats b], fs := [] }) := by
    intro wx hx
    have hn := abs_name_yes hx true fs hyes1.out
    rw [← hb, ← ha] at hn
    rw [show (absM M1 fs).q = nextQ T (absM M fs).q by rw [hM1, absM_next, hS.out.tx]] at hn
    have := strctS_yes (by rw [abs_word hS.out]; exact h.out) hn
    rw [this]
    have e : (absM M fs).names.length = k := by show (M.ss.map _).length = k; rw [List.length_map, hk]
    rw [e]
  have c3 := hS.out.m.p.cells.2.2.2.1
  have hlit := hid (str_lit (M.p.tx.extract M.p.at_ M.p.en) [115, 116, 114, 117, 99, 116])
  have ht' : ((M.p.tok : Int) == 97) = true := by simp [h.out.1]
  have hq : ((M.p.tx.extract M.p.at_ M.p.en).toList == [115, 116, 114, 117, 99, 116]) = true := by
    rw [hlit.out, h.out.2]; rfl
  have HW := hid (word_std hS.out)
  obtain ⟨b0, hb0⟩ : ∃ b, b = M.p.tx.extract M.p.at_ M.p.en := ⟨_, rfl⟩
  rw [← hb0] at HW hq
  have HE := hid (fun q => expect_std_yes (hS.out.drew q) 97 97 rfl h.out.1)
  have he : Hid (expM 97 M = M1) := by show _ = _; unfold expM; rw [if_pos h.out.1, hM1]
  rw [he.out] at HE
  have HN := hid (fun wx (hx : Std P T w0 wx M1) => name_std_yes hx true hyes1.out)
  rw [← hb, ← ha] at HN
  -- the numbers
  have hk1 : k ≤ M.p.at_ := by rw [hk]; exact hwf.out.ss
  have hat : M.p.at_ < M1.p.at_ := by
    have h1 := hwf.out.tok (by rw [h.out.1]; decide)
    have h2 := (nextP_le hwf.out.en).2.2
    rw [hM1]; show _ < (nextP M.p).at_; omega
  have hM1s : Hid (M1.ss = M.ss ∧ M1.us = M.us ∧ M1.p.sv = M.p.sv) := by rw [hM1]; exact ⟨rfl, rfl, rfl⟩
  have hwf1 : WF M1 := by rw [hM1]; exact hwf.out.next
  have hk2 : k ≤ 1024 := by have := hwf.out.ae; have := hwf.out.en; have := hwf.out.sz; omega
  have hat2 : M1.p.at_ ≤ (nameM M1).p.at_ := by
    rw [nameM_at]; have := (nextP_le hwf1.en).2.2; have := hwf1.ae; omega
  obtain ⟨sao, scap, hsv, hsform⟩ := hS.out.m.rs.form'
  have hsv' : M.p.sv = .slice sao k scap := by rw [hk]; exact hsv
  have hsform' : Hid (k = 0 ∨ ∃ g, sao = some ⟨g, 0, none⟩) := by rw [hk]; exact hsform
  have HSV := hid hsv'
  have HK := hid hk
  have HA := hid ha
  have HMA := hid hM1
  clear hb0 hlit h hyes hsv hsform hsv' hk ha hb hM1
  go_enter Fadg.func71, Fadg.ntmps71
  have hsv1 : Hid ((nameM M1).p.sv = .slice sao k scap) := (nameM_sv M1).trans (hM1s.out.2.2.trans HSV.out)
  go_upto_if 44 with (first | (go_at_call 70; go_must (refine HW.out.mono ?_; rintro e w1 ⟨rfl, q, hq1⟩; subst hq1)) | (go_at_call 112; go_must (refine (HE.out _).mono ?_; rintro e w2 ⟨rfl, hs2, ho2⟩)) | (go_at_call 113; go_must (refine (HN.out _ hs2).mono ?_; rintro e w3 ⟨rfl, hs3, ho3⟩; have c6 := hs3.m.p.cells.2.2.2.2.2.2.1; rw [hsv1.out] at c6)))
  have hp2 := hid (hp.out _ hs2)
  go_cut [] (fun wx => Hid (Std P T w0 wx (limS k a (nameM M1))))
  case first =>
    by_cases h4 : 4 ≤ k
    · have h4' : (4 : Int) ≤ (k : Int) := by omega
      have HF := hid (fail_std hs3 a 2 (a : Int) 2 rfl rfl)
      go_wp2_with (first | (go_at_call 111; go_must (refine HF.out.mono ?_; rintro e w4 ⟨rfl, hs4, ho4⟩)))
      go_meet
      show Std _ _ _ _ _
      unfold limS; rw [if_pos h4]; exact hs4
    · have h4' : ¬ (4 : Int) ≤ (k : Int) := by omega
      go_wp2
      go_meet
      show Std _ _ _ _ _
      unfold limS; rw [if_neg h4]; exact hs3
  case rest =>
    have hs4 := hcut
    clear hcut HW HE HN c6 hp c3 ht' hq
    obtain ⟨M2, hM2⟩ : ∃ M2, M2 = limS k a (nameM M1) := ⟨_, rfl⟩
    rw [← hM2] at hs4
    have e2 : Hid (M2.ss = M.ss ∧ M2.us = M.us ∧ M2.p.sv = M.p.sv ∧ M1.p.at_ ≤ M2.p.at_) := by
      have := limS_same k a (nameM M1)
      rw [hM2]
      exact ⟨this.1.trans hM1s.out.1, this.2.1.trans hM1s.out.2.1, this.2.2.1.trans ((nameM_sv M1).trans hM1s.out.2.2), by rw [this.2.2.2.2]; exact hat2⟩
    have HM2 := hid hM2
    clear hM2
    have c6 := hs4.out.m.p.cells.2.2.2.2.2.2.1
    rw [e2.out.2.2.1, HSV.out] at c6
    have HBI := hid (isBuiltIn_any b)
    go_upto_if 57 with (go_at_call 114; go_must (refine (HBI.out _).mono ?_; rintro e w5 ⟨rfl, hw5⟩; subst hw5))
    go_loopg [56, 7] k (fun gk j d wr => ∃ j' : Nat, j = .int .i64 (j' : Int) ∧ j' + gk = k ∧ d = .bool (builtN (nats b) || (M.ss.take j').any (fun m => nats m.b == nats b)) ∧ Hid (Std P T w0 wr M2))
    case atStart => exact ⟨0, rfl, by omega, by simp, hs4⟩
    case round =>
      obtain ⟨j, rfl, hj, rfl, hs5⟩ := hrel
      have d6 := hs5.out.m.p.cells.2.2.2.2.2.2.1
      rw [e2.out.2.2.1, HSV.out] at d6
      by_cases hlt : j < k
      · have hlt' : (j : Int) < (k : Int) := by omega
        obtain ⟨g, hao⟩ : ∃ g, sao = some ⟨g, 0, none⟩ := hsform'.out.resolve_left (by omega)
        subst hao
        have hjl : j < M.ss.length := by rw [← HK.out]; exact hlt
        obtain ⟨m, hm⟩ : ∃ m, M.ss[j]? = some m := ⟨_, List.getElem?_eq_getElem hjl⟩
        have cN := (hs5.out.m.sCells (e2.out.2.2.1.trans HSV.out) (HK.out.trans (by rw [e2.out.1])) (i := j) (m := m) (by rw [e2.out.1]; exact hm)).1
        have htk : Hid ((M.ss.take (j + 1)).any (fun m => nats m.b == nats b) = ((M.ss.take j).any (fun m => nats m.b == nats b) || (nats m.b == nats b))) := by
          show _ = _
          have e : M.ss[j] = m := by rw [List.getElem?_eq_getElem hjl] at hm; simpa using hm
          rw [List.take_succ_eq_append_getElem hjl, List.any_append, e]; simp
        clear hm
        obtain ⟨dd, hdd⟩ : ∃ dd, dd = (builtN (nats b) || (M.ss.take j).any (fun m => nats m.b == nats b)) := ⟨_, rfl⟩
        rw [← hdd]
        have hor : Hid ((builtN (nats b) || (M.ss.take (j + 1)).any (fun m => nats m.b == nats b)) = (dd || (nats m.b == nats b))) := by
          show _ = _; rw [htk.out, hdd, Bool.or_assoc]
        clear hdd
        cases dd with
        | true =>
          go_wp2
          go_roundg (gk - 1)
          case measure => omega
          case rel => exact ⟨j + 1, by go_num, by omega, by rw [hor.out]; rfl, hs5⟩
        | false =>
          have hq := str_beq m.b b
          cases hqq : (nats m.b == nats b) with
          | true =>
            rw [hqq] at hq
            go_wp2
            go_roundg (gk - 1)
            case measure => omega
            case rel => exact ⟨j + 1, by go_num, by omega, by rw [hor.out, hqq]; rfl, hs5⟩
          | false =>
            rw [hqq] at hq
            go_wp2
            go_roundg (gk - 1)
            case measure => omega
            case rel => exact ⟨j + 1, by go_num, by omega, by rw [hor.out, hqq]; rfl, hs5⟩
      · have hlt' : ¬ (j : Int) < (k : Int) := by omega
        have hall : (M.ss.take j).any (fun m => nats m.b == nats b) = M.ss.any (fun m => nats m.b == nats b) := by
          rw [List.take_of_length_le (by rw [← HK.out]; omega)]
        rw [hall]
        obtain ⟨dd, hdd⟩ : ∃ dd, dd = (builtN (nats b) || M.ss.any (fun m => nats m.b == nats b)) := ⟨_, rfl⟩
        rw [← hdd]
        have HDD := hid hdd
        clear hdd hall
        go_upto_if 74 with fail
        go_cut [7, 74] (fun v7 v74 wx => Hid (Std P T w0 wx (dupM dd a M2)))
        case first =>
          cases dd with
          | true =>
            have HF := hid (fail_std hs5.out a 3 (a : Int) 3 rfl rfl)
            go_wp2_with (first | (go_at_call 111; go_must (refine HF.out.mono ?_; rintro e w6 ⟨rfl, hs6, ho6⟩)))
            go_meet
            exact hs6
          | false =>
            go_wp2
            go_meet
            exact hs5
        case rest =>
          have hs6 := hcut
          clear hcut d6
          obtain ⟨M3, hM3⟩ : ∃ M3, M3 = dupM dd a M2 := ⟨_, rfl⟩
          rw [← hM3] at hs6
          have e3 : Hid (M3.ss = M.ss ∧ M3.us = M.us ∧ M3.p.sv = M.p.sv ∧ M1.p.at_ ≤ M3.p.at_) := by
            have := dupM_same dd a M2
            rw [hM3]
            exact ⟨this.1.trans e2.out.1, this.2.1.trans e2.out.2.1, this.2.2.1.trans e2.out.2.2.1, by rw [dupM_at]; exact e2.out.2.2.2⟩
          have hp3 : Hid (∀ v, strctS T (absM M fs) = scont T k (absM (addM M3 v b) [])) := fun v => by
            rw [hp2.out, hM3, HM2.out, strct_abs M M1 hM1s.out.1 hM1s.out.2.1 (by rw [HMA.out]; rfl) dd k a v b fs HDD.out]
          have hsv3 : Hid (M3.p.sv = .slice sao k scap) := e3.out.2.2.1.trans HSV.out
          have hk3 : Hid (k = M3.ss.length) := by rw [e3.out.1]; exact HK.out
          have hu3 : Hid (M3.ss.length + 1 ≤ M3.p.at_) := by
            have := e3.out.2.2.2
            rw [← hk3.out]; show k + 1 ≤ _; omega
          clear hM3 hp2
          obtain ⟨i6, hi6, hz0, hz1, hz2⟩ := info_parts Fadg.info189
          have c6b := hs6.out.m.p.cells.2.2.2.2.2.2.1
          rw [hsv3.out] at c6b
          have hs7 := hid (hs6.out.grow ((Below.refl _ _).alloc (Nat.le_refl _) (.cells #[.string b, .slice none 0 0, .int .u8 0, .int .u8 0] 189)))
          by_cases ht : M3.p.tok = 123
          · have HE := hid (fun wx v (hx : Std P T w0 wx (addM M3 v b)) => expect_std_yes hx 123 123 rfl ht)
            have hpl := hid (fun wx v (hx : Std P T w0 wx (addM M3 v b)) => bnd_exp_yes (fs := []) hx (k := 123) ht (fun _ => bnd (fieldsS T k (T.length + 1) 0) (fun _ s3 => onQ (expectQ T 125) (orderS k s3.q.a s3))))
            have HT := hid ht
            clear ht
            go_upto_if 98 with (first | (at_builtin; go_must (refine wpList_append_sep (B := P + 1) _ rfl (.tmp 83) (.tmp 86) 131 rfl 189 i6 _ 4 48 Fadg.underlying131 hi6 hz0 hz1 hz2 rfl (by decide) (.slice sao k scap) k (M3.ss.flatMap sc) rfl (ownS hs7.out.m.rs hsv3.out hk3.out) ⟨_, 0, none⟩ 1 1 (sc (newS b)) rfl rfl (four_new' _ _ _ _ _ _ _ (by simp)) (sc_one _ rfl) (by omega) (by decide) (Nat.succ_le_of_lt hs7.out.m.lt) ?_); intro ao n' cap w8 hn' hown8 hg8 hnew8; rw [← hsv3.out] at hg8 hnew8; have hs8 := hid (hs7.out.structed (hn'.out.trans (by rw [← hk3.out])) hown8 hg8 hnew8 hu3.out); have hpp := hid (hs7.out.grownS hg8); have g6 := hpp.out.cells.2.2.2.2.2.2.1; have g6f := hpp.out.2 6) | (go_at_call 112; go_must (refine (HE.out _ _ hs8.out).mono ?_; rintro e w9 ⟨rfl, hs9, ho9⟩; have c3 := hs9.m.p.cells.2.2.2.1)))
            have hs9 := hid hs9
            have hp4 : Hid (strctS T (absM M fs) = bnd (fieldsS T k (T.length + 1) 0) (fun _ s3 => onQ (expectQ T 125) (orderS k s3.q.a s3)) (absM (expM 123 (addM M3 (.slice ao n' cap) b)) [])) := by
              show _ = _
              rw [hp3.out (.slice ao n' cap)]
              unfold scont
              rw [hpl.out _ _ hs8.out]
            have hus9 : Hid ((expM 123 (addM M3 (.slice ao n' cap) b)).us = M.us) := ((expM_ss _ _).2.2).trans e3.out.2.1
            have hss9 : Hid ((expM 123 (addM M3 (.slice ao n' cap) b)).ss = M.ss ++ [newS b]) := ((expM_ss _ _).1).trans (by show M3.ss ++ [newS b] = _; rw [e3.out.1])
            clear hn' hown8 hg8 hnew8 hs8 hpp g6 g6f hpl HE hp3
            generalize expM 123 (addM M3 (.slice ao n' cap) b) = M5 at *
            clear c6b hs7 hz0 hz1 hz2 hi6
            go_loopg [9] (T.length + 1) (fun gk i wr => ∃ (i' : Nat) (Mx : MM) (m' : MS), i = .int .i64 (i' : Int) ∧ Hid (Std P T w0 wr Mx) ∧ Hid (Mx.ss = M.ss ++ [m']) ∧ Hid (i' = m'.fl.length) ∧ i' ≤ Mx.p.at_ ∧ Hid (∀ f ∈ m'.fl, 0 < f.b.size ∧ f.k < 256) ∧ Hid (∀ u ∈ Mx.us.map uOf, UB M.ss i' u) ∧ Hid (fieldsS T k gk i' (absM Mx (m'.fl.map ff)) = fieldsS T k (T.length + 1) 0 (absM M5 [])) ∧ T.length < Mx.p.at_ + gk)
            case atStart =>
              exact ⟨0, M5, newS b, rfl, hs9, hss9, rfl, Nat.zero_le _, hid (fun f hf => by cases hf), (by show ∀ u ∈ M5.us.map uOf, UB M.ss 0 u; rw [hus9.out]; exact UB.of hU.out 0), rfl, by omega⟩
            case round =>
              obtain ⟨i, Mx, m', rfl, hsx, hssx, hil, hia, hfl, hub, hfs, hgk⟩ := hrel
              have hwfx := hid hsx.out.wf
              have hlen := hsx.out.len
              have hi2 : i ≤ 1024 := by have := hwfx.out.ae; have := hwfx.out.en; have := hwfx.out.sz; omega
              have hax : Mx.p.at_ ≤ T.length := by have := hwfx.out.ae; have := hwfx.out.en; omega
              have ha2 : Mx.p.at_ ≤ 1024 := by have := hwfx.out.sz; omega
              obtain ⟨gk', rfl⟩ : ∃ gk', gk = gk' + 1 := ⟨gk - 1, by omega⟩
              have x3 := hsx.out.m.p.cells.2.2.2.1
              have x1 := hsx.out.m.p.cells.2.1
              by_cases ht : Mx.p.tok = 125
              · have ht' : ((Mx.p.tok : Int) == 125) = true := by simp [ht]
                have hfe := hid (hfs.out.symm.trans (fieldsS_end (s := absM Mx (m'.fl.map ff)) ht))
                have HO := hid (order_any P k Mx.p.at_ T w0 wr Mx M.ss m' hsx hssx HK hk2 ha2 hfl (by show _ ≤ 1024; rw [← hil.out]; exact hi2) (by rw [← hil.out]; exact UB.fd HK.out hub.out))
                have HT2 := hid ht
                clear ht
                have HE := hid (fun wx My (hx : Std P T w0 wx My) (ht : My.p.tok = 125) => expect_std_yes hx 125 125 rfl ht)
                go_wp2_with (first | (go_at_call 116; go_must (refine HO.out.mono ?_; rintro e w10 ⟨rfl, My, hsy, haby, ⟨m2, hmy, hm2⟩, huy⟩; have hty : My.p.tok = 125 := (congrArg (fun s => s.q.t) haby).trans ((orderS_t k _ _).trans HT2.out))) | (go_at_call 112; go_must (refine (HE.out _ _ hsy hty).mono ?_; rintro e w11 ⟨rfl, hs11, ho11⟩)))
                go_ret
                have hfin : strctS T (absM M fs) = (some (), absM (expM 125 My) (m'.fl.map ff)) := by
                  rw [hp4.out, bnd, hfe.out]
                  simp only
                  have e := abs_exp hsy 125 (m'.fl.map ff)
                  rw [if_pos hty, haby] at e
                  exact e
                rw [hfin]
                refine ⟨_, _, hs11, rfl, rfl, ?_⟩
                have hI := UB.last HK.out hub.out hil.out.symm hmy hm2 huy
                have e := expM_ss 125 My
                intro u hu
                rw [e.2.2] at hu
                rw [e.1]
                exact hI u hu
              · have ht' : ((Mx.p.tok : Int) == 125) = false := by simp; omega
                have HFI := hid (field_any P k i T w0 wr Mx M.ss m' hsx hssx HK hk2 hil hi2)
                have hfo := hid (hfs.out.symm.trans (fieldsS_on (s := absM Mx (m'.fl.map ff)) ht))
                have hubs := hid (UB.step (T := T) (s := absM Mx (m'.fl.map ff)) HK.out hub.out)
                have hfar := hid (fun u s' (h : fieldS T k i (absM Mx (m'.fl.map ff)) = (some u, s')) => fieldS_far h hwfx.out.tok)
                cases hf : fieldS T k i (absM Mx (m'.fl.map ff)) with
                | mk o s' =>
                  have HF := hid hf
                  rw [hf] at HFI
                  rw [hf] at hubs
                  clear hf ht
                  cases o with
                  | none =>
                    go_wp2_with (go_at_call 115; go_must (refine HFI.out.mono ?_; rintro e w10 ⟨My, fsy, hsy, haby, hcy, rfl⟩))
                    go_ret
                    have hfin : strctS T (absM M fs) = (none, absM My fsy) := by
                      rw [hp4.out, bnd, hfo.out, bnd, HF.out, haby]
                    rw [hfin]
                    exact ⟨_, _, hsy, rfl, hcy, rfl⟩
                  | some u =>
                    have hfar2 := hid (hfar.out u s' HF.out)
                    go_wp2_with (go_at_call 115; go_must (refine HFI.out.mono ?_; rintro e w10 ⟨My, fsy, hsy, haby, rfl, v9, f9, hmy, hfy, hf1, hf2⟩))
                    have hya : Mx.p.at_ + 1 ≤ My.p.at_ := by have h1 := hfar2.out; have h2 : My.p.at_ = s'.q.a := congrArg (fun s => s.q.a) haby; rw [h2]; exact h1
                    go_roundg gk'
                    case measure => omega
                    case rel =>
                      refine ⟨i + 1, My, _, by go_num, hsy, hmy, ?_, by omega, ?_, ?_, ?_, by omega⟩
                      · show i + 1 = (m'.fl ++ [f9]).length; rw [hil.out]; simp
                      · intro f hf
                        rcases List.mem_append.1 hf with hf | hf
                        · exact hfl.out f hf
                        · rw [List.mem_singleton.1 hf]; exact ⟨hf1, hf2⟩
                      · have e : My.us.map uOf = s'.uses := congrArg (fun s => s.uses) haby
                        rw [e]; exact hubs.out
                      · show _ = _
                        rw [hfo.out, bnd, HF.out]
                        simp only
                        rw [← haby, hfy]
          · have HE := hid (fun wx v (hx : Std P T w0 wx (addM M3 v b)) => expect_std_no hx 123 123 rfl ht)
            have hpl := hid (fun wx v (hx : Std P T w0 wx (addM M3 v b)) => bnd_exp_no (fs := []) hx (k := 123) ht (fun _ => bnd (fieldsS T k (T.length + 1) 0) (fun _ s3 => onQ (expectQ T 125) (orderS k s3.q.a s3))))
            have HT := hid ht
            clear ht
            go_wp2_with (first | (at_builtin; go_must (refine wpList_append_sep (B := P + 1) _ rfl (.tmp 83) (.tmp 86) 131 rfl 189 i6 _ 4 48 Fadg.underlying131 hi6 hz0 hz1 hz2 rfl (by decide) (.slice sao k scap) k (M3.ss.flatMap sc) rfl (ownS hs7.out.m.rs hsv3.out hk3.out) ⟨_, 0, none⟩ 1 1 (sc (newS b)) rfl rfl (four_new' _ _ _ _ _ _ _ (by simp)) (sc_one _ rfl) (by omega) (by decide) (Nat.succ_le_of_lt hs7.out.m.lt) ?_); intro ao n' cap w8 hn' hown8 hg8 hnew8; rw [← hsv3.out] at hg8 hnew8; have hs8 := hid (hs7.out.structed (hn'.out.trans (by rw [← hk3.out])) hown8 hg8 hnew8 hu3.out); have hpp := hid (hs7.out.grownS hg8); have g6 := hpp.out.cells.2.2.2.2.2.2.1; have g6f := hpp.out.2 6) | (go_at_call 112; go_must (refine (HE.out _ _ hs8.out).mono ?_; rintro e w9 ⟨rfl, hs9, ho9⟩)))
            go_ret
            rw [hp3.out]
            unfold scont
            rw [hpl.out _ _ hs8.out]
            exact ⟨_, _, hs9, rfl, expM_no HT.out, rfl⟩
/-- strct, whatever stands there. -/
theorem strct_any (P : Nat) (T : List Nat) (w0 w : World) (M : MM) (fs : List (List Nat × Nat)) (hS : Std P T w0 w M) (hU : InU M) :
    Calls Fadg.prog 71 #[.pointer (some ⟨P, 0, none⟩)] w (StrctPost P T w0 (strctS T (absM M fs))) := by
  by_cases h : M.p.tok = 97 ∧ nats (M.p.tx.extract M.p.at_ M.p.en) = STRUCT
  · cases hy : nameOk (nextP M.p) true with
    | true => exact strct_yes P T w0 w M fs hS hU h hy
    | false => exact strct_no P T w0 w M fs hS h hy
  · exact strct_bad P T w0 w M fs hS h
end Go.Proofs.Ygcfad
