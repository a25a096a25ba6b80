/-
  THE WALK of package rec's field.
-/
import Derived.Test.YgcfadRecFieldMem
import Derived.Test.YgcfadRecLaw2
namespace Go.Proofs.Ygcfad
open Go.RowKit Plain
set_option linter.unusedSimpArgs false
set_option linter.unusedVariables false

/-- field, behind its name. -/
def fconR (T : List Nat) (un : Bool) (nm : List Nat) (s1 : RSt) : RR Unit :=
  rbnd (expR T [64]) (fun _ s2 =>
      match ordR (tokR T s2) with
      | none => .error (s2.a, 1)
      | some n => rbnd (expR T [58]) (fun _ => rbnd (typR T un) (fun k => rbnd (dfltR T k) (fun _ s5 =>
          expR T [59] { s5 with fs := s5.fs ++ [⟨nm, k, un⟩], num := s5.num ++ [n] }))) (nextS T s2)) s1
section
variable {T : List Nat} {un : Bool} {s s1 s2 s3 s4 : RSt} {nm : List Nat} {x : Nat × Nat} {n k : Nat}
theorem fieldR_no (h : nameR T false s = .error x) : fieldR T un s = .error x := rbnd_error h
theorem fieldR_dup (h : nameR T false s = .ok (nm, s1)) (hd : s1.fs.any (fun f => f.n == nm) = true) : fieldR T un s = .error (s.a, 3) := by
  unfold fieldR; rw [rbnd_ok h, if_pos hd]
theorem fieldR_lim (h : nameR T false s = .ok (nm, s1)) (hd : s1.fs.any (fun f => f.n == nm) = false) (hl : 16 ≤ s1.fs.length) : fieldR T un s = .error (s.a, 2) := by
  unfold fieldR; rw [rbnd_ok h, if_neg (by rw [hd]; decide), if_pos hl]
theorem fieldR_con (h : nameR T false s = .ok (nm, s1)) (hd : s1.fs.any (fun f => f.n == nm) = false) (hl : ¬ 16 ≤ s1.fs.length) : fieldR T un s = fconR T un nm s1 := by
  unfold fieldR; rw [rbnd_ok h, if_neg (by rw [hd]; decide), if_neg hl]; rfl
/-- .. behind its number. -/
def fconR2 (T : List Nat) (un : Bool) (nm : List Nat) (n : Nat) (s3 : RSt) : RR Unit :=
  rbnd (typR T un) (fun k => rbnd (dfltR T k) (fun _ s5 => expR T [59] { s5 with fs := s5.fs ++ [⟨nm, k, un⟩], num := s5.num ++ [n] })) s3
theorem fconR_no1 (h : expR T [64] s1 = .error x) : fconR T un nm s1 = .error x := rbnd_error h
theorem fconR_no2 (h : expR T [64] s1 = .ok ((), s2)) (ho : ordR (tokR T s2) = none) : fconR T un nm s1 = .error (s2.a, 1) := by
  unfold fconR; rw [rbnd_ok h, ho]
theorem fconR_no3 (h : expR T [64] s1 = .ok ((), s2)) (ho : ordR (tokR T s2) = some n) (h3 : expR T [58] (nextS T s2) = .error x) : fconR T un nm s1 = .error x := by
  unfold fconR; rw [rbnd_ok h, ho]; exact rbnd_error h3
theorem fconR_go (h : expR T [64] s1 = .ok ((), s2)) (ho : ordR (tokR T s2) = some n) (h3 : expR T [58] (nextS T s2) = .ok ((), s3)) : fconR T un nm s1 = fconR2 T un nm n s3 := by
  unfold fconR; rw [rbnd_ok h, ho]; exact rbnd_ok h3
theorem fconR2_no (h : typR T un s3 = .error x) : fconR2 T un nm n s3 = .error x := rbnd_error h
theorem fconR2_no2 (h : typR T un s3 = .ok (k, s4)) (hd : dfltR T k s4 = .error x) : fconR2 T un nm n s3 = .error x := by
  unfold fconR2; rw [rbnd_ok h]; exact rbnd_error hd
theorem fconR2_go {s5 : RSt} (h : typR T un s3 = .ok (k, s4)) (hd : dfltR T k s4 = .ok ((), s5)) : fconR2 T un nm n s3 = expR T [59] { s5 with fs := s5.fs ++ [⟨nm, k, un⟩], num := s5.num ++ [n] } := by
  unfold fconR2; rw [rbnd_ok h]; exact rbnd_ok hd
end
theorem RAt.lt {P : Nat} {w : World} {p : RS} (h : RAt P w p) : P < w.heap.size := by
  have h0 := h.1 0 (by decide)
  rcases Nat.lt_or_ge P w.heap.size with hl | hl
  · exact hl
  · unfold World.cell? at h0
    rw [Array.getElem?_eq_none hl] at h0
    cases h0
theorem RFail.alloc {P : Nat} {w0 w : World} {x : Nat × Nat} (h : RFail P w0 x w) (o : Obj) : RFail P w0 x (w.alloc o) := by
  obtain ⟨p', h1, h2, h3, h4⟩ := h
  exact ⟨p', h1.same (Below.heap_alloc w o P h1.lt), h2, h3, h4.alloc (Nat.le_of_lt h1.lt) o⟩
theorem any_gf (l : List RF) (nm : List Nat) : (l.map gf).any (fun f => f.n == nm) = l.any (fun f => nats f.b == nm) := by rw [List.any_map]; rfl

set_option maxRecDepth 100000 in
set_option maxHeartbeats 8000000 in
theorem fieldR_any (P B : Nat) (T : List Nat) (w0 w : World) (M : RM) (m : SR) (rs : List Row) (un : Bool) (hS : Hid (RStd P T w0 w M (qB B m :: qF m :: rs))) (hns : Hid (M.ns.length = m.fl.length)) :
    Calls Fadg.prog 124 #[.pointer (some ⟨P, 0, none⟩), .pointer (some ⟨B, 0, none⟩), .bool un] w (FieldRPost P T w0 M B m rs (fieldR T un (absR M m.fl))) := by
  have c1 := hS.out.p.cells.2.1
  have hPB : P < B := (hS.out.headR.lt (g := B) rfl).1
  cases hnm : nameR T false (absR M m.fl) with
  | error x =>
    have HM := hid (nameR_no hS.out hnm)
    have hp := hid (fieldR_no (un := un) hnm)
    clear hnm
    go_enter Fadg.func124, Fadg.ntmps124
    go_wp2_with (go_at_call 120; go_must (refine HM.out.mono ?_; rintro e w1 ⟨rfl, hf1, q1, ho1⟩))
    go_ret
    rw [hp.out]
    exact ⟨rfl, hf1⟩
  | ok r =>
    obtain ⟨nm, s1⟩ := r
    obtain ⟨HM, hnm1, hnm2, hlt, hsz⟩ := nameR_yes hS.out hnm
    subst hnm1 hnm2
    have HNM := hid hnm
    have HM := hid HM
    have HLT := hid hlt
    have HSZ := hid hsz
    clear hnm hlt hsz
    obtain ⟨b, hb⟩ : ∃ b, b = tokM M := ⟨_, rfl⟩
    rw [← hb] at HM HNM HSZ
    clear hb
    obtain ⟨a0, ha0⟩ : ∃ a0, a0 = M.p.at_ := ⟨_, rfl⟩
    rw [← ha0] at c1
    have HA0 : Hid ((absR M m.fl).a = a0) := ha0.symm
    have HA1 : Hid (M.p.at_ = a0) := ha0.symm
    clear ha0
    obtain ⟨ao, fcap, hfv, hform⟩ := RStd.fForm hS.out.less.headR
    obtain ⟨nf, hnf⟩ : ∃ nf, nf = m.fl.length := ⟨_, rfl⟩
    rw [← hnf] at hfv hform
    have hnf2 : nf ≤ 16 := by rw [hnf, ← hns.out]; exact hS.out.wf.ns
    have HNF := hid hnf
    have HFV := hid hfv
    have hform := hid hform
    have hread : Hid (∀ wx Mx, RStd P T w0 wx Mx (qB B m :: qF m :: rs) → wx.cell? ⟨B, 1, none⟩ = some (.slice ao nf fcap)) := fun wx Mx hx => by
      rw [qB_at hx.headR 1 (by decide), ← HFV.out]; rfl
    clear hnf hfv
    go_enter Fadg.func124, Fadg.ntmps124
    go_upto_if 32 with (go_at_call 120; go_must (refine HM.out.mono ?_; rintro e w1 ⟨rfl, hs1, q1, ho1⟩; have cF := hread.out _ _ hs1))
    have hs1 := hid hs1
    clear HM
    go_loopg [31] nf (fun gk j wr => ∃ j' : Nat, j = .int .i64 (j' : Int) ∧ j' + gk = nf ∧ Hid (RStd P T w0 wr (nextM M) (qB B m :: qF m :: rs)) ∧ Hid ((m.fl.take j').any (fun f => nats f.b == nats b) = false))
    case atStart => exact ⟨0, rfl, by omega, hs1, rfl⟩
    case round =>
      obtain ⟨j, rfl, hj, hs2, hno⟩ := hrel
      clear cF
      by_cases hlt : j < nf
      · have hlt' : (j : Int) < (nf : Int) := by omega
        obtain ⟨g, hao⟩ : ∃ g, ao = some ⟨g, 0, none⟩ := hform.out.resolve_left (by omega)
        subst hao
        have hjl : j < m.fl.length := by rw [← HNF.out]; exact hlt
        obtain ⟨f, hf⟩ : ∃ f, m.fl[j]? = some f := ⟨_, List.getElem?_eq_getElem hjl⟩
        have HC := hid (qF_load hs2.out.less.headR HFV.out HNF.out hf)
        have htk : Hid ((m.fl.take (j + 1)).any (fun f => nats f.b == nats b) = (nats f.b == nats b)) := by
          show _ = _
          have e : m.fl[j] = f := by rw [List.getElem?_eq_getElem hjl] at hf; simpa using hf
          rw [List.take_succ_eq_append_getElem hjl, List.any_append, e, hno.out]; simp
        have hall : Hid ((nats f.b == nats b) = true → m.fl.any (fun f => nats f.b == nats b) = true) := fun h => List.any_eq_true.2 ⟨f, List.mem_of_getElem? hf, h⟩
        clear hf
        have hs3 := hid (hs2.out.alloc (.cells #[.string f.b, .int .u8 (f.k : Int), .int .u8 (f.e : Int), .int .u8 (f.r : Int), .int .u8 f.ns, .int .u8 f.q1, .int .u16 f.q2, .int .u8 f.q3, .bool f.q4, .int .u64 f.d, .bool f.u] 212))
        have hq := str_beq f.b b
        cases hqq : (nats f.b == nats b) with
        | true =>
          rw [hqq] at hq
          have hp : Hid (fieldR T un (absR M m.fl) = .error (a0, 3)) := by
            show _ = _
            rw [fieldR_dup HNM.out (by rw [show (absR (nextM M) m.fl).fs = m.fl.map gf from rfl, any_gf]; exact hall.out hqq), HA0.out]
          have HF := hid (failAt_std hs3.out a0 3 (a0 : Int) 3 rfl rfl)
          clear hqq
          go_wp2_with (first | (refine wpList_load_cells' rfl 212 (.tmp 33) rfl ⟨g, j * 11, none⟩ rfl _ _ HC.out Fadg.underlying212 rfl Fadg.len212 ?_) | (go_at_call 121; go_must (refine HF.out.mono ?_; rintro e w4 ⟨rfl, hf4, ho4⟩)))
          go_ret
          rw [hp.out]
          exact ⟨rfl, hf4⟩
        | false =>
          rw [hqq] at hq
          have HQ := hid hqq
          clear hqq
          go_wp2_with (refine wpList_load_cells' rfl 212 (.tmp 33) rfl ⟨g, j * 11, none⟩ rfl _ _ HC.out Fadg.underlying212 rfl Fadg.len212 ?_)
          go_roundg (gk - 1)
          case measure => omega
          case rel => exact ⟨j + 1, by go_num, by omega, hs3, by rw [htk.out]; exact HQ.out⟩
      · have hlt' : ¬ (j : Int) < (nf : Int) := by omega
        have hdup : Hid ((absR (nextM M) m.fl).fs.any (fun f => f.n == nats b) = false) := by
          show _ = _
          rw [show (absR (nextM M) m.fl).fs = m.fl.map gf from rfl, any_gf, ← hno.out, List.take_of_length_le (by rw [← HNF.out]; omega)]
        have hfl : Hid ((absR (nextM M) m.fl).fs.length = nf) := by show (m.fl.map gf).length = nf; rw [List.length_map, HNF.out]
        have cF := hread.out _ _ hs2.out
        by_cases h16 : 16 ≤ nf
        · have h16' : (16 : Int) ≤ (nf : Int) := by omega
          have hp : Hid (fieldR T un (absR M m.fl) = .error (a0, 2)) := by
            show _ = _
            rw [fieldR_lim HNM.out hdup.out (by rw [hfl.out]; exact h16), HA0.out]
          have HF := hid (failAt_std hs2.out a0 2 (a0 : Int) 2 rfl rfl)
          go_wp2_with (go_at_call 121; go_must (refine HF.out.mono ?_; rintro e w4 ⟨rfl, hf4, ho4⟩))
          go_ret
          rw [hp.out]
          exact ⟨rfl, hf4⟩
        · have h16' : ¬ (16 : Int) ≤ (nf : Int) := by omega
          have hcon := hid (fieldR_con (un := un) HNM.out hdup.out (by rw [hfl.out]; exact h16))
          by_cases hA : nats (tokM (nextM M)) = [64]
          · have HE := hid (expectR_yes hs2.out ⟨#[64]⟩ hA)
            have hpA := hid (abs_exp_yes hs2.out hA m.fl)
            clear hA
            go_upto_if 54 with (go_at_call 119; go_must (refine HE.out.mono ?_; rintro e w3 ⟨rfl, hs3, q3, ho3⟩))
            have hs3 := hid hs3
            obtain ⟨M2, hM2⟩ : ∃ M2, M2 = nextM (nextM M) := ⟨_, rfl⟩
            rw [← hM2] at hs3 hpA
            have HM2 := hid hM2
            clear hM2 HE cF hs2
            have habt := hid (abs_tok hs3.out m.fl)
            have habn := hid (abs_next hs3.out m.fl)
            have HTK := hid (tok_std hs3.out)
            have HOR := hid (fun wx => ordinal_any (tokM M2) wx (by have := tokM_size hs3.out; omega))
            cases hor : ordR (nats (tokM M2)) with
            | none =>
              rw [hor] at HOR
              have hp : Hid (fieldR T un (absR M m.fl) = .error (M2.p.at_, 1)) := by
                show _ = _
                rw [hcon.out, fconR_no2 hpA.out (by rw [habt.out]; exact hor)]; rfl
              have HF := hid (fun q => rfail_std (hs3.out.drew q) 1 1 rfl)
              clear hor
              go_wp2_with (first | (go_at_call 74; go_must (refine HTK.out.mono ?_; rintro e w4 ⟨rfl, q4, hw4⟩; subst hw4)) | (go_at_call 154; go_must (refine (HOR.out _).mono ?_; rintro e w5 ⟨rfl, hw5⟩; subst hw5)) | (go_at_call 151; go_must (refine (HF.out _).mono ?_; rintro e w6 ⟨rfl, hf6, ho6⟩)))
              go_ret
              rw [hp.out]
              exact ⟨rfl, hf6⟩
            | some n =>
              rw [hor] at HOR
              have HOR2 := hid hor
              have hn16 : n ≤ 16 := by
                unfold ordR at hor; split at hor
                · cases hor; exact valN_le 0 _ (by omega)
                · cases hor
              clear hor
              have HN := hid (fun q => rnext_std (hs3.out.drew q))
              go_upto_region 19 with (first | (go_at_call 74; go_must (refine HTK.out.mono ?_; rintro e w4 ⟨rfl, q4, hw4⟩; subst hw4)) | (go_at_call 154; go_must (refine (HOR.out _).mono ?_; rintro e w5 ⟨rfl, hw5⟩; subst hw5)) | (go_at_call 73; go_must (refine (HN.out _).mono ?_; rintro e w6 ⟨rfl, hs6, ho6⟩)))
              have hs6 := hid hs6
              clear HTK HOR HN
              by_cases hB : nats (tokM (nextM M2)) = [58]
              · have HE := hid (expectR_yes hs6.out ⟨#[58]⟩ hB)
                have hpB := hid (abs_exp_yes hs6.out hB m.fl)
                clear hB
                have hgo : Hid (fieldR T un (absR M m.fl) = fconR2 T un (nats b) n (absR (nextM (nextM M2)) m.fl)) := by
                  show _ = _
                  rw [hcon.out]
                  exact fconR_go hpA.out (by rw [habt.out]; exact HOR2.out) (by rw [← habn.out]; exact hpB.out)
                go_upto_region 21 with (go_at_call 119; go_must (refine HE.out.mono ?_; rintro e w7 ⟨rfl, hs7, q7, ho7⟩))
                have hs7 := hid hs7
                obtain ⟨M4, hM4⟩ : ∃ M4, M4 = nextM (nextM M2) := ⟨_, rfl⟩
                rw [← hM4] at hs7 hgo
                have hM4s : Hid (SameR M M4) := by rw [hM4, HM2.out]; exact (SameR.refl M).next.next.next.next
                have hM4a : Hid (M.p.at_ + 1 ≤ M4.p.at_) := by
                  have h1 := next_at hS.out
                  have h2 : (nextM M).p.at_ ≤ M2.p.at_ := by
                    rw [HM2.out]; have := next_at hs1.out; have := hs1.out.wf.ae; omega
                  have h3 : M2.p.at_ ≤ (nextM M2).p.at_ := by have := next_at hs3.out; have := hs3.out.wf.ae; omega
                  have h4 : (nextM M2).p.at_ ≤ M4.p.at_ := by rw [hM4]; have := next_at hs6.out; have := hs6.out.wf.ae; omega
                  have h5 := HLT.out
                  show _ ≤ _; omega
                clear hM4 HE hs6 hs3 HM2 habt habn hpA hpB hcon HOR2
                have HT := hid (typR_any P T w0 w7 M4 (qB B m :: qF m :: rs) m.fl un hs7)
                cases hty : typR T un (absR M4 m.fl) with
                | error x =>
                  rw [hty] at HT
                  have hp : Hid (fieldR T un (absR M m.fl) = .error x) := hgo.out.trans (fconR2_no hty)
                  clear hty
                  go_wp2_with (go_at_call 155; go_must (refine HT.out.mono ?_; rintro e w8 ⟨⟨t, rfl⟩, hf8⟩))
                  go_ret
                  rw [hp.out]
                  exact ⟨rfl, hf8.alloc _⟩
                | ok r =>
                  obtain ⟨k, s4⟩ := r
                  rw [hty] at HT
                  have HTY := hid hty
                  clear hty
                  go_upto_region 24 with (go_at_call 155; go_must (refine HT.out.mono ?_; rintro e w8 ⟨M5, t, rfl, htk, hk14, hs8, hab5, hsame5, href5⟩))
                  subst htk hab5
                  have hs9 := hid (hs8.newT t)
                  have HCT := hid (qT_load hs9.out.headR)
                  have hs10 := hid (hs9.out.newV ⟨b, t.k, t.e, t.r, t.ns, 0, 0, 0, false, 0, un⟩)
                  rw [show (w8.alloc (.cells #[.int .u8 (t.k : Int), .int .u8 (t.e : Int), .int .u8 (t.r : Int), .int .u8 t.ns] 194)).heap.size = w8.heap.size + 1 by simp] at hs10
                  have hVP : P < w8.heap.size := hs8.lt
                  have hVP2 : P < w8.heap.size + 1 := by omega
                  go_upto_region 25 with (refine wpList_load_cells' rfl 194 (.tmp 13) rfl ⟨w8.heap.size, 0, none⟩ rfl _ _ HCT.out Fadg.underlying194 rfl Fadg.len194 ?_)
                  clear hs8 HCT HT hs7
                  generalize ((w8.alloc (.cells #[.int .u8 (t.k : Int), .int .u8 (t.e : Int), .int .u8 (t.r : Int), .int .u8 t.ns] 194)).alloc (.cells #[.string b, .int .u8 (t.k : Int), .int .u8 (t.e : Int), .int .u8 (t.r : Int), .int .u8 t.ns, .int .u8 0, .int .u16 0, .int .u8 0, .bool false, .int .u64 0, .bool un] 212)) = w10 at *
                  generalize w8.heap.size + 1 = V2 at *
                  clear hs9
                  generalize w8.heap.size = V1 at *
                  obtain ⟨eqb, heqb⟩ : ∃ eqb, eqb = decide (nats (tokM M5) = [61]) := ⟨_, rfl⟩
                  have hlit : ((tokM M5).toList == [61]) = eqb := by rw [str_lit, heqb, Bool.eq_iff_iff]; simp
                  have HEQ := hid heqb
                  clear heqb
                  have HTK := hid (tok_std hs10.out)
                  have habt := hid (abs_tok hs10.out m.fl)
                  have habn := hid (abs_next hs10.out m.fl)
                  go_upto_if 84 with (go_at_call 74; go_must (refine HTK.out.mono ?_; rintro e w11 ⟨rfl, q11, hw11⟩; have hs11 : Hid (RStd P T w0 w11 M5 (qV V2 ⟨b, t.k, t.e, t.r, t.ns, 0, 0, 0, false, 0, un⟩ :: qT V1 t :: qB B m :: qF m :: rs)) := (by rw [hw11]; exact hs10.out.drew q11); clear hw11))
                  clear hs10 HTK
                  go_cut [9, 84] (fun v9 v84 wx => ∃ (M7 : RM) (d : Int), Hid (RStd P T w0 wx M7 (qV V2 ⟨b, t.k, t.e, t.r, t.ns, 0, 0, 0, false, d, un⟩ :: qT V1 t :: qB B m :: qF m :: rs)) ∧ Hid (dfltR T t.k (absR M5 m.fl) = .ok ((), absR M7 m.fl)) ∧ Hid (SameR M5 M7))
                  case first =>
                    cases eqb with
                    | true =>
                      have hdf : Hid (dfltR T t.k (absR M5 m.fl) = valueR T t.k (absR (nextM M5) m.fl)) := by
                        show _ = _
                        unfold dfltR; rw [habt.out, if_pos (of_decide_eq_true HEQ.out.symm), ← habn.out]
                      have HN := hid (rnext_std hs11.out)
                      go_upto_region 27 with (go_at_call 73; go_must (refine HN.out.mono ?_; rintro e w12 ⟨rfl, hs12, ho12⟩))
                      have hs12 := hid hs12
                      have v0 := (qT_cells hs12.out.less.headR).1
                      have HV := hid (valueR_any P T w0 w12 (nextM M5) _ m.fl t.k (by omega) hs12.out)
                      cases hva : valueR T t.k (absR (nextM M5) m.fl) with
                      | error x =>
                        rw [hva] at HV
                        have hp : Hid (fieldR T un (absR M m.fl) = .error x) := hgo.out.trans (fconR2_no2 HTY.out (hdf.out.trans hva))
                        clear hva
                        go_wp2_with (go_at_call 156; go_must (refine HV.out.mono ?_; rintro e w13 ⟨rfl, hf13, w14, ho14, M14, hs14⟩; have u9 := qV_at (hs14.headR.only ho14) 9 (by decide); have uf := qV_fr (hs14.headR.only ho14) 9; simp only [gc, List.getElem?_cons_zero, List.getElem?_cons_succ] at u9))
                        go_ret
                        rw [hp.out]
                        exact ⟨rfl, hf13.set hVP2⟩
                      | ok r =>
                        obtain ⟨u, s6⟩ := r
                        rw [hva] at HV
                        have hdf2 : Hid (dfltR T t.k (absR M5 m.fl) = .ok (u, s6)) := hdf.out.trans hva
                        clear hva
                        go_wp2_with (go_at_call 156; go_must (refine HV.out.mono ?_; rintro e w13 ⟨M7, v, rfl, hs13, hab7, hsame7⟩; have u9 := qV_at hs13.headR 9 (by decide); have uf := qV_fr hs13.headR 9; simp only [gc, List.getElem?_cons_zero, List.getElem?_cons_succ] at u9))
                        go_meet
                        refine ⟨M7, v, hs13.setD v, ?_, (SameR.refl M5).next.trans hsame7⟩
                        show _ = _; rw [hdf2.out, hab7]
                    | false =>
                      have hdf : Hid (dfltR T t.k (absR M5 m.fl) = .ok ((), absR M5 m.fl)) := by
                        show _ = _
                        unfold dfltR; rw [habt.out, if_neg (of_decide_eq_false HEQ.out.symm)]
                      go_wp2
                      go_meet
                      exact ⟨M5, 0, hs11, hdf, SameR.refl M5⟩
                  case rest =>
                    obtain ⟨M7, d, hs12, hdf, hsame7⟩ := hcut
                    clear hs11 hlit habt habn
                    obtain ⟨i8, hi8, hz0, hz1, hz2⟩ := info_parts Fadg.info212
                    have huc := hid (fun (jj : Nat) (hjj : jj < 11) => qV_at hs12.out.headR jj hjj)
                    have u0 := huc.out 0 (by decide)
                    have u1 := huc.out 1 (by decide)
                    have u2 := huc.out 2 (by decide)
                    have u3 := huc.out 3 (by decide)
                    have u4 := huc.out 4 (by decide)
                    have u5' := huc.out 5 (by decide)
                    have u6' := huc.out 6 (by decide)
                    have u7' := huc.out 7 (by decide)
                    have u8' := huc.out 8 (by decide)
                    have u9' := huc.out 9 (by decide)
                    have u10' := huc.out 10 (by decide)
                    simp only [gc, List.getElem?_cons_zero, List.getElem?_cons_succ] at u0 u1 u2 u3 u4 u5' u6' u7' u8' u9' u10'
                    have hs13 := hid hs12.out.less.less
                    have cF7 := hread.out _ _ hs13.out
                    go_upto_region 30 with fail
                    go_cut [] (fun wx => ∃ v, Hid (RStd P T w0 wx M7 (qB B { m with fv := v, fl := m.fl ++ [⟨b, t.k, t.e, t.r, t.ns, 0, 0, 0, false, d, un⟩] } :: qF { m with fv := v, fl := m.fl ++ [⟨b, t.k, t.e, t.r, t.ns, 0, 0, 0, false, d, un⟩] } :: rs)))
                    case first =>
                      have hsB := hid (hs13.out.alloc (.cells #[.string b, .int .u8 (t.k : Int), .int .u8 (t.e : Int), .int .u8 (t.r : Int), .int .u8 t.ns, .int .u8 0, .int .u16 0, .int .u8 0, .bool false, .int .u64 d, .bool un] 212))
                      have cFB := hread.out _ _ hsB.out
                      have hown2 := hid (ownFR hsB.out.less.headR HFV.out HNF.out)
                      have hsD := hid hsB.out.drew1
                      go_region_law (refine step_append_sep (B := P + 1) _ rfl (.tmp 101) (.tmp 103) 202 rfl 212 i8 _ 11 48 Fadg.underlying202 hi8 hz0 hz1 hz2 rfl (by decide) (.slice ao nf fcap) nf (m.fl.flatMap gc) rfl hown2.out ⟨_, 0, none⟩ 1 1 (gc ⟨b, t.k, t.e, t.r, t.ns, 0, 0, 0, false, d, un⟩) rfl rfl (eleven_new _ ⟨b, t.k, t.e, t.r, t.ns, 0, 0, 0, false, d, un⟩ _ (by simp)) (gc_one _) (by decide) (by omega) (by decide) ?_ (Nat.succ_le_of_lt hsB.out.lt); intro ao8 n8 cap8 w8' hn8 hown8 hg8 hnew8; have hc8 := hid (hsD.out.fielded HFV.out (hn8.out.trans (by rw [HNF.out])) hown8 hg8 hnew8); have hc9 := qB_at hc8.out.2 1 (by decide); have hc10 := qB_fr hc8.out.2 1; simp only [hc, List.getElem?_cons_zero, List.getElem?_cons_succ] at hc9)
                      all_goals go_wp2_with fail
                      all_goals go_meet
                      all_goals exact ⟨_, hc8.out.1⟩
                    case rest =>
                      obtain ⟨v14, hs14⟩ := hcut
                      clear hs12 hs13 cF7 u0 u1 u2 u3 u4 u5' u6' u7' u8' u9' u10' huc
                      have hsame : Hid (SameR M M7) := (hM4s.out.trans hsame5).trans hsame7.out
                      obtain ⟨nao, ncap, hnv, hnform⟩ := hs14.out.okN.form'
                      have hnl : M7.ns.length = nf := by rw [hsame.out.ns, hns.out, HNF.out]
                      have HNV : Hid (M7.p.nv = .slice nao nf ncap) := by rw [← hnl]; exact hnv
                      have HNL : Hid (nf = M7.ns.length) := hnl.symm
                      clear hnv hnform hnl
                      obtain ⟨i3, hi3, hy0, hy1, hy2⟩ := info_parts Fadg.info3
                      have c5 := hs14.out.p.cells.2.2.2.2.2.1
                      rw [HNV.out] at c5
                      have hs15 := hid (hs14.out.alloc (.cells #[.int .i64 (n : Int)] 3))
                      have hu15 : Hid (M7.ns.length + 1 ≤ 16) := by show _ ≤ _; rw [← HNL.out]; omega
                      have hgo2 : Hid (∀ v, fieldR T un (absR M m.fl) = expR T [59] (absR (numR M7 v n) (m.fl ++ [⟨b, t.k, t.e, t.r, t.ns, 0, 0, 0, false, d, un⟩]))) := fun v => by
                        rw [hgo.out, fconR2_go HTY.out hdf.out]
                        unfold absR numR; simp [gf]
                      have hus : Hid (RefF M7.us.length ⟨b, t.k, t.e, t.r, t.ns, 0, 0, 0, false, d, un⟩) := fun h => Nat.lt_of_lt_of_le (href5 h) hsame7.out.us
                      clear hgo HTY hdf
                      by_cases hD : nats (tokM M7) = [59]
                      · have HE := hid (fun wx v (hx : RStd P T w0 wx (numR M7 v n) (qB B { m with fv := v14, fl := m.fl ++ [⟨b, t.k, t.e, t.r, t.ns, 0, 0, 0, false, d, un⟩] } :: qF { m with fv := v14, fl := m.fl ++ [⟨b, t.k, t.e, t.r, t.ns, 0, 0, 0, false, d, un⟩] } :: rs)) => expectR_yes hx ⟨#[59]⟩ hD)
                        have hpl := hid (fun wx v (hx : RStd P T w0 wx (numR M7 v n) (qB B { m with fv := v14, fl := m.fl ++ [⟨b, t.k, t.e, t.r, t.ns, 0, 0, 0, false, d, un⟩] } :: qF { m with fv := v14, fl := m.fl ++ [⟨b, t.k, t.e, t.r, t.ns, 0, 0, 0, false, d, un⟩] } :: rs)) => abs_exp_yes hx hD (m.fl ++ [⟨b, t.k, t.e, t.r, t.ns, 0, 0, 0, false, d, un⟩]))
                        clear hD
                        go_wp2_with (first | (at_builtin; go_must (refine wpList_append_sep (B := P + 1) _ rfl (.tmp 111) (.tmp 113) 140 rfl 3 i3 _ 1 8 Fadg.underlying140 hi3 hy0 hy1 hy2 rfl (by decide) (.slice nao nf ncap) nf (M7.ns.flatMap nc) rfl (ownN hs15.out.okN HNV.out HNL.out) ⟨_, 0, none⟩ 1 1 (nc n) rfl rfl (one_new _ _ _ _ (by simp)) (nc_one _) (by omega) (by decide) (Nat.succ_le_of_lt hs15.out.lt) ?_); intro ao9 n9 cap9 w16 hn9 hown9 hg9 hnew9; rw [← HNV.out] at hg9 hnew9; have hs16 := hid (hs15.out.numbered (hn9.out.trans (by rw [← HNL.out])) hown9 hg9 hnew9 hu15.out); have hpp := hid (hs15.out.grownN hg9); have g5 := hpp.out.cells.2.2.2.2.2.1; have g5f := hpp.out.2 5) | (go_at_call 119; go_must (refine (HE.out _ _ hs16.out).mono ?_; rintro e w17 ⟨rfl, hs17, q17, ho17⟩)))
                        go_ret
                        have hfin := (hgo2.out _).trans (hpl.out _ _ hs16.out)
                        have hfar := field_far hfin
                        rw [hfin]
                        refine ⟨rfl, _, _, _, hs17, rfl, rfl, rfl, ⟨HSZ.out, hk14, hus.out⟩, hsame.out.ss, hsame.out.sv, ?_, hsame.out.us, hfar⟩
                        show (M7.ns ++ [n]).length = _
                        rw [List.length_append, hsame.out.ns]; rfl
                      · have HE := hid (fun wx v (hx : RStd P T w0 wx (numR M7 v n) (qB B { m with fv := v14, fl := m.fl ++ [⟨b, t.k, t.e, t.r, t.ns, 0, 0, 0, false, d, un⟩] } :: qF { m with fv := v14, fl := m.fl ++ [⟨b, t.k, t.e, t.r, t.ns, 0, 0, 0, false, d, un⟩] } :: rs)) => expectR_no hx ⟨#[59]⟩ hD)
                        have hpl := hid (fun wx v (hx : RStd P T w0 wx (numR M7 v n) (qB B { m with fv := v14, fl := m.fl ++ [⟨b, t.k, t.e, t.r, t.ns, 0, 0, 0, false, d, un⟩] } :: qF { m with fv := v14, fl := m.fl ++ [⟨b, t.k, t.e, t.r, t.ns, 0, 0, 0, false, d, un⟩] } :: rs)) => abs_exp_no hx hD (m.fl ++ [⟨b, t.k, t.e, t.r, t.ns, 0, 0, 0, false, d, un⟩]))
                        clear hD
                        go_wp2_with (first | (at_builtin; go_must (refine wpList_append_sep (B := P + 1) _ rfl (.tmp 111) (.tmp 113) 140 rfl 3 i3 _ 1 8 Fadg.underlying140 hi3 hy0 hy1 hy2 rfl (by decide) (.slice nao nf ncap) nf (M7.ns.flatMap nc) rfl (ownN hs15.out.okN HNV.out HNL.out) ⟨_, 0, none⟩ 1 1 (nc n) rfl rfl (one_new _ _ _ _ (by simp)) (nc_one _) (by omega) (by decide) (Nat.succ_le_of_lt hs15.out.lt) ?_); intro ao9 n9 cap9 w16 hn9 hown9 hg9 hnew9; rw [← HNV.out] at hg9 hnew9; have hs16 := hid (hs15.out.numbered (hn9.out.trans (by rw [← HNL.out])) hown9 hg9 hnew9 hu15.out); have hpp := hid (hs15.out.grownN hg9); have g5 := hpp.out.cells.2.2.2.2.2.1; have g5f := hpp.out.2 5) | (go_at_call 119; go_must (refine (HE.out _ _ hs16.out).mono ?_; rintro e w17 ⟨rfl, hf17, q17, ho17⟩)))
                        go_ret
                        rw [(hgo2.out _).trans (hpl.out _ _ hs16.out)]
                        exact ⟨rfl, hf17⟩
              · have HE := hid (expectR_no hs6.out ⟨#[58]⟩ hB)
                have hpB := hid (abs_exp_no hs6.out hB m.fl)
                clear hB
                have hp : Hid (fieldR T un (absR M m.fl) = .error ((nextM M2).p.at_, 1)) := by
                  show _ = _
                  rw [hcon.out]
                  exact fconR_no3 hpA.out (by rw [habt.out]; exact HOR2.out) (by rw [← habn.out]; exact hpB.out)
                go_wp2_with (go_at_call 119; go_must (refine HE.out.mono ?_; rintro e w7 ⟨rfl, hf7, q7, ho7⟩))
                go_ret
                rw [hp.out]
                exact ⟨rfl, hf7⟩
          · have HE := hid (expectR_no hs2.out ⟨#[64]⟩ hA)
            have hpA := hid (abs_exp_no hs2.out hA m.fl)
            clear hA
            have hp : Hid (fieldR T un (absR M m.fl) = .error ((nextM M).p.at_, 1)) := by
              show _ = _
              rw [hcon.out]; exact fconR_no1 hpA.out
            go_wp2_with (go_at_call 119; go_must (refine HE.out.mono ?_; rintro e w3 ⟨rfl, hf3, q3, ho3⟩))
            go_ret
            rw [hp.out]
            exact ⟨rfl, hf3⟩
end Go.Proofs.Ygcfad
