/-
  THE WALK of package rec's typ.
-/
import Derived.Test.YgcfadRecTypMem
namespace Go.Proofs.Ygcfad
open Go.RowKit Plain
set_option linter.unusedSimpArgs false
set_option linter.unusedVariables false

/-- What a method that goes past something may turn beside the token: the uses. -/
structure SameR (M M' : RM) : Prop where
  ss : M'.ss = M.ss
  ns : M'.ns = M.ns
  sv : M'.p.sv = M.p.sv
  nv : M'.p.nv = M.p.nv
  us : M.us.length ≤ M'.us.length
theorem SameR.refl (M : RM) : SameR M M := ⟨rfl, rfl, rfl, rfl, Nat.le_refl _⟩
theorem SameR.trans {A B C : RM} (h : SameR A B) (k : SameR B C) : SameR A C := ⟨k.ss.trans h.ss, k.ns.trans h.ns, k.sv.trans h.sv, k.nv.trans h.nv, Nat.le_trans h.us k.us⟩
theorem SameR.next {A B : RM} (h : SameR A B) : SameR A (nextM B) := ⟨h.ss, h.ns, h.sv, h.nv, h.us⟩
theorem kindR_le {w : List Nat} {k : Nat} (h : kindR w = some k) : k ≤ 14 ∧ k ≠ 13 := by
  unfold kindR at h
  split at h
  · cases h
  · split at h
    · rename_i e
      cases h
      have := kindFrom_le (k := 0) (ns := kindNames) e
      have h12 : kindNames.length = 12 := rfl
      omega
    · split at h
      · cases h; omega
      · cases h
theorem ownU {B : Nat} {w : World} {M : RM} {v : Value} {n : Nat} (h : (qU M).ok B w) (hv : M.p.uv = v) (hn : n = M.us.length) : w.ownsRow B 209 2 v n (M.us.flatMap vc) := by
  subst hv hn; exact h
/-- What typ leaves. -/
def TypRPost (P : Nat) (T : List Nat) (w0 : World) (M : RM) (rs : List Row) (fs : List RF) (r : RR Nat) (e : Ending) (w' : World) : Prop :=
  match r with
  | .error x => (∃ t : YT, e = .returned (.tuple #[.agg #[.int .u8 (t.k : Int), .int .u8 (t.e : Int), .int .u8 (t.r : Int), .int .u8 t.ns], .bool false])) ∧ RFail P w0 x w'
  | .ok (k, s') => ∃ (M' : RM) (t : YT), e = .returned (.tuple #[.agg #[.int .u8 (t.k : Int), .int .u8 (t.e : Int), .int .u8 (t.r : Int), .int .u8 t.ns], .bool true]) ∧ t.k = k ∧ k ≤ 14 ∧ RStd P T w0 w' M' rs ∧ absR M' fs = s' ∧ SameR M M' ∧ ((t.k = 13 ∨ (t.k = 12 ∧ t.e = 13)) → t.r < M'.us.length)

section
variable {T : List Nat} {un : Bool} {s s1 s2 : RSt} {n kd : Nat} {x : Nat × Nat}
def tlR (T : List Nat) (un : Bool) (a nest kd : Nat) (s' : RSt) : RR Nat :=
  if (kd = 14 ∧ (0 < nest ∨ un = false)) ∨ (0 < nest ∧ kd = 0) then .error (a, 6)
  else rbnd (closeR T nest) (fun _ s'' => .ok (if nest = 0 then kd else 12, s'')) s'
theorem typR_stop (h : listsR T s.a 3 0 s = .error x) : typR T un s = .error x := by unfold typR rbnd; rw [h]
theorem typR_stop2 (h : listsR T s.a 3 0 s = .ok (n, s1)) (h2 : baseR T s1 = .error x) : typR T un s = .error x := by unfold typR rbnd; simp only [h, h2]
theorem typR_tail (h : listsR T s.a 3 0 s = .ok (n, s1)) (h2 : baseR T s1 = .ok (kd, s2)) : typR T un s = tlR T un s.a n kd s2 := by unfold typR tlR rbnd; simp only [h, h2]
theorem listsR_no {a f : Nat} (h : ¬ tokR T s = LIST) : listsR T a (f + 1) n s = .ok (n, s) := by rw [listsR, if_neg h]
theorem listsR_deep {a f : Nat} (h : tokR T s = LIST) (h2 : 2 < n + 1) : listsR T a (f + 1) n s = .error (a, 6) := by rw [listsR, if_pos h, if_pos h2]
theorem listsR_yes {a f : Nat} (h : tokR T s = LIST) (h2 : ¬ 2 < n + 1) : listsR T a (f + 1) n s = rbnd (expR T [40]) (fun _ => listsR T a f (n + 1)) (nextS T s) := by rw [listsR, if_pos h, if_neg h2]
theorem rbnd_ok {α β : Type} {m : RSt → RR α} {f : α → RSt → RR β} {a : α} (h : m s = .ok (a, s1)) : rbnd m f s = f a s1 := by unfold rbnd; rw [h]
theorem rbnd_error {α β : Type} {m : RSt → RR α} {f : α → RSt → RR β} (h : m s = .error x) : rbnd m f s = .error x := by unfold rbnd; rw [h]
end

set_option maxRecDepth 100000 in
set_option maxHeartbeats 4000000 in
theorem typR_any (P : Nat) (T : List Nat) (w0 w : World) (M : RM) (rs : List Row) (fs : List RF) (un : Bool) (hS : Hid (RStd P T w0 w M rs)) :
    Calls Fadg.prog 155 #[.pointer (some ⟨P, 0, none⟩), .bool un] w (TypRPost P T w0 M rs fs (typR T un (absR M fs))) := by
  have hS1 : Hid (RStd P T w0 (w.alloc (.cells #[.int .u8 0, .int .u8 0, .int .u8 0, .int .u8 0] 194)) M (qT w.heap.size zeroY :: rs)) := hS.out.newT zeroY
  have hRP := hS.out.lt
  have a1 := hS1.out.p.cells.2.1
  obtain ⟨a0, ha0⟩ : ∃ a0, a0 = M.p.at_ := ⟨_, rfl⟩
  rw [← ha0] at a1
  have HA0 : Hid ((absR M fs).a = a0) := ha0.symm
  clear ha0
  go_enter Fadg.func155, Fadg.ntmps155
  go_upto_region 2 with fail
  go_wp2_with fail
  clear a1
  go_loopg [7] 3 (fun gk n wr => ∃ (n' : Nat) (M1 : RM), n = .int .u8 (n' : Int) ∧ n' + gk = 3 ∧ n' ≤ 2 ∧ Hid (RStd P T w0 wr M1 (qT w.heap.size zeroY :: rs)) ∧ Hid (listsR T a0 gk n' (absR M1 fs) = listsR T a0 3 0 (absR M fs)) ∧ Hid (SameR M M1))
  case atStart => exact ⟨0, M, rfl, by omega, by omega, hS1, rfl, SameR.refl M⟩
  case round =>
    generalize w.heap.size = R at *
    obtain ⟨n, M1, rfl, hn, hn2, hs1, hli, hsame⟩ := hrel
    obtain ⟨g, rfl⟩ : ∃ g, gk = g + 1 := ⟨gk - 1, by omega⟩
    have HTK := hid (tok_std hs1.out)
    have habt := hid (abs_tok hs1.out fs)
    have hlit := hid (str_lit (tokM M1) [76, 105, 115, 116])
    by_cases hL : nats (tokM M1) = LIST
    · have hq : ((tokM M1).toList == [76, 105, 115, 116]) = true := by rw [hlit.out, hL]; rfl
      have hst := hid (fun (h2 : 2 < n + 1) => listsR_deep (T := T) (a := a0) (f := g) (n := n) (habt.out.trans hL) h2)
      have hst2 := hid (fun (h2 : ¬ 2 < n + 1) => listsR_yes (T := T) (a := a0) (f := g) (n := n) (habt.out.trans hL) h2)
      have habn := hid (abs_next hs1.out fs)
      have HN := hid (fun q => rnext_std (hs1.out.drew q))
      clear hL hlit
      generalize tokM M1 = tk at *
      by_cases hdeep : 2 < n + 1
      · have hdeep' : (2 : Int) < (n : Int) + 1 := by omega
        have hp : Hid (typR T un (absR M fs) = .error (a0, 6)) := by
          show _ = _
          refine typR_stop ?_
          rw [HA0.out, ← hli.out, hst.out hdeep]
        have HFA := hid (fun wx (hx : RStd P T w0 wx (nextM M1) (qT R zeroY :: rs)) => failAt_std hx a0 6 (a0 : Int) 6 rfl rfl)
        go_wp2_with (first | (go_at_call 74; go_must (refine HTK.out.mono ?_; rintro e w1 ⟨rfl, q, hw1⟩; subst hw1)) | (go_at_call 73; go_must (refine (HN.out _).mono ?_; rintro e w2 ⟨rfl, hs2, ho2⟩)) | (go_at_call 121; go_must (refine (HFA.out _ hs2).mono ?_; rintro e w3 ⟨rfl, hf3, ho3⟩; obtain ⟨k0, k1, k2, k3, kf⟩ := qT_cells (hs2.headR.only ho3); have f0 := kf 0; have f1 := kf 1; have f2 := kf 2; have f3 := kf 3; clear kf)))
        refine bodyPost_ret (v := .tuple #[.agg #[.int .u8 0, .int .u8 0, .int .u8 0, .int .u8 0], .bool false]) (by simp [results, Fadg.results155, go_sem, k0, k1, k2, k3]) rfl ?_
        rw [hp.out]
        exact ⟨⟨zeroY, rfl⟩, hf3.putT hRP zeroY⟩
      · have hdeep' : ¬ (2 : Int) < (n : Int) + 1 := by omega
        by_cases hP : nats (tokM (nextM M1)) = [40]
        · have HE := hid (fun wx (hx : RStd P T w0 wx (nextM M1) (qT R zeroY :: rs)) => expectR_yes hx ⟨#[40]⟩ hP)
          have hpl := hid (fun wx (hx : RStd P T w0 wx (nextM M1) (qT R zeroY :: rs)) => abs_exp_yes hx hP fs)
          clear hP
          go_wp2_with (first | (go_at_call 74; go_must (refine HTK.out.mono ?_; rintro e w1 ⟨rfl, q, hw1⟩; subst hw1)) | (go_at_call 73; go_must (refine (HN.out _).mono ?_; rintro e w2 ⟨rfl, hs2, ho2⟩)) | (go_at_call 119; go_must (refine (HE.out _ hs2).mono ?_; rintro e w3 ⟨rfl, hs3, q3, ho3⟩)))
          go_roundg g
          case measure => omega
          case rel =>
            refine ⟨n + 1, nextM (nextM M1), by go_num, by omega, by omega, hs3, ?_, hsame.out.next.next⟩
            show _ = _
            rw [← hli.out, hst2.out hdeep, ← habn.out, rbnd_ok (hpl.out _ hs2)]
        · have HE := hid (fun wx (hx : RStd P T w0 wx (nextM M1) (qT R zeroY :: rs)) => expectR_no hx ⟨#[40]⟩ hP)
          have hpl := hid (fun wx (hx : RStd P T w0 wx (nextM M1) (qT R zeroY :: rs)) => abs_exp_no hx hP fs)
          clear hP
          go_wp2_with (first | (go_at_call 74; go_must (refine HTK.out.mono ?_; rintro e w1 ⟨rfl, q, hw1⟩; subst hw1)) | (go_at_call 73; go_must (refine (HN.out _).mono ?_; rintro e w2 ⟨rfl, hs2, ho2⟩)) | (go_at_call 119; go_must (refine (HE.out _ hs2).mono ?_; rintro e w3 ⟨rfl, hf3, q3, ho3⟩; obtain ⟨k0, k1, k2, k3, kf⟩ := qT_cells ((hs2.drew q3).headR.only ho3); have f0 := kf 0; have f1 := kf 1; have f2 := kf 2; have f3 := kf 3; clear kf)))
          refine bodyPost_ret (v := .tuple #[.agg #[.int .u8 0, .int .u8 0, .int .u8 0, .int .u8 0], .bool false]) (by simp [results, Fadg.results155, go_sem, k0, k1, k2, k3]) rfl ?_
          have hp : typR T un (absR M fs) = .error ((nextM M1).p.at_, 1) := by
            refine typR_stop ?_
            rw [HA0.out, ← hli.out, hst2.out hdeep, ← habn.out, rbnd_error (hpl.out _ hs2)]
          rw [hp]
          exact ⟨⟨zeroY, rfl⟩, hf3.putT hRP zeroY⟩
    · have hq : ((tokM M1).toList == [76, 105, 115, 116]) = false := by
        rw [hlit.out]; simp only [beq_eq_false_iff_ne]; exact hL
      have hexit : Hid (listsR T a0 3 0 (absR M fs) = .ok (n, absR M1 fs)) := by
        show _ = _
        rw [← hli.out]; exact listsR_no (by rw [habt.out]; exact hL)
      clear hL hlit hli
      obtain ⟨uao, ucap, huv, huform⟩ := hs1.out.okU.form'
      obtain ⟨nu, hnu⟩ : ∃ nu, nu = M1.us.length := ⟨_, rfl⟩
      have huv' : M1.p.uv = .slice uao nu ucap := by rw [hnu]; exact huv
      have hnu2 : nu ≤ 4096 := by rw [hnu]; have := hs1.out.wf.us; have := hs1.out.wf.ae; have := hs1.out.wf.en; have := hs1.out.wf.sz; omega
      have HNU := hid hnu
      have HUV := hid huv'
      clear huv huform hnu huv'
      have hwf := hid hs1.out.wf
      have HK := hid (kindOfR_any (tokM M1))
      have hbase : Hid (baseR T (absR M1 fs) = match kindR (nats (tokM M1)) with
          | some k => .ok (k, absR (nextM M1) fs)
          | none => rbnd (nameR T true) (fun nm s' => .ok (13, { s' with uses := s'.uses ++ [(M1.p.at_, nm)] })) (absR M1 fs)) := by
        show _ = _
        unfold baseR
        rw [habt.out, abs_next hs1.out]; rfl
      go_upto_region 10 with (go_at_call 74; go_must (refine HTK.out.mono ?_; rintro e w1 ⟨rfl, q, hw1⟩; have hsw : Hid (RStd P T w0 w1 M1 (qT R zeroY :: rs)) := (by rw [hw1]; exact hs1.out.drew q); have c4 := hsw.out.p.cells.2.2.2.2.1; rw [HUV.out] at c4; clear hw1))
      have hs2 : Hid (RStd P T w0 (w1.alloc (.cells #[.int .u8 13, .int .u8 0, .int .u8 ((nu : Int) % 256), .int .u8 0] 194)) M1 (qT w1.heap.size ⟨13, 0, nu % 256, 0⟩ :: qT R zeroY :: rs)) := by
        have e : ((nu % 256 : Nat) : Int) = (nu : Int) % 256 := by omega
        rw [← e]
        exact hsw.out.newT ⟨13, 0, nu % 256, 0⟩
      generalize w1.alloc (.cells #[.int .u8 13, .int .u8 0, .int .u8 ((nu : Int) % 256), .int .u8 0] 194) = w2 at *
      generalize w1.heap.size = V at *
      clear c4 hsw HTK
      have HTK := hid (tok_std hs2.out)
      have hVP : P < V := (hs2.out.headR.lt (g := V) rfl).1
      go_upto_if 48 with (first | (go_at_call 74; go_must (refine HTK.out.mono ?_; rintro e w3 ⟨rfl, q, hw3⟩; have hs3 : Hid (RStd P T w0 w3 M1 (qT V ⟨13, 0, nu % 256, 0⟩ :: qT R zeroY :: rs)) := (by rw [hw3]; exact hs2.out.drew q); clear hw3)) | (go_at_call 153; go_must (refine (HK.out _).mono ?_; rintro e w4 ⟨rfl, hw4⟩; subst hw4)))
      clear HTK HK
      go_cut [9, 10, 48] (fun v9 v10 v48 wx => ∃ (kd rf : Nat) (M2 : RM), kd ≤ 14 ∧ Hid (RStd P T w0 wx M2 (qT V ⟨kd, 0, rf, 0⟩ :: qT R zeroY :: rs)) ∧ Hid (baseR T (absR M1 fs) = .ok (kd, absR M2 fs)) ∧ Hid (SameR M M2) ∧ (kd = 13 → rf < M2.us.length))
      case first =>
        obtain ⟨k0, k1, k2, k3, kf⟩ := qT_cells hs3.out.headR
        have f0 := kf 0
        have f1 := kf 1
        have f2 := kf 2
        have f3 := kf 3
        clear kf
        cases hk : kindR (nats (tokM M1)) with
        | some k =>
          rw [hk] at hbase
          have hk14 := kindR_le hk
          clear hk
          have hs4 := hid (hs3.out.putT ⟨k, 0, 0, 0⟩)
          have HN := hid (rnext_std hs4.out)
          simp only [putT] at HN
          go_wp2_with (go_at_call 73; go_must (refine HN.out.mono ?_; rintro e w5 ⟨rfl, hs5, ho5⟩))
          go_meet
          exact ⟨k, 0, nextM M1, hk14.1, hs5, hbase.out, hsame.out.next, fun h => absurd h hk14.2⟩
        | none =>
          rw [hk] at hbase
          clear hk
          have c1 := hs3.out.p.cells.2.1
          cases hnm : nameR T true (absR M1 fs) with
          | error x =>
            have hp : Hid (typR T un (absR M fs) = .error x) := by
              show _ = _
              refine typR_stop2 (by rw [HA0.out]; exact hexit.out) ?_
              rw [hbase.out]; exact rbnd_error hnm
            have HM := hid (nameR_no hs3.out hnm)
            clear hnm k0 k1 k2 k3 f0 f1 f2 f3
            go_wp2_with (first | (go_at_call 120; go_must (refine HM.out.mono ?_; rintro e w5 ⟨rfl, hf5, q5, ho5⟩; have HCV := hid (qT_load ((hs3.out.drew q5).headR.only ho5)); obtain ⟨k0, k1, k2, k3, kf⟩ := qT_cells ((hs3.out.drew q5).less.headR.only ho5); have f0 := kf 0; have f1 := kf 1; have f2 := kf 2; have f3 := kf 3; clear kf)) | (refine wpList_load_cells' rfl 194 (.tmp 8) rfl ⟨V, 0, none⟩ rfl _ _ HCV.out Fadg.underlying194 rfl Fadg.len194 ?_))
            refine bodyPost_ret (v := .tuple #[.agg #[.int .u8 13, .int .u8 0, .int .u8 ((nu : Int) % 256), .int .u8 0], .bool false]) (by simp [results, Fadg.results155, go_sem, k0, k1, k2, k3]) rfl ?_
            rw [hp.out]
            exact ⟨⟨⟨13, 0, nu % 256, 0⟩, rfl⟩, hf5.putT hRP ⟨13, 0, nu % 256, 0⟩⟩
          | ok r =>
            obtain ⟨nm, s'⟩ := r
            obtain ⟨HM, hnm1, hnm2, hlt, hsz⟩ := nameR_yes hs3.out hnm
            have HM := hid HM
            have hbase2 : Hid (∀ v, baseR T (absR M1 fs) = .ok (13, absR (useR (nextM M1) v ⟨M1.p.at_, tokM M1⟩) fs)) := fun v => by
              rw [hbase.out, rbnd_ok hnm, hnm1, hnm2, abs_use]
            have hub : Hid ((nextM M1).us.length + 1 ≤ (nextM M1).p.at_) := by
              have h1 := next_at hs3.out
              have h2 := hwf.out.us
              show M1.us.length + 1 ≤ _
              omega
            obtain ⟨i6, hi6, hz0, hz1, hz2⟩ := info_parts Fadg.info209
            clear hnm hnm1 hnm2 k0 k1 k2 k3 f0 f1 f2 f3 hsz hlt
            have HUV2 : Hid ((nextM M1).p.uv = .slice uao nu ucap) := HUV.out
            have HNU2 : Hid (nu = (nextM M1).us.length) := HNU.out
            go_wp2_with (first | (go_at_call 120; go_must (refine HM.out.mono ?_; rintro e w5 ⟨rfl, hs5, q5, ho5⟩; have c4 := hs5.p.cells.2.2.2.2.1; rw [HUV2.out] at c4; have hs6 := hid (hs5.alloc (.cells #[.int .i64 (M1.p.at_ : Int), .string (tokM M1)] 209)))) | (at_builtin; go_must (refine wpList_append_sep (B := P + 1) _ rfl (.tmp 69) (.tmp 73) 139 rfl 209 i6 _ 2 24 Fadg.underlying139 hi6 hz0 hz1 hz2 rfl (by decide) (.slice uao nu ucap) nu ((nextM M1).us.flatMap vc) rfl (ownU hs6.out.okU HUV2.out HNU2.out) ⟨_, 0, none⟩ 1 1 (vc ⟨M1.p.at_, tokM M1⟩) rfl rfl (two_new _ _ _ _ _ (by simp)) (vc_one _) (by omega) (by decide) (Nat.succ_le_of_lt hs6.out.lt) ?_); intro ao n' cap w7 hn' hown7 hg7 hnew7; rw [← HUV2.out] at hg7 hnew7; have hs8 := hid (hs6.out.used (hn'.out.trans (by rw [← HNU2.out])) hown7 hg7 hnew7 hub.out); have hpp := hid (hs6.out.grownU hg7); have g4 := hpp.out.cells.2.2.2.2.1; have g4f := hpp.out.2 4))
            go_meet
            exact ⟨13, nu % 256, _, by decide, hs8, hbase2.out _, ⟨hsame.out.ss, hsame.out.ns, hsame.out.sv, hsame.out.nv, by show _ ≤ (M1.us ++ [_]).length; have := hsame.out.us; simp; omega⟩, fun _ => by show _ < (M1.us ++ [_]).length; rw [List.length_append, ← HNU.out]; simp; have := Nat.mod_le nu 256; omega⟩
      case rest =>
        obtain ⟨kd, rf, M2, hkd, hs6, hbas, hsame2, hrf⟩ := hcut
        clear hbase hs3 hs2
        have hty := hid (typR_tail (un := un) (s := absR M fs) (by rw [HA0.out]; exact hexit.out) hbas.out)
        have v0 := (qT_cells hs6.out.headR).1
        obtain ⟨bad, hbad⟩ : ∃ bad, bad = decide ((kd = 14 ∧ (0 < n ∨ un = false)) ∨ (0 < n ∧ kd = 0)) := ⟨_, rfl⟩
        go_upto_region 19 with fail
        go_cut [7, 96] (fun v7 v wx => v7 = .int .u8 (n : Int) ∧ v = .bool bad ∧ wx = wc)
        case first =>
          have hn0 : n = 0 ∨ 0 < n := by omega
          by_cases h14 : kd = 14
          · have h14' : ((kd : Int) == 14) = true := by simp [h14]
            have h0' : ((kd : Int) == 0) = false := by simp; omega
            have H14 := hid h14
            clear h14
            rcases hn0 with hn0 | hn0
            · have hn0' : ¬ (0 : Int) < (n : Int) := by omega
              have HN0 := hid hn0
              clear hn0
              cases un with
              | true =>
                go_wp2
                go_meet
                exact ⟨by first | rfl | (rw [HN0.out]; rfl), congrArg Value.bool (by rw [hbad]; simp [H14.out, HN0.out]), rfl⟩
              | false =>
                go_wp2
                go_meet
                exact ⟨by first | rfl | (rw [HN0.out]; rfl), congrArg Value.bool (by rw [hbad]; simp [H14.out, HN0.out]), rfl⟩
            · have hn0' : (0 : Int) < (n : Int) := by omega
              go_wp2
              go_meet
              exact ⟨by first | rfl | (rw [HN0.out]; rfl), congrArg Value.bool (by rw [hbad]; simp [H14.out, hn0]), rfl⟩
          · have h14' : ((kd : Int) == 14) = false := by simp; omega
            rcases hn0 with hn0 | hn0
            · have hn0' : ¬ (0 : Int) < (n : Int) := by omega
              have HN0 := hid hn0
              clear hn0
              go_wp2
              go_meet
              exact ⟨by first | rfl | (rw [HN0.out]; rfl), congrArg Value.bool (by rw [hbad]; simp [h14, HN0.out]), rfl⟩
            · have hn0' : (0 : Int) < (n : Int) := by omega
              by_cases h0 : kd = 0
              · have h0' : ((kd : Int) == 0) = true := by simp [h0]
                have H0 := hid h0
                clear h0
                go_wp2
                go_meet
                exact ⟨by first | rfl | (rw [HN0.out]; rfl), congrArg Value.bool (by rw [hbad]; simp [hn0, H0.out]), rfl⟩
              · have h0' : ((kd : Int) == 0) = false := by simp; omega
                go_wp2
                go_meet
                exact ⟨by first | rfl | (rw [HN0.out]; rfl), congrArg Value.bool (by rw [hbad]; simp [h14, hn0, h0]), rfl⟩
        case rest =>
          obtain ⟨rfl, rfl, rfl⟩ := hcut
          cases bad with
          | true =>
            have hp : Hid (typR T un (absR M fs) = .error (a0, 6)) := by
              show _ = _
              rw [hty.out, tlR, if_pos (by simpa using hbad.symm), HA0.out]
            clear hbad v0
            have HFD := hid (failAt_std hs6.out.drew1 a0 6 (a0 : Int) 6 rfl rfl)
            obtain ⟨y0, y1, y2, y3, -⟩ := qT_cells hs6.out.headR
            simp only [Int.ofNat_zero, Int.cast_ofNat_Int] at y0 y1 y2 y3
            obtain ⟨k0, k1, k2, k3, kf⟩ := qT_cells hs6.out.less.headR
            have f0 := kf 0
            have f1 := kf 1
            have f2 := kf 2
            have f3 := kf 3
            clear kf
            go_upto_region 20 with fail
            go_region_with ((go_at_call 121; go_must (refine HFD.out.mono ?_; rintro e w8 ⟨rfl, hf8, ho8⟩; obtain ⟨z0, z1, z2, z3, -⟩ := qT_cells (hs6.out.drew1.headR.only ho8); obtain ⟨k0, k1, k2, k3, kf⟩ := qT_cells (hs6.out.drew1.less.headR.only ho8); have f0 := kf 0; have f1 := kf 1; have f2 := kf 2; have f3 := kf 3; clear kf)))
            all_goals
              go_wp2_with fail
              refine bodyPost_ret (v := .tuple #[.agg #[.int .u8 (kd : Int), .int .u8 0, .int .u8 (rf : Int), .int .u8 0], .bool false]) (by simp [results, Fadg.results155, go_sem, k0, k1, k2, k3]) rfl ?_
              rw [hp.out]
              exact ⟨⟨⟨kd, 0, rf, 0⟩, rfl⟩, hf8.putT hRP ⟨kd, 0, rf, 0⟩⟩
          | false =>
            have hty2 : Hid (typR T un (absR M fs) = rbnd (closeR T n) (fun _ s'' => .ok (if n = 0 then kd else 12, s'')) (absR M2 fs)) := by
              show _ = _
              rw [hty.out, tlR, if_neg (by simpa using hbad.symm)]
            clear hbad v0
            go_upto_if 103 with fail
            go_loopg [102] n (fun gk j wr => ∃ (j' : Nat) (M3 : RM), j = .int .u8 (j' : Int) ∧ j' + gk = n ∧ Hid (RStd P T w0 wr M3 (qT V ⟨kd, 0, rf, 0⟩ :: qT R zeroY :: rs)) ∧ Hid (closeR T gk (absR M3 fs) = closeR T n (absR M2 fs)) ∧ Hid (SameR M M3) ∧ M2.us.length ≤ M3.us.length)
            case atStart => exact ⟨0, M2, rfl, by omega, hs6, rfl, hsame2, Nat.le_refl _⟩
            case round =>
              obtain ⟨j, M3, rfl, hj, hs7, hcl, hsame3, hus3⟩ := hrel
              by_cases hlt : j < n
              · have hlt' : (j : Int) < (n : Int) := by omega
                obtain ⟨g2, rfl⟩ : ∃ g2, gk = g2 + 1 := ⟨gk - 1, by omega⟩
                by_cases hP : nats (tokM M3) = [41]
                · have HE := hid (expectR_yes hs7.out ⟨#[41]⟩ hP)
                  have hpl := hid (abs_exp_yes hs7.out hP fs)
                  clear hP
                  go_wp2_with (go_at_call 119; go_must (refine HE.out.mono ?_; rintro e w8 ⟨rfl, hs8, q8, ho8⟩))
                  go_roundg g2
                  case measure => omega
                  case rel =>
                    refine ⟨j + 1, nextM M3, by go_num, by omega, hs8, ?_, hsame3.out.next, hus3⟩
                    show _ = _
                    rw [← hcl.out, closeR, rbnd_ok hpl.out]
                · have HE := hid (expectR_no hs7.out ⟨#[41]⟩ hP)
                  have hpl := hid (abs_exp_no hs7.out hP fs)
                  clear hP
                  have hp : Hid (typR T un (absR M fs) = .error (M3.p.at_, 1)) := by
                    show _ = _
                    rw [hty2.out]
                    refine rbnd_error ?_
                    rw [← hcl.out, closeR, rbnd_error hpl.out]
                  go_wp2_with (first | (go_at_call 119; go_must (refine HE.out.mono ?_; rintro e w8 ⟨rfl, hf8, q8, ho8⟩; have HCV := hid (qT_load ((hs7.out.drew q8).headR.only ho8)); obtain ⟨k0, k1, k2, k3, kf⟩ := qT_cells ((hs7.out.drew q8).less.headR.only ho8); have f0 := kf 0; have f1 := kf 1; have f2 := kf 2; have f3 := kf 3; clear kf)) | (refine wpList_load_cells' rfl 194 (.tmp 8) rfl ⟨V, 0, none⟩ rfl _ _ HCV.out Fadg.underlying194 rfl Fadg.len194 ?_))
                  refine bodyPost_ret (v := .tuple #[.agg #[.int .u8 (kd : Int), .int .u8 0, .int .u8 (rf : Int), .int .u8 0], .bool false]) (by simp [results, Fadg.results155, go_sem, k0, k1, k2, k3]) rfl ?_
                  rw [hp.out]
                  exact ⟨⟨⟨kd, 0, rf, 0⟩, rfl⟩, hf8.putT hRP ⟨kd, 0, rf, 0⟩⟩
              · have hlt' : ¬ (j : Int) < (n : Int) := by omega
                obtain rfl : gk = 0 := by omega
                have hp : Hid (typR T un (absR M fs) = .ok (if n = 0 then kd else 12, absR M3 fs)) := by
                  show _ = _
                  rw [hty2.out]
                  exact rbnd_ok (a := ()) (by rw [← hcl.out]; rfl)
                obtain ⟨y0, y1, y2, y3, yf⟩ := qT_cells hs7.out.headR
                have x0 := yf 0
                have x1 := yf 1
                have x2 := yf 2
                have x3 := yf 3
                clear yf
                simp only [Int.ofNat_zero, Int.cast_ofNat_Int] at y0 y1 y2 y3
                go_upto_if 110 with fail
                go_cut [7, 110] (fun v7 v110 wx => ∃ t : YT, Hid (RStd P T w0 wx M3 (qT V t :: qT R zeroY :: rs)) ∧ Hid (t.k = (if n = 0 then kd else 12) ∧ ((t.k = 13 ∨ (t.k = 12 ∧ t.e = 13)) → t.r < M3.us.length)))
                case first =>
                  by_cases hn0 : n = 0
                  · have hn0' : ¬ (0 : Int) < (n : Int) := by omega
                    have HN0 := hid hn0
                    clear hn0
                    go_wp2
                    go_meet
                    refine ⟨⟨kd, 0, rf, 0⟩, hs7, (if_pos HN0.out).symm, fun h => ?_⟩
                    rcases h with h | ⟨_, h⟩
                    · exact Nat.lt_of_lt_of_le (hrf h) hus3
                    · cases h
                  · have hn0' : (0 : Int) < (n : Int) := by omega
                    have HN0 := hid hn0
                    clear hn0
                    go_wp2
                    go_meet
                    refine ⟨⟨12, kd, rf, (n : Int)⟩, hs7.out.putT ⟨12, kd, rf, (n : Int)⟩, (if_neg HN0.out).symm, fun h => ?_⟩
                    rcases h with h | ⟨_, h⟩
                    · cases h
                    · exact Nat.lt_of_lt_of_le (hrf h) hus3
                case rest =>
                  obtain ⟨t, hs8, ht⟩ := hcut
                  have htk : t.k ≤ 14 := by rw [ht.out.1]; split <;> omega
                  have hp2 : Hid (typR T un (absR M fs) = .ok (t.k, absR M3 fs)) := by show _ = _; rw [hp.out, ht.out.1]
                  clear hp y0 y1 y2 y3 x0 x1 x2 x3
                  have HCV := hid (qT_load hs8.out.headR)
                  obtain ⟨k0, k1, k2, k3, kf⟩ := qT_cells hs8.out.less.headR
                  have f0 := kf 0
                  have f1 := kf 1
                  have f2 := kf 2
                  have f3 := kf 3
                  clear kf
                  have hfin := hid ((hs8.out.less.putT t).less)
                  go_wp2_with (refine wpList_load_cells' rfl 194 (.tmp 8) rfl ⟨V, 0, none⟩ rfl _ _ HCV.out Fadg.underlying194 rfl Fadg.len194 ?_)
                  refine bodyPost_ret (v := .tuple #[.agg #[.int .u8 (t.k : Int), .int .u8 (t.e : Int), .int .u8 (t.r : Int), .int .u8 t.ns], .bool true]) (by simp [results, Fadg.results155, go_sem, k0, k1, k2, k3]) rfl ?_
                  rw [hp2.out]
                  exact ⟨M3, t, rfl, rfl, htk, hfin.out, rfl, hsame3.out, ht.out.2⟩
end Go.Proofs.Ygcfad
