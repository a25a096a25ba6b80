/-
  PROOF OF 'Rows.RecPlaceSaid' ('wordview/law.RecPlace').
-/
import Derived.Test.YgcfadRows
import Derived.WalkKit
import Derived.ProofKit
import Derived.OpenShut
import Derived.ShutString
import Derived.Test.YgcfadRecParseAt
namespace Go.Proofs.Ygcfad.recPlace
open Go.ChangeShapes Go.WideShapes Go.ChangeAt Go.RowKit
open Go.ChangeMaps (open_string shut_string)
open Go.Proofs.Ygcfad.Plain
set_option linter.unusedVariables false
set_option linter.unusedSimpArgs false

theorem own : ownKnob Fadg.prog.godebug = none := by kernel_rfl

/-! ### THE WALK -/
set_option maxRecDepth 100000 in
set_option maxHeartbeats 4000000 in
theorem begins_yes (tx : ByteArray) (a : Nat) (e : Bool) (w : World) (h : (a = tx.size ∧ e = true) ∨ (a < tx.size ∧ (a = 0 ∨ (blankN ((nats tx).getD a 0) = false ∧ (nats tx).getD a 0 ≠ 35)))) :
    Calls Fadg.prog 26 #[.string tx, .int .i64 (a : Int), .bool e] w fun en w' => en = .returned (.bool true) ∧ w' = w := by
  rcases h with ⟨h1, rfl⟩ | ⟨h1, h2⟩
  · have hq : ((a : Int) == (tx.size : Int)) = true := by simp [h1]
    clear h1
    go_enter Fadg.func26, Fadg.ntmps26
    go_wp2
    go_ret
    exact ⟨rfl, rfl⟩
  · have hq : ((a : Int) == (tx.size : Int)) = false := by simp; omega
    have hidx := fun wx => idx_run tx a h1 wx
    obtain ⟨c, hc⟩ : ∃ c, c = (nats tx).getD a 0 := ⟨_, rfl⟩
    rw [← hc] at hidx h2
    clear hc h1
    by_cases h0 : a = 0
    · have hq0 : ((a : Int) == 0) = true := by simp [h0]
      clear h0 h2
      go_enter Fadg.func26, Fadg.ntmps26
      go_wp2
      go_ret
      exact ⟨rfl, rfl⟩
    · have hq0 : ((a : Int) == 0) = false := by simp; omega
      have h3 := h2.resolve_left h0
      have h4 : ¬ c = 32 ∧ ¬ c = 9 ∧ ¬ c = 10 ∧ ¬ c = 13 := by
        have := h3.1; simp [blankN] at this; omega
      have n1 : ((c : Int) != 32) = true := by simp; omega
      have n2 : ((c : Int) != 9) = true := by simp; omega
      have n3 : ((c : Int) != 10) = true := by simp; omega
      have n4 : ((c : Int) != 13) = true := by simp; omega
      have n5 : ((c : Int) != 35) = true := by have := h3.2; simp; omega
      clear h0 h2 h3 h4
      go_enter Fadg.func26, Fadg.ntmps26
      go_wp2
      go_ret
      exact ⟨rfl, rfl⟩

set_option maxRecDepth 100000 in
set_option maxHeartbeats 4000000 in
theorem walk (a0 : ByteArray) (w : World) :
    Calls Fadg.prog 8 #[.string a0] w fun e w' => e = .returned (.bool true) ∧ Below w.heap.size w w' := by
  have hlaw := rec_law (nats a0)
  rw [nats_length] at hlaw
  have H1 := hid (parseAtR_any a0 w)
  have H2 := hid (fun wx => parseR_any a0 wx)
  have H3 := hid (fun wx x => parseAtR_any (a0.extract 0 x) wx)
  have hext := hid (fun x => extract_take a0 x)
  obtain ⟨r, hr⟩ : ∃ r, r = recN (nats a0) := ⟨_, rfl⟩
  rw [← hr] at H1 H2 hlaw
  obtain ⟨x, c⟩ := r
  simp only at hlaw
  obtain ⟨hx, hc0, hne⟩ := hlaw
  have hx' : (x : Int) ≤ (a0.size : Int) := by omega
  by_cases hc : c = 0
  · have hcc : ((c : Int) == 0) = true := by simp [hc]
    have hx0 := hc0 hc
    have hxx : ((x : Int) == 0) = true := by simp [hx0]
    clear hne hc0 hr
    have HC := hid hc
    have HX0 := hid hx0
    clear hc hx0
    go_enter Fadg.func8, Fadg.ntmps8
    go_upto_region 2 with (go_at_call 27; go_must (refine H1.out.mono ?_; rintro e w1 ⟨hb1, po, rfl, hpo⟩))
    obtain ⟨ad, rfl⟩ : ∃ ad, po = some ad := by
      cases po with
      | none => exact absurd (hpo.1 rfl) (by simp [HC.out])
      | some ad => exact ⟨ad, rfl⟩
    clear hpo
    go_upto_region 3 with (go_at_call 28; go_must (refine (H2.out _).mono ?_; rintro e w2 ⟨hb2, po2, rfl, hpo2⟩))
    obtain ⟨ad2, rfl⟩ : ∃ ad, po2 = some ad := by
      cases po2 with
      | none => exact absurd (hpo2.1 rfl) (by simp [HC.out])
      | some ad => exact ⟨ad, rfl⟩
    clear hpo2
    go_wp2_with fail
    go_ret
    exact ⟨rfl, hb1.trans (hb2.mono hb1.size)⟩
  · have hcc : ((c : Int) == 0) = false := by simp; omega
    obtain ⟨hbeg, hpre⟩ := hne hc
    have hbeg2 : Hid ((x = a0.size ∧ decide (c = 1 ∨ c = 7) = true) ∨ (x < a0.size ∧ (x = 0 ∨ (blankN ((nats a0).getD x 0) = false ∧ (nats a0).getD x 0 ≠ 35)))) := by
      rcases hbeg with ⟨h1, h2⟩ | h1
      · exact .inl ⟨h1, by simp [h2]⟩
      · exact .inr h1
    have H4 := hid (fun wx => begins_yes a0 x _ wx hbeg2.out)
    have HC := hid hc
    clear hc hne hc0 hr hbeg
    go_enter Fadg.func8, Fadg.ntmps8
    go_upto_region 2 with (go_at_call 27; go_must (refine H1.out.mono ?_; rintro e w1 ⟨hb1, po, rfl, hpo⟩))
    obtain rfl : po = none := hpo.2 HC.out
    clear hpo
    go_upto_region 3 with (go_at_call 28; go_must (refine (H2.out _).mono ?_; rintro e w2 ⟨hb2, po2, rfl, hpo2⟩))
    obtain rfl : po2 = none := hpo2.2 HC.out
    clear hpo2
    have hb12 := hid (hb1.trans (hb2.mono hb1.size))
    clear hb1 hb2
    have H3' := hid (H3.out w2 x)
    rw [hext.out] at H3'
    obtain ⟨r2, hr2⟩ : ∃ r, r = recN ((nats a0).take x) := ⟨_, rfl⟩
    rw [← hr2] at H3' hpre
    obtain ⟨x2, c2⟩ := r2
    simp only at hpre
    clear hr2
    go_upto_region 7 with fail
    go_cut [55] (fun v wx => v = .bool false ∧ wx = w2)
    case first =>
      by_cases h1 : c = 1
      · have h1' : ((c : Int) == 1) = true := by simp [h1]
        have hd : decide (c = 1 ∨ c = 7) = true := by simp [h1]
        rw [hd] at H4
        clear h1 hd
        go_wp2_with (go_at_call 26; go_must (refine (H4.out _).mono ?_; rintro e w3 ⟨rfl, hw3⟩; subst hw3))
        go_meet
        exact ⟨rfl, rfl⟩
      · have h1' : ((c : Int) == 1) = false := by simp; omega
        obtain ⟨e7, he7⟩ : ∃ e7, e7 = ((c : Int) == 7) := ⟨_, rfl⟩
        have hd : decide (c = 1 ∨ c = 7) = e7 := by rw [he7, Bool.eq_iff_iff]; simp [h1]; omega
        rw [hd] at H4
        have h7' := he7.symm
        clear h1 hd he7
        go_wp2_with (go_at_call 26; go_must (refine (H4.out _).mono ?_; rintro e w3 ⟨rfl, hw3⟩; subst hw3))
        go_meet
        exact ⟨rfl, rfl⟩
    case rest =>
      obtain ⟨rfl, rfl⟩ := hcut
      go_upto_region 10 with (go_at_call 27; go_must (refine H3'.out.mono ?_; rintro e w4 ⟨hb4, po4, rfl, hpo4⟩))
      have hbz := hid (hb12.out.trans (hb4.mono hb12.out.size))
      by_cases k0 : c2 = 0
      · have k0' : ((c2 : Int) == 0) = true := by simp [k0]
        clear k0 hpre
        go_wp2_with fail
        go_ret
        exact ⟨rfl, hbz.out⟩
      · have k0' : ((c2 : Int) == 0) = false := by simp; omega
        by_cases k4 : c2 = 4
        · have k4' : ((c2 : Int) == 4) = true := by simp [k4]
          clear k4 hpre k0
          go_wp2_with fail
          go_ret
          exact ⟨rfl, hbz.out⟩
        · have k4' : ((c2 : Int) == 4) = false := by simp; omega
          have kx : ((x2 : Int) == (x : Int)) = true := by
            have := (hpre.resolve_left k0).resolve_left k4
            simp [this]
          clear k4 hpre k0
          go_wp2_with fail
          go_ret
          exact ⟨rfl, hbz.out⟩

/-! ### THE ROW's STEP: WRITTEN OUT: LEAVE IT -/
set_option maxRecDepth 100000 in
theorem lifted (os : Os) (started : os.Started) (H : Type) (enc : TypeId × Value → H) :
    ReturnsInHanded {} Fadg.checked os 8 .any (Rows.recPlaceSpec.pre6 enc Fadg.prog Fadg.f8 Rows.recPlaceRow.domain false) (Rows.recPlaceSpec.post enc Fadg.prog Fadg.f8 false true false false) := by
  refine returnsInHanded_of_change (C := Fadg.checked) own started (by kernel_rfl) Fadg.func8
    (ChangeSpec.witness6 (enc := enc) (C := Fadg.checked) false ⟨#[], #[.string ByteArray.empty], []⟩ 8 (by kernel_rfl) (by kernel_rfl) (by kernel_rfl) (by kernel_rfl)) ?_
  intro W base args ds gs before hval0 hW hcnd _
  have hval : ∀ (j : Nat) t v, Fadg.f8.params[j]? = some t → args[j]? = some v → Value.okWide Fadg.prog W .any base t v := hval0
  have hW' := hW
  obtain ⟨p, q, hA0, hV, rfl, hfz, hnd⟩ := hW
  have hA : DataW.TrodAll enc Fadg.prog W 0 (fun _ => true) true Fadg.f8.params.toList args.toList ds p := hA0
  rw [Fadg.params8] at hA hval
  obtain ⟨v0, vs0, d0, ds0, p0, q0, hargs, rfl, rfl, h0, r0⟩ := trodAll_cons hA
  obtain ⟨rfl, rfl, rfl⟩ := trodAll_nil r0
  obtain rfl : args = #[v0] := by cases args; simp_all
  obtain ⟨rfl, rfl⟩ := trodVars_none hV
  obtain ⟨a0, rfl, rfl, rfl, w0⟩ := open_string Fadg.underlying9 (hval 0 9 v0 rfl rfl) h0
  clear hA0 hval0
  simp only [List.append_nil] at hW'
  refine (walk a0 W).mono fun e W' ⟨he, hg⟩ => ?_
  subst he
  exact ⟨_, rfl, _, _, _, [], [], [], hW', trodAll_mk1 (shut_bool Fadg.underlying4 _), (trodAll_cons_mk (shut_string Fadg.underlying9 w0) trodAll_mk0), rfl, hg.frame _, fun h => by cases h⟩

theorem over : Rows.recPlaceRow.holds Fadg.pinned (OpenSpec.ofChange Rows.recPlaceSpec) :=
  OpenClaim.holds_of_wide 8 Fadg.f8 rfl rfl rfl rfl rfl rfl rfl ⟨rfl, rfl, rfl, rfl, rfl⟩ rfl rfl rfl rfl rfl (by kernel_rfl) Fadg.func8 (by kernel_rfl)
    (of_decide_eq_true (by kernel_rfl)) (by unfold Func.isWrapper; first | (rw [if_pos (by decide +kernel)]; kernel_rfl) | (rw [if_neg (by decide +kernel)]; exact ⟨rfl, rfl⟩))
    (fun os started H enc _ => lifted os started H enc)

/-- ████ THE STATEMENT ████ -/
theorem proved : Rows.RecPlaceSaid :=
  over
#print axioms proved
end Go.Proofs.Ygcfad.recPlace
