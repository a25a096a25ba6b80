/-
  PROOF OF 'Rows.PlaceToldSaid' ('wordview/law.PlaceTold').
-/
import Derived.Test.YgcfadRows
import Derived.WalkKit
import Derived.ProofKit
import Derived.OpenShut
import Derived.ShutString
import Derived.Test.YgcfadTold
import Derived.BigQuiet
namespace Go.Proofs.Ygcfad.placeTold
open Go.ChangeShapes Go.WideShapes Go.ChangeAt Go.RowKit
open Go.ChangeMaps (open_string shut_string)
open Go.Proofs.Ygcfad.Plain
set_option linter.unusedVariables false
set_option linter.unusedSimpArgs false

theorem own : ownKnob Fadg.prog.godebug = none := by kernel_rfl

/-! ### THE WALK -/
set_option maxRecDepth 100000 in
set_option maxHeartbeats 8000000 in
theorem walkN (n : Nat) (hn : n < 256) (w : World) :
    Calls Fadg.prog 9 #[.int .u8 (n : Int)] w fun e w' => e = .returned (.bool true) ∧ Below w.heap.size w w' := by
  obtain ⟨k, hk⟩ : ∃ k, k = n % 33 := ⟨_, rfl⟩
  have hk33 : k < 33 := by omega
  have hrem : (n : Int).tmod 33 = (k : Int) := by rw [hk, Int.tmod_eq_emod_of_nonneg (by omega)]; omega
  have hkl : (k : Int) < 33 := by omega
  obtain ⟨t, ht⟩ : ∃ t, MARKED[k]? = some t := ⟨_, List.getElem?_eq_getElem (show k < MARKED.length from hk33)⟩
  have hmem : t ∈ MARKED := List.mem_of_getElem? ht
  obtain ⟨hpl, hone, hnats, ht200⟩ := mark_facts hmem
  have htold := hid (told_facts hmem)
  have htoldS := hid (fun h => told_factsS ht h)
  obtain ⟨p, hp⟩ : ∃ p, p = spanN (· != 94) t := ⟨_, rfl⟩
  rw [← hp] at hpl hone
  have hstrip : Hid (stripN t = (t.take p ++ t.drop (p + 1), p)) := by rw [hp]; rfl
  rw [hstrip.out] at htold htoldS
  have hV : Hid ((MARKED.map mkV)[k]? = some (.string (mkB t))) := by show _ = _; rw [List.getElem?_map, ht]; rfl
  obtain ⟨b, hb⟩ : ∃ b, b = mkB t := ⟨_, rfl⟩
  rw [← hb] at hV hnats
  obtain ⟨m, hm⟩ : ∃ m, m = b.size := ⟨_, rfl⟩
  have hmt : m = t.length := by rw [hm, ← nats_length, hnats]
  have hm200 : m ≤ 200 := by omega
  have hpm : p < m := by omega
  have hone := hid hone
  have HN := hid hnats
  have HMT := hid hmt
  have HM := hid hm
  have HMK := hid (marked_any w)
  clear hmem ht hp hb hk hnats hmt hpl ht200
  go_enter Fadg.func9, Fadg.ntmps9
  go_upto_region 2 with (go_at_call 29; go_must (refine HMK.out.mono ?_; rintro e w1 ⟨hb1, ao, cap, rfl, hown1⟩))
  obtain ⟨g, hao⟩ : ∃ g, ao = some ⟨g, 0, none⟩ := by
    rcases Row.ok.form' (r := ⟨.slice ao 33 cap, 9, 1, 33, MARKED.map mkV⟩) hown1 with ⟨ao', cap', hv, h0 | ⟨g2, hg2⟩⟩
    · cases h0
    · have hv' : (Value.slice ao 33 cap) = .slice ao' 33 cap' := hv
      injection hv' with e1 e2 e3
      exact ⟨g2, by rw [e1, hg2]⟩
  subst hao
  have cT : w1.cell? ⟨g, k, none⟩ = some (.string b) := by
    have h1 := Row.ok.at (r := ⟨.slice (some ⟨g, 0, none⟩) 33 cap, 9, 1, 33, MARKED.map mkV⟩) hown1 (g := g) (cap := cap) rfl k (by show k < 33 * 1; omega)
    rw [h1]; exact hV.out
  have hb1 := hid hb1
  clear hown1 HMK hV
  go_upto_if 30 with fail
  go_loopg [29, 6, 7] m (fun gk j v6 v7 wr => ∃ (j' : Nat) (c : ByteArray) (z : Nat), j = .int .i64 (j' : Int) ∧ v6 = .string c ∧ v7 = .int .i64 (z : Int) ∧ j' + gk = m ∧ Hid (p < j' → nats c = t.take p ++ t.drop (p + 1) ∧ z = p) ∧ Hid (wr.cell? ⟨g, k, none⟩ = some (.string b)) ∧ Hid (Below w.heap.size w wr))
  case atStart => exact ⟨0, ⟨#[]⟩, 0, rfl, rfl, rfl, by omega, hid (fun h => absurd h (Nat.not_lt_zero _)), cT, hb1⟩
  case round =>
    clear cT hb1
    obtain ⟨j, c, z, rfl, rfl, rfl, hj, hcz, hcT, hbel⟩ := hrel
    have cT := hcT.out
    have hms := HM.out
    by_cases hlt : j < m
    · have hlt' : (j : Int) < (b.size : Int) := by omega
      have hidx := fun wx => idx_run b j (by omega) wx
      rw [HN.out] at hidx
      have hone2 := hid (hone.out j (by rw [← HMT.out]; exact hlt))
      obtain ⟨cc, hcc⟩ : ∃ cc, cc = t.getD j 0 := ⟨_, rfl⟩
      rw [← hcc] at hidx hone2
      clear hcc
      by_cases hjp : j = p
      · have hq : ((cc : Int) == 94) = true := by have := hone2.out.2 hjp; simp [this]
        have hj1 : (j : Int) ≤ (b.size : Int) := by omega
        have hj2 : (j : Int) + 1 ≤ (b.size : Int) := by omega
        have HJP := hid hjp
        clear hjp hms
        go_upto_region 8 with fail
        go_quiet (fail)
        go_wp2_with fail
        go_roundg (gk - 1)
        case measure => omega
        case rel =>
          refine ⟨j + 1, _, j, by go_num, rfl, rfl, by omega, hid (fun _ => ⟨?_, HJP.out⟩), hcT, hid (below_drewN hbel.out _)⟩
          rw [nats_app, nats_extract, nats_extract, HN.out, HJP.out, List.drop_zero, Nat.sub_zero, List.take_of_length_le (l := t.drop (p + 1)) (by rw [List.length_drop, ← HMT.out, HM.out]; exact Nat.le_refl _)]
      · have hq : ((cc : Int) == 94) = false := by
          have : ¬ cc = 94 := fun h => hjp (hone2.out.1 h)
          simp; omega
        have hcz2 : Hid (p < j + 1 → nats c = t.take p ++ t.drop (p + 1) ∧ z = p) := fun h => hcz.out (by omega)
        clear hms
        go_wp2_with fail
        go_roundg (gk - 1)
        case measure => omega
        case rel => exact ⟨j + 1, c, z, by go_num, rfl, rfl, by omega, hcz2, hcT, hbel⟩
    · have hlt' : ¬ (j : Int) < (b.size : Int) := by omega
      obtain ⟨hc1, hz1⟩ := hcz.out (by omega)
      have H1 := hid (fun wx => parseAtR_any c wx)
      have H2 := hid (fun wx => parseAt_any c wx)
      rw [hc1] at H1 H2
      obtain ⟨r, hr⟩ : ∃ r, r = recN (t.take p ++ t.drop (p + 1)) := ⟨_, rfl⟩
      rw [← hr] at H1 htold
      obtain ⟨x, cd⟩ := r
      obtain ⟨r2, hr2⟩ : ∃ r, r = parseN (t.take p ++ t.drop (p + 1)) := ⟨_, rfl⟩
      rw [← hr2] at H2 htoldS
      obtain ⟨x2, cd2⟩ := r2
      have hcd : ((cd : Int) == 0) = false := by have h : ¬ cd = 0 := htold.out.1; simp; omega
      have hx : ((x : Int) != (z : Int)) = false := by have h : x = p := htold.out.2; simp [h, hz1]
      clear hms hc1 hr hr2 hcz hone
      by_cases hk20 : k < 20
      · have hk20' : (k : Int) < 20 := by omega
        have hcd2 : ((cd2 : Int) != 0) = true := by have h : ¬ cd2 = 0 := (htoldS.out hk20).1; simp; omega
        have hx2 : ((x2 : Int) == (z : Int)) = true := by have h : x2 = p := (htoldS.out hk20).2; simp [h, hz1]
        clear hk20 hz1
        go_wp2_with (first | (go_at_call 27; go_must (refine (H1.out _).mono ?_; rintro e w3 ⟨hb3, po, rfl, hpo⟩)) | (go_at_call 24; go_must (refine (H2.out _).mono ?_; rintro e w4 ⟨hb4, po4, rfl, hpo4⟩)))
        go_ret
        have hb13 := hbel.out.trans (hb3.mono hbel.out.size)
        exact ⟨rfl, hb13.trans (hb4.mono hb13.size)⟩
      · have hk20' : ¬ (k : Int) < 20 := by omega
        clear hk20 hz1
        go_wp2_with (go_at_call 27; go_must (refine (H1.out _).mono ?_; rintro e w3 ⟨hb3, po, rfl, hpo⟩))
        go_ret
        exact ⟨rfl, hbel.out.trans (hb3.mono hbel.out.size)⟩

theorem walk (a0 : Int) (w0 : (Lit.int .u8 a0).wf = true) (w : World) :
    Calls Fadg.prog 9 #[.int .u8 a0] w fun e w' => e = .returned (.bool true) ∧ Below w.heap.size w w' := by
  have h : (IntKind.u8.min ≤ a0) ∧ (a0 ≤ IntKind.u8.max) := by
    have h1 := w0
    unfold Lit.wf at h1
    simpa using h1
  have h1 : IntKind.u8.min = 0 := by decide
  have h2 : IntKind.u8.max = 255 := by decide
  obtain ⟨n, rfl⟩ : ∃ n : Nat, a0 = (n : Int) := ⟨a0.toNat, by omega⟩
  exact walkN n (by omega) w

/-! ### THE ROW's STEP: WRITTEN OUT: LEAVE IT -/
set_option maxRecDepth 100000 in
theorem lifted (os : Os) (started : os.Started) (H : Type) (enc : TypeId × Value → H) :
    ReturnsInHanded {} Fadg.checked os 9 .any (Rows.placeToldSpec.pre6 enc Fadg.prog Fadg.f9 Rows.placeToldRow.domain false) (Rows.placeToldSpec.post enc Fadg.prog Fadg.f9 false true false false) := by
  refine returnsInHanded_of_change (C := Fadg.checked) own started (by kernel_rfl) Fadg.func9
    (ChangeSpec.witness6 (enc := enc) (C := Fadg.checked) false ⟨#[], #[.int .u8 0], []⟩ 8 (by kernel_rfl) (by kernel_rfl) (by kernel_rfl) (by kernel_rfl)) ?_
  intro W base args ds gs before hval0 hW hcnd _
  have hval : ∀ (j : Nat) t v, Fadg.f9.params[j]? = some t → args[j]? = some v → Value.okWide Fadg.prog W .any base t v := hval0
  have hW' := hW
  obtain ⟨p, q, hA0, hV, rfl, hfz, hnd⟩ := hW
  have hA : DataW.TrodAll enc Fadg.prog W 0 (fun _ => true) true Fadg.f9.params.toList args.toList ds p := hA0
  rw [Fadg.params9] at hA hval
  obtain ⟨v0, vs0, d0, ds0, p0, q0, hargs, rfl, rfl, h0, r0⟩ := trodAll_cons hA
  obtain ⟨rfl, rfl, rfl⟩ := trodAll_nil r0
  obtain rfl : args = #[v0] := by cases args; simp_all
  obtain ⟨rfl, rfl⟩ := trodVars_none hV
  obtain ⟨a0, rfl, rfl, rfl, w0⟩ := open_int Fadg.underlying5 (hval 0 5 v0 rfl rfl) h0
  clear hA0 hval0
  simp only [List.append_nil] at hW'
  refine (walk a0 w0 W).mono fun e W' ⟨he, hg⟩ => ?_
  subst he
  exact ⟨_, rfl, _, _, _, [], [], [], hW', trodAll_mk1 (shut_bool Fadg.underlying4 _), (trodAll_cons_mk (shut_int Fadg.underlying5 w0) trodAll_mk0), rfl, hg.frame _, fun h => by cases h⟩

theorem over : Rows.placeToldRow.holds Fadg.pinned (OpenSpec.ofChange Rows.placeToldSpec) :=
  OpenClaim.holds_of_wide 9 Fadg.f9 rfl rfl rfl rfl rfl rfl rfl ⟨rfl, rfl, rfl, rfl, rfl⟩ rfl rfl rfl rfl rfl (by kernel_rfl) Fadg.func9 (by kernel_rfl)
    (of_decide_eq_true (by kernel_rfl)) (by unfold Func.isWrapper; first | (rw [if_pos (by decide +kernel)]; kernel_rfl) | (rw [if_neg (by decide +kernel)]; exact ⟨rfl, rfl⟩))
    (fun os started H enc _ => lifted os started H enc)

/-- ████ THE STATEMENT ████ -/
theorem proved : Rows.PlaceToldSaid :=
  over
#print axioms proved
end Go.Proofs.Ygcfad.placeTold
