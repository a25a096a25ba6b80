/-
  A PROOF OF 'Rows.PackRunsSaid' ('wordview/law.PackRuns'), WRITTEN BY PROGRAM off the guide's own print for that function; the walks are the prover's.
-/
import Derived.Test.YgcfadRows
import Derived.WalkKit
import Derived.ProofKit
import Derived.OpenShut
import Derived.ShutString
import Derived.Test.YgcfadPack
import Derived.Test.YgcfadRunsPlain
namespace Go.Proofs.Ygcfad.packRuns
open Plain
open Go.ChangeShapes Go.WideShapes Go.ChangeAt Go.RowKit
open Go.ChangeMaps (open_string shut_string)
set_option linter.unusedVariables false      -- a walk need not use every 'w<i>' (that an integer argument fits its kind)

theorem own : ownKnob Fadg.prog.godebug = none := by kernel_rfl

/-! ### STEP 1: THE WALK: the Go text returns true; of old memory nothing turns. -/
theorem wpList_make_words (w : World) {ops : Array Oper} {rest : List Oper} {o : Oper} {a : Act} {Q : Exit → Act → World → Prop}
    (hg : o.guard = none) (l c : Operand) (hop : o.op = Op.makeSlice 22 l c) (L C : Int) (n : Nat) (hl : a.eval l = .int .i64 L) (hc : a.eval c = .int .i64 C) (hL : L = (n : Int)) (hC : C = (n : Int)) (hn : n ≤ 65536)
    (hK : ∀ w', Own .u64 23 w.heap.size w' (.slice (some ⟨w.heap.size, 0, none⟩) n n) (List.replicate n 0) → Below w.heap.size w w' → wpList Fadg.prog ops Q rest (a.put o.dst (.slice (some ⟨w.heap.size, 0, none⟩) n n)) w') :
    wpList Fadg.prog ops Q (o :: rest) a w := by
  obtain ⟨i, hi, hz0, hz1, hz2⟩ := info_parts Fadg.info23
  refine wpList_make_full w hg l c 22 hop w.heap.size 23 i (.int .u64 0) 1 Fadg.underlying22 hi hz0 hz1 .i64 .i64 L C n hl hc hL hC (by rw [hz2]; omega) (by unfold maxLen; omega) (Nat.le_refl _) ?_
  intro w' hown hgr
  refine hK w' ?_ ((Below.refl _ _).grown hgr (Nat.le_refl _) (fun _ h => by cases h))
  unfold Own
  have e : (madeCells (Value.int .u64 0).cells (n * 1)).toList = (List.replicate n 0).map fun b => Value.int .u64 ((b : Nat) : Int) := by
    rw [Nat.mul_one]
    show (madeCells #[Value.int .u64 0] n).toList = _
    rw [toList_madeCells_one]; simp
  rw [e] at hown
  rw [List.length_replicate]
  exact hown

theorem frozen_own {B k : Nat} {w : World} {g : Nat} {l : List Nat} (h : Own .u64 23 B w (.slice (some ⟨g, 0, none⟩) k k) l) (j : Nat) (hl : l.length = k) : w.frozen? ⟨g, j, none⟩ = false := by
  unfold Own at h; rw [hl] at h; exact h.frozenAt j
theorem cell_own {B k : Nat} {w : World} {g : Nat} {l : List Nat} (h : Own .u64 23 B w (.slice (some ⟨g, 0, none⟩) k k) l) (j : Nat) (hl : l.length = k) (hj : j < k) : ∃ c, w.cell? ⟨g, j, none⟩ = some (.int .u64 c) := by
  unfold Own at h; rw [hl] at h; rw [h.cellAt j (by omega)]
  rw [List.getElem?_eq_getElem (by simp; omega)]
  simp
theorem store_own {B k : Nat} {w w0 : World} {g : Nat} {l : List Nat} (h : Own .u64 23 B w (.slice (some ⟨g, 0, none⟩) k k) l) (j : Nat) (hl : l.length = k) (x : Nat) (hb : Below B w0 w) :
    Own .u64 23 B (w.setCell ⟨g, j, none⟩ (.int .u64 (x : Int))) (.slice (some ⟨g, 0, none⟩) k k) (l.set j x) ∧ Below B w0 (w.setCell ⟨g, j, none⟩ (.int .u64 (x : Int))) := by
  have hB := (World.ownsRow.lt h g rfl).1
  unfold Own at h ⊢
  rw [List.length_set, List.map_set]
  rw [hl] at h ⊢
  exact ⟨(h.stored j _).1, hb.setCell hB _⟩

theorem zeros_lt (k : Nat) : ∀ x ∈ List.replicate k 0, x < 18446744073709551616 := by intro x hx; simp at hx; omega

set_option maxRecDepth 100000 in
set_option maxHeartbeats 1000000 in
theorem walk_zero (k : Nat) (a0 : Int) (hk : k ≤ 256) (h1 : 0 ≤ a0) (h2 : a0 ≤ 65535) (hmin : Hid ((k : Int) = min a0 256)) (w : World) :
    Calls Fadg.prog 6 #[.int .u16 a0, .bool false] w fun e w' => e = .returned (.bool true) ∧ Below w.heap.size w w' := by
  go_enter Fadg.func6, Fadg.ntmps6
  go_wp2_with (first | (at_make; go_must (refine wpList_make_words _ rfl (.tmp 11) (.tmp 11) rfl _ _ k rfl rfl (by have := hmin.out; omega) (by have := hmin.out; omega) (by omega) ?_); intro w1 hown1 hbel1) | (go_at_call 20; go_must (refine (pack_any _ k k (List.replicate k 0) _ (by simp) hown1.row.2 (Nat.le_refl _) (zeros_lt k) hk).mono ?_); rintro e w2 ⟨v, rfl, hown2, hbel2⟩; obtain ⟨ao, cap, rfl, hs1, hs2, hs3⟩ := hown2.shape))
  all_goals
    go_ret
    exact ⟨ret_bool (by have := runs_zero dnB k hk; have := hmin.out; simp only [beq_iff_eq]; omega), hbel1.trans (hbel2.mono hbel1.size)⟩

set_option maxRecDepth 100000 in
set_option maxHeartbeats 2000000 in
theorem walk_full (k : Nat) (a0 : Int) (hk : k ≤ 256) (h1 : 0 ≤ a0) (h2 : a0 ≤ 65535) (hmin : Hid ((k : Int) = min a0 256)) (w : World) :
    Calls Fadg.prog 6 #[.int .u16 a0, .bool true] w fun e w' => e = .returned (.bool true) ∧ Below w.heap.size w w' := by
  go_enter Fadg.func6, Fadg.ntmps6
  go_wp2_with (first | (at_make; go_must (refine wpList_make_words _ rfl (.tmp 11) (.tmp 11) rfl _ _ k rfl rfl (by have := hmin.out; omega) (by have := hmin.out; omega) (by omega) ?_); intro w1 hown1 hbel1))
  all_goals
    go_loopw [25] (fun i wr => ∃ i' : Nat, i = .int .i64 (i' : Int) ∧ i' ≤ k ∧ Own .u64 23 w.heap.size wr (.slice (some ⟨w.heap.size, 0, none⟩) k k) (fillL k i') ∧ Below w.heap.size w wr) (fun i _ => k - (intOf i).toNat)
    case atStart => exact ⟨0, rfl, Nat.zero_le _, by rw [fillL_zero]; exact hown1, hbel1⟩
    case round =>
      obtain ⟨i', rfl, hi', hown, hbel⟩ := hrel
      clear hown1 hbel1
      by_cases hlt : i' < k
      · have hfz : wr.frozen? ⟨w.heap.size, i', none⟩ = false := frozen_own hown i' (fillL_length _ _)
        obtain ⟨c, hcell⟩ : ∃ c, wr.cell? ⟨w.heap.size, i', none⟩ = some (.int .u64 c) := cell_own hown i' (fillL_length _ _) hlt
        have R := store_own hown i' (fillL_length _ _) (fullW i') hbel
        go_wp2
        go_roundw
        case rel => exact ⟨i' + 1, by go_num, by omega, by rw [← fillL_set]; exact R.1, R.2⟩
        case measure => simp [intOf]; omega
      · have hik : i' = k := by omega
        have hown' : Own .u64 23 w.heap.size wr (.slice (some ⟨w.heap.size, 0, none⟩) k k) (fullL k) := by rw [hik, fillL_all] at hown; exact hown
        clear hik hown
        by_cases h0 : k = 0
        · first
            | (exfalso; have := hmin.out; omega)
            | (have ha0 : (a0 == 0) = true := by have := hmin.out; simp; omega
               go_wp2
               go_ret
               exact ⟨rfl, hbel⟩)
        · have hk0 : Hid (¬ k = 0) := h0
          clear h0
          have ha0 : (a0 == 0) = false := by have := hmin.out; have := hk0.out; simp; omega
          go_wp2_with (go_at_call 20; go_must (refine (pack_any _ k k (fullL k) _ (by simp [fullL]) hown'.row.2 (Nat.le_refl _) (fullL_lt k) hk).mono ?_); rintro e w2 ⟨v, rfl, hown2, hbel2⟩; obtain ⟨ao, cap, rfl, hs1, hs2, hs3⟩ := hown2.shape)
          go_ret
          exact ⟨ret_bool (by have := runs_full dnB dnB_full k hk hk0.out; have := hmin.out; have := hk0.out; simp only [beq_iff_eq]; omega), hbel.trans (hbel2.mono hbel.size)⟩

theorem wf_u16 {n : Int} (h : (Lit.int .u16 n).wf = true) : 0 ≤ n ∧ n ≤ 65535 := by
  simp [Lit.wf, IntKind.min, IntKind.max, IntKind.signed, IntKind.bits] at h
  omega
theorem walk (a0 : Int) (a1 : Bool) (w0 : (Lit.int .u16 a0).wf = true) (w : World) :
    Calls Fadg.prog 6 #[.int .u16 a0, .bool a1] w fun e w' => e = .returned (.bool true) ∧ Below w.heap.size w w' := by
  obtain ⟨h1, h2⟩ := wf_u16 w0
  have hm : (((min a0 256).toNat : Nat) : Int) = min a0 256 := by omega
  cases a1 with
  | false => exact walk_zero (min a0 256).toNat a0 (by omega) h1 h2 hm w
  | true => exact walk_full (min a0 256).toNat a0 (by omega) h1 h2 hm w

/-! ### THE ROW's STEP: WRITTEN OUT: LEAVE IT -/
set_option maxRecDepth 100000 in
theorem lifted (os : Os) (started : os.Started) (H : Type) (enc : TypeId × Value → H) :
    ReturnsInHanded {} Fadg.checked os 6 .any (Rows.packRunsSpec.pre6 enc Fadg.prog Fadg.f6 Rows.packRunsRow.domain false) (Rows.packRunsSpec.post enc Fadg.prog Fadg.f6 false true false false) := by
  refine returnsInHanded_of_change (C := Fadg.checked) own started (by kernel_rfl) Fadg.func6
    (ChangeSpec.witness6 (enc := enc) (C := Fadg.checked) false ⟨#[], #[.int .u16 0, .bool false], []⟩ 8 (by kernel_rfl) (by kernel_rfl) (by kernel_rfl) (by kernel_rfl)) ?_
  intro W base args ds gs before hval0 hW hcnd _
  have hval : ∀ (j : Nat) t v, Fadg.f6.params[j]? = some t → args[j]? = some v → Value.okWide Fadg.prog W .any base t v := hval0
  have hW' := hW
  obtain ⟨p, q, hA0, hV, rfl, hfz, hnd⟩ := hW
  have hA : DataW.TrodAll enc Fadg.prog W 0 (fun _ => true) true Fadg.f6.params.toList args.toList ds p := hA0
  rw [Fadg.params6] at hA hval
  obtain ⟨v0, vs0, d0, ds0, p0, q0, hargs, rfl, rfl, h0, r0⟩ := trodAll_cons hA
  obtain ⟨v1, vs1, d1, ds1, p1, q1, rfl, rfl, rfl, h1, r1⟩ := trodAll_cons r0
  obtain ⟨rfl, rfl, rfl⟩ := trodAll_nil r1
  obtain rfl : args = #[v0, v1] := by cases args; simp_all
  obtain ⟨rfl, rfl⟩ := trodVars_none hV
  obtain ⟨a0, rfl, rfl, rfl, w0⟩ := open_int Fadg.underlying33 (hval 0 33 v0 rfl rfl) h0
  obtain ⟨a1, rfl, rfl, rfl⟩ := open_bool Fadg.underlying4 (hval 1 4 v1 rfl rfl) h1
  clear hA0 hval0
  simp only [List.append_nil] at hW'
  refine (walk a0 a1 w0 W).mono fun e W' ⟨he, hg⟩ => ?_
  subst he
  exact ⟨_, rfl, _, _, _, [], [], [], hW', trodAll_mk1 (shut_bool Fadg.underlying4 _), (trodAll_cons_mk (shut_int Fadg.underlying33 w0) (trodAll_cons_mk (shut_bool Fadg.underlying4 _) trodAll_mk0)), rfl, hg.frame _, fun h => by cases h⟩

theorem over : Rows.packRunsRow.holds Fadg.pinned (OpenSpec.ofChange Rows.packRunsSpec) :=
  OpenClaim.holds_of_wide 6 Fadg.f6 rfl rfl rfl rfl rfl rfl rfl ⟨rfl, rfl, rfl, rfl, rfl⟩ rfl rfl rfl rfl rfl (by kernel_rfl) Fadg.func6 (by kernel_rfl)
    (of_decide_eq_true (by kernel_rfl)) (by unfold Func.isWrapper; first | (rw [if_pos (by decide +kernel)]; kernel_rfl) | (rw [if_neg (by decide +kernel)]; exact ⟨rfl, rfl⟩))
    (fun os started H enc _ => lifted os started H enc)

/-- ████ THE STATEMENT ████ -/
theorem proved : Rows.PackRunsSaid :=
  over
#print axioms proved
end Go.Proofs.Ygcfad.packRuns
