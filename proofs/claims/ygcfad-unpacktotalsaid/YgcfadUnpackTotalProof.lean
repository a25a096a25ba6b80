/-
  A PROOF OF 'Rows.UnpackTotalSaid' ('wordview/law.UnpackTotal') on the frame that the guide's program writes; the walks are the prover's.
-/
import Derived.Test.YgcfadRows
import Derived.WalkKit
import Derived.ProofKit
import Derived.OpenShut
import Derived.ShutString
import Derived.ChangeOld
import Derived.Below
import Derived.Test.YgcfadOwnUnpack
import Derived.Test.YgcfadTotalPlain
import Derived.Test.YgcfadPackBackProof
namespace Go.Proofs.Ygcfad.unpackTotal
open Plain
open Go.ChangeShapes Go.WideShapes Go.ChangeAt Go.RowKit
open Go.ChangeMaps (open_string shut_string)
set_option linter.unusedVariables false

theorem own : ownKnob Fadg.prog.godebug = none := by kernel_rfl
theorem laidOut : laidOutB Fadg.prog = true := by kernel_rfl

/-- WHAT THE WALK IS TOLD OF A SLICE OF INTEGERS THAT CAME IN: it is nil; or it leads to a row of 'cap' cells, the numbers 'zs' (the first 'len' are its elements, the rest its spare room), each fitting its kind. -/
def IsRow (k : IntKind) (w : World) (a : Option Addr) (len cap : Nat) (zs : List Int) : Prop :=
  (a = none ∧ len = 0 ∧ cap = 0 ∧ zs = []) ∨
  ∃ x, a = some x ∧ len ≤ cap ∧ cap ≤ maxLen ∧ zs.length = cap ∧ (∀ i, i < zs.length → w.cell? (x.add i) = some (.int k (zs.getD i 0))) ∧ ∀ n ∈ zs, (Lit.int k n).wf = true

/-! ### STEP 1: THE WALK -/
theorem wf_u8 {n : Int} (h : (Lit.int .u8 n).wf = true) : 0 ≤ n ∧ n < 256 := by
  simp [Lit.wf, IntKind.min, IntKind.max, IntKind.signed, IntKind.bits] at h
  omega

/-- A slice that came in, cut at l elements, as a row of plain numbers. -/
theorem row_of {w : World} {a : Option Addr} {len cap : Nat} {zs : List Int} (h : IsRow .u8 w a len cap zs) (l : Nat) (hl : l ≤ len) :
    ∃ ns : List Nat, ns.length = l ∧ RowAt .u8 w a ns ∧ (∀ x ∈ ns, x < 256) ∧ l ≤ cap ∧ cap ≤ maxLen := by
  rcases h with ⟨rfl, rfl, rfl, rfl⟩ | ⟨x, rfl, hlc, hcm, hz, hc, hw⟩
  · exact ⟨[], by simp; omega, .inl rfl, by simp, by omega, by simp [maxLen]⟩
  · refine ⟨(zs.take l).map Int.toNat, by simp; omega, ?_, ?_, by omega, hcm⟩
    · by_cases h0 : l = 0
      · exact .inl (by subst h0; simp)
      · obtain ⟨b, off, spot⟩ := x
        have hs : spot = none := by simpa [Addr.add] using World.cell?_spot (hc 0 (by omega))
        subst hs
        refine .inr ⟨b, off, rfl, fun i hi => ?_⟩
        simp at hi
        have := hc i (by omega)
        rw [Addr.add_lit] at this
        rw [this]
        have hil : i < zs.length := by omega
        have hw' := wf_u8 (hw zs[i] (List.getElem_mem _))
        simp only [List.getD, List.getElem?_eq_getElem hil, List.getElem?_map, List.getElem?_take, if_pos (show i < l by omega), Option.map_some, Option.getD_some]
        rw [Int.toNat_of_nonneg hw'.1]
    · intro y hy
      obtain ⟨z, hz', rfl⟩ := List.mem_map.1 hy
      have := wf_u8 (hw z (List.mem_of_mem_take hz'))
      omega

/-- 'a[:h]' of bytes. -/
theorem wpList_sliceHB (w : World) {ops : Array Oper} {rest : List Oper} {o : Oper} {a : Act} {Q : Exit → Act → World → Prop} (hgd : o.guard = none) (x hi : Operand)
    (hop : o.op = Op.slice 26 x none (some hi) none) (ao : Option Addr) (n cap l : Nat)
    (hx : a.eval x = .slice ao n cap) (L : Int) (hhi : a.eval hi = .int .i64 L) (hL : L = (l : Int)) (hl : l ≤ cap)
    (h : wpList Fadg.prog ops Q rest (a.put o.dst (.slice ao l cap)) w) : wpList Fadg.prog ops Q (o :: rest) a w := by
  refine wpList_plain hgd fun K hK => ?_
  subst hL
  have hrun := run_slice_h (P := Fadg.prog) w 26 ao n cap Fadg.elem26 .i64 (l : Int) (by omega) (by omega)
  rw [Fadg.size26] at hrun
  have hat := run_sliceAt_slice (P := Fadg.prog) w 26 (.slice ao n cap) none (some (.int .i64 (l : Int))) none Fadg.elem26
  rw [hrun] at hat
  unfold Oper.wp
  simp [execOp, hop, hx, hhi, hat, Result.andThen]
  refine hK _ _ ?_
  simp only [sliced]
  have e : (if cap = 0 then ao else Option.map (fun x : Addr => x.add (0 * 1)) ao) = ao := by
    split
    · rfl
    · cases ao <;> simp [Addr.add]
  rw [e]
  simpa using h

set_option maxRecDepth 100000 in
theorem own_long (ao : Option Addr) (sl sc : Nat) (w : World) (hl : 4096 < sl) :
    Calls Fadg.prog 23 #[.slice ao sl sc] w fun e w' => e = .returned (.tuple #[.slice none 0 0, .bool false]) ∧ w' = w := by
  have hl' : (4096 : Int) < (sl : Int) := by omega
  go_enter Fadg.func23, Fadg.ntmps23
  go_wp2
  go_ret2
  exact ⟨rfl, rfl⟩

set_option maxRecDepth 100000 in
set_option maxHeartbeats 1000000 in
theorem walk_no (ao : Option Addr) (len cap : Nat) (s : List Nat) (w : World) (hn : Hid (len = s.length)) (hr : Hid (RowAt .u8 w ao s)) (hz : Hid (∀ x ∈ s, x < 256)) (hcap : len ≤ cap) (hl : len ≤ 4096) (hno : Hid (unpackN s [] = none)) :
    Calls Fadg.prog 5 #[.slice ao len cap] w fun e w' => e = .returned (.bool true) ∧ Below w.heap.size w w' := by
  have H1 := hidden (unpack_any ao len cap s w hn.out hr.out hz.out hl hcap)
  rw [hno.out] at H1
  go_enter Fadg.func5, Fadg.ntmps5
  go_wp2_with (refine wpList_sliceHB _ rfl (.tmp 7) (.tmp 10) rfl ao len cap len rfl _ rfl (by omega) (by omega) ?_)
  refine H1.out.mono ?_
  rintro e w1 ⟨hb1, rfl⟩
  have H2 := hidden (ownUnpack_any ao len cap s w1 hn (hr.out.below hb1 (Nat.le_refl _)) hz hl)
  rw [hno.out] at H2
  go_wp2_with fail
  refine H2.out.mono ?_
  rintro e w2 ⟨hb2, rfl⟩
  go_wp2_with fail
  refine (same_yes none none 0 0 0 [] w2 rfl (.inl rfl) (.inl rfl) (by omega)).mono ?_
  rintro e w3 ⟨rfl, q, hq⟩
  subst hq
  go_wp2
  go_ret
  exact ⟨rfl, below_drewN (hb1.trans (hb2.mono hb1.size)) _⟩

set_option maxRecDepth 100000 in
set_option maxHeartbeats 1000000 in
theorem walk_yes (ao : Option Addr) (len cap : Nat) (s ws : List Nat) (w : World) (hn : Hid (len = s.length)) (hr : Hid (RowAt .u8 w ao s)) (hz : Hid (∀ x ∈ s, x < 256)) (hcap : len ≤ cap) (hl : len ≤ 4096) (hyes : Hid (unpackN s [] = some ws)) :
    Calls Fadg.prog 5 #[.slice ao len cap] w fun e w' => e = .returned (.bool true) ∧ Below w.heap.size w w' := by
  have HW := hidden (unpackN_words s.length s [] ws (Nat.le_refl _) hz.out (by simp) (by simp) hyes.out)
  have H1 := hidden (unpack_any ao len cap s w hn.out hr.out hz.out hl hcap)
  rw [hyes.out] at H1
  go_enter Fadg.func5, Fadg.ntmps5
  go_wp2_with (refine wpList_sliceHB _ rfl (.tmp 7) (.tmp 10) rfl ao len cap len rfl _ rfl (by omega) (by omega) ?_)
  refine H1.out.mono ?_
  rintro e w1 ⟨hb1, oa1, n1, oc1, rfl, hown1⟩
  obtain ⟨hn1, hrow1⟩ := hown1.row
  obtain ⟨_, oc', hsh, hoc, _⟩ := hown1.shape
  simp only [Value.slice.injEq] at hsh
  obtain ⟨-, -, hoc'⟩ := hsh
  have hn256 : n1 ≤ 256 := by rw [hn1]; exact HW.out.1
  have hn1c : n1 ≤ oc1 := by omega
  have HN1 : Hid (n1 = ws.length) := hn1
  have HR1 := hidden hrow1
  clear hn1 hrow1 hoc hoc' hown1
  have H2 := hidden (ownUnpack_any ao len cap s w1 hn (hr.out.below hb1 (Nat.le_refl _)) hz hl)
  rw [hyes.out] at H2
  go_wp2_with fail
  refine H2.out.mono ?_
  rintro e w2 ⟨hb2, oa2, n2, oc2, rfl, hown2⟩
  obtain ⟨hn2, hrow2⟩ := hown2.row
  obtain rfl : n2 = n1 := by have := HN1.out; omega
  clear hn2 hown2
  go_wp2_with fail
  refine (same_yes oa1 oa2 _ oc1 oc2 ws w2 HN1 (HR1.out.below hb2 (Nat.le_refl _)) hrow2 (by omega)).mono ?_
  rintro e w3 ⟨rfl, q, hq⟩
  have hb3 : Below w.heap.size w w3 := by rw [hq]; exact below_drewN (hb1.trans (hb2.mono hb1.size)) _
  have hr3 : RowAt .u64 w3 oa1 ws := by rw [hq]; exact (HR1.out.below hb2 (Nat.le_refl _)).below (below_drewN (Below.refl _ _) q) (Nat.le_refl _)
  have HR3 := hidden hr3
  clear hq hr3
  have hn256' : (n2 : Int) ≤ 256 := by omega
  go_wp2_with fail
  refine (packBack.walk_short oa1 n2 oc1 ws w3 HN1 HR3 HW.out.2 hn1c hn256).mono ?_
  rintro e w4 ⟨rfl, hb4⟩
  go_wp2
  go_ret
  exact ⟨rfl, hb3.trans (hb4.mono hb3.size)⟩

set_option maxRecDepth 100000 in
theorem walk_long (ao : Option Addr) (len cap : Nat) (w : World) (hcap : len ≤ cap) (hl : 4096 < len) :
    Calls Fadg.prog 5 #[.slice ao len cap] w fun e w' => e = .returned (.bool true) ∧ Below w.heap.size w w' := by
  by_cases h7 : len = 4097
  · subst h7
    go_enter Fadg.func5, Fadg.ntmps5
    go_wp2_with (refine wpList_sliceHB _ rfl (.tmp 7) (.tmp 10) rfl ao 4097 cap 4097 rfl _ rfl (by omega) (by omega) ?_)
    refine (unpack_long ao 4097 cap w (by omega)).mono ?_
    rintro e w1 ⟨rfl, rfl⟩
    go_wp2_with fail
    refine (own_long ao 4097 cap _ (by omega)).mono ?_
    rintro e w2 ⟨rfl, rfl⟩
    go_wp2_with fail
    refine (same_yes none none 0 0 0 [] _ rfl (.inl rfl) (.inl rfl) (by omega)).mono ?_
    rintro e w3 ⟨rfl, q, hq⟩
    subst hq
    go_wp2
    go_ret
    exact ⟨rfl, below_drewN (Below.refl _ _) _⟩
  · have h8 : (4097 : Int) < (len : Int) := by omega
    go_enter Fadg.func5, Fadg.ntmps5
    go_wp2_with (refine wpList_sliceHB _ rfl (.tmp 7) (.tmp 10) rfl ao len cap 4097 rfl _ rfl (by omega) (by omega) ?_)
    refine (unpack_long ao 4097 cap w (by omega)).mono ?_
    rintro e w1 ⟨rfl, rfl⟩
    go_wp2_with fail
    refine (own_long ao 4097 cap _ (by omega)).mono ?_
    rintro e w2 ⟨rfl, rfl⟩
    go_wp2_with fail
    refine (same_yes none none 0 0 0 [] _ rfl (.inl rfl) (.inl rfl) (by omega)).mono ?_
    rintro e w3 ⟨rfl, q, hq⟩
    subst hq
    go_wp2
    go_ret
    exact ⟨rfl, below_drewN (Below.refl _ _) _⟩

theorem IsRow.le {w : World} {a : Option Addr} {len cap : Nat} {zs : List Int} (h : IsRow .u8 w a len cap zs) : len ≤ cap := by
  rcases h with ⟨_, rfl, rfl, _⟩ | ⟨_, _, h, _⟩
  · exact Nat.le_refl _
  · exact h

theorem walk (a0 : Option Addr) (len0 cap0 : Nat) (z0 : List Int) (w : World) (w0 : IsRow .u8 w a0 len0 cap0 z0) :
    Calls Fadg.prog 5 #[.slice a0 len0 cap0] w fun e w' => e = .returned (.bool true) ∧ Below w.heap.size w w' := by
  by_cases h : len0 ≤ 4096
  · obtain ⟨ns, h1, h2, h3, _, _⟩ := row_of w0 len0 (Nat.le_refl _)
    cases hu : unpackN ns [] with
    | none => exact walk_no a0 len0 cap0 ns w h1.symm h2 h3 (IsRow.le w0) h hu
    | some ws => exact walk_yes a0 len0 cap0 ns ws w h1.symm h2 h3 (IsRow.le w0) h hu
  · exact walk_long a0 len0 cap0 w (IsRow.le w0) (by omega)

/-! ### THE ROW's STEP: WRITTEN OUT: LEAVE IT -/
set_option maxRecDepth 100000 in
theorem lifted (os : Os) (started : os.Started) (H : Type) (enc : TypeId × Value → H) :
    ReturnsInHanded {} Fadg.checked os 5 .any (Rows.unpackTotalSpec.pre6 enc Fadg.prog Fadg.f5 Rows.unpackTotalRow.domain false) (Rows.unpackTotalSpec.post enc Fadg.prog Fadg.f5 false true false false) := by
  refine returnsInHanded_of_change (C := Fadg.checked) own started (by kernel_rfl) Fadg.func5
    (ChangeSpec.witness6 (enc := enc) (C := Fadg.checked) false ⟨#[], #[.slice none 0 0], []⟩ 8 (by kernel_rfl) (by kernel_rfl) (by kernel_rfl) (by kernel_rfl)) ?_
  intro W base args ds gs before hval0 hW hcnd _
  have hval : ∀ (j : Nat) t v, Fadg.f5.params[j]? = some t → args[j]? = some v → Value.okWide Fadg.prog W .any base t v := hval0
  have hW' := hW
  obtain ⟨p, q, hA0, hV, rfl, hfz, hnd⟩ := hW
  have hA : DataW.TrodAll enc Fadg.prog W 0 (fun _ => true) true Fadg.f5.params.toList args.toList ds p := hA0
  rw [Fadg.params5] at hA hval
  obtain ⟨v0, vs0, d0, ds0, p0, q0, hargs, rfl, rfl, h0, r0⟩ := trodAll_cons hA
  obtain ⟨rfl, rfl, rfl⟩ := trodAll_nil r0
  obtain rfl : args = #[v0] := by cases args; simp_all
  obtain ⟨rfl, rfl⟩ := trodVars_none hV
  obtain ⟨a0, len0, cap0, rfl⟩ := okWide_slice Fadg.underlying26 (hval 0 26 v0 rfl rfl)
  have k0 := h0
  have lt0 : ∀ x ∈ p0, x.block < W.heap.size := by obtain ⟨m, hm⟩ := k0; exact DataW.trod_lt m _ _ _ hm
  obtain ⟨z0, w0⟩ : ∃ zs, IsRow .u8 W a0 len0 cap0 zs := by
    obtain ⟨fuel, hf⟩ := h0
    rcases open_ints Fadg.underlying26 Fadg.underlying5 (by kernel_rfl) hf with ⟨hcs, _⟩ | ⟨x, l, c, zs, hcs, _, hl, hm, hz, _, hcell, hwz⟩
    · simp [Value.cells] at hcs
      obtain ⟨rfl, rfl, rfl⟩ := hcs
      exact ⟨[], .inl ⟨rfl, rfl, rfl, rfl⟩⟩
    · simp [Value.cells] at hcs
      obtain ⟨rfl, rfl, rfl⟩ := hcs
      exact ⟨zs, .inr ⟨_, rfl, hl, hm, by simpa using hz, hcell, hwz⟩⟩
  clear hA0 hval0
  refine (walk a0 len0 cap0 z0 W w0).mono fun e W' ⟨he, bel⟩ => ?_
  subst he
  exact ⟨_, rfl, _, _, _, [], _, [], hW', trodAll_mk1 (shut_bool Fadg.underlying4 _), (trodAll_cons_mk (Below.trod laidOut (by kernel_rfl) (of_decide_eq_true (by kernel_rfl)) k0 bel lt0) trodAll_mk0), rfl, bel.frame _, fun h => by cases h⟩

theorem over : Rows.unpackTotalRow.holds Fadg.pinned (OpenSpec.ofChange Rows.unpackTotalSpec) :=
  OpenClaim.holds_of_wide 5 Fadg.f5 rfl rfl rfl rfl rfl rfl rfl ⟨rfl, rfl, rfl, rfl, rfl⟩ rfl rfl rfl rfl rfl (by kernel_rfl) Fadg.func5 (by kernel_rfl)
    (of_decide_eq_true (by kernel_rfl)) (by unfold Func.isWrapper; first | (rw [if_pos (by decide +kernel)]; kernel_rfl) | (rw [if_neg (by decide +kernel)]; exact ⟨rfl, rfl⟩))
    (fun os started H enc _ => lifted os started H enc)

/-- ████ THE STATEMENT ████ -/
theorem proved : Rows.UnpackTotalSaid := over
#print axioms proved
end Go.Proofs.Ygcfad.unpackTotal
