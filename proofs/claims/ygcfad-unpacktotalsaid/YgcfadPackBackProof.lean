/-
  A PROOF OF 'Rows.PackBackSaid' ('wordview/law.PackBack') on the frame that the guide's program writes; the walks are the prover's.
-/
import Derived.Test.YgcfadRows
import Derived.WalkKit
import Derived.ProofKit
import Derived.OpenShut
import Derived.ShutString
import Derived.ChangeOld
import Derived.Below
import Derived.Test.YgcfadPack
import Derived.Test.YgcfadUnpack
import Derived.Test.YgcfadBackPlain
namespace Go.Proofs.Ygcfad.packBack
open Plain
open Go.ChangeShapes Go.WideShapes Go.ChangeAt Go.RowKit
open Go.ChangeMaps (open_string shut_string)
set_option linter.unusedVariables false

theorem own : ownKnob Fadg.prog.godebug = none := by kernel_rfl
theorem laidOut : laidOutB Fadg.prog = true := by kernel_rfl

/-- WHAT THE WALK IS TOLD OF A SLICE OF INTEGERS THAT CAME IN: it is nil; or it leads to a row of 'cap' cells, the numbers 'zs' (the first 'len' are its elements, the rest its spare room), each fitting its kind. -/
def IsRow (k : IntKind) (w : World) (a : Option Addr) (len cap : Nat) (zs : List Int) : Prop :=
  (a = none ∧ len = 0 ∧ cap = 0 ∧ zs = []) ∨
  ∃ x, a = some x ∧ len ≤ cap ∧ cap ≤ maxLen ∧ zs.length = cap ∧ (∀ i, i < zs.length → w.cell? (x.add i) = some (.int k (zs.getD i 0))) ∧ ∀ n ∈ zs, (Lit.int k n).wf = true

/-! ### STEP 1: THE WALK -/
theorem wf_u64 {n : Int} (h : (Lit.int .u64 n).wf = true) : 0 ≤ n ∧ n < 18446744073709551616 := by
  simp [Lit.wf, IntKind.min, IntKind.max, IntKind.signed, IntKind.bits] at h
  omega

/-- A slice that came in, cut at l elements, as a row of plain numbers. -/
theorem row_of {w : World} {a : Option Addr} {len cap : Nat} {zs : List Int} (h : IsRow .u64 w a len cap zs) (l : Nat) (hl : l ≤ len) :
    ∃ ns : List Nat, ns.length = l ∧ RowAt .u64 w a ns ∧ (∀ x ∈ ns, x < 18446744073709551616) ∧ l ≤ cap ∧ cap ≤ maxLen := by
  rcases h with ⟨rfl, rfl, rfl, rfl⟩ | ⟨x, rfl, hlc, hcm, hz, hc, hw⟩
  · exact ⟨[], by simp; omega, .inl rfl, by simp, by omega, by simp [maxLen]⟩
  · refine ⟨(zs.take l).map Int.toNat, by simp; omega, ?_, ?_, by omega, hcm⟩
    · by_cases h0 : l = 0
      · exact .inl (by subst h0; simp)
      · obtain ⟨b, off, spot⟩ := x
        have hs : spot = none := by simpa [Addr.add] using World.cell?_spot (hc 0 (by omega))
        subst hs
        refine .inr ⟨b, off, rfl, fun i hi => ?_⟩
        simp at hi
        have := hc i (by omega)
        rw [Addr.add_lit] at this
        rw [this]
        have hil : i < zs.length := by omega
        have hw' := wf_u64 (hw zs[i] (List.getElem_mem _))
        simp only [List.getD, List.getElem?_eq_getElem hil, List.getElem?_map, List.getElem?_take, if_pos (show i < l by omega), Option.map_some, Option.getD_some]
        rw [Int.toNat_of_nonneg hw'.1]
    · intro y hy
      obtain ⟨z, hz', rfl⟩ := List.mem_map.1 hy
      have := wf_u64 (hw z (List.mem_of_mem_take hz'))
      omega

set_option maxRecDepth 100000 in
set_option maxHeartbeats 1000000 in
theorem walk_short (ao : Option Addr) (len cap : Nat) (zs : List Nat) (w : World) (hn : Hid (len = zs.length)) (hr : Hid (RowAt .u64 w ao zs)) (hz : Hid (∀ x ∈ zs, x < 18446744073709551616)) (hcap : len ≤ cap) (hl : len ≤ 256) :
    Calls Fadg.prog 4 #[.slice ao len cap] w fun e w' => e = .returned (.bool true) ∧ Below w.heap.size w w' := by
  have hpl : Hid ((packN dnB zs).length ≤ 4096) := by have := packN_length dnB zs; have := hn.out; show (packN dnB zs).length ≤ 4096; omega
  go_enter Fadg.func4, Fadg.ntmps4
  go_wp2_with (refine wpList_sliceH _ rfl (.tmp 6) (.tmp 9) rfl ao len cap len rfl _ rfl (by omega) (by omega) ?_)
  refine (pack_any ao cap len zs _ hn.out hr.out hcap hz.out hl).mono ?_
  rintro e w1 ⟨v, rfl, hown1, hb1⟩
  obtain ⟨oa, n1, oc, hov, hn1⟩ := hown1.told
  have HU : Hid (Calls Fadg.prog 21 #[.slice oa n1 oc] w1 (UnpackPost w1 (some zs))) := by
    rw [hov] at hown1
    obtain ⟨hn1', hrow1⟩ := hown1.row
    obtain ⟨oa', oc', hsh, hoc, _⟩ := hown1.shape
    simp only [Value.slice.injEq] at hsh
    have h := unpack_any oa n1 oc (packN dnB zs) w1 hn1.out hrow1 (packN_lt dnB zs) (by have := hn1.out; have := hpl.out; omega) (by have := hn1.out; omega)
    rw [unpack_pack dnB zs.length zs [] (Nat.le_refl _) hz.out (by have := hn.out; simp; omega)] at h
    exact h
  rw [hov]
  clear hov hown1
  go_wp2_with fail
  refine HU.out.mono ?_
  rintro e w2 ⟨hb2, oa2, n2, oc2, rfl, hown2⟩
  obtain ⟨hn2, hrow2⟩ := hown2.row
  obtain rfl : n2 = len := by have := hn.out; omega
  clear hown2 hn2
  go_wp2_with fail
  refine (same_yes ao oa2 _ cap oc2 zs w2 hn (RowAt.below (RowAt.below hr.out hb1 (Nat.le_refl _)) hb2 (Nat.le_refl _)) hrow2 (by omega)).mono ?_
  rintro e w3 ⟨rfl, q, hq⟩
  subst hq
  go_wp2
  go_ret
  exact ⟨rfl, below_drewN (hb1.trans (hb2.mono hb1.size)) _⟩

set_option maxRecDepth 100000 in
theorem walk_long (ao : Option Addr) (len cap : Nat) (w : World) (hcap : len ≤ cap) (hl : 256 < len) :
    Calls Fadg.prog 4 #[.slice ao len cap] w fun e w' => e = .returned (.bool true) ∧ Below w.heap.size w w' := by
  have hnil : ∀ (wx : World) (a : Option Addr) (n c : Nat), (binOp .eql 26 (.slice a n c) (.slice none 0 0)).run Fadg.prog wx = .ok (.bool a.isNone) wx := fun wx a n c => Lib.run_eql_slice_nil wx 26 5 a n c 0 0 Fadg.underlying26
  by_cases h7 : len = 257
  · subst h7
    go_enter Fadg.func4, Fadg.ntmps4
    go_wp2_with (first | (refine wpList_sliceH _ rfl (.tmp 6) (.tmp 9) rfl ao 257 cap 257 rfl _ rfl (by omega) (by omega) ?_) | (go_at_call 20; go_must (refine (pack_many ao 257 cap _ (by omega)).mono ?_); rintro e w1 ⟨rfl, rfl⟩))
    go_ret
    exact ⟨rfl, Below.refl _ _⟩
  · have h8 : (257 : Int) < (len : Int) := by omega
    go_enter Fadg.func4, Fadg.ntmps4
    go_wp2_with (first | (refine wpList_sliceH _ rfl (.tmp 6) (.tmp 9) rfl ao len cap 257 rfl _ rfl (by omega) (by omega) ?_) | (go_at_call 20; go_must (refine (pack_many ao 257 cap _ (by omega)).mono ?_); rintro e w1 ⟨rfl, rfl⟩))
    go_ret
    exact ⟨rfl, Below.refl _ _⟩

theorem IsRow.le {w : World} {a : Option Addr} {len cap : Nat} {zs : List Int} (h : IsRow .u64 w a len cap zs) : len ≤ cap := by
  rcases h with ⟨_, rfl, rfl, _⟩ | ⟨_, _, h, _⟩
  · exact Nat.le_refl _
  · exact h

theorem walk (a0 : Option Addr) (len0 cap0 : Nat) (z0 : List Int) (w : World) (w0 : IsRow .u64 w a0 len0 cap0 z0) :
    Calls Fadg.prog 4 #[.slice a0 len0 cap0] w fun e w' => e = .returned (.bool true) ∧ Below w.heap.size w w' := by
  by_cases h : len0 ≤ 256
  · obtain ⟨ns, h1, h2, h3, _, _⟩ := row_of w0 len0 (Nat.le_refl _)
    exact walk_short a0 len0 cap0 ns w h1.symm h2 h3 (IsRow.le w0) h
  · exact walk_long a0 len0 cap0 w (IsRow.le w0) (by omega)

/-! ### THE ROW's STEP: WRITTEN OUT: LEAVE IT -/
set_option maxRecDepth 100000 in
theorem lifted (os : Os) (started : os.Started) (H : Type) (enc : TypeId × Value → H) :
    ReturnsInHanded {} Fadg.checked os 4 .any (Rows.packBackSpec.pre6 enc Fadg.prog Fadg.f4 Rows.packBackRow.domain false) (Rows.packBackSpec.post enc Fadg.prog Fadg.f4 false true false false) := by
  refine returnsInHanded_of_change (C := Fadg.checked) own started (by kernel_rfl) Fadg.func4
    (ChangeSpec.witness6 (enc := enc) (C := Fadg.checked) false ⟨#[], #[.slice none 0 0], []⟩ 8 (by kernel_rfl) (by kernel_rfl) (by kernel_rfl) (by kernel_rfl)) ?_
  intro W base args ds gs before hval0 hW hcnd _
  have hval : ∀ (j : Nat) t v, Fadg.f4.params[j]? = some t → args[j]? = some v → Value.okWide Fadg.prog W .any base t v := hval0
  have hW' := hW
  obtain ⟨p, q, hA0, hV, rfl, hfz, hnd⟩ := hW
  have hA : DataW.TrodAll enc Fadg.prog W 0 (fun _ => true) true Fadg.f4.params.toList args.toList ds p := hA0
  rw [Fadg.params4] at hA hval
  obtain ⟨v0, vs0, d0, ds0, p0, q0, hargs, rfl, rfl, h0, r0⟩ := trodAll_cons hA
  obtain ⟨rfl, rfl, rfl⟩ := trodAll_nil r0
  obtain rfl : args = #[v0] := by cases args; simp_all
  obtain ⟨rfl, rfl⟩ := trodVars_none hV
  obtain ⟨a0, len0, cap0, rfl⟩ := okWide_slice Fadg.underlying22 (hval 0 22 v0 rfl rfl)
  have k0 := h0
  have lt0 : ∀ x ∈ p0, x.block < W.heap.size := by obtain ⟨m, hm⟩ := k0; exact DataW.trod_lt m _ _ _ hm
  obtain ⟨z0, w0⟩ : ∃ zs, IsRow .u64 W a0 len0 cap0 zs := by
    obtain ⟨fuel, hf⟩ := h0
    rcases open_ints Fadg.underlying22 Fadg.underlying23 (by kernel_rfl) hf with ⟨hcs, _⟩ | ⟨x, l, c, zs, hcs, _, hl, hm, hz, _, hcell, hwz⟩
    · simp [Value.cells] at hcs
      obtain ⟨rfl, rfl, rfl⟩ := hcs
      exact ⟨[], .inl ⟨rfl, rfl, rfl, rfl⟩⟩
    · simp [Value.cells] at hcs
      obtain ⟨rfl, rfl, rfl⟩ := hcs
      exact ⟨zs, .inr ⟨_, rfl, hl, hm, by simpa using hz, hcell, hwz⟩⟩
  clear hA0 hval0
  refine (walk a0 len0 cap0 z0 W w0).mono fun e W' ⟨he, bel⟩ => ?_
  subst he
  exact ⟨_, rfl, _, _, _, [], _, [], hW', trodAll_mk1 (shut_bool Fadg.underlying4 _), (trodAll_cons_mk (Below.trod laidOut (by kernel_rfl) (of_decide_eq_true (by kernel_rfl)) k0 bel lt0) trodAll_mk0), rfl, bel.frame _, fun h => by cases h⟩

theorem over : Rows.packBackRow.holds Fadg.pinned (OpenSpec.ofChange Rows.packBackSpec) :=
  OpenClaim.holds_of_wide 4 Fadg.f4 rfl rfl rfl rfl rfl rfl rfl ⟨rfl, rfl, rfl, rfl, rfl⟩ rfl rfl rfl rfl rfl (by kernel_rfl) Fadg.func4 (by kernel_rfl)
    (of_decide_eq_true (by kernel_rfl)) (by unfold Func.isWrapper; first | (rw [if_pos (by decide +kernel)]; kernel_rfl) | (rw [if_neg (by decide +kernel)]; exact ⟨rfl, rfl⟩))
    (fun os started H enc _ => lifted os started H enc)

/-- ████ THE STATEMENT ████ -/
theorem proved : Rows.PackBackSaid := over
#print axioms proved
end Go.Proofs.Ygcfad.packBack
