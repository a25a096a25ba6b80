/-
  THE WALKS of the small methods of package schema's parser: word, fail, expect, name, value; isCapital, typeName, kindOf, isBuiltIn.
-/
import Derived.Test.YgcfadLex
import Derived.Lib.Strings
import Derived.Test.YgcfadNamesPlain
namespace Go.Proofs.Ygcfad
open Go.RowKit Plain
set_option linter.unusedSimpArgs false
set_option linter.unusedVariables false

/-! ### Strings as lists of numbers -/
theorem nats_data (b : ByteArray) : nats b = b.toList.map UInt8.toNat := by rw [Lib.toList_data]; rfl
theorem nats_extract (b : ByteArray) (i j : Nat) : nats (b.extract i j) = ((nats b).drop i).take (j - i) := by
  rw [nats_data, Lib.extract_toList, List.map_take, List.map_drop]; rfl
theorem map_toNat_inj {a b : List UInt8} (h : a.map UInt8.toNat = b.map UInt8.toNat) : a = b := by
  induction a generalizing b with
  | nil => cases b with | nil => rfl | cons _ _ => simp at h
  | cons x a ih =>
    cases b with
    | nil => simp at h
    | cons y b =>
      simp only [List.map_cons, List.cons.injEq] at h
      rw [UInt8.toNat_inj.1 h.1, ih h.2]
/-- Go's '==' on strings, said of their bytes as numbers. -/
theorem str_lit (a : ByteArray) (l : List UInt8) : (a.toList == l) = (nats a == l.map UInt8.toNat) := by
  rw [nats_data, Bool.eq_iff_iff, beq_iff_eq, beq_iff_eq]
  exact ⟨fun h => by rw [h], fun h => map_toNat_inj h⟩
theorem str_beq (a b : ByteArray) : (a.toList == b.toList) = (nats a == nats b) := by rw [str_lit, nats_data b]

theorem str_eq_of {a b : ByteArray} (h : nats a = nats b) : (a.toList == b.toList) = true := by rw [str_beq, h]; simp
theorem str_ne_of {a b : ByteArray} (h : ¬ nats a = nats b) : (a.toList == b.toList) = false := by rw [str_beq]; simpa using h

/-! ### word, fail, expect -/
theorem pword_any (P : Nat) (p : PS) (w : World) (hp : PAt P w p) (ha : p.at_ ≤ p.en) (hen : p.en ≤ p.tx.size) :
    Calls Fadg.prog 70 #[.pointer (some ⟨P, 0, none⟩)] w fun e w' => e = .returned (.string (p.tx.extract p.at_ p.en)) ∧ ∃ q, w' = w.drewN q := by
  obtain ⟨c0, c1, c2, -, -, -, -, -⟩ := hp.cells
  clear hp
  obtain ⟨tx, a, en, tk, cd, wh, sv, uv, num⟩ := p
  simp only at *
  have h1 : (a : Int) ≤ (en : Int) := by omega
  have h2 : (en : Int) ≤ (tx.size : Int) := by omega
  go_enter Fadg.func70, Fadg.ntmps70
  go_wp2
  go_quiet (fail)
  go_wp2
  go_ret
  exact ⟨rfl, _, rfl⟩

/-- An error noted, unless one that stands before it is known. -/
def failP (p : PS) (a c : Nat) : PS := if p.code = 0 ∨ a < p.whr ∨ (a = p.whr ∧ c < p.code) then { p with code := c, whr := a } else p

theorem fail_yes (P : Nat) (p : PS) (w : World) (a c : Nat) (hp : Hid (PAt P w p)) (h : p.code = 0 ∨ (¬ p.code = 0 ∧ (a < p.whr ∨ (a = p.whr ∧ c < p.code)))) :
    Calls Fadg.prog 111 #[.pointer (some ⟨P, 0, none⟩), .int .i64 (a : Int), .int .u8 (c : Int)] w fun e w' => e = .returned (.tuple #[]) ∧ PAt P w' { p with code := c, whr := a } ∧ Only P w w' := by
  obtain ⟨-, -, -, -, c4, c5, -, -⟩ := hp.out.cells
  have f4 := hp.out.2 4
  have f5 := hp.out.2 5
  obtain ⟨tx, a0, en, tk, cd, wh, sv, uv, num⟩ := p
  simp only at *
  rcases h with h | ⟨h0, h | h⟩
  · have h' : ((cd : Int) == 0) = true := by simp [h]
    clear h
    go_enter Fadg.func111, Fadg.ntmps111
    go_wp2
    go_end0
    exact ⟨rfl, (hp.out.code' c rfl).whr' a rfl, (Only.set _ _ _ _).trans (Only.set _ _ _ _)⟩
  · have h' : ((cd : Int) == 0) = false := by simp; omega
    have h2 : (a : Int) < (wh : Int) := by omega
    clear h0 h
    go_enter Fadg.func111, Fadg.ntmps111
    go_wp2
    go_end0
    exact ⟨rfl, (hp.out.code' c rfl).whr' a rfl, (Only.set _ _ _ _).trans (Only.set _ _ _ _)⟩
  · have h' : ((cd : Int) == 0) = false := by simp; omega
    have h2 : ¬ (a : Int) < (wh : Int) := by omega
    have h3 : ((a : Int) == (wh : Int)) = true := by simp; omega
    have h4 : (c : Int) < (cd : Int) := by omega
    clear h0 h
    go_enter Fadg.func111, Fadg.ntmps111
    go_wp2
    go_end0
    exact ⟨rfl, (hp.out.code' c rfl).whr' a rfl, (Only.set _ _ _ _).trans (Only.set _ _ _ _)⟩
theorem fail_no (P : Nat) (p : PS) (w : World) (a c : Nat) (hp : Hid (PAt P w p)) (h0 : ¬ p.code = 0) (h1 : ¬ a < p.whr) (h : ¬ (a = p.whr ∧ c < p.code)) :
    Calls Fadg.prog 111 #[.pointer (some ⟨P, 0, none⟩), .int .i64 (a : Int), .int .u8 (c : Int)] w fun e w' => e = .returned (.tuple #[]) ∧ w' = w := by
  obtain ⟨-, -, -, -, c4, c5, -, -⟩ := hp.out.cells
  obtain ⟨tx, a0, en, tk, cd, wh, sv, uv, num⟩ := p
  simp only at *
  have h0' : ((cd : Int) == 0) = false := by simp; omega
  have h1' : ¬ (a : Int) < (wh : Int) := by omega
  by_cases h2 : a = wh
  · have h3 : ((a : Int) == (wh : Int)) = true := by simp; omega
    have h4 : ¬ (c : Int) < (cd : Int) := by omega
    clear h0 h1 h h2
    go_enter Fadg.func111, Fadg.ntmps111
    go_wp2
    go_end0
    exact ⟨rfl, rfl⟩
  · have h3 : ((a : Int) == (wh : Int)) = false := by simp; omega
    clear h0 h1 h h2
    go_enter Fadg.func111, Fadg.ntmps111
    go_wp2
    go_end0
    exact ⟨rfl, rfl⟩
theorem fail_any (P : Nat) (p : PS) (w : World) (a c : Nat) (hp : PAt P w p) :
    Calls Fadg.prog 111 #[.pointer (some ⟨P, 0, none⟩), .int .i64 (a : Int), .int .u8 (c : Int)] w fun e w' => e = .returned (.tuple #[]) ∧ PAt P w' (failP p a c) ∧ Only P w w' := by
  unfold failP
  by_cases h : p.code = 0 ∨ a < p.whr ∨ (a = p.whr ∧ c < p.code)
  · rw [if_pos h]
    exact fail_yes P p w a c hp (by omega)
  · rw [if_neg h]
    refine (fail_no P p w a c hp (by omega) (by omega) (by omega)).mono ?_
    rintro e w' ⟨he, rfl⟩
    exact ⟨he, hp, Only.refl _ _⟩

theorem expect_any (P : Nat) (p : PS) (w : World) (k : Nat) (hp : PAt P w p) (hsz : p.tx.size ≤ 1000000) (hen : p.en ≤ p.tx.size) :
    Calls Fadg.prog 112 #[.pointer (some ⟨P, 0, none⟩), .int .u8 (k : Int)] w fun e w' => e = .returned (.bool (decide (p.tok = k))) ∧ PAt P w' (if p.tok = k then nextP p else failP p p.at_ 1) ∧ Only P w w' := by
  have HN := hid (next_any P p w hp hsz hen)
  have HF := hid (fail_any P p w p.at_ 1 hp)
  obtain ⟨-, c1, -, c3, -, -, -, -⟩ := hp.cells
  clear hp
  by_cases h : p.tok = k
  · rw [if_pos h]
    have h' : ((p.tok : Int) != (k : Int)) = false := by simp [h]
    have H := hid h
    clear h
    go_enter Fadg.func112, Fadg.ntmps112
    go_wp2_with (go_at_call 69; go_must (refine HN.out.mono ?_); rintro e w' ⟨rfl, hp', ho'⟩)
    go_ret
    exact ⟨retB (by simp [H.out]), hp', ho'⟩
  · rw [if_neg h]
    have h' : ((p.tok : Int) != (k : Int)) = true := by simp; omega
    have H := hid h
    clear h
    go_enter Fadg.func112, Fadg.ntmps112
    go_wp2_with (go_at_call 111; go_must (refine HF.out.mono ?_); rintro e w' ⟨rfl, hp', ho'⟩)
    go_ret
    exact ⟨retB (by simp [H.out]), hp', ho'⟩

/-! ### isCapital, typeName, kindOf, isBuiltIn -/
theorem isCapital_any (b : ByteArray) (w : World) (hsz : b.size ≤ 1000000) : Calls Fadg.prog 146 #[.string b] w fun e w' => e = .returned (.bool (capN (nats b))) ∧ w' = w := by
  by_cases h0 : b.size = 0
  · have hl : nats b = [] := List.eq_nil_of_length_eq_zero (by rw [nats_length]; exact h0)
    have he : b.toList.isEmpty = true := by
      have : b.toList = [] := by rw [nats_data] at hl; simpa using hl
      rw [this]; rfl
    rw [hl]
    go_enter Fadg.func146, Fadg.ntmps146
    go_wp2
    go_ret
    exact ⟨rfl, rfl⟩
  · have hidx : ∀ wx, (Instr.index 9 (.string b) (.int .i64 0)).run Fadg.prog wx = .ok (.int .u8 (((nats b).getD 0 0 : Nat) : Int)) wx := fun wx => idx_run b 0 (by omega) wx
    obtain ⟨c, l, hl⟩ : ∃ c l, nats b = c :: l := by
      cases h : nats b with
      | nil => have := nats_length b; rw [h] at this; simp at this; omega
      | cons c l => exact ⟨c, l, rfl⟩
    have he : b.toList.isEmpty = false := by
      cases hb : b.toList with
      | nil => rw [nats_data, hb] at hl; simp at hl
      | cons _ _ => rfl
    rw [hl] at hidx ⊢
    simp only [List.getD_cons_zero] at hidx
    have hc : capN (c :: l) = (decide (65 ≤ c) && decide (c ≤ 90)) := rfl
    rw [hc]
    clear hl hc h0
    by_cases h1 : 65 ≤ c
    · by_cases h2 : c ≤ 90
      · go_enter Fadg.func146, Fadg.ntmps146
        go_wp2
        go_ret
        exact ⟨retB (by simp [h1, h2] <;> omega), rfl⟩
      · go_enter Fadg.func146, Fadg.ntmps146
        go_wp2
        go_ret
        exact ⟨retB (by simp [h1, h2]; omega), rfl⟩
    · go_enter Fadg.func146, Fadg.ntmps146
      go_wp2
      go_ret
      exact ⟨retB (by simp [h1]), rfl⟩

def TAB : Array Value := #[.string ⟨#[66, 111, 111, 108]⟩, .string ⟨#[73, 110, 116, 56]⟩, .string ⟨#[73, 110, 116, 49, 54]⟩, .string ⟨#[73, 110, 116, 51, 50]⟩, .string ⟨#[73, 110, 116, 54, 52]⟩, .string ⟨#[85, 73, 110, 116, 56]⟩, .string ⟨#[85, 73, 110, 116, 49, 54]⟩, .string ⟨#[85, 73, 110, 116, 51, 50]⟩, .string ⟨#[85, 73, 110, 116, 54, 52]⟩, .string ⟨#[70, 108, 111, 97, 116, 51, 50]⟩, .string ⟨#[70, 108, 111, 97, 116, 54, 52]⟩, .string ⟨#[84, 101, 120, 116]⟩]
theorem tab_idx (wx : World) : ∀ k : Nat, k < 12 → (Instr.index 272 (.agg #[.string ⟨#[66, 111, 111, 108]⟩, .string ⟨#[73, 110, 116, 56]⟩, .string ⟨#[73, 110, 116, 49, 54]⟩, .string ⟨#[73, 110, 116, 51, 50]⟩, .string ⟨#[73, 110, 116, 54, 52]⟩, .string ⟨#[85, 73, 110, 116, 56]⟩, .string ⟨#[85, 73, 110, 116, 49, 54]⟩, .string ⟨#[85, 73, 110, 116, 51, 50]⟩, .string ⟨#[85, 73, 110, 116, 54, 52]⟩, .string ⟨#[70, 108, 111, 97, 116, 51, 50]⟩, .string ⟨#[70, 108, 111, 97, 116, 54, 52]⟩, .string ⟨#[84, 101, 120, 116]⟩]) (.int .u8 (k : Int))).run Fadg.prog wx = .ok (TAB.getD k undef) wx
  | 0, _ => by kernel_rfl
  | 1, _ => by kernel_rfl
  | 2, _ => by kernel_rfl
  | 3, _ => by kernel_rfl
  | 4, _ => by kernel_rfl
  | 5, _ => by kernel_rfl
  | 6, _ => by kernel_rfl
  | 7, _ => by kernel_rfl
  | 8, _ => by kernel_rfl
  | 9, _ => by kernel_rfl
  | 10, _ => by kernel_rfl
  | 11, _ => by kernel_rfl
  | k + 12, h => absurd h (by omega)
theorem tab_names : ∀ k : Nat, k < 12 → ∃ b, TAB.getD k undef = .string b ∧ nats b = kindNames.getD k []
  | 0, _ => ⟨_, rfl, rfl⟩
  | 1, _ => ⟨_, rfl, rfl⟩
  | 2, _ => ⟨_, rfl, rfl⟩
  | 3, _ => ⟨_, rfl, rfl⟩
  | 4, _ => ⟨_, rfl, rfl⟩
  | 5, _ => ⟨_, rfl, rfl⟩
  | 6, _ => ⟨_, rfl, rfl⟩
  | 7, _ => ⟨_, rfl, rfl⟩
  | 8, _ => ⟨_, rfl, rfl⟩
  | 9, _ => ⟨_, rfl, rfl⟩
  | 10, _ => ⟨_, rfl, rfl⟩
  | 11, _ => ⟨_, rfl, rfl⟩
  | k + 12, h => absurd h (by omega)
set_option maxRecDepth 100000 in
theorem typeName_any (k : Nat) (hk : k < 12) (w : World) : Calls Fadg.prog 164 #[.int .u8 (k : Int)] w fun e w' => ∃ b, e = .returned (.string b) ∧ nats b = kindNames.getD k [] ∧ w' = w := by
  obtain ⟨b, hb1, hb2⟩ := tab_names k hk
  have hidx := fun wx => tab_idx wx k hk
  rw [hb1] at hidx
  have HB := hid hb2
  clear hb1 hb2
  go_enter Fadg.func164, Fadg.ntmps164
  go_wp2
  go_ret
  exact ⟨b, rfl, HB.out, rfl⟩

theorem kindOf_any (b : ByteArray) (w : World) : Calls Fadg.prog 147 #[.string b] w fun e w' => e = .returned (.tuple #[.int .u8 (((kindOfN (nats b)).getD 0 : Nat) : Int), .bool (kindOfN (nats b)).isSome]) ∧ w' = w := by
  go_enter Fadg.func147, Fadg.ntmps147
  go_wp2
  go_loop [4] (fun k => ∃ k' : Nat, k = .int .u8 (k' : Int) ∧ k' ≤ 12 ∧ Hid (kindFrom k' (kindNames.drop k') (nats b) = kindOfN (nats b))) (fun k => 12 - (intOf k).toNat)
  case atStart => exact ⟨0, rfl, by omega, rfl⟩
  case round =>
    obtain ⟨k, rfl, hk, hf⟩ := hrel
    by_cases hlt : k < 12
    · have hlt' : (k : Int) ≤ 11 := by omega
      have HT := hid (typeName_any k hlt)
      by_cases heq : kindNames.getD k [] = nats b
      · have hres := hid (kindFrom_yes (k := k) (ns := kindNames) (s := nats b) (i := k) hlt heq)
        go_wp2_with (go_at_call 164; go_must (refine (HT.out _).mono ?_; rintro e w' ⟨b', rfl, hb', hw'⟩; subst hw'); have hq := str_eq_of (hb'.trans heq); clear hb')
        go_ret2
        have e : kindOfN (nats b) = some k := by rw [← hf.out, hres.out]
        rw [e]
        exact ⟨rfl, rfl⟩
      · have hres := hid (kindFrom_no (k := k) (ns := kindNames) (s := nats b) (i := k) hlt heq)
        go_wp2_with (go_at_call 164; go_must (refine (HT.out _).mono ?_; rintro e w' ⟨b', rfl, hb', hw'⟩; subst hw'); have hq := str_ne_of (fun h => heq (hb'.symm.trans h)); clear hb')
        go_round
        case rel => exact ⟨k + 1, by go_num, by omega, hres.out.symm.trans hf.out⟩
        case measure => simp [intOf]; omega
    · have hlt' : ¬ (k : Int) ≤ 11 := by omega
      obtain rfl : k = 12 := by omega
      go_wp2
      go_ret2
      have e : kindOfN (nats b) = none := by rw [← hf.out]; rfl
      rw [e]
      exact ⟨rfl, rfl⟩

theorem isBuiltIn_any (b : ByteArray) (w : World) : Calls Fadg.prog 114 #[.string b] w fun e w' => e = .returned (.bool (builtN (nats b))) ∧ w' = w := by
  have hlit := str_lit b [76, 105, 115, 116]
  have HL := hid hlit
  clear hlit
  cases hk : (kindOfN (nats b)).isSome with
  | true =>
    go_enter Fadg.func114, Fadg.ntmps114
    go_wp2_with (go_at_call 147; go_must (refine (kindOf_any b _).mono ?_); rintro e w' ⟨rfl, hw'⟩; subst hw')
    go_ret
    exact ⟨retB (by simp [builtN, hk]), rfl⟩
  | false =>
    cases hq : (b.toList == [76, 105, 115, 116]) with
    | true =>
      go_enter Fadg.func114, Fadg.ntmps114
      go_wp2_with (go_at_call 147; go_must (refine (kindOf_any b _).mono ?_); rintro e w' ⟨rfl, hw'⟩; subst hw')
      go_ret
      exact ⟨retB (by have h := HL.out; rw [hq] at h; simp only [builtN, hk, Bool.false_or]; exact h), rfl⟩
    | false =>
      go_enter Fadg.func114, Fadg.ntmps114
      go_wp2_with (go_at_call 147; go_must (refine (kindOf_any b _).mono ?_); rintro e w' ⟨rfl, hw'⟩; subst hw')
      go_ret
      exact ⟨retB (by have h := HL.out; rw [hq] at h; simp only [builtN, hk, Bool.false_or]; exact h), rfl⟩

/-! ### value -/
theorem valN_snoc (n : Nat) (l : List Nat) (c : Nat) : valN n (l ++ [c]) = min (valN n l * 10 + (c + 208) % 256) 16 := by
  induction l generalizing n with
  | nil => rfl
  | cons d l ih => simp only [List.cons_append, valN]; exact ih _

def wordL (p : PS) : List Nat := ((nats p.tx).drop p.at_).take (p.en - p.at_)

theorem value_any (P : Nat) (p : PS) (w : World) (hp : PAt P w p) (hsz : p.tx.size ≤ 1000000) (ha : p.at_ ≤ p.en) (hen : p.en ≤ p.tx.size) :
    Calls Fadg.prog 148 #[.pointer (some ⟨P, 0, none⟩)] w fun e w' => e = .returned (.int .i64 ((valN 0 (wordL p) : Nat) : Int)) ∧ w' = w := by
  obtain ⟨c0, c1, c2, -, -, -, -, -⟩ := hp.cells
  clear hp
  unfold wordL
  obtain ⟨tx, a, en, tk, cd, wh, sv, uv, num⟩ := p
  simp only at *
  go_enter Fadg.func148, Fadg.ntmps148
  go_wp2
  go_loop [3, 4] (fun n i => ∃ (n' i' : Nat), n = .int .i64 (n' : Int) ∧ i = .int .i64 (i' : Int) ∧ n' ≤ 16 ∧ a ≤ i' ∧ i' ≤ en ∧ Hid (n' = valN 0 (((nats tx).drop a).take (i' - a)))) (fun _ i => en - (intOf i).toNat)
  case atStart => exact ⟨0, a, rfl, rfl, by omega, Nat.le_refl _, ha, by rw [Nat.sub_self]; rfl⟩
  case round =>
    obtain ⟨n, i, rfl, rfl, hn, hai, hie, hv⟩ := hrel
    by_cases hlt : i < en
    · have hidx := fun wx => idx_run tx i (by omega) wx
      have hc8 := nats_getD_lt tx i
      obtain ⟨c, hc⟩ : ∃ c, c = (nats tx).getD i 0 := ⟨_, rfl⟩
      rw [← hc] at hidx hc8
      have HC := hid hc
      clear hc
      have hstep : Hid (valN 0 (((nats tx).drop a).take (i + 1 - a)) = min (n * 10 + (c + 208) % 256) 16) := by
        have hl : i - a < ((nats tx).drop a).length := by simp [nats_length]; omega
        have e : i + 1 - a = (i - a) + 1 := by omega
        show _ = _
        rw [e, List.take_succ_eq_append_getElem hl, valN_snoc, ← hv.out, List.getElem_drop]
        have e2 : a + (i - a) = i := by omega
        have e3 : (nats tx)[a + (i - a)]'(by simp at hl; omega) = c := by rw [HC.out]; simp [List.getD, e2, show i < (nats tx).length by rw [nats_length]; omega]
        rw [e3]
      go_wp2
      go_round
      case rel => exact ⟨min (n * 10 + (c + 208) % 256) 16, i + 1, by congr 1; split <;> omega, by go_num, Nat.min_le_right _ _, by omega, by omega, hstep.out.symm⟩
      case measure => simp [intOf]; omega
    · obtain rfl : i = en := by omega
      go_wp2
      go_ret
      exact ⟨by rw [hv.out]; rfl, rfl⟩

/-- The same contracts, a code or a token as a numeral. -/
theorem fail_lit (P : Nat) (p : PS) (w : World) (a c : Nat) (A C : Int) (hA : A = (a : Int)) (hC : C = (c : Int)) (hp : PAt P w p) :
    Calls Fadg.prog 111 #[.pointer (some ⟨P, 0, none⟩), .int .i64 A, .int .u8 C] w fun e w' => e = .returned (.tuple #[]) ∧ PAt P w' (failP p a c) ∧ Only P w w' := by
  subst hA hC; exact fail_any P p w a c hp
theorem expect_lit (P : Nat) (p : PS) (w : World) (k : Nat) (K : Int) (hK : K = (k : Int)) (hp : PAt P w p) (hsz : p.tx.size ≤ 1000000) (hen : p.en ≤ p.tx.size) :
    Calls Fadg.prog 112 #[.pointer (some ⟨P, 0, none⟩), .int .u8 K] w fun e w' => e = .returned (.bool (decide (p.tok = k))) ∧ PAt P w' (if p.tok = k then nextP p else failP p p.at_ 1) ∧ Only P w w' := by
  subst hK; exact expect_any P p w k hp hsz hen

/-! ### name -/
/-- The state behind a name that is taken. -/
def nameP (p : PS) : PS := if 8 < (wordL p).length then failP (nextP p) p.at_ 2 else nextP p
/-- The name is taken. -/
def nameOk (p : PS) (cap : Bool) : Bool := decide (p.tok = 97) && (!cap || capN (wordL p))

theorem nats_word (p : PS) : nats (p.tx.extract p.at_ p.en) = wordL p := nats_extract _ _ _

set_option maxRecDepth 100000 in
set_option maxHeartbeats 1000000 in
theorem name_no (P : Nat) (p : PS) (w : World) (cap : Bool) (hp : PAt P w p) (hsz : p.tx.size ≤ 1000000) (ha : p.at_ ≤ p.en) (hen : p.en ≤ p.tx.size) (hno : nameOk p cap = false) :
    Calls Fadg.prog 113 #[.pointer (some ⟨P, 0, none⟩), .bool cap] w fun e w' => e = .returned (.tuple #[.string ⟨#[]⟩, .int .i64 (p.at_ : Int), .bool false]) ∧ PAt P w' (failP p p.at_ 1) ∧ Only P w w' := by
  have HW := hid (fun (wx : World) (hx : PAt P wx p) => pword_any P p wx hx ha hen)
  have HC := hid (fun (wx : World) => isCapital_any (p.tx.extract p.at_ p.en) wx (by rw [ByteArray.size_extract]; omega))
  rw [nats_word] at HC
  have HF := hid (fun (wx : World) (hx : PAt P wx p) => fail_lit P p wx p.at_ 1 (p.at_ : Int) 1 rfl rfl hx)
  have HE := hid (fun (wx : World) (hx : PAt P wx p) => expect_lit P p wx 97 97 rfl hx hsz hen)
  obtain ⟨-, c1, -, c3, -, -, -, -⟩ := hp.cells
  have HP := hid hp
  clear hp
  by_cases ht : p.tok = 97
  · have ht' : ((p.tok : Int) == 97) = true := by simp [ht]
    have hc : cap = true ∧ capN (wordL p) = false := by
      simp only [nameOk, ht, decide_true, Bool.true_and] at hno
      cases cap with
      | true => exact ⟨rfl, by simpa using hno⟩
      | false => simp at hno
    obtain ⟨rfl, hcn⟩ := hc
    rw [hcn] at HC
    clear hno hcn ht
    go_enter Fadg.func113, Fadg.ntmps113
    go_wp2
    go_quiet ((go_at_call 70; exact Calls.quiet_of (HW.out _ (PAt.drew HP.out))))
    go_wp2_with (first | (go_at_call 146; go_must (refine (HC.out _).mono ?_; rintro e w' ⟨rfl, hw'⟩; subst hw')) | (go_at_call 111; go_must (refine (HF.out _ (PAt.drew HP.out)).mono ?_; rintro e w' ⟨rfl, hp', ho'⟩)))
    go_ret3
    exact ⟨rfl, hp', (Only.drew _ _ _).trans ho'⟩
  · have ht' : ((p.tok : Int) == 97) = false := by simp; omega
    have HT := hid ht
    have hd : decide (p.tok = 97) = false := by simpa using ht
    rw [hd, if_neg ht] at HE
    clear hno ht hd
    go_enter Fadg.func113, Fadg.ntmps113
    go_wp2
    go_quiet ((go_at_call 70; exact Calls.quiet_of (HW.out _ (PAt.drew HP.out))))
    go_wp2_with (first | (go_at_call 112; go_must (refine (HE.out _ (PAt.drew HP.out)).mono ?_; rintro e w' ⟨rfl, hp', ho'⟩)))
    go_ret3
    exact ⟨rfl, hp', (Only.drew _ _ _).trans ho'⟩

theorem nextP_tx (p : PS) : (nextP p).tx = p.tx := rfl
theorem nextP_le {p : PS} (hen : p.en ≤ p.tx.size) : (nextP p).at_ ≤ (nextP p).en ∧ (nextP p).en ≤ p.tx.size ∧ p.en ≤ (nextP p).at_ := by
  have h := nextN_le (T := nats p.tx) (en := p.en) (by rw [nats_length]; exact hen)
  rw [nats_length] at h
  exact ⟨h.2.1, h.2.2, h.1⟩

set_option maxRecDepth 100000 in
set_option maxHeartbeats 1000000 in
theorem name_yes (P : Nat) (p : PS) (w : World) (cap : Bool) (hp : PAt P w p) (hsz : p.tx.size ≤ 1000000) (ha : p.at_ ≤ p.en) (hen : p.en ≤ p.tx.size) (hyes : nameOk p cap = true) :
    Calls Fadg.prog 113 #[.pointer (some ⟨P, 0, none⟩), .bool cap] w fun e w' => e = .returned (.tuple #[.string (p.tx.extract p.at_ p.en), .int .i64 (p.at_ : Int), .bool true]) ∧ PAt P w' (nameP p) ∧ Only P w w' := by
  have HW := hid (fun (wx : World) (hx : PAt P wx p) => pword_any P p wx hx ha hen)
  have HC := hid (fun (wx : World) => isCapital_any (p.tx.extract p.at_ p.en) wx (by rw [ByteArray.size_extract]; omega))
  rw [nats_word] at HC
  have HE := hid (fun (wx : World) (hx : PAt P wx p) => expect_lit P p wx 97 97 rfl hx hsz hen)
  have HF := hid (fun (wx : World) (hx : PAt P wx (nextP p)) => fail_lit P (nextP p) wx p.at_ 2 (p.at_ : Int) 2 rfl rfl hx)
  obtain ⟨-, c1, -, c3, -, -, -, -⟩ := hp.cells
  have HP := hid hp
  clear hp
  have hlen : (wordL p).length = (p.tx.extract p.at_ p.en).size := by rw [← nats_word, nats_length]
  have hs2 : (p.tx.extract p.at_ p.en).size ≤ 1000000 := by rw [ByteArray.size_extract]; omega
  have ht : p.tok = 97 := by simp [nameOk] at hyes; exact hyes.1
  have ht' : ((p.tok : Int) == 97) = true := by simp [ht]
  have hd : decide (p.tok = 97) = true := by simpa using ht
  rw [hd, if_pos ht] at HE
  have hcc : cap = true → capN (wordL p) = true := by intro h; subst h; simp [nameOk] at hyes; exact hyes.2
  have HCC := hid hcc
  unfold nameP
  clear hyes ht hd hcc
  generalize hg : p.tx.extract p.at_ p.en = b at *
  have HLen := hid hlen
  clear hlen hg
  by_cases h8 : 8 < b.size
  · have h8' : (8 : Int) < (b.size : Int) := by omega
    rw [if_pos (by rw [HLen.out]; exact h8)]
    cases cap with
    | true =>
      have hcn := HCC.out rfl
      rw [hcn] at HC
      go_enter Fadg.func113, Fadg.ntmps113
      go_wp2
      go_quiet ((go_at_call 70; exact Calls.quiet_of (HW.out _ (PAt.drew HP.out))))
      go_wp2_with (first | (go_at_call 146; go_must (refine (HC.out _).mono ?_; rintro e w' ⟨rfl, hw'⟩; subst hw')) | (go_at_call 112; go_must (refine (HE.out _ (PAt.drew HP.out)).mono ?_; rintro e w' ⟨rfl, hp', ho'⟩)) | (go_at_call 111; go_must (refine (HF.out _ hp').mono ?_; rintro e w2 ⟨rfl, hp2, ho2⟩)))
      go_ret3
      exact ⟨rfl, hp2, ((Only.drew _ _ _).trans ho').trans ho2⟩
    | false =>
      go_enter Fadg.func113, Fadg.ntmps113
      go_wp2
      go_quiet ((go_at_call 70; exact Calls.quiet_of (HW.out _ (PAt.drew HP.out))))
      go_wp2_with (first | (go_at_call 112; go_must (refine (HE.out _ (PAt.drew HP.out)).mono ?_; rintro e w' ⟨rfl, hp', ho'⟩)) | (go_at_call 111; go_must (refine (HF.out _ hp').mono ?_; rintro e w2 ⟨rfl, hp2, ho2⟩)))
      go_ret3
      exact ⟨rfl, hp2, ((Only.drew _ _ _).trans ho').trans ho2⟩
  · have h8' : ¬ (8 : Int) < (b.size : Int) := by omega
    rw [if_neg (by rw [HLen.out]; exact h8)]
    cases cap with
    | true =>
      have hcn := HCC.out rfl
      rw [hcn] at HC
      go_enter Fadg.func113, Fadg.ntmps113
      go_wp2
      go_quiet ((go_at_call 70; exact Calls.quiet_of (HW.out _ (PAt.drew HP.out))))
      go_wp2_with (first | (go_at_call 146; go_must (refine (HC.out _).mono ?_; rintro e w' ⟨rfl, hw'⟩; subst hw')) | (go_at_call 112; go_must (refine (HE.out _ (PAt.drew HP.out)).mono ?_; rintro e w' ⟨rfl, hp', ho'⟩)))
      go_ret3
      exact ⟨rfl, hp', (Only.drew _ _ _).trans ho'⟩
    | false =>
      go_enter Fadg.func113, Fadg.ntmps113
      go_wp2
      go_quiet ((go_at_call 70; exact Calls.quiet_of (HW.out _ (PAt.drew HP.out))))
      go_wp2_with (first | (go_at_call 112; go_must (refine (HE.out _ (PAt.drew HP.out)).mono ?_; rintro e w' ⟨rfl, hp', ho'⟩)))
      go_ret3
      exact ⟨rfl, hp', (Only.drew _ _ _).trans ho'⟩
end Go.Proofs.Ygcfad
