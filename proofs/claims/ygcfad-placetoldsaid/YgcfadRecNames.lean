/-
  THE WALK of package rec's names of types and field numbers.
-/
import Derived.Test.YgcfadRecLex2
namespace Go.Proofs.Ygcfad
open Go.RowKit Plain
set_option linter.unusedSimpArgs false
set_option linter.unusedVariables false

def kindNames2 : List (List Nat) := kindNames ++ [[], [], VOID]
theorem kindFrom_append (k : Nat) (ns ms : List (List Nat)) (w : List Nat) : kindFrom k (ns ++ ms) w = match kindFrom k ns w with
    | some r => some r
    | none => kindFrom (k + ns.length) ms w := by
  induction ns generalizing k with
  | nil => rfl
  | cons n ns ih =>
    rw [List.cons_append, kindFrom, kindFrom]
    by_cases h : (n == w) = true
    · rw [if_pos h, if_pos h]
    · rw [if_neg h, if_neg h, ih, List.length_cons, show k + 1 + ns.length = k + (ns.length + 1) by omega]
theorem kindR_from {w : List Nat} (h : w ≠ []) : kindR w = kindFrom 0 kindNames2 w := by
  unfold kindR kindNames2
  rw [if_neg h, kindFrom_append]
  show _ = match kindOfN w with | some r => some r | none => _
  cases kindOfN w with
  | some r => rfl
  | none =>
    have e1 : (([] : List Nat) == w) = false := by cases w with | nil => exact absurd rfl h | cons _ _ => rfl
    simp only [kindFrom, e1]
    by_cases hv : w = VOID
    · subst hv; simp; rfl
    · have : (VOID == w) = false := by rw [beq_eq_false_iff_ne]; exact fun e => hv e.symm
      simp [this, hv]
set_option maxRecDepth 100000 in
theorem kindName_any (k : Nat) (hk : k ≤ 14) (w : World) : Calls Fadg.prog 167 #[.int .u8 (k : Int)] w fun e w' => ∃ b, e = .returned (.string b) ∧ nats b = kindNames2.getD k [] ∧ w' = w := by
  by_cases h14 : k = 14
  · subst h14
    go_enter Fadg.func167, Fadg.ntmps167
    go_wp2
    go_ret
    exact ⟨_, rfl, rfl, rfl⟩
  · have h14' : ((k : Int) == 14) = false := by simp; omega
    by_cases h11 : k < 12
    · have h11' : ¬ (11 : Int) < (k : Int) := by omega
      obtain ⟨b, hb1, hb2⟩ := tab_names k h11
      have hidx := fun wx => tab_idx wx k h11
      rw [hb1] at hidx
      have HB := hid hb2
      have e : Hid (kindNames2.getD k [] = kindNames.getD k []) := by
        show _ = _
        unfold kindNames2
        simp only [List.getD]
        rw [List.getElem?_append_left (by show k < 12; exact h11)]
      clear hb1 hb2 h14
      go_enter Fadg.func167, Fadg.ntmps167
      go_wp2
      go_ret
      exact ⟨b, rfl, HB.out.trans e.out.symm, rfl⟩
    · have h11' : (11 : Int) < (k : Int) := by omega
      have : k = 12 ∨ k = 13 := by omega
      rcases this with rfl | rfl
      · go_enter Fadg.func167, Fadg.ntmps167
        go_wp2
        go_ret
        exact ⟨_, rfl, rfl, rfl⟩
      · go_enter Fadg.func167, Fadg.ntmps167
        go_wp2
        go_ret
        exact ⟨_, rfl, rfl, rfl⟩

theorem nats_nil {b : ByteArray} (h : nats b = []) : (b.toList == []) = true := by rw [str_lit, h]; rfl
theorem nats_cons {b : ByteArray} (h : nats b ≠ []) : (b.toList == []) = false := by rw [str_lit]; simp [h]
set_option maxRecDepth 100000 in
theorem kindOfR_any (b : ByteArray) (w : World) : Calls Fadg.prog 153 #[.string b] w fun e w' => e = .returned (.tuple #[.int .u8 (((kindR (nats b)).getD 0 : Nat) : Int), .bool (kindR (nats b)).isSome]) ∧ w' = w := by
  by_cases h0 : nats b = []
  · have hq := nats_nil h0
    have e : kindR (nats b) = none := by rw [h0]; rfl
    rw [e]
    clear h0 e
    go_enter Fadg.func153, Fadg.ntmps153
    go_wp2
    go_loopg [4] 15 (fun gk k wr => ∃ k' : Nat, k = .int .u8 (k' : Int) ∧ k' + gk = 15 ∧ wr = w)
    case atStart => exact ⟨0, rfl, by omega, rfl⟩
    case round =>
      obtain ⟨k, rfl, hk, rfl⟩ := hrel
      by_cases hlt : k < 15
      · have hlt' : (k : Int) ≤ 14 := by omega
        go_wp2
        go_roundg (gk - 1)
        case measure => omega
        case rel => exact ⟨k + 1, by go_num, by omega, rfl⟩
      · have hlt' : ¬ (k : Int) ≤ 14 := by omega
        go_wp2
        go_ret2
        exact ⟨rfl, rfl⟩
  · have hq := nats_cons h0
    have e := hid (kindR_from h0)
    rw [e.out]
    clear h0
    go_enter Fadg.func153, Fadg.ntmps153
    go_wp2
    go_loopg [4] 15 (fun gk k wr => ∃ k' : Nat, k = .int .u8 (k' : Int) ∧ k' + gk = 15 ∧ wr = w ∧ Hid (kindFrom k' (kindNames2.drop k') (nats b) = kindFrom 0 kindNames2 (nats b)))
    case atStart => exact ⟨0, rfl, by omega, rfl, rfl⟩
    case round =>
      obtain ⟨k, rfl, hk, rfl, hf⟩ := hrel
      by_cases hlt : k < 15
      · have hlt' : (k : Int) ≤ 14 := by omega
        have HT := hid (kindName_any k (by omega))
        by_cases heq : kindNames2.getD k [] = nats b
        · have hres := hid (kindFrom_yes (k := k) (ns := kindNames2) (s := nats b) (i := k) hlt heq)
          go_wp2_with (go_at_call 167; go_must (refine (HT.out _).mono ?_; rintro e w' ⟨b', rfl, hb', hw'⟩; subst hw'); have hq2 := str_eq_of (hb'.trans heq); clear hb')
          go_ret2
          have e : kindFrom 0 kindNames2 (nats b) = some k := by rw [← hf.out, hres.out]
          rw [e]
          exact ⟨rfl, rfl⟩
        · have hres := hid (kindFrom_no (k := k) (ns := kindNames2) (s := nats b) (i := k) hlt heq)
          go_wp2_with (go_at_call 167; go_must (refine (HT.out _).mono ?_; rintro e w' ⟨b', rfl, hb', hw'⟩; subst hw'); have hq2 := str_ne_of (fun h => heq (hb'.symm.trans h)); clear hb')
          go_roundg (gk - 1)
          case measure => omega
          case rel => exact ⟨k + 1, by go_num, by omega, rfl, hres.out.symm.trans hf.out⟩
      · have hlt' : ¬ (k : Int) ≤ 14 := by omega
        obtain rfl : k = 15 := by omega
        go_wp2
        go_ret2
        have e : kindFrom 0 kindNames2 (nats b) = none := by rw [← hf.out]; rfl
        rw [e]
        exact ⟨rfl, rfl⟩
theorem builtR_any (b : ByteArray) (w : World) : Calls Fadg.prog 122 #[.string b] w fun e w' => e = .returned (.bool (builtR (nats b))) ∧ w' = w := by
  have HL := hid (str_lit b [76, 105, 115, 116])
  cases hk : (kindR (nats b)).isSome with
  | true =>
    go_enter Fadg.func122, Fadg.ntmps122
    go_wp2_with (go_at_call 153; go_must (refine (kindOfR_any b _).mono ?_); rintro e w' ⟨rfl, hw'⟩; subst hw')
    go_ret
    exact ⟨retB (by simp [builtR, hk]), rfl⟩
  | false =>
    cases hq : (b.toList == [76, 105, 115, 116]) with
    | true =>
      go_enter Fadg.func122, Fadg.ntmps122
      go_wp2_with (go_at_call 153; go_must (refine (kindOfR_any b _).mono ?_); rintro e w' ⟨rfl, hw'⟩; subst hw')
      go_ret
      exact ⟨retB (by have h := HL.out; rw [hq] at h; simp only [builtR, hk, Bool.false_or]; exact h), rfl⟩
    | false =>
      go_enter Fadg.func122, Fadg.ntmps122
      go_wp2_with (go_at_call 153; go_must (refine (kindOfR_any b _).mono ?_); rintro e w' ⟨rfl, hw'⟩; subst hw')
      go_ret
      exact ⟨retB (by have h := HL.out; rw [hq] at h; simp only [builtR, hk, Bool.false_or]; exact h), rfl⟩

/-! ### ordinal -/
theorem ordR_some {w : List Nat} (h : w ≠ []) (ha : w.all digitN = true) : ordR w = some (valN 0 w) := by unfold ordR; rw [if_pos ⟨h, ha⟩]
theorem ordR_none {w : List Nat} (ha : w.all digitN = false) : ordR w = none := by unfold ordR; rw [if_neg (by simp [ha])]
set_option maxRecDepth 100000 in
theorem ordinal_any (b : ByteArray) (w : World) (hsz : b.size ≤ 1000000) : Calls Fadg.prog 154 #[.string b] w fun e w' => e = .returned (.tuple #[.int .i64 (((ordR (nats b)).getD 0 : Nat) : Int), .bool (ordR (nats b)).isSome]) ∧ w' = w := by
  go_enter Fadg.func154, Fadg.ntmps154
  go_wp2
  go_loopg [8, 4] b.size (fun gk i n wr => ∃ (i' n' : Nat), i = .int .i64 (i' : Int) ∧ n = .int .i64 (n' : Int) ∧ i' + gk = b.size ∧ n' ≤ 16 ∧ wr = w ∧ Hid (((nats b).take i').all digitN = true) ∧ Hid (n' = valN 0 ((nats b).take i')))
  case atStart => exact ⟨0, 0, rfl, rfl, by omega, by omega, rfl, rfl, rfl⟩
  case round =>
    obtain ⟨i, n, rfl, rfl, hi, hn, rfl, hall, hv⟩ := hrel
    by_cases hlt : i < b.size
    · have hlt' : (i : Int) < (b.size : Int) := by omega
      have hidx := fun wx => idx_run b i hlt wx
      have hc8 := nats_getD_lt b i
      have hil : i < (nats b).length := by rw [nats_length]; exact hlt
      obtain ⟨c, hc⟩ : ∃ c, c = (nats b).getD i 0 := ⟨_, rfl⟩
      rw [← hc] at hidx hc8
      have hcc : Hid ((nats b)[i] = c) := by show _ = _; rw [hc]; simp [List.getD, hil]
      clear hc
      have HD := hid (digit_any c)
      cases hd : digitN c with
      | true =>
        rw [hd] at HD
        have hstep : Hid (valN 0 ((nats b).take (i + 1)) = min (n * 10 + (c + 208) % 256) 16) := by
          show _ = _
          rw [List.take_succ_eq_append_getElem hil, valN_snoc, ← hv.out, hcc.out]
        have hall2 : Hid (((nats b).take (i + 1)).all digitN = true) := by
          show _ = _
          rw [List.take_succ_eq_append_getElem hil, List.all_append, hall.out, hcc.out]; simp [hd]
        clear hd
        go_wp2_with (go_at_call 118; go_must (refine (HD.out _).mono ?_; rintro e w' ⟨rfl, hw'⟩; subst hw'))
        all_goals
          go_roundg (gk - 1)
          case measure => omega
          case rel => exact ⟨i + 1, min (n * 10 + (c + 208) % 256) 16, by go_num, by congr 1; first | omega | (split <;> omega), by omega, Nat.min_le_right _ _, rfl, hall2, hstep.out.symm⟩
      | false =>
        rw [hd] at HD
        have e : Hid (ordR (nats b) = none) := by
          refine ordR_none ?_
          rw [List.all_eq_false]
          exact ⟨c, by rw [← hcc.out]; exact List.getElem_mem _, by simp [hd]⟩
        clear hd
        go_wp2_with (go_at_call 118; go_must (refine (HD.out _).mono ?_; rintro e w' ⟨rfl, hw'⟩; subst hw'))
        go_ret2
        rw [e.out]
        exact ⟨rfl, rfl⟩
    · have hlt' : ¬ (i : Int) < (b.size : Int) := by omega
      have htk : (nats b).take i = nats b := List.take_of_length_le (by rw [nats_length]; omega)
      rw [htk] at hall hv
      clear htk
      by_cases h0 : nats b = []
      · have hq := nats_nil h0
        have e : Hid (ordR (nats b) = none) := by show _ = _; rw [h0]; rfl
        have hn0 : n = 0 := by rw [hv.out, h0]; rfl
        subst hn0
        clear h0
        go_wp2
        go_ret2
        rw [e.out]
        exact ⟨rfl, rfl⟩
      · have hq := nats_cons h0
        have e : Hid (ordR (nats b) = some n) := by show _ = _; rw [ordR_some h0 hall.out, hv.out]
        clear h0
        go_wp2
        go_ret2
        rw [e.out]
        exact ⟨rfl, rfl⟩
end Go.Proofs.Ygcfad
