/-
  THE WALK of package rec's small methods: tok, fail, isName.
-/
import Derived.Test.YgcfadRecLex
namespace Go.Proofs.Ygcfad
open Go.RowKit Plain
set_option linter.unusedSimpArgs false
set_option linter.unusedVariables false

theorem rtok_any (P : Nat) (p : RS) (w : World) (hp : RAt P w p) (ha : p.at_ ≤ p.en) (hen : p.en ≤ p.tx.size) :
    Calls Fadg.prog 74 #[.pointer (some ⟨P, 0, none⟩)] w fun e w' => e = .returned (.string (p.tx.extract p.at_ p.en)) ∧ ∃ q, w' = w.drewN q := by
  obtain ⟨c0, c1, c2, -, -, -, -, -⟩ := hp.cells
  clear hp
  obtain ⟨tx, a, en, sv, uv, nv, cd, wh⟩ := p
  simp only at *
  have h1 : (a : Int) ≤ (en : Int) := by omega
  have h2 : (en : Int) ≤ (tx.size : Int) := by omega
  go_enter Fadg.func74, Fadg.ntmps74
  go_wp2
  go_quiet (fail)
  go_wp2
  go_ret
  exact ⟨rfl, _, rfl⟩
theorem failAt_any (P : Nat) (p : RS) (w : World) (a c : Nat) (A C : Int) (hA : A = (a : Int)) (hC : C = (c : Int)) (hp : RAt P w p) (h0 : p.code = 0) :
    Calls Fadg.prog 121 #[.pointer (some ⟨P, 0, none⟩), .int .i64 A, .int .u8 C] w fun e w' => e = .returned (.bool false) ∧ RAt P w' { p with code := c, whr := a } ∧ Only P w w' := by
  have hp1 := hid ((hp.setCode c hC).setWhr a hA)
  have ho1 := hid ((Only.set P 6 w (.int .u8 C)).trans (Only.set P 7 _ (.int .i64 A)))
  obtain ⟨-, -, -, -, -, -, c6, c7⟩ := hp.cells
  rw [h0] at c6
  have f6 := hp.2 6
  have f7 := hp.2 7
  clear hA hC hp
  go_enter Fadg.func121, Fadg.ntmps121
  go_wp2
  go_ret
  exact ⟨rfl, hp1.out, ho1.out⟩
theorem rfail_any (P : Nat) (p : RS) (w : World) (c : Nat) (C : Int) (hC : C = (c : Int)) (hp : RAt P w p) (h0 : p.code = 0) :
    Calls Fadg.prog 151 #[.pointer (some ⟨P, 0, none⟩), .int .u8 C] w fun e w' => e = .returned (.bool false) ∧ RAt P w' { p with code := c, whr := p.at_ } ∧ Only P w w' := by
  have HF := hid (failAt_any P p w p.at_ c (p.at_ : Int) C rfl hC hp h0)
  have c1 := hp.cells.2.1
  clear hC hp h0
  go_enter Fadg.func151, Fadg.ntmps151
  go_wp2_with (go_at_call 121; go_must (refine HF.out.mono ?_; rintro e w1 ⟨rfl, hp1, ho1⟩))
  go_ret
  exact ⟨rfl, hp1, ho1⟩

theorem isNameN_cons (c : Nat) (l : List Nat) (cap : Bool) : isNameN (c :: l) cap = (decide (l.length + 1 ≤ 8) && letterN c && !(cap && decide (90 < c)) && !((c :: l) == UNION) && l.all alnumN) := by
  unfold isNameN; simp
set_option maxRecDepth 100000 in
set_option maxHeartbeats 4000000 in
theorem isName_any (b : ByteArray) (cap : Bool) (w : World) : Calls Fadg.prog 152 #[.string b, .bool cap] w fun e w' => e = .returned (.bool (isNameN (nats b) cap)) ∧ w' = w := by
  by_cases h0 : b.size = 0
  · have hl : nats b = [] := List.eq_nil_of_length_eq_zero (by rw [nats_length]; exact h0)
    have hq : (b.toList == []) = true := by rw [str_lit, hl]; rfl
    rw [hl]
    clear h0 hl
    go_enter Fadg.func152, Fadg.ntmps152
    go_wp2
    go_ret
    exact ⟨rfl, rfl⟩
  · have hq : (b.toList == []) = false := by
      have : nats b ≠ [] := fun e => by have := nats_length b; rw [e] at this; simp at this; omega
      rw [str_lit]; simp [this]
    have hs0 : 0 < b.size := by omega
    have hidx : ∀ wx, (Instr.index 9 (.string b) (.int .i64 0)).run Fadg.prog wx = .ok (.int .u8 (((nats b).getD 0 0 : Nat) : Int)) wx := fun wx => idx_run b 0 (by omega) wx
    obtain ⟨c, l, hl⟩ : ∃ c l, nats b = c :: l := by
      cases h : nats b with
      | nil => have := nats_length b; rw [h] at this; simp at this; omega
      | cons c l => exact ⟨c, l, rfl⟩
    have hln : l.length + 1 = b.size := by have := nats_length b; rw [hl] at this; simpa using this
    have hN := hid (isNameN_cons c l cap)
    rw [← hl] at hN
    rw [hl] at hidx
    simp only [List.getD_cons_zero] at hidx
    have HL := hid hl
    clear hl h0
    by_cases h8 : 8 < b.size
    · have h8' : (8 : Int) < (b.size : Int) := by omega
      have e : isNameN (nats b) cap = false := by rw [hN.out, decide_eq_false (by omega)]; rfl
      rw [e]
      clear h8 hN hidx e
      go_enter Fadg.func152, Fadg.ntmps152
      go_wp2
      go_ret
      exact ⟨rfl, rfl⟩
    · have h8' : ¬ (8 : Int) < (b.size : Int) := by omega
      have HLE := hid (letter_any c)
      cases hlet : letterN c with
      | false =>
        have e : isNameN (nats b) cap = false := by rw [hN.out, hlet]; simp
        rw [e]
        rw [hlet] at HLE
        clear hN hlet e
        go_enter Fadg.func152, Fadg.ntmps152
        go_wp2_with (go_at_call 117; go_must (refine (HLE.out _).mono ?_; rintro e w' ⟨rfl, hw'⟩; subst hw'))
        go_ret
        exact ⟨rfl, rfl⟩
      | true =>
        rw [hlet] at HLE
        by_cases h90 : cap = true ∧ 90 < c
        · have h90' : (90 : Int) < (c : Int) := by omega
          have e : isNameN (nats b) cap = false := by rw [hN.out, h90.1, decide_eq_true h90.2]; simp
          rw [e]
          obtain ⟨rfl, h91⟩ := h90
          clear hN hlet e h91
          go_enter Fadg.func152, Fadg.ntmps152
          go_wp2_with (go_at_call 117; go_must (refine (HLE.out _).mono ?_; rintro e w' ⟨rfl, hw'⟩; subst hw'))
          go_ret
          exact ⟨rfl, rfl⟩
        · have hcap : Hid ((cap && decide (90 < c)) = false) := by
            show _ = _
            cases cap with
            | false => rfl
            | true => simp only [Bool.true_and, decide_eq_false_iff_not]; exact fun h => h90 ⟨rfl, h⟩
          have hu := hid (str_lit b [117, 110, 105, 111, 110])
          cases hun : (nats b == UNION) with
          | true =>
            have hq2 : (b.toList == [117, 110, 105, 111, 110]) = true := hu.out.trans hun
            have e : isNameN (nats b) cap = false := by rw [hN.out, hun]; simp
            rw [e]
            clear hN hlet e hun hu
            cases cap with
            | false =>
              go_enter Fadg.func152, Fadg.ntmps152
              go_wp2_with (go_at_call 117; go_must (refine (HLE.out _).mono ?_; rintro e w' ⟨rfl, hw'⟩; subst hw'))
              go_ret
              exact ⟨rfl, rfl⟩
            | true =>
              have h90' : ¬ (90 : Int) < (c : Int) := by have := hcap.out; simp at this; omega
              go_enter Fadg.func152, Fadg.ntmps152
              go_wp2_with (go_at_call 117; go_must (refine (HLE.out _).mono ?_; rintro e w' ⟨rfl, hw'⟩; subst hw'))
              go_ret
              exact ⟨rfl, rfl⟩
          | false =>
            have hq2 : (b.toList == [117, 110, 105, 111, 110]) = false := hu.out.trans hun
            have hN2 : Hid (isNameN (nats b) cap = l.all alnumN) := by
              show _ = _
              rw [hN.out, hcap.out, hun, hlet, decide_eq_true (by omega)]; simp
            rw [hN2.out]
            clear hN hlet hun hu hN2
            go_enter Fadg.func152, Fadg.ntmps152
            go_upto_region 1 with fail
            go_cut [30] (fun v wx => v = .bool false ∧ wx = w)
            case first =>
              cases cap with
              | false =>
                go_wp2_with (go_at_call 117; go_must (refine (HLE.out _).mono ?_; rintro e w' ⟨rfl, hw'⟩; subst hw'))
                go_meet
                exact ⟨rfl, rfl⟩
              | true =>
                have h90' : ¬ (90 : Int) < (c : Int) := by have := hcap.out; simp at this; omega
                go_wp2_with (go_at_call 117; go_must (refine (HLE.out _).mono ?_; rintro e w' ⟨rfl, hw'⟩; subst hw'))
                go_meet
                exact ⟨congrArg Value.bool (decide_eq_false (by omega)), rfl⟩
            case rest =>
              obtain ⟨rfl, rfl⟩ := hcut
              clear hidx HLE
              go_wp2
              go_loopg [5] b.size (fun gk v wr => ∃ i : Nat, v = .int .i64 (i : Int) ∧ 1 ≤ i ∧ i ≤ b.size ∧ i + gk = b.size + 1 ∧ Hid (l.all alnumN = ((nats b).drop i).all alnumN) ∧ wr = wc)
              case atStart => exact ⟨1, rfl, by omega, by omega, by omega, by rw [HL.out]; rfl, rfl⟩
              case round =>
                obtain ⟨i, rfl, hi1, hi2, hgk, hall, rfl⟩ := hrel
                by_cases hlt : i < b.size
                · have hlt' : (i : Int) < (b.size : Int) := by omega
                  have hidx := fun wx => idx_run b i hlt wx
                  have hil : i < (nats b).length := by rw [nats_length]; exact hlt
                  obtain ⟨x, hx⟩ : ∃ x, x = (nats b).getD i 0 := ⟨_, rfl⟩
                  rw [← hx] at hidx
                  have hdrop : Hid (((nats b).drop i).all alnumN = (alnumN x && ((nats b).drop (i + 1)).all alnumN)) := by
                    show _ = _
                    have e : (nats b)[i] = x := by rw [hx]; simp [List.getD, hil]
                    rw [List.drop_eq_getElem_cons hil, e]; simp
                  clear hx hil
                  have HLX := hid (letter_any x)
                  have HDX := hid (digit_any x)
                  cases hl : letterN x with
                  | true =>
                    rw [hl] at HLX
                    have ha : Hid (alnumN x = true) := by show _ = _; simp [alnumN, hl]
                    clear hl
                    go_wp2_with (first | (go_at_call 117; go_must (refine (HLX.out _).mono ?_; rintro e w' ⟨rfl, hw'⟩; subst hw')) | (go_at_call 118; go_must (refine (HDX.out _).mono ?_; rintro e w' ⟨rfl, hw'⟩; subst hw')))
                    go_roundg (gk - 1)
                    case measure => omega
                    case rel => exact ⟨i + 1, by go_num, by omega, by omega, by omega, by rw [hall.out, hdrop.out, ha.out]; rfl, rfl⟩
                  | false =>
                    rw [hl] at HLX
                    cases hd : digitN x with
                    | true =>
                      rw [hd] at HDX
                      have ha : Hid (alnumN x = true) := by show _ = _; simp [alnumN, hd]
                      clear hl hd
                      go_wp2_with (first | (go_at_call 117; go_must (refine (HLX.out _).mono ?_; rintro e w' ⟨rfl, hw'⟩; subst hw')) | (go_at_call 118; go_must (refine (HDX.out _).mono ?_; rintro e w' ⟨rfl, hw'⟩; subst hw')))
                      go_roundg (gk - 1)
                      case measure => omega
                      case rel => exact ⟨i + 1, by go_num, by omega, by omega, by omega, by rw [hall.out, hdrop.out, ha.out]; rfl, rfl⟩
                    | false =>
                      rw [hd] at HDX
                      have ha : Hid (alnumN x = false) := by show _ = _; simp [alnumN, hl, hd]
                      clear hl hd
                      go_wp2_with (first | (go_at_call 117; go_must (refine (HLX.out _).mono ?_; rintro e w' ⟨rfl, hw'⟩; subst hw')) | (go_at_call 118; go_must (refine (HDX.out _).mono ?_; rintro e w' ⟨rfl, hw'⟩; subst hw')))
                      go_ret
                      exact ⟨retB (by rw [hall.out, hdrop.out, ha.out]; rfl), rfl⟩
                · have hlt' : ¬ (i : Int) < (b.size : Int) := by omega
                  go_wp2
                  go_ret
                  exact ⟨retB (by rw [hall.out, List.drop_eq_nil_of_le (by rw [nats_length]; omega)]; rfl), rfl⟩
end Go.Proofs.Ygcfad
