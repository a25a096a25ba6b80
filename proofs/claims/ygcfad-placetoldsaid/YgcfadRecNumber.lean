/-
  THE WALK of package rec's number and width.
-/
import Derived.Test.YgcfadRecLex2
import Derived.Test.YgcfadLayout
namespace Go.Proofs.Ygcfad
open Go.RowKit Plain
set_option linter.unusedSimpArgs false
set_option linter.unusedVariables false

set_option maxRecDepth 100000 in
theorem widthR_any (k : Nat) (hk : k < 256) (w : World) : Calls Fadg.prog 159 #[.int .u8 (k : Int)] w fun e w' => e = .returned (.int .u8 ((widthN k : Nat) : Int)) ∧ w' = w := by
  by_cases h : k < 11
  · have hidx := fun wx => wid_idx wx k h
    have h' : ¬ (10 : Int) < (k : Int) := by omega
    go_enter Fadg.func159, Fadg.ntmps159
    go_wp2
    go_ret
    exact ⟨rfl, rfl⟩
  · rw [widthN_big (by omega)]
    have h' : (10 : Int) < (k : Int) := by omega
    go_enter Fadg.func159, Fadg.ntmps159
    go_wp2
    go_ret
    exact ⟨rfl, rfl⟩

theorem nats_nil' {b : ByteArray} (h : nats b = []) : (b.toList == []) = true := by rw [str_lit, h]; rfl
theorem nats_cons' {b : ByteArray} (h : nats b ≠ []) : (b.toList == []) = false := by rw [str_lit]; simp [h]
def digsN (base : Nat) (w : List Nat) : Option Nat := if w = [] then none else digitsN base 0 w
theorem numberN_hex {w : List Nat} (h : 2 < w.length) (hx : isHex w = true) : numberN w = digsN 16 (w.drop 2) := by
  unfold numberN digsN
  rw [if_pos ⟨h, hx⟩, if_neg]
  intro e
  have := congrArg List.length e
  simp at this; omega
theorem numberN_dec {w : List Nat} (h : ¬ (2 < w.length ∧ isHex w = true)) : numberN w = digsN 10 w := by
  unfold numberN digsN
  rw [if_neg h]
theorem digits_step {base v c d : Nat} {l : List Nat} (hd : hexdN c = some d) : digitsN base v (c :: l) = if base ≤ d ∨ (18446744073709551615 - d) / base < v then none else digitsN base (v * base + d) l := by
  rw [digitsN, hd]
theorem digits_bad {base v c : Nat} {l : List Nat} (hd : hexdN c = none) : digitsN base v (c :: l) = none := by rw [digitsN, hd]

/-- A hex letter. -/
def lethN (c : Nat) : Bool := decide ((65 ≤ c ∧ c ≤ 70) ∨ (97 ≤ c ∧ c ≤ 102))
set_option maxRecDepth 100000 in
set_option maxHeartbeats 4000000 in
theorem number_any (b : ByteArray) (w : World) (hsz : b.size ≤ 1000000) : Calls Fadg.prog 168 #[.string b] w fun e w' => e = .returned (.tuple #[.int .u64 (((numberN (nats b)).getD 0 : Nat) : Int), .bool (numberN (nats b)).isSome]) ∧ ∃ q, w' = w.drewN q := by
  have hlit := hid (str_lit (b.extract 0 2) [48, 120])
  have hx2 : Hid ((nats (b.extract 0 2) == [48, 120]) = isHex (nats b)) := by show _ = _; rw [nats_extract]; rfl
  go_enter Fadg.func168, Fadg.ntmps168
  go_upto_region 2 with fail
  go_cut [16] (fun v wx => v = .bool (decide (2 < b.size) && isHex (nats b)) ∧ wx = w)
  case first =>
    by_cases h2 : 2 < b.size
    · have h2' : (2 : Int) < (b.size : Int) := by omega
      have h2'' : (2 : Int) ≤ (b.size : Int) := by omega
      have HL : Hid (((b.extract 0 2).toList == [48, 120]) = isHex (nats b)) := hlit.out.trans hx2.out
      cases hh : isHex (nats b) with
      | true =>
        have hq : ((b.extract 0 2).toList == [48, 120]) = true := HL.out.trans hh
        go_wp2
        go_meet
        exact ⟨congrArg Value.bool (by simp [h2, hh]), rfl⟩
      | false =>
        have hq : ((b.extract 0 2).toList == [48, 120]) = false := HL.out.trans hh
        go_wp2
        go_meet
        exact ⟨congrArg Value.bool (by simp [h2, hh]), rfl⟩
    · have h2' : ¬ (2 : Int) < (b.size : Int) := by omega
      go_wp2
      go_meet
      exact ⟨congrArg Value.bool (by simp [h2]), rfl⟩
  case rest =>
    obtain ⟨rfl, rfl⟩ := hcut
    go_upto_if 16 with fail
    go_cut [0, 4, 16] (fun v0 v4 v16 wx => ∃ (bb : ByteArray) (base q : Nat), v0 = .string bb ∧ v4 = .int .u64 (base : Int) ∧ (base = 10 ∨ base = 16) ∧ bb.size ≤ b.size ∧ Hid (numberN (nats b) = digsN base (nats bb)) ∧ wx = wc.drewN q)
    case first =>
      cases hb : (decide (2 < b.size) && isHex (nats b)) with
      | true =>
        have hb' : 2 < b.size ∧ isHex (nats b) = true := by simpa using hb
        have h2 : (2 : Int) ≤ (b.size : Int) := by omega
        have hn : Hid (numberN (nats b) = digsN 16 (nats (b.extract 2 b.size))) := by
          show _ = _
          rw [numberN_hex (by rw [nats_length]; exact hb'.1) hb'.2, nats_extract, List.take_of_length_le (by simp [nats_length])]
        clear hb hb'
        go_wp2_with fail
        go_quiet (fail)
        go_wp2_with fail
        go_meet
        exact ⟨b.extract 2 b.size, 16, _, rfl, rfl, .inr rfl, by rw [ByteArray.size_extract]; omega, hn, rfl⟩
      | false =>
        have hn : Hid (numberN (nats b) = digsN 10 (nats b)) := by
          show _ = _
          refine numberN_dec ?_
          rw [nats_length]
          intro h
          rw [decide_eq_true h.1, h.2] at hb
          exact absurd hb (by decide)
        clear hb
        go_wp2_with fail
        go_meet
        exact ⟨b, 10, 0, rfl, rfl, .inl rfl, Nat.le_refl _, hn, rfl⟩
    case rest =>
      obtain ⟨bb, base, q, rfl, rfl, hbase, hbs, hnum, rfl⟩ := hcut
      clear hlit hx2
      go_wp2_with fail
      go_loopg [21, 5] bb.size (fun gk i v wr => ∃ (i' v' : Nat), i = .int .i64 (i' : Int) ∧ v = .int .u64 (v' : Int) ∧ i' + gk = bb.size ∧ v' < 18446744073709551616 ∧ wr = wc.drewN q ∧ Hid (digitsN base v' ((nats bb).drop i') = digitsN base 0 (nats bb)))
      case atStart => exact ⟨0, 0, rfl, rfl, by omega, by omega, rfl, rfl⟩
      case round =>
        obtain ⟨i, v, rfl, rfl, hi, hv, rfl, hdg⟩ := hrel
        by_cases hlt : i < bb.size
        · have hlt' : (i : Int) < (bb.size : Int) := by omega
          have hidx := fun wx => idx_run bb i hlt wx
          have hc8 := nats_getD_lt bb i
          have hil : i < (nats bb).length := by rw [nats_length]; exact hlt
          obtain ⟨c, hc⟩ : ∃ c, c = (nats bb).getD i 0 := ⟨_, rfl⟩
          rw [← hc] at hidx hc8
          have hdrop : Hid ((nats bb).drop i = c :: (nats bb).drop (i + 1)) := by
            show _ = _
            have e : (nats bb)[i] = c := by rw [hc]; simp [List.getD, hil]
            rw [List.drop_eq_getElem_cons hil, e]
          have hne : Hid (nats bb ≠ []) := by show _ ≠ _; intro e; rw [e] at hil; simp at hil
          clear hc hil
          have HD := hid (digit_any c)
          go_upto_region 10 with fail
          go_cut [43] (fun x wx => x = .bool (lethN c) ∧ wx = wc.drewN q)
          case first =>
            by_cases r1 : c < 65
            · have e : lethN c = false := by simp [lethN]; omega
              go_wp2
              go_meet
              exact ⟨congrArg Value.bool (by rw [e] <;> simp <;> omega), rfl⟩
            by_cases r2 : c ≤ 70
            · have e : lethN c = true := by simp [lethN]; omega
              go_wp2
              go_meet
              exact ⟨congrArg Value.bool (by rw [e] <;> simp <;> omega), rfl⟩
            by_cases r3 : c < 97
            · have e : lethN c = false := by simp [lethN]; omega
              go_wp2
              go_meet
              exact ⟨congrArg Value.bool (by rw [e] <;> simp <;> omega), rfl⟩
            by_cases r4 : c ≤ 102
            · have e : lethN c = true := by simp [lethN]; omega
              go_wp2
              go_meet
              exact ⟨congrArg Value.bool (by rw [e] <;> simp <;> omega), rfl⟩
            · have e : lethN c = false := by simp [lethN]; omega
              go_wp2
              go_meet
              exact ⟨congrArg Value.bool (by rw [e] <;> simp <;> omega), rfl⟩
          case rest =>
            obtain ⟨rfl, rfl⟩ := hcut
            go_upto_if 43 with fail
            go_cut [8, 43] (fun x y wx => ∃ d : Nat, x = .int .u64 (d : Int) ∧ d < 256 ∧ Hid (hexdN c = some d) ∧ wx = wc.drewN q)
            case first =>
              cases hl : lethN c with
              | true =>
                have h12 : c = 65 ∨ c = 66 ∨ c = 67 ∨ c = 68 ∨ c = 69 ∨ c = 70 ∨ c = 97 ∨ c = 98 ∨ c = 99 ∨ c = 100 ∨ c = 101 ∨ c = 102 := by simp [lethN] at hl; omega
                clear hl hidx hdrop HD
                rcases h12 with rfl | rfl | rfl | rfl | rfl | rfl | rfl | rfl | rfl | rfl | rfl | rfl
                all_goals
                  go_wp2
                  go_meet
                  exact ⟨_, rfl, by decide, rfl, rfl⟩
              | false =>
                have hl' : ¬ ((65 ≤ c ∧ c ≤ 70) ∨ (97 ≤ c ∧ c ≤ 102)) := by simpa [lethN] using hl
                cases hd : digitN c with
                | true =>
                  rw [hd] at HD
                  have hh : Hid (hexdN c = some (c - 48)) := by show _ = _; unfold hexdN; rw [if_neg hl', if_pos hd]
                  have hr : 48 ≤ c ∧ c ≤ 57 := by simpa [digitN] using hd
                  clear hl hl' hd
                  go_wp2_with (go_at_call 118; go_must (refine (HD.out _).mono ?_; rintro e w' ⟨rfl, hw'⟩; subst hw'))
                  go_meet
                  exact ⟨c - 48, by congr 1; omega, by omega, hh, rfl⟩
                | false =>
                  rw [hd] at HD
                  have e : Hid (numberN (nats b) = none) := by
                    show _ = _
                    have hh : hexdN c = none := by unfold hexdN; rw [if_neg hl', if_neg (by rw [hd]; decide)]
                    rw [hnum.out, digsN, if_neg hne.out, ← hdg.out, hdrop.out, digits_bad hh]
                  clear hl hl' hd
                  go_wp2_with (go_at_call 118; go_must (refine (HD.out _).mono ?_; rintro e w' ⟨rfl, hw'⟩; subst hw'))
                  go_ret2
                  rw [e.out]
                  exact ⟨rfl, _, rfl⟩
            case rest =>
              obtain ⟨d, rfl, hd8, hh, rfl⟩ := hcut
              clear hidx HD
              rcases hbase with rfl | rfl
              · skip
                have hnb : Hid (numberN (nats b) = digitsN 10 v (c :: (nats bb).drop (i + 1))) := by
                  show _ = _
                  rw [hnum.out, digsN, if_neg hne.out, ← hdrop.out, hdg.out]
                rw [digits_step hh.out] at hnb
                by_cases h1 : 10 ≤ d
                · have h1' : (10 : Int) ≤ (d : Int) := by omega
                  have e : Hid (numberN (nats b) = none) := by show _ = _; rw [hnb.out, if_pos (.inl h1)]
                  clear hnb
                  go_wp2
                  go_ret2
                  rw [e.out]
                  exact ⟨rfl, _, rfl⟩
                · have h1' : ¬ (10 : Int) ≤ (d : Int) := by omega
                  by_cases h2 : (18446744073709551615 - d) / 10 < v
                  · have h2' : (18446744073709551615 - (d : Int)) / 10 < (v : Int) := by omega
                    have e : Hid (numberN (nats b) = none) := by show _ = _; rw [hnb.out, if_pos (.inr h2)]
                    clear hnb
                    go_wp2
                    go_ret2
                    rw [e.out]
                    exact ⟨rfl, _, rfl⟩
                  · have h2' : ¬ (18446744073709551615 - (d : Int)) / 10 < (v : Int) := by omega
                    have h3 : v * 10 + d < 18446744073709551616 := by omega
                    have hst : Hid (digitsN 10 (v * 10 + d) ((nats bb).drop (i + 1)) = digitsN 10 0 (nats bb)) := by
                      show _ = _
                      rw [← hdg.out, hdrop.out, digits_step hh.out, if_neg (by omega)]
                    clear hnb
                    go_wp2
                    go_roundg (gk - 1)
                    case measure => omega
                    case rel => exact ⟨i + 1, v * 10 + d, by go_num, by congr 1, by omega, h3, rfl, hst⟩
              · skip
                have hnb : Hid (numberN (nats b) = digitsN 16 v (c :: (nats bb).drop (i + 1))) := by
                  show _ = _
                  rw [hnum.out, digsN, if_neg hne.out, ← hdrop.out, hdg.out]
                rw [digits_step hh.out] at hnb
                by_cases h1 : 16 ≤ d
                · have h1' : (16 : Int) ≤ (d : Int) := by omega
                  have e : Hid (numberN (nats b) = none) := by show _ = _; rw [hnb.out, if_pos (.inl h1)]
                  clear hnb
                  go_wp2
                  go_ret2
                  rw [e.out]
                  exact ⟨rfl, _, rfl⟩
                · have h1' : ¬ (16 : Int) ≤ (d : Int) := by omega
                  by_cases h2 : (18446744073709551615 - d) / 16 < v
                  · have h2' : (18446744073709551615 - (d : Int)) / 16 < (v : Int) := by omega
                    have e : Hid (numberN (nats b) = none) := by show _ = _; rw [hnb.out, if_pos (.inr h2)]
                    clear hnb
                    go_wp2
                    go_ret2
                    rw [e.out]
                    exact ⟨rfl, _, rfl⟩
                  · have h2' : ¬ (18446744073709551615 - (d : Int)) / 16 < (v : Int) := by omega
                    have h3 : v * 16 + d < 18446744073709551616 := by omega
                    have hst : Hid (digitsN 16 (v * 16 + d) ((nats bb).drop (i + 1)) = digitsN 16 0 (nats bb)) := by
                      show _ = _
                      rw [← hdg.out, hdrop.out, digits_step hh.out, if_neg (by omega)]
                    clear hnb
                    go_wp2
                    go_roundg (gk - 1)
                    case measure => omega
                    case rel => exact ⟨i + 1, v * 16 + d, by go_num, by congr 1, by omega, h3, rfl, hst⟩
        · have hlt' : ¬ (i : Int) < (bb.size : Int) := by omega
          have hv2 : Hid (some v = digitsN base 0 (nats bb)) := by
            show _ = _
            rw [← hdg.out, List.drop_eq_nil_of_le (by rw [nats_length]; omega)]; rfl
          by_cases h0 : nats bb = []
          · have hq := nats_nil' h0
            have hv0 : v = 0 := by have h := hv2.out; rw [h0] at h; simpa [digitsN] using h
            subst hv0
            have e : Hid (numberN (nats b) = none) := by show _ = _; rw [hnum.out, digsN, if_pos h0]
            clear h0
            go_wp2
            go_ret2
            rw [e.out]
            exact ⟨rfl, _, rfl⟩
          · have hq := nats_cons' h0
            have e : Hid (numberN (nats b) = some v) := by show _ = _; rw [hnum.out, digsN, if_neg h0, ← hv2.out]
            clear h0
            go_wp2
            go_ret2
            rw [e.out]
            exact ⟨rfl, _, rfl⟩
end Go.Proofs.Ygcfad
