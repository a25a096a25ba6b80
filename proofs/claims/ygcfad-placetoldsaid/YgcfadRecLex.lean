/-
  THE WALK of package rec's characters and tokens.
-/
import Derived.Test.YgcfadLex2
import Derived.Test.YgcfadRecPlain
import Derived.Deep.Cut
import Derived.Deep.CutRange
import Derived.Deep.DeepCutAuto
import Derived.Deep.LoopGhost
namespace Go.Proofs.Ygcfad
open Go.RowKit Plain
set_option linter.unusedSimpArgs false
set_option linter.unusedVariables false

theorem letter_any (c : Nat) (w : World) : Calls Fadg.prog 117 #[.int .u8 (c : Int)] w fun e w' => e = .returned (.bool (letterN c)) ∧ w' = w := by
  by_cases h1 : c < 65
  · have e : letterN c = false := by simp [letterN]; omega
    rw [e]
    go_enter Fadg.func117, Fadg.ntmps117
    go_wp2
    go_ret
    first | exact ⟨rfl, rfl⟩ | exact ⟨retB (by simp; omega), rfl⟩
  by_cases h2 : c ≤ 90
  · have e : letterN c = true := by simp [letterN]; omega
    rw [e]
    go_enter Fadg.func117, Fadg.ntmps117
    go_wp2
    go_ret
    first | exact ⟨rfl, rfl⟩ | exact ⟨retB (by simp; omega), rfl⟩
  by_cases h3 : c < 97
  · have e : letterN c = false := by simp [letterN]; omega
    rw [e]
    go_enter Fadg.func117, Fadg.ntmps117
    go_wp2
    go_ret
    first | exact ⟨rfl, rfl⟩ | exact ⟨retB (by simp; omega), rfl⟩
  by_cases h4 : c ≤ 122
  · have e : letterN c = true := by simp [letterN]; omega
    rw [e]
    go_enter Fadg.func117, Fadg.ntmps117
    go_wp2
    go_ret
    first | exact ⟨rfl, rfl⟩ | exact ⟨retB (by simp; omega), rfl⟩
  · have e : letterN c = false := by simp [letterN]; omega
    rw [e]
    go_enter Fadg.func117, Fadg.ntmps117
    go_wp2
    go_ret
    first | exact ⟨rfl, rfl⟩ | exact ⟨retB (by simp; omega), rfl⟩
theorem digit_any (c : Nat) (w : World) : Calls Fadg.prog 118 #[.int .u8 (c : Int)] w fun e w' => e = .returned (.bool (digitN c)) ∧ w' = w := by
  by_cases h1 : c < 48
  · have e : digitN c = false := by simp [digitN]; omega
    rw [e]
    go_enter Fadg.func118, Fadg.ntmps118
    go_wp2
    go_ret
    first | exact ⟨rfl, rfl⟩ | exact ⟨retB (by simp; omega), rfl⟩
  by_cases h2 : c ≤ 57
  · have e : digitN c = true := by simp [digitN]; omega
    rw [e]
    go_enter Fadg.func118, Fadg.ntmps118
    go_wp2
    go_ret
    first | exact ⟨rfl, rfl⟩ | exact ⟨retB (by simp; omega), rfl⟩
  · have e : digitN c = false := by simp [digitN]; omega
    rw [e]
    go_enter Fadg.func118, Fadg.ntmps118
    go_wp2
    go_ret
    first | exact ⟨rfl, rfl⟩ | exact ⟨retB (by simp; omega), rfl⟩

/-! ### The parser in memory: its 8 cells -/
structure RS where
  tx : ByteArray
  at_ : Nat
  en : Nat
  sv : Value
  uv : Value
  nv : Value
  code : Nat
  whr : Nat
def rcell (p : RS) (j : Nat) : Value :=
  if j = 0 then .string p.tx else if j = 1 then .int .i64 (p.at_ : Int) else if j = 2 then .int .i64 (p.en : Int) else if j = 3 then p.sv else if j = 4 then p.uv else if j = 5 then p.nv else if j = 6 then .int .u8 (p.code : Int) else .int .i64 (p.whr : Int)
def RAt (P : Nat) (w : World) (p : RS) : Prop := (∀ j, j < 8 → w.cell? ⟨P, j, none⟩ = some (rcell p j)) ∧ (∀ j, w.frozen? ⟨P, j, none⟩ = false)
theorem RAt.set {P j : Nat} {w : World} {p p' : RS} {v : Value} (h : RAt P w p) (hj : j < 8) (hp : ∀ i, i < 8 → rcell p' i = if i = j then v else rcell p i) : RAt P (w.setCell ⟨P, j, none⟩ v) p' := by
  refine ⟨fun i hi => ?_, fun i => by rw [World.frozen?_setCell]; exact h.2 i⟩
  rw [hp i hi]
  by_cases e : i = j
  · subst e; rw [if_pos rfl]; exact World.cell?_setCell_same _ _ _ (h.1 i hi)
  · rw [if_neg e, World.cell?_setCell_other (h := fun k => e (by simpa using congrArg Addr.off k.symm))]
    exact h.1 i hi
theorem RAt.drew {P q : Nat} {w : World} {p : RS} (h : RAt P w p) : RAt P (w.drewN q) p := h
theorem RAt.same {P : Nat} {w w' : World} {p : RS} (h : RAt P w p) (e : w'.heap[P]? = w.heap[P]?) : RAt P w' p :=
  ⟨fun j hj => by rw [World.cell?_of_block (w := w) e]; exact h.1 j hj, fun j => by rw [World.frozen?_of_block (w := w) e]; exact h.2 j⟩
section
variable {P : Nat} {w : World} {p : RS}
theorem RAt.setAt (h : RAt P w p) (n : Nat) {N : Int} (hN : N = (n : Int)) : RAt P (w.setCell ⟨P, 1, none⟩ (.int .i64 N)) { p with at_ := n } := by
  subst hN; refine h.set (by decide) fun i _ => ?_; unfold rcell; by_cases e : i = 1 <;> simp [e]
theorem RAt.setEn (h : RAt P w p) (n : Nat) {N : Int} (hN : N = (n : Int)) : RAt P (w.setCell ⟨P, 2, none⟩ (.int .i64 N)) { p with en := n } := by
  subst hN; refine h.set (by decide) fun i _ => ?_; unfold rcell; by_cases e : i = 2 <;> simp [e]
theorem RAt.setSv (h : RAt P w p) (v : Value) : RAt P (w.setCell ⟨P, 3, none⟩ v) { p with sv := v } := by
  refine h.set (by decide) fun i _ => ?_; unfold rcell; by_cases e : i = 3 <;> simp [e]
theorem RAt.setUv (h : RAt P w p) (v : Value) : RAt P (w.setCell ⟨P, 4, none⟩ v) { p with uv := v } := by
  refine h.set (by decide) fun i _ => ?_; unfold rcell; by_cases e : i = 4 <;> simp [e]
theorem RAt.setNv (h : RAt P w p) (v : Value) : RAt P (w.setCell ⟨P, 5, none⟩ v) { p with nv := v } := by
  refine h.set (by decide) fun i _ => ?_; unfold rcell; by_cases e : i = 5 <;> simp [e]
theorem RAt.setCode (h : RAt P w p) (n : Nat) {N : Int} (hN : N = (n : Int)) : RAt P (w.setCell ⟨P, 6, none⟩ (.int .u8 N)) { p with code := n } := by
  subst hN; refine h.set (by decide) fun i _ => ?_; unfold rcell; by_cases e : i = 6 <;> simp [e]
theorem RAt.setWhr (h : RAt P w p) (n : Nat) {N : Int} (hN : N = (n : Int)) : RAt P (w.setCell ⟨P, 7, none⟩ (.int .i64 N)) { p with whr := n } := by
  subst hN; refine h.set (by decide) fun i hi => ?_; unfold rcell; by_cases e : i = 7
  · simp [e]
  · have : i = 0 ∨ i = 1 ∨ i = 2 ∨ i = 3 ∨ i = 4 ∨ i = 5 ∨ i = 6 := by omega
    rcases this with rfl | rfl | rfl | rfl | rfl | rfl | rfl <;> simp
theorem RAt.cells (h : RAt P w p) :
    w.cell? ⟨P, 0, none⟩ = some (.string p.tx) ∧ w.cell? ⟨P, 1, none⟩ = some (.int .i64 (p.at_ : Int)) ∧ w.cell? ⟨P, 2, none⟩ = some (.int .i64 (p.en : Int)) ∧ w.cell? ⟨P, 3, none⟩ = some p.sv ∧
    w.cell? ⟨P, 4, none⟩ = some p.uv ∧ w.cell? ⟨P, 5, none⟩ = some p.nv ∧ w.cell? ⟨P, 6, none⟩ = some (.int .u8 (p.code : Int)) ∧ w.cell? ⟨P, 7, none⟩ = some (.int .i64 (p.whr : Int)) :=
  ⟨h.1 0 (by decide), h.1 1 (by decide), h.1 2 (by decide), h.1 3 (by decide), h.1 4 (by decide), h.1 5 (by decide), h.1 6 (by decide), h.1 7 (by decide)⟩
end
/-- What next leaves. -/
def nextRP (p : RS) : RS := { p with at_ := (nextR (nats p.tx) p.en).1, en := (nextR (nats p.tx) p.en).2 }
theorem nextRP_end {p : RS} {i : Nat} (hi : i = atN (nats p.tx) p.en) (h : (nats p.tx).length ≤ i) : nextRP p = { p with at_ := i, en := i } := by
  unfold nextRP nextR; rw [← hi, if_pos h]
theorem nextRP_word {p : RS} {i : Nat} (hi : i = atN (nats p.tx) p.en) (h : ¬ (nats p.tx).length ≤ i) (hl : alnumN ((nats p.tx).getD i 0) = true) :
    nextRP p = { p with at_ := i, en := i + 1 + spanN alnumN ((nats p.tx).drop (i + 1)) } := by
  unfold nextRP nextR; rw [← hi, if_neg h, if_pos hl]
theorem nextRP_sign {p : RS} {i : Nat} (hi : i = atN (nats p.tx) p.en) (h : ¬ (nats p.tx).length ≤ i) (hl : alnumN ((nats p.tx).getD i 0) = false) :
    nextRP p = { p with at_ := i, en := i + 1 } := by
  unfold nextRP nextR; rw [← hi, if_neg h, if_neg (by rw [hl]; decide)]

set_option maxRecDepth 100000 in
set_option maxHeartbeats 4000000 in
theorem nextR_any (P : Nat) (p : RS) (w : World) (hp : Hid (RAt P w p)) (hsz : p.tx.size ≤ 1000000) (hen : p.en ≤ p.tx.size) :
    Calls Fadg.prog 73 #[.pointer (some ⟨P, 0, none⟩)] w fun e w' => e = .returned (.tuple #[]) ∧ RAt P w' (nextRP p) ∧ Only P w w' := by
  obtain ⟨c0, c1, c2, -, -, -, -, -⟩ := hp.out.cells
  have f1 := hp.out.2 1
  have f2 := hp.out.2 2
  have hat := hid (atN_le (T := nats p.tx) (en := p.en) (by rw [nats_length]; exact hen))
  rw [nats_length] at hat
  obtain ⟨tx, a0, en, sv, uv, nv, cd, wh⟩ := p
  simp only at *
  go_enter Fadg.func73, Fadg.ntmps73
  go_wp2
  go_loop [2, 3] (fun i cm => ∃ (i' : Nat) (b : Bool), i = .int .i64 (i' : Int) ∧ cm = .bool b ∧ i' ≤ tx.size ∧ Hid (en ≤ i' ∧ i' + skipN b ((nats tx).drop i') = atN (nats tx) en)) (fun i _ => tx.size - (intOf i).toNat)
  case atStart => exact ⟨en, false, rfl, rfl, hen, Nat.le_refl _, rfl⟩
  case round =>
    obtain ⟨i, b, rfl, rfl, hi, hsk⟩ := hrel
    by_cases hlt : i < tx.size
    · have hil : Hid (i < (nats tx).length) := by rw [nats_length]; exact hlt
      have hidx := fun wx => idx_run tx i hlt wx
      obtain ⟨c, hc⟩ : ∃ c, c = (nats tx).getD i 0 := ⟨_, rfl⟩
      rw [← hc] at hidx
      have HC := hid hc
      clear hc
      cases b with
      | true =>
        have hin := hid (skipN_in (cm := true) hil.out rfl)
        rw [← HC.out] at hin
        go_wp2
        go_round
        case rel => exact ⟨i + 1, c != 10, by go_num, congrArg Value.bool (bneI c 10), by omega, by have := hsk.out; omega, by have h1 := hsk.out; rw [hin.out] at h1; omega⟩
        case measure => simp [intOf]; omega
      | false =>
        by_cases h35 : c = 35
        · have h35' : ((c : Int) == 35) = true := by simp [h35]
          have hin := hid (skipN_in (T := nats tx) (i := i) (cm := false) hil.out (by rw [← HC.out, h35]; rfl))
          rw [← HC.out] at hin
          clear h35
          go_wp2
          go_round
          case rel => exact ⟨i + 1, c != 10, by go_num, congrArg Value.bool (bneI c 10), by omega, by have := hsk.out; omega, by have h1 := hsk.out; rw [hin.out] at h1; omega⟩
          case measure => simp [intOf]; omega
        · have h35' : ((c : Int) == 35) = false := by simp; omega
          have HN35 := hid h35
          clear h35
          cases hbl : blankN c with
          | true =>
            have hin := hid (skipN_blank (T := nats tx) (i := i) hil.out (by rw [← HC.out]; simpa using HN35.out) (by rw [← HC.out]; exact hbl))
            have h4 : c = 32 ∨ c = 9 ∨ c = 10 ∨ c = 13 := by simpa [blankN, or_assoc] using hbl
            clear hbl h35'
            rcases h4 with rfl | rfl | rfl | rfl
            all_goals
              go_wp2
              go_round
              case rel => exact ⟨i + 1, false, by go_num, rfl, by omega, by have := hsk.out; omega, by have h1 := hsk.out; rw [hin.out] at h1; omega⟩
              case measure => simp [intOf]; omega
          | false =>
            have hst := hid (skipN_stop (T := nats tx) (i := i) hil.out (by rw [← HC.out]; simpa using HN35.out) (by rw [← HC.out]; exact hbl))
            have hia : i = atN (nats tx) en := by have h1 := hsk.out.2; rw [hst.out] at h1; exact h1
            have HIA := hid hia
            have hne : Hid (¬ (nats tx).length ≤ i) := by have := hil.out; show ¬ _; omega
            have n1 : ((c : Int) != 32) = true := by simp [blankN] at hbl; simp; omega
            have n2 : ((c : Int) != 9) = true := by simp [blankN] at hbl; simp; omega
            have n3 : ((c : Int) != 10) = true := by simp [blankN] at hbl; simp; omega
            have n4 : ((c : Int) != 13) = true := by simp [blankN] at hbl; simp; omega
            clear hbl hst hia hsk
            have hp1 := hid (((hp.out.setAt i rfl).setEn i rfl).setEn (N := (i : Int) + 1) (i + 1) (by omega))
            have ho1 := hid (((Only.set P 1 w (.int .i64 (i : Int))).trans (Only.set P 2 _ (.int .i64 (i : Int)))).trans (Only.set P 2 _ (.int .i64 ((i : Int) + 1))))
            cases hal : alnumN c with
            | true =>
              have hnx := hid (nextRP_word (p := ⟨tx, a0, en, sv, uv, nv, cd, wh⟩) HIA.out hne.out (by simp only; rw [← HC.out]; exact hal))
              have hor : Hid ((letterN c || digitN c) = true) := hal
              clear hal
              have HLE := hid (letter_any c)
              have HDI := hid (digit_any c)
              go_upto_region 11 with fail
              go_cut [5] (fun v wx => v = .bool true ∧ Hid (RAt P wx ⟨tx, i, i + 1, sv, uv, nv, cd, wh⟩) ∧ Hid (Only P w wx))
              case first =>
                cases hl : letterN c with
                | true =>
                  rw [hl] at HLE
                  go_wp2_with (first | (go_at_call 117; go_must (refine (HLE.out _).mono ?_; rintro e w' ⟨rfl, hw'⟩; subst hw')) | (go_at_call 118; go_must (refine (HDI.out _).mono ?_; rintro e w' ⟨rfl, hw'⟩; subst hw')))
                  go_meet
                  exact ⟨rfl, hp1, ho1⟩
                | false =>
                  have hd : digitN c = true := by have := hor.out; rw [hl] at this; simpa using this
                  rw [hl] at HLE
                  rw [hd] at HDI
                  go_wp2_with (first | (go_at_call 117; go_must (refine (HLE.out _).mono ?_; rintro e w' ⟨rfl, hw'⟩; subst hw')) | (go_at_call 118; go_must (refine (HDI.out _).mono ?_; rintro e w' ⟨rfl, hw'⟩; subst hw')))
                  go_meet
                  exact ⟨rfl, hp1, ho1⟩
              case rest =>
                obtain ⟨rfl, hp2, ho2⟩ := hcut
                clear hp1 ho1 hidx HLE HDI
                go_wp2
                go_loopg [6] (tx.size - i) (fun gk v wr => ∃ e : Nat, e ≤ tx.size ∧ e + gk = tx.size + 1 ∧ Hid (i + 1 ≤ e ∧ e + spanN alnumN ((nats tx).drop e) = i + 1 + spanN alnumN ((nats tx).drop (i + 1))) ∧ Hid (RAt P wr ⟨tx, i, e, sv, uv, nv, cd, wh⟩) ∧ Hid (Only P w wr))
                case atStart => exact ⟨i + 1, by omega, by omega, ⟨Nat.le_refl _, rfl⟩, hp2, ho2⟩
                case round =>
                  obtain ⟨e, he, hgk, hsp, hpe, hoe⟩ := hrel
                  obtain ⟨d0, -, d2, -, -, -, -, -⟩ := hpe.out.cells
                  have g2 := hpe.out.2 2
                  by_cases hee : e < tx.size
                  · have hel : Hid (e < (nats tx).length) := by rw [nats_length]; exact hee
                    have hidx := fun wx => idx_run tx e hee wx
                    obtain ⟨x, hx⟩ : ∃ x, x = (nats tx).getD e 0 := ⟨_, rfl⟩
                    rw [← hx] at hidx
                    have HX := hid hx
                    clear hx
                    have hee' : decide ((e : Int) < (tx.size : Int)) = true := by simp; omega
                    have HLE := hid (letter_any x)
                    have HDI := hid (digit_any x)
                    go_upto_region 12 with fail
                    go_quiet (fail)
                    go_upto_region 14 with fail
                    go_quiet (fail)
                    cases hxa : alnumN x with
                    | true =>
                      have HA := hid hxa
                      clear hxa
                      have hsp2 := hid (spanN_yes (p := alnumN) hel.out (by rw [← HX.out]; exact HA.out))
                      cases hl : letterN x with
                      | true =>
                        rw [hl] at HLE
                        clear hl
                        go_wp2_with (first | (go_at_call 117; go_must (refine (HLE.out _).mono ?_; rintro e w' ⟨rfl, hw'⟩; subst hw')) | (go_at_call 118; go_must (refine (HDI.out _).mono ?_; rintro e w' ⟨rfl, hw'⟩; subst hw')))
                        go_roundg (gk - 1)
                        case measure => omega
                        case rel => exact ⟨e + 1, by omega, by omega, by have h1 := hsp.out; rw [hsp2.out] at h1; exact ⟨by omega, by omega⟩, hpe.out.drew.setEn (e + 1) (by omega), (hoe.out.trans (Only.drew _ _ _)).trans (Only.set _ _ _ _)⟩
                      | false =>
                        have hd : digitN x = true := by have h := HA.out; unfold alnumN at h; rw [hl] at h; simpa using h
                        rw [hl] at HLE
                        rw [hd] at HDI
                        clear hl hd
                        go_wp2_with (first | (go_at_call 117; go_must (refine (HLE.out _).mono ?_; rintro e w' ⟨rfl, hw'⟩; subst hw')) | (go_at_call 118; go_must (refine (HDI.out _).mono ?_; rintro e w' ⟨rfl, hw'⟩; subst hw')))
                        go_roundg (gk - 1)
                        case measure => omega
                        case rel => exact ⟨e + 1, by omega, by omega, by have h1 := hsp.out; rw [hsp2.out] at h1; exact ⟨by omega, by omega⟩, hpe.out.drew.setEn (e + 1) (by omega), (hoe.out.trans (Only.drew _ _ _)).trans (Only.set _ _ _ _)⟩
                    | false =>
                      have hl : letterN x = false := by cases h : letterN x <;> simp [alnumN, h] at hxa ⊢
                      have hd : digitN x = false := by cases h : digitN x <;> simp [alnumN, h] at hxa ⊢
                      have hend : Hid (e = i + 1 + spanN alnumN ((nats tx).drop (i + 1))) := by have h1 := hsp.out.2; rw [spanN_no hel.out (by rw [← HX.out]; exact hxa)] at h1; exact h1
                      rw [hl] at HLE
                      rw [hd] at HDI
                      clear hxa hl hd
                      go_wp2_with (first | (go_at_call 117; go_must (refine (HLE.out _).mono ?_; rintro e w' ⟨rfl, hw'⟩; subst hw')) | (go_at_call 118; go_must (refine (HDI.out _).mono ?_; rintro e w' ⟨rfl, hw'⟩; subst hw')))
                      go_end0
                      refine ⟨rfl, ?_, hoe.out.trans (Only.drew _ _ _)⟩
                      rw [hnx.out, ← hend.out]
                      exact hpe.out
                  · have hee' : decide ((e : Int) < (tx.size : Int)) = false := by simp; omega
                    have hend : Hid (e = i + 1 + spanN alnumN ((nats tx).drop (i + 1))) := by have h1 := hsp.out.2; rw [spanN_end (by rw [nats_length]; omega)] at h1; exact h1
                    go_upto_region 12 with fail
                    go_quiet (fail)
                    go_wp2
                    go_end0
                    refine ⟨rfl, ?_, hoe.out.trans (Only.drew _ _ _)⟩
                    rw [hnx.out, ← hend.out]
                    exact hpe.out
            | false =>
              have hnx := hid (nextRP_sign (p := ⟨tx, a0, en, sv, uv, nv, cd, wh⟩) HIA.out hne.out (by simp only; rw [← HC.out]; exact hal))
              have hl0 : letterN c = false := by cases h : letterN c <;> simp [alnumN, h] at hal ⊢
              have hd0 : digitN c = false := by cases h : digitN c <;> simp [alnumN, h] at hal ⊢
              have HLE := hid (letter_any c)
              have HDI := hid (digit_any c)
              rw [hl0] at HLE
              rw [hd0] at HDI
              clear hal
              go_upto_region 12 with (first | (go_at_call 117; go_must (refine (HLE.out _).mono ?_; rintro e w' ⟨rfl, hw'⟩; subst hw')) | (go_at_call 118; go_must (refine (HDI.out _).mono ?_; rintro e w' ⟨rfl, hw'⟩; subst hw')))
              go_loopg [] 1 (fun gk wr => Hid (RAt P wr ⟨tx, i, i + 1, sv, uv, nv, cd, wh⟩) ∧ Hid (Only P w wr))
              case atStart => exact ⟨hp1, ho1⟩
              case round =>
                obtain ⟨hpe, hoe⟩ := hrel
                go_upto_region 12 with fail
                go_quiet (fail)
                go_wp2
                go_end0
                refine ⟨rfl, ?_, hoe.out.trans (Only.drew _ _ _)⟩
                rw [hnx.out]
                exact hpe.out
    · have hia : i = atN (nats tx) en := by have h1 := hsk.out.2; rw [skipN_end (by rw [nats_length]; omega)] at h1; exact h1
      have hnx := hid (nextRP_end (p := ⟨tx, a0, en, sv, uv, nv, cd, wh⟩) hia (by simp only; rw [nats_length]; omega))
      simp only at hnx
      clear hia hsk
      go_wp2
      go_end0
      refine ⟨rfl, ?_, (Only.set _ _ _ _).trans (Only.set _ _ _ _)⟩
      rw [hnx.out]
      exact (hp.out.setAt i rfl).setEn i rfl
end Go.Proofs.Ygcfad
