/-
  THE WALK of package rec's value: all cases.
-/
import Derived.Test.YgcfadRecValue11
import Derived.Test.YgcfadRecValue10
import Derived.Test.YgcfadRecValue01
import Derived.Test.YgcfadRecValue00
namespace Go.Proofs.Ygcfad
open Go.RowKit Plain
set_option linter.unusedSimpArgs false
set_option linter.unusedVariables false

set_option maxRecDepth 100000 in
set_option maxHeartbeats 8000000 in
theorem valueR_none (P : Nat) (T : List Nat) (w0 w : World) (M : RM) (rs : List Row) (fs : List RF) (k : Nat) (hk : k < 256) (hS : Hid (RStd P T w0 w M rs)) (hw : widthN k = 0) :
    Calls Fadg.prog 156 #[.pointer (some ⟨P, 0, none⟩), .int .u8 (k : Int)] w (ValRPost P T w0 M rs fs (valueR T k (absR M fs))) := by
  have c1 := hS.out.p.cells.2.1
  have HWC : Hid (∀ wx, Calls Fadg.prog 159 #[.int .u8 (k : Int)] wx fun e w' => e = .returned (.int .u8 0) ∧ w' = wx) := fun wx => by have := widthR_any k hk wx; rw [hw] at this; exact this
  have hp : Hid (valueR T k (absR M fs) = .error (M.p.at_, 7)) := by
    show _ = _
    unfold valueR
    rw [if_pos hw]; rfl
  have HF := hid (fun q => rfail_std (hS.out.drew q) 7 7 rfl)
  clear hw
  go_enter Fadg.func156, Fadg.ntmps156
  go_upto_region 1 with fail
  go_quiet ((go_at_call 159; exact Calls.quiet_of_same (HWC.out _)))
  go_wp2_with (go_at_call 151; go_must (refine (HF.out _).mono ?_; rintro e w1 ⟨rfl, hf1, ho1⟩))
  go_ret2
  rw [hp.out]
  exact ⟨rfl, hf1, _, ho1, M, hS.out.drew _⟩
theorem valueR_any (P : Nat) (T : List Nat) (w0 w : World) (M : RM) (rs : List Row) (fs : List RF) (k : Nat) (hk : k < 256) (hS : RStd P T w0 w M rs) :
    Calls Fadg.prog 156 #[.pointer (some ⟨P, 0, none⟩), .int .u8 (k : Int)] w (ValRPost P T w0 M rs fs (valueR T k (absR M fs))) := by
  by_cases hw : widthN k = 0
  · exact valueR_none P T w0 w M rs fs k hk hS hw
  · by_cases h45 : nats (tokM M) = [45]
    · cases hx : isHex (nats (tokM (nextM M))) with
      | true => exact valueR_tt P T w0 w M rs fs k hk hS hw h45 hx
      | false => exact valueR_tf P T w0 w M rs fs k hk hS hw h45 hx
    · cases hx : isHex (nats (tokM M)) with
      | true => exact valueR_ft P T w0 w M rs fs k hk hS hw h45 hx
      | false => exact valueR_ff P T w0 w M rs fs k hk hS hw h45 hx
end Go.Proofs.Ygcfad
