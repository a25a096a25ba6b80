/-
  THE WALKS of Cur.Step where it refuses.
-/
import Derived.Test.YgcfadStepLaws
namespace Go.Proofs.Ygcfad
open Go.RowKit Plain
set_option linter.unusedSimpArgs false
set_option linter.unusedVariables false

set_option maxRecDepth 100000 in
set_option maxHeartbeats 4000000 in
theorem step_short0 (P b off sl sc I : Nat) (oa : Option Addr) (on oc t np : Nat) (u out : List Nat) (w : World)
    (hcur : Hid (CurAt P w (.slice (some ⟨b, off, none⟩) sl sc) I out)) (c2 : w.cell? ⟨P, 2, none⟩ = some (.slice oa on oc))
    (hu : Hid (u.length = sl - I)) (hrow : Hid (∀ j, j < u.length → w.cell? ⟨b, off + I + j, none⟩ = some (.int .u8 ((u.getD j 0 : Nat) : Int))))
    (hs : sl ≤ 4096) (hsc : sl ≤ sc) (hI : I < sl) (ho : on ≤ 256) (ht : Hid (t = u.headD 0)) (htl : t < 256) (hnp : Hid (np = (places t).length)) (hnp8 : np ≤ 8)
    (t0 : ((t : Int) == 0) = true) (hL : sl - I ≤ 1 + np) :
    Calls Fadg.prog 68 #[.pointer (some ⟨P, 0, none⟩)] w fun e w' => e = .returned (.bool false) ∧ Below P w w' := by
  have c0 := hcur.out.1
  have c1 := hcur.out.2.1
  have hsI : ¬ sl = I := by omega
  have hsI' : ((I : Int) == (sl : Int)) = false := by simp; omega
  have hc0 : w.cell? ⟨b, off + I, none⟩ = some (.int .u8 (t : Int)) := by
    have := hrow.out 0 (by have := hu.out; omega)
    rw [Nat.add_zero] at this
    rw [this, ht.out]
    cases u <;> rfl
  have hones : Hid (∀ wx, Calls Fadg.prog 106 #[.int .u64 (t : Int)] wx fun e w' => e = .returned (.int .u8 ((np : Nat) : Int)) ∧ w' = wx) := by
    intro wx; rw [hnp.out]; exact ones_byte t htl wx
  have hL' : ((sl - I : Nat) : Int) ≤ 1 + (np : Int) := by omega
  go_enter Fadg.func68, Fadg.ntmps68
  go_wp2
  go_quiet ((go_at_call 105; exact Calls.quiet_of (check_any P (some ⟨b, off, none⟩) sl sc I oa on oc _ (by simpa using c0) (by simpa using c1) (by simpa using c2) hs (by omega) ho)))
  go_wp2
  go_quiet (fail)
  go_wp2_with (go_at_call 106; go_must (refine (hones.out _).mono ?_); rintro e w' ⟨rfl, hw'⟩; subst hw')
  all_goals go_ret
  all_goals exact ⟨rfl, below_drewN (Below.refl _ _) _⟩

set_option maxRecDepth 100000 in
set_option maxHeartbeats 4000000 in
theorem step_short5 (P b off sl sc I : Nat) (oa : Option Addr) (on oc t np : Nat) (u out : List Nat) (w : World)
    (hcur : Hid (CurAt P w (.slice (some ⟨b, off, none⟩) sl sc) I out)) (c2 : w.cell? ⟨P, 2, none⟩ = some (.slice oa on oc))
    (hu : Hid (u.length = sl - I)) (hrow : Hid (∀ j, j < u.length → w.cell? ⟨b, off + I + j, none⟩ = some (.int .u8 ((u.getD j 0 : Nat) : Int))))
    (hs : sl ≤ 4096) (hsc : sl ≤ sc) (hI : I < sl) (ho : on ≤ 256) (ht : Hid (t = u.headD 0)) (htl : t < 256) (hnp : Hid (np = (places t).length)) (hnp8 : np ≤ 8)
    (t0 : ((t : Int) == 0) = false) (t5 : ((t : Int) == 255) = true) (hL : sl - I ≤ 1 + np) :
    Calls Fadg.prog 68 #[.pointer (some ⟨P, 0, none⟩)] w fun e w' => e = .returned (.bool false) ∧ Below P w w' := by
  have c0 := hcur.out.1
  have c1 := hcur.out.2.1
  have hsI : ¬ sl = I := by omega
  have hsI' : ((I : Int) == (sl : Int)) = false := by simp; omega
  have hc0 : w.cell? ⟨b, off + I, none⟩ = some (.int .u8 (t : Int)) := by
    have := hrow.out 0 (by have := hu.out; omega)
    rw [Nat.add_zero] at this
    rw [this, ht.out]
    cases u <;> rfl
  have hones : Hid (∀ wx, Calls Fadg.prog 106 #[.int .u64 (t : Int)] wx fun e w' => e = .returned (.int .u8 ((np : Nat) : Int)) ∧ w' = wx) := by
    intro wx; rw [hnp.out]; exact ones_byte t htl wx
  have hL' : ((sl - I : Nat) : Int) ≤ 1 + (np : Int) := by omega
  go_enter Fadg.func68, Fadg.ntmps68
  go_wp2
  go_quiet ((go_at_call 105; exact Calls.quiet_of (check_any P (some ⟨b, off, none⟩) sl sc I oa on oc _ (by simpa using c0) (by simpa using c1) (by simpa using c2) hs (by omega) ho)))
  go_wp2
  go_quiet (fail)
  go_wp2_with (go_at_call 106; go_must (refine (hones.out _).mono ?_); rintro e w' ⟨rfl, hw'⟩; subst hw')
  all_goals go_ret
  all_goals exact ⟨rfl, below_drewN (Below.refl _ _) _⟩

set_option maxRecDepth 100000 in
set_option maxHeartbeats 4000000 in
theorem step_plain_no (P b off sl sc I : Nat) (oa : Option Addr) (on oc t np : Nat) (u out : List Nat) (w : World)
    (hcur : Hid (CurAt P w (.slice (some ⟨b, off, none⟩) sl sc) I out)) (c2 : w.cell? ⟨P, 2, none⟩ = some (.slice oa on oc))
    (hu : Hid (u.length = sl - I)) (hrow : Hid (∀ j, j < u.length → w.cell? ⟨b, off + I + j, none⟩ = some (.int .u8 ((u.getD j 0 : Nat) : Int))))
    (hs : sl ≤ 4096) (hsc : sl ≤ sc) (hI : I < sl) (ho : on ≤ 256) (ht : Hid (t = u.headD 0)) (htl : t < 256) (hnp : Hid (np = (places t).length)) (hnp8 : np ≤ 8)
    (t0 : ((t : Int) == 0) = false) (t5 : ((t : Int) == 255) = false) (hL : sl - I < 1 + np ∨ 256 < on + 1) :
    Calls Fadg.prog 68 #[.pointer (some ⟨P, 0, none⟩)] w fun e w' => e = .returned (.bool false) ∧ Below P w w' := by
  have c0 := hcur.out.1
  have c1 := hcur.out.2.1
  have hsI : ¬ sl = I := by omega
  have hsI' : ((I : Int) == (sl : Int)) = false := by simp; omega
  have hc0 : w.cell? ⟨b, off + I, none⟩ = some (.int .u8 (t : Int)) := by
    have := hrow.out 0 (by have := hu.out; omega)
    rw [Nat.add_zero] at this
    rw [this, ht.out]
    cases u <;> rfl
  have hones : Hid (∀ wx, Calls Fadg.prog 106 #[.int .u64 (t : Int)] wx fun e w' => e = .returned (.int .u8 ((np : Nat) : Int)) ∧ w' = wx) := by
    intro wx; rw [hnp.out]; exact ones_byte t htl wx
  by_cases h1 : sl - I < 1 + np
  · have h1' : ((sl - I : Nat) : Int) < 1 + (np : Int) := by omega
    go_enter Fadg.func68, Fadg.ntmps68
    go_wp2
    go_quiet ((go_at_call 105; exact Calls.quiet_of (check_any P (some ⟨b, off, none⟩) sl sc I oa on oc _ (by simpa using c0) (by simpa using c1) (by simpa using c2) hs (by omega) ho)))
    go_wp2
    go_quiet (fail)
    go_wp2_with (go_at_call 106; go_must (refine (hones.out _).mono ?_); rintro e w' ⟨rfl, hw'⟩; subst hw')
    all_goals go_ret
    all_goals exact ⟨rfl, below_drewN (Below.refl _ _) _⟩
  · have h1' : ¬ ((sl - I : Nat) : Int) < 1 + (np : Int) := by omega
    have h2' : 256 < (on : Int) + 1 := by omega
    go_enter Fadg.func68, Fadg.ntmps68
    go_wp2
    go_quiet ((go_at_call 105; exact Calls.quiet_of (check_any P (some ⟨b, off, none⟩) sl sc I oa on oc _ (by simpa using c0) (by simpa using c1) (by simpa using c2) hs (by omega) ho)))
    go_wp2
    go_quiet (fail)
    go_wp2_with (go_at_call 106; go_must (refine (hones.out _).mono ?_); rintro e w' ⟨rfl, hw'⟩; subst hw')
    all_goals go_ret
    all_goals exact ⟨rfl, below_drewN (Below.refl _ _) _⟩

set_option maxRecDepth 100000 in
set_option maxHeartbeats 4000000 in
theorem step_zero_no (P b off sl sc I : Nat) (oa : Option Addr) (on oc t np : Nat) (u out : List Nat) (w : World)
    (hcur : Hid (CurAt P w (.slice (some ⟨b, off, none⟩) sl sc) I out)) (c2 : w.cell? ⟨P, 2, none⟩ = some (.slice oa on oc))
    (hu : Hid (u.length = sl - I)) (hrow : Hid (∀ j, j < u.length → w.cell? ⟨b, off + I + j, none⟩ = some (.int .u8 ((u.getD j 0 : Nat) : Int))))
    (hs : sl ≤ 4096) (hsc : sl ≤ sc) (hI : I < sl) (ho : on ≤ 256) (ht : Hid (t = u.headD 0)) (htl : t < 256) (hnp : Hid (np = (places t).length)) (hnp8 : np ≤ 8)
    (t0 : ((t : Int) == 0) = true) (t5 : ((t : Int) == 255) = false) (more : Nat) (hm8 : more < 256) (hmore : Hid (more = u.getD (1 + np) 0)) (hk : 1 + np < sl - I) (hL : 256 < on + 1 + more) :
    Calls Fadg.prog 68 #[.pointer (some ⟨P, 0, none⟩)] w fun e w' => e = .returned (.bool false) ∧ Below P w w' := by
  have c0 := hcur.out.1
  have c1 := hcur.out.2.1
  have hsI : ¬ sl = I := by omega
  have hsI' : ((I : Int) == (sl : Int)) = false := by simp; omega
  have hc0 : w.cell? ⟨b, off + I, none⟩ = some (.int .u8 (t : Int)) := by
    have := hrow.out 0 (by have := hu.out; omega)
    rw [Nat.add_zero] at this
    rw [this, ht.out]
    cases u <;> rfl
  have hcm : w.cell? ⟨b, off + I + (1 + np), none⟩ = some (.int .u8 (more : Int)) := by
    have := hrow.out (1 + np) (by have := hu.out; omega)
    rw [this, hmore.out]
  have hones : Hid (∀ wx, Calls Fadg.prog 106 #[.int .u64 (t : Int)] wx fun e w' => e = .returned (.int .u8 ((np : Nat) : Int)) ∧ w' = wx) := by
    intro wx; rw [hnp.out]; exact ones_byte t htl wx
  have h2' : 256 < (on : Int) + 1 + (more : Int) := by omega
  go_enter Fadg.func68, Fadg.ntmps68
  go_wp2
  go_quiet ((go_at_call 105; exact Calls.quiet_of (check_any P (some ⟨b, off, none⟩) sl sc I oa on oc _ (by simpa using c0) (by simpa using c1) (by simpa using c2) hs (by omega) ho)))
  go_wp2
  go_quiet (fail)
  go_wp2_with (go_at_call 106; go_must (refine (hones.out _).mono ?_); rintro e w' ⟨rfl, hw'⟩; subst hw')
  all_goals go_ret
  all_goals exact ⟨rfl, below_drewN (Below.refl _ _) _⟩

set_option maxRecDepth 100000 in
set_option maxHeartbeats 4000000 in
theorem step_full_no (P b off sl sc I : Nat) (oa : Option Addr) (on oc t np : Nat) (u out : List Nat) (w : World)
    (hcur : Hid (CurAt P w (.slice (some ⟨b, off, none⟩) sl sc) I out)) (c2 : w.cell? ⟨P, 2, none⟩ = some (.slice oa on oc))
    (hu : Hid (u.length = sl - I)) (hrow : Hid (∀ j, j < u.length → w.cell? ⟨b, off + I + j, none⟩ = some (.int .u8 ((u.getD j 0 : Nat) : Int))))
    (hs : sl ≤ 4096) (hsc : sl ≤ sc) (hI : I < sl) (ho : on ≤ 256) (ht : Hid (t = u.headD 0)) (htl : t < 256) (hnp : Hid (np = (places t).length)) (hnp8 : np ≤ 8)
    (t0 : ((t : Int) == 0) = false) (t5 : ((t : Int) == 255) = true) (more : Nat) (hm8 : more < 256) (hmore : Hid (more = u.getD (1 + np) 0)) (hk : 1 + np < sl - I) (hL : sl - I < 1 + np + 1 + 8 * more ∨ 256 < on + 1 + more) :
    Calls Fadg.prog 68 #[.pointer (some ⟨P, 0, none⟩)] w fun e w' => e = .returned (.bool false) ∧ Below P w w' := by
  have c0 := hcur.out.1
  have c1 := hcur.out.2.1
  have hsI : ¬ sl = I := by omega
  have hsI' : ((I : Int) == (sl : Int)) = false := by simp; omega
  have hc0 : w.cell? ⟨b, off + I, none⟩ = some (.int .u8 (t : Int)) := by
    have := hrow.out 0 (by have := hu.out; omega)
    rw [Nat.add_zero] at this
    rw [this, ht.out]
    cases u <;> rfl
  have hcm : w.cell? ⟨b, off + I + (1 + np), none⟩ = some (.int .u8 (more : Int)) := by
    have := hrow.out (1 + np) (by have := hu.out; omega)
    rw [this, hmore.out]
  have hones : Hid (∀ wx, Calls Fadg.prog 106 #[.int .u64 (t : Int)] wx fun e w' => e = .returned (.int .u8 ((np : Nat) : Int)) ∧ w' = wx) := by
    intro wx; rw [hnp.out]; exact ones_byte t htl wx
  by_cases h1 : sl - I < 1 + np + 1 + 8 * more
  · have h1' : ((sl - I : Nat) : Int) < 1 + (np : Int) + 1 + 8 * (more : Int) := by omega
    go_enter Fadg.func68, Fadg.ntmps68
    go_wp2
    go_quiet ((go_at_call 105; exact Calls.quiet_of (check_any P (some ⟨b, off, none⟩) sl sc I oa on oc _ (by simpa using c0) (by simpa using c1) (by simpa using c2) hs (by omega) ho)))
    go_wp2
    go_quiet (fail)
    go_wp2_with (go_at_call 106; go_must (refine (hones.out _).mono ?_); rintro e w' ⟨rfl, hw'⟩; subst hw')
    all_goals go_ret
    all_goals exact ⟨rfl, below_drewN (Below.refl _ _) _⟩
  · have h1' : ¬ ((sl - I : Nat) : Int) < 1 + (np : Int) + 1 + 8 * (more : Int) := by omega
    have h2' : 256 < (on : Int) + 1 + (more : Int) := by omega
    go_enter Fadg.func68, Fadg.ntmps68
    go_wp2
    go_quiet ((go_at_call 105; exact Calls.quiet_of (check_any P (some ⟨b, off, none⟩) sl sc I oa on oc _ (by simpa using c0) (by simpa using c1) (by simpa using c2) hs (by omega) ho)))
    go_wp2
    go_quiet (fail)
    go_wp2_with (go_at_call 106; go_must (refine (hones.out _).mono ?_); rintro e w' ⟨rfl, hw'⟩; subst hw')
    all_goals go_ret
    all_goals exact ⟨rfl, below_drewN (Below.refl _ _) _⟩
end Go.Proofs.Ygcfad

