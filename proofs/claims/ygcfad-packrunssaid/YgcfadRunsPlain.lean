/-
  PLAIN: how long the packed stream of n zero words is, and of n words without a zero byte.
-/
import Derived.Test.YgcfadPackPlain
namespace Go.Proofs.Ygcfad.Plain

theorem runP_all (p : Nat → Bool) (l : List Nat) (m : Nat) (h : ∀ x ∈ l, p x = true) (hm : l.length ≤ m) : runP p l m = l.length := by
  induction l generalizing m with
  | nil => simp [runP]
  | cons x l ih =>
    cases m with
    | zero => simp at hm
    | succ m =>
      simp only [runP, List.length_cons] at *
      rw [if_pos (h x (by simp)), ih m (fun y hy => h y (by simp [hy])) (by omega)]
      omega

theorem packN_nil (d : Nat → Bool) : packN d [] = [] := rfl
theorem tagN_zero : tagN 0 = 0 := by decide +kernel

theorem runs_zero (d : Nat → Bool) (k : Nat) (hk : k ≤ 256) : (packN d (List.replicate k 0)).length = 2 * ((k + 255) / 256) := by
  cases k with
  | zero => rfl
  | succ k =>
    rw [List.replicate_succ, packN_cons, if_pos tagN_zero, nzF_zero, runP_all (· == 0) (List.replicate k 0) 255 (by intro x hx; simp at hx; simp [hx.2]) (by simp; omega)]
    simp only [List.length_replicate]
    rw [List.drop_eq_nil_of_le (by simp), packN_nil]
    simp only [List.nil_append, List.length_cons, List.length_nil]
    omega

/-- The word whose eight bytes are all (i % 255) + 1. -/
def fullW (i : Nat) : Nat := 72340172838076673 * (i % 255 + 1)
theorem full_facts : ∀ c : Fin 255, tagN (72340172838076673 * (c.val + 1)) = 255 ∧ (nzF 8 (72340172838076673 * (c.val + 1))).length = 8 ∧ 72340172838076673 * (c.val + 1) < 18446744073709551616 := by decide +kernel
theorem fullW_facts (i : Nat) : tagN (fullW i) = 255 ∧ (nzF 8 (fullW i)).length = 8 ∧ fullW i < 18446744073709551616 := full_facts ⟨i % 255, Nat.mod_lt _ (by decide)⟩

def fullL (k : Nat) : List Nat := (List.range k).map fullW
theorem runs_full (d : Nat → Bool) (hd : d 255 = true) (k : Nat) (hk : k ≤ 256) (h0 : k ≠ 0) : (packN d (fullL k)).length = 10 + 8 * (k - 1) := by
  obtain ⟨k, rfl⟩ : ∃ j, k = j + 1 := ⟨k - 1, by omega⟩
  obtain ⟨l, hl, hall⟩ : ∃ l, fullL (k + 1) = fullW 0 :: l ∧ (l.length = k ∧ ∀ x ∈ l, tagN x = 255) := by
    refine ⟨(List.range k).map (fun i => fullW (i + 1)), ?_, by simp, ?_⟩
    · simp [fullL, List.range_succ_eq_map, Function.comp_def]
    · intro x hx
      obtain ⟨i, _, rfl⟩ := List.mem_map.1 hx
      exact (fullW_facts _).1
  have hrun : runP (fun x => d (tagN x)) l 255 = l.length := runP_all _ l 255 (fun x hx => by rw [hall.2 x hx]; exact hd) (by omega)
  rw [hl, packN_cons, if_neg (by rw [(fullW_facts 0).1]; decide), if_pos (fullW_facts 0).1, hrun, List.drop_eq_nil_of_le (Nat.le_refl _), packN_nil]
  simp only [List.length_cons, List.length_append, (fullW_facts 0).2.1, flatMap_by8_length, List.length_take, List.length_nil]
  omega

/-- The row while it is filled. -/
def fillL (k i : Nat) : List Nat := (List.range k).map fun j => if j < i then fullW j else 0
theorem fillL_zero (k : Nat) : fillL k 0 = List.replicate k 0 := by
  unfold fillL
  apply List.ext_getElem
  · simp
  · intro j h1 h2; simp
theorem fillL_all (k : Nat) : fillL k k = fullL k := by
  unfold fillL fullL
  apply List.map_congr_left
  intro a ha; simp at ha; simp [ha]
theorem fillL_length (k i : Nat) : (fillL k i).length = k := by simp [fillL]
theorem fillL_set (k i : Nat) : (fillL k i).set i (fullW i) = fillL k (i + 1) := by
  apply List.ext_getElem
  · simp [fillL]
  · intro j h1 h2
    simp only [fillL, List.length_map, List.length_range, List.length_set] at h1 h2
    simp only [fillL, List.getElem_set, List.getElem_map, List.getElem_range]
    by_cases e : i = j
    · subst e; simp
    · rw [if_neg e]
      by_cases g : j < i
      · rw [if_pos g, if_pos (by omega)]
      · rw [if_neg g, if_neg (by omega)]
theorem fullL_lt (k : Nat) : ∀ x ∈ fullL k, x < 18446744073709551616 := by
  intro x hx
  obtain ⟨i, _, rfl⟩ := List.mem_map.1 hx
  exact (fullW_facts _).2.2
end Go.Proofs.Ygcfad.Plain
