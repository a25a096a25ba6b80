/-
  PLAIN: what every step of the schema's parser keeps: struct and text.
-/
import Derived.Test.YgcfadSchemaKeeps
namespace Go.Proofs.Ygcfad.Plain
set_option linter.unusedSimpArgs false
set_option linter.unusedVariables false

def ordU (k : Nat) (num : List Nat) (u : U) : U := if u.2.1 = k then (u.1, u.2.1, num.getD u.2.2.1 0, u.2.2.2) else u
structure ClO (T : List Nat) (I : Q → List U → Prop) (Ok : Nat → Nat → Prop) : Prop where
  cl : ∀ k i, Cl T k i I Ok
  od : ∀ q us k num, I q us → I q (us.map (ordU k num))

section
variable {T : List Nat} {I : Q → List U → Prop} {Ok : Nat → Nat → Prop}
theorem fieldsS_keeps (h : ClO T I Ok) (k : Nat) : ∀ (f i : Nat) (s : St), I s.q s.uses → I (fieldsS T k f i s).2.q (fieldsS T k f i s).2.uses := by
  intro f
  induction f with
  | zero => intro i s hs; exact hs
  | succ f ih =>
    intro i s hs
    unfold fieldsS
    split
    · exact hs
    · exact bnd_keeps (fieldS_keeps (h.cl k i) hs) (fun _ s' _ hs' => ih (i + 1) s' hs')
theorem fieldsS_tok (k : Nat) : ∀ (f i : Nat) (s s' : St) (u : Unit), fieldsS T k f i s = (some u, s') → s'.q.t = 125 := by
  intro f
  induction f with
  | zero => intro i s s' u h; simp [fieldsS] at h
  | succ f ih =>
    intro i s s' u h
    unfold fieldsS at h
    split at h
    · rename_i ht
      simp at h; rw [← h]; exact ht
    · unfold bnd at h
      split at h
      · simp at h
      · exact ih _ _ _ _ h
theorem orderS_keeps (h : ClO T I Ok) {k a : Nat} {s : St} (hs : I s.q s.uses) (ho : ∀ c, c ≠ 0 → Ok a c) : I (orderS k a s).q (orderS k a s).uses := by
  unfold orderS
  split
  · exact hs
  · split
    · exact (h.cl 0 0).fl _ _ _ _ hs (ho 5 (by decide))
    · split
      · exact (h.cl 0 0).fl _ _ _ _ (h.od _ _ _ _ hs) (ho 2 (by decide))
      · exact h.od _ _ _ _ hs
/-- Behind the struct's name. -/
theorem body_keeps (h : ClO T I Ok) {k f : Nat} {s : St} (hs : I s.q s.uses) : I (bnd (onQ (expectQ T 123)) (fun _ => bnd (fieldsS T k f 0) (fun _ s3 => onQ (expectQ T 125) (orderS k s3.q.a s3))) s).2.q
    (bnd (onQ (expectQ T 123)) (fun _ => bnd (fieldsS T k f 0) (fun _ s3 => onQ (expectQ T 125) (orderS k s3.q.a s3))) s).2.uses := by
  refine bnd_keeps (expectQ_keeps (h.cl 0 0) hs) (fun _ s2 _ hs2 => ?_)
  refine bnd_keeps (fieldsS_keeps h k f 0 s2 hs2) (fun u s3 e3 hs3 => ?_)
  have ht := fieldsS_tok k f 0 s2 s3 u e3
  exact expectQ_keeps (h.cl 0 0) (orderS_keeps h hs3 ((h.cl 0 0).t0 _ _ hs3 (by omega)))
theorem strctS_keeps' (h : ClO T I Ok) {s : St} (hst : s.q.t = 97 ∧ wordQ T s.q = STRUCT) (hq : I (nameQ T true (nextQ T s.q)).2 s.uses) (hok : ∀ nm a, (nameQ T true (nextQ T s.q)).1 = some (nm, a) → ∀ c, c ≠ 0 → Ok a c) : I (strctS T s).2.q (strctS T s).2.uses := by
  unfold strctS
  rw [if_pos hst]
  cases e : nameQ T true (nextQ T s.q) with
  | mk o q' =>
    rw [e] at hq hok
    cases o with
    | none => exact hq
    | some r =>
      obtain ⟨nm, a⟩ := r
      have ho := hok nm a rfl
      have h1 : I (if 4 ≤ s.names.length then failQ q' a 2 else q') s.uses := by
        split
        · exact (h.cl 0 0).fl _ _ _ _ hq (ho 2 (by decide))
        · exact hq
      have h2 : I (if (builtN nm || s.names.any (· == nm)) = true then failQ (if 4 ≤ s.names.length then failQ q' a 2 else q') a 3 else (if 4 ≤ s.names.length then failQ q' a 2 else q')) s.uses := by
        split
        · exact (h.cl 0 0).fl _ _ _ _ h1 (ho 3 (by decide))
        · exact h1
      exact body_keeps h h2
theorem strctS_keeps (h : ClO T I Ok) {s : St} (hs : I s.q s.uses) : I (strctS T s).2.q (strctS T s).2.uses := by
  by_cases hst : s.q.t = 97 ∧ wordQ T s.q = STRUCT
  · have hn := nameQ_keeps (cap := true) (h.cl 0 0) ((h.cl 0 0).nx _ _ hs)
    exact strctS_keeps' h hst hn.1 hn.2
  · unfold strctS
    rw [if_neg hst]
    exact (h.cl 0 0).fl _ _ _ _ hs ((h.cl 0 0).t1 _ _ hs)
theorem topS_keeps (h : ClO T I Ok) : ∀ (f : Nat) (s : St), I s.q s.uses → I (topS T f s).q (topS T f s).uses := by
  intro f
  induction f with
  | zero => intro s hs; exact hs
  | succ f ih =>
    intro s hs
    unfold topS
    split
    · exact hs
    · have hk := strctS_keeps h hs
      split
      · rename_i e; rw [e] at hk; exact hk
      · rename_i e; rw [e] at hk; exact ih _ hk
theorem strctS_some {s s' : St} {u : Unit} (h : strctS T s = (some u, s')) : (s.q.t = 97 ∧ wordQ T s.q = STRUCT) ∧ ∃ nm a, nameQ T true (nextQ T s.q) = (some (nm, a), (nameQ T true (nextQ T s.q)).2) := by
  unfold strctS at h
  split at h
  · rename_i hst
    refine ⟨hst, ?_⟩
    cases e : nameQ T true (nextQ T s.q) with
    | mk o q' =>
      rw [e] at h
      cases o with
      | none => simp at h
      | some r => obtain ⟨nm, a⟩ := r; exact ⟨nm, a, rfl⟩
  · simp at h
end
theorem far_clo (T : List Nat) (a0 : Nat) : ClO T (Far a0) (fun _ _ => True) := ⟨fun k i => far_cl T k i a0, fun _ _ _ _ h => h⟩
theorem strctS_far {T : List Nat} {s s' : St} {u : Unit} (h : strctS T s = (some u, s')) (ht : s.q.t ≠ 0 → s.q.a < s.q.e) : s.q.a + 1 ≤ s'.q.a := by
  obtain ⟨hst, nm, a, hn⟩ := strctS_some h
  have hf : Far (s.q.a + 1) (nextQ T s.q) [] := by
    have := nextN_far T s.q.e
    have hlt := ht (by omega)
    exact ⟨by show _ ≤ (nextN T s.q.e).1; omega, this.2⟩
  have hk := nameQ_keeps (cap := true) (us := []) (far_cl T 0 0 (s.q.a + 1)) hf
  have := strctS_keeps' (far_clo T (s.q.a + 1)) hst hk.1 (fun _ _ _ _ _ => trivial)
  rw [h] at this
  exact this.1
theorem topS_end {T : List Nat} {f : Nat} {s : St} (h : s.q.t = 0) : topS T (f + 1) s = s := by rw [topS, if_pos h]
theorem topS_stop {T : List Nat} {f : Nat} {s s' : St} (h : ¬ s.q.t = 0) (hs : strctS T s = (none, s')) : topS T (f + 1) s = s' := by rw [topS, if_neg h, hs]
theorem topS_on {T : List Nat} {f : Nat} {s s' : St} {u : Unit} (h : ¬ s.q.t = 0) (hs : strctS T s = (some u, s')) : topS T (f + 1) s = topS T f s' := by rw [topS, if_neg h, hs]
end Go.Proofs.Ygcfad.Plain
