/-
  PLAIN: type, field, struct and text in step; the law of the place.
-/
import Derived.Test.YgcfadSchemaStep
namespace Go.Proofs.Ygcfad.Plain
set_option linter.unusedSimpArgs false
set_option linter.unusedVariables false

section
variable {T : List Nat} {x : Nat}
theorem Rel.uses {s s' : St} (h : Rel T x s s') (us : List U) (hu : s' = s ∨ True) : Rel T x { s with uses := us } { s' with uses := us } := by
  refine ⟨h.tk, h.c0, ?_⟩
  rcases h.eq with ⟨h1, h2⟩ | ⟨h1, h2⟩
  · subst h2; exact .inl ⟨h1, rfl⟩
  · subst h2; exact .inr ⟨h1, rfl⟩
theorem far_of {α : Type} {m : St → Option α × St} {s : St} (a0 : Nat) (hk : Far a0 (m s).2.q []) {a : α} {s1 : St} (h : m s = (some a, s1)) : a0 ≤ s1.q.a := by rw [h] at hk; exact hk.1
/-- What the loop over List( leaves. -/
def OutL (T : List Nat) (x : Nat) (r r' : Option Nat × St) : Prop := Out T x r r' ∨ (∃ n, r'.1 = some n ∧ AtS x r'.2)
theorem lists_out (hc : Cut T x) : ∀ (f f' n : Nat) (s s' : St), Rel T x s s' → T.length < s.q.a + f → x < s.q.a + f' → OutL T x (listsS T f n s) (listsS (T.take x) f' n s') := by
  intro f
  induction f with
  | zero => intro f' n s s' h h1 h2; have := h.le; have := hc.le; omega
  | succ f ih =>
    intro f' n s s' h h1 h2
    obtain ⟨f', rfl⟩ : ∃ g, f' = g + 1 := ⟨f' - 1, by have := h.le; omega⟩
    by_cases ha : s.q.a < x
    · have hs := h.same ha
      subst hs
      unfold listsS
      rw [word_cut hc h ha]
      by_cases ht : s'.q.t = 97 ∧ wordQ T s'.q = LIST
      · rw [if_pos ht, if_pos ht]
        have hn := h.next hc ha
        have he := expect_out hc (k := 40) (by decide) hn
        have hfar : Far (s'.q.a + 1) (nextQ T s'.q) [] := by
          have h5 := h.tk.lt (by omega)
          have h6 := nextN_far T s'.q.e
          exact ⟨by show _ ≤ (nextN T s'.q.e).1; omega, h6.2⟩
        have hfar2 : Far (s'.q.a + 1) (onQ (expectQ T 40) { s' with q := nextQ T s'.q }).2.q [] := expectQ_keeps (far_cl T 0 0 (s'.q.a + 1)) (s := { s' with q := nextQ T s'.q }) hfar
        unfold bnd
        cases e : onQ (expectQ T 40) { s' with q := nextQ T s'.q } with
        | mk o s1 =>
          cases e' : onQ (expectQ (T.take x) 40) { s' with q := nextQ (T.take x) s'.q } with
          | mk o' s1' =>
            rw [e, e'] at he
            rw [e] at hfar2
            rcases he with ⟨u, h3, h4, h5⟩ | ⟨h3, h4⟩ | h3
            · simp only at h3 h4 h5
              subst h3 h4
              have h6 : s'.q.a + 1 ≤ s1.q.a := hfar2.1
              exact ih f' (n + 1) s1 s1' h5 (by omega) (by omega)
            · simp only at h3 h4
              subst h3
              exact .inl (.inr (.inl ⟨rfl, h4⟩))
            · refine .inl (.inr (.inr ?_))
              cases o with
              | none => exact h3
              | some u => exact (listsS_keeps (bad_cl T 0 0 x) f (n + 1) s1 h3).1
      · rw [if_neg ht, if_neg ht]
        exact .inl (.inl ⟨n, rfl, rfl, h⟩)
    · have h3 := h.at_ ha
      refine .inr ⟨n, ?_⟩
      unfold listsS
      rw [if_neg (by rw [h3.2.2.2.1]; simp)]
      exact ⟨rfl, h3.2.2⟩
theorem kind_at {k i : Nat} {s' : St} (h : AtS x s') : (kindS (T.take x) k i s').1 = none ∧ Stop x (kindS (T.take x) k i s').2.q := by
  unfold kindS
  rw [if_neg (by rw [h.2.1]; simp)]
  have hn := name_at (T := T) (cap := true) h
  cases e : nameQ (T.take x) true s'.q with
  | mk o q' =>
    rw [e] at hn
    simp only at hn
    obtain ⟨h1, h2⟩ := hn
    subst h1
    exact ⟨rfl, h2⟩
theorem kind_out (hc : Cut T x) {k i : Nat} {s s' : St} (h : Rel T x s s') : Out T x (kindS T k i s) (kindS (T.take x) k i s') := by
  by_cases ha : s.q.a < x
  · have hs := h.same ha
    subst hs
    unfold kindS
    rw [word_cut hc h ha]
    by_cases ht : s'.q.t = 97 ∧ (kindOfN (wordQ T s'.q)).isSome = true
    · rw [if_pos ht, if_pos ht]
      exact .inl ⟨_, rfl, rfl, h.next hc ha⟩
    · rw [if_neg ht, if_neg ht]
      have hn := name_out hc true h
      cases e : nameQ T true s'.q with
      | mk o q1 =>
        cases e' : nameQ (T.take x) true s'.q with
        | mk o' q1' =>
          rw [e, e'] at hn
          rcases hn with ⟨nm, a, h1, h2, h3, _, h4⟩ | ⟨h1, h2⟩ | h1
          · simp only at h1 h2 h4
            subst h1 h2
            exact .inl ⟨_, rfl, rfl, h4.uses _ (.inr trivial)⟩
          · simp only at h1 h2
            subst h1
            exact .inr (.inl ⟨rfl, h2⟩)
          · refine .inr (.inr ?_)
            cases o with
            | none => exact h1 _
            | some r => exact h1 _
  · exact .inr (.inl (kind_at (h.at_ ha).2.2))
theorem close_out (hc : Cut T x) : ∀ (n : Nat) (s s' : St), Rel T x s s' → Out T x (closeS T n s) (closeS (T.take x) n s') := by
  intro n
  induction n with
  | zero => intro s s' h; exact .inl ⟨(), rfl, rfl, h⟩
  | succ n ih => intro s s' h; exact bnd_out (expect_out hc (by decide) h) (fun _ s1 s1' _ h1 => ih s1 s1' h1) (fun _ s1 hb => closeS_keeps (bad_cl T 0 0 x) n s1 hb)
/-- typ, behind its Lists. -/
def tl (T : List Nat) (k i first nest : Nat) (s1 : St) : Option Nat × St :=
  bnd (kindS T k i) (fun kd s2 => bnd (closeS T nest) (fun _ s'' => (some (if nest = 0 then kd else 12), s'')) (badS nest kd first s2)) s1
theorem typS_tl (T : List Nat) (k i : Nat) (s : St) : typS T k i s = bnd (listsS T (T.length + 1) 0) (fun nest => tl T k i s.q.a nest) s := rfl
theorem tl_bad {k i first nest : Nat} {s1 : St} (hb : Bad x s1.q s1.uses) : Bad x (tl T k i first nest s1).2.q (tl T k i first nest s1).2.uses := by
  unfold tl
  refine bnd_keeps (kindS_keeps (bad_cl T k i x) hb) (fun kd s2 _ hs2 => ?_)
  refine bnd_keeps (closeS_keeps (bad_cl T 0 0 x) nest _ ?_) (fun _ s3 _ hs3 => hs3)
  unfold badS; split
  · exact bad_fail hs2 _ _ (by decide)
  · exact hs2
theorem tl_at {k i first nest : Nat} {s1' : St} (h : AtS x s1') : (tl (T.take x) k i first nest s1').1 = none ∧ Stop x (tl (T.take x) k i first nest s1').2.q := by
  have h2 := kind_at (T := T) (k := k) (i := i) h
  unfold tl bnd
  cases e : kindS (T.take x) k i s1' with
  | mk o s2 =>
    rw [e] at h2
    simp only at h2
    obtain ⟨h3, h4⟩ := h2
    subst h3
    exact ⟨rfl, h4⟩
theorem tl_out (hc : Cut T x) {k i first nest : Nat} (hf : first < x) {s1 s1' : St} (h : Rel T x s1 s1') : Out T x (tl T k i first nest s1) (tl (T.take x) k i first nest s1') := by
  unfold tl
  refine bnd_out (kind_out hc h) (fun kd s2 s2' _ h2 => ?_) (fun kd s2 hs2 => ?_)
  · by_cases hb : 2 < nest ∨ (0 < nest ∧ kd = 0)
    · refine .inr (.inr ?_)
      refine bnd_keeps (closeS_keeps (bad_cl T 0 0 x) nest _ ?_) (fun _ s3 _ hs3 => hs3)
      unfold badS; rw [if_pos hb]
      exact new_bad h2.c0 hf (by decide)
    · have e : ∀ s, badS nest kd first s = s := fun s => by unfold badS; rw [if_neg hb]
      rw [e, e]
      exact bnd_out (close_out hc nest s2 s2' h2) (fun _ s3 s3' _ h3 => .inl ⟨_, rfl, rfl, h3⟩) (fun _ s3 hb => hb)
  · refine bnd_keeps (closeS_keeps (bad_cl T 0 0 x) nest _ ?_) (fun _ s3 _ hs3 => hs3)
    unfold badS; split
    · exact bad_fail hs2 _ _ (by decide)
    · exact hs2
theorem typ_at {k i : Nat} {s' : St} (h : AtS x s') : (typS (T.take x) k i s').1 = none ∧ Stop x (typS (T.take x) k i s').2.q := by
  have h1 : listsS (T.take x) ((T.take x).length + 1) 0 s' = (some 0, s') := by
    unfold listsS
    rw [if_neg (by rw [h.2.1]; simp)]
  rw [typS_tl, bnd, h1]
  exact tl_at h
theorem typ_out (hc : Cut T x) {k i : Nat} {s s' : St} (h : Rel T x s s') : Out T x (typS T k i s) (typS (T.take x) k i s') := by
  by_cases ha : s.q.a < x
  · have hs := h.same ha
    subst hs
    have hl := lists_out hc (T.length + 1) ((T.take x).length + 1) 0 s' s' h (by omega) (by simp; have := hc.le; omega)
    rw [typS_tl, typS_tl]
    rcases hl with hl | ⟨n, h1, h2⟩
    · exact bnd_out hl (fun nest s1 s1' _ h1 => tl_out hc ha h1) (fun nest s1 hb => tl_bad hb)
    · refine .inr (.inl ?_)
      unfold bnd
      cases e : listsS (T.take x) ((T.take x).length + 1) 0 s' with
      | mk o s1 =>
        rw [e] at h1 h2
        simp only at h1 h2
        subst h1
        exact tl_at h2
  · exact .inr (.inl (typ_at (h.at_ ha).2.2))

/-! ### A field -/
theorem fbody_out (hc : Cut T x) {k i : Nat} {nm : List Nat} {s s' : St} (h : Rel T x s s') : Out T x (fbody T k i nm s) (fbody (T.take x) k i nm s') := by
  unfold fbody
  refine bnd_out (expect_out hc (by decide) h) (fun _ s2 s2' _ h2 => ?_) (fun _ s2 hb => ?_)
  · by_cases ha : s2.q.a < x
    · have hs := h2.same ha
      subst hs
      rw [word_cut hc h2 ha]
      refine bnd_out (expect_out hc (by decide) h2) (fun _ s3 s3' _ h3 => ?_) (fun _ s3 hb => ?_)
      · refine bnd_out (expect_out hc (by decide) h3) (fun _ s4 s4' _ h4 => ?_) (fun _ s4 hb => ?_)
        · refine bnd_out (typ_out hc h4) (fun kd s5 s5' _ h5 => ?_) (fun kd s5 hb => ?_)
          · refine expect_out hc (by decide) ?_
            refine ⟨h5.tk, h5.c0, ?_⟩
            rcases h5.eq with ⟨h6, h7⟩ | ⟨h6, h7⟩
            · subst h7; exact .inl ⟨h6, rfl⟩
            · subst h7; exact .inr ⟨h6, rfl⟩
          · exact exp_bad hb
        · exact bnd_keeps (typS_keeps (bad_cl T k i x) hb) (fun _ s5 _ hs5 => exp_bad hs5)
      · exact bnd_keeps (exp_bad hb) (fun _ s4 _ hs4 => bnd_keeps (typS_keeps (bad_cl T k i x) hs4) (fun _ s5 _ hs5 => exp_bad hs5))
    · refine .inr (.inl ?_)
      have he := expect_at (T := T) (k := 48) (by decide) (h2.at_ ha).2.2
      unfold bnd
      cases e : onQ (expectQ (T.take x) 48) s2' with
      | mk o s3 =>
        rw [e] at he
        simp only at he
        obtain ⟨h3, h4⟩ := he
        subst h3
        exact ⟨rfl, h4⟩
  · exact bnd_keeps (exp_bad hb) (fun _ s3 _ hs3 => bnd_keeps (exp_bad hs3) (fun _ s4 _ hs4 => bnd_keeps (typS_keeps (bad_cl T k i x) hs4) (fun _ s5 _ hs5 => exp_bad hs5)))
theorem field_at {k i : Nat} {s' : St} (h : AtS x s') : (fieldS (T.take x) k i s').1 = none ∧ Stop x (fieldS (T.take x) k i s').2.q := by
  have hn := name_at (T := T) (cap := false) h
  unfold fieldS
  cases e : nameQ (T.take x) false s'.q with
  | mk o q' =>
    rw [e] at hn
    simp only at hn
    obtain ⟨h1, h2⟩ := hn
    subst h1
    exact ⟨rfl, h2⟩
theorem field_out (hc : Cut T x) {k i : Nat} {s s' : St} (h : Rel T x s s') : Out T x (fieldS T k i s) (fieldS (T.take x) k i s') := by
  have hn := name_out hc false h
  unfold fieldS
  cases e : nameQ T false s.q with
  | mk o q1 =>
    cases e' : nameQ (T.take x) false s'.q with
    | mk o' q1' =>
      rw [e, e'] at hn
      rcases hn with ⟨nm, a, h1, h2, h3, h5, h4⟩ | ⟨h1, h2⟩ | h1
      · simp only at h1 h2 h4
        subst h1 h2 h5
        show Out T x (fbody T k i nm _) (fbody (T.take x) k i nm _)
        by_cases hd : s'.fs.any (fun f => f.1 == nm) = true
        · refine .inr (.inr (fbody_keeps (bad_cl T k i x) ?_))
          show Bad x (if _ then _ else _) _
          rw [if_pos hd]
          by_cases h16 : 16 ≤ i
          · rw [if_pos h16]; exact bad_fail (new_bad h4.c0 h3 (by decide)) _ _ (by decide)
          · rw [if_neg h16]; exact new_bad h4.c0 h3 (by decide)
        · by_cases h16 : 16 ≤ i
          · refine .inr (.inr (fbody_keeps (bad_cl T k i x) ?_))
            show Bad x (if _ then _ else _) _
            rw [if_neg hd, if_pos h16]
            exact new_bad h4.c0 h3 (by decide)
          · simp only [if_neg hd, if_neg h16]
            exact fbody_out hc h4
      · simp only at h1 h2
        subst h1
        exact .inr (.inl ⟨rfl, h2⟩)
      · refine .inr (.inr ?_)
        have hk := fieldS_keeps' (bad_cl T k i x) (s := s) (by rw [e]; exact h1 _) (fun _ _ _ c hc => hc)
        unfold fieldS at hk
        rw [e] at hk
        exact hk
theorem fields_out (hc : Cut T x) (k : Nat) : ∀ (f f' i : Nat) (s s' : St), Rel T x s s' → T.length < s.q.a + f → x < s.q.a + f' → Out T x (fieldsS T k f i s) (fieldsS (T.take x) k f' i s') := by
  intro f
  induction f with
  | zero => intro f' n s s' h h1 h2; have := h.le; have := hc.le; omega
  | succ f ih =>
    intro f' i s s' h h1 h2
    obtain ⟨f', rfl⟩ : ∃ g, f' = g + 1 := ⟨f' - 1, by have := h.le; omega⟩
    by_cases ha : s.q.a < x
    · have hs := h.same ha
      subst hs
      unfold fieldsS
      by_cases ht : s'.q.t = 125
      · rw [if_pos ht, if_pos ht]
        exact .inl ⟨_, rfl, rfl, h⟩
      · rw [if_neg ht, if_neg ht]
        refine bnd_out (field_out hc h) (fun u s1 s1' e h3 => ?_) (fun u s1 hb => fieldsS_keeps (bad_clo T x) k f (i + 1) s1 hb)
        have hfar := fieldS_far e (fun h0 => (h.tk.lt h0).2)
        exact ih f' (i + 1) s1 s1' h3 (by omega) (by omega)
    · have h3 := h.at_ ha
      refine .inr (.inl ?_)
      have hf := field_at (T := T) (k := k) (i := i) h3.2.2
      unfold fieldsS
      rw [if_neg (by rw [h3.2.2.2.1]; decide)]
      unfold bnd
      cases e : fieldS (T.take x) k i s' with
      | mk o s2 =>
        rw [e] at hf
        simp only at hf
        obtain ⟨h4, h5⟩ := hf
        subst h4
        exact ⟨rfl, h5⟩
end
end Go.Proofs.Ygcfad.Plain
