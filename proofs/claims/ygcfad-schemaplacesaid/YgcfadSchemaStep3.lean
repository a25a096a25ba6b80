/-
  PLAIN: struct and text in step; the law of the place.
-/
import Derived.Test.YgcfadSchemaStep2
namespace Go.Proofs.Ygcfad.Plain
set_option linter.unusedSimpArgs false
set_option linter.unusedVariables false

section
variable {T : List Nat} {x : Nat}
theorem bnd_out' {α β : Type} {m m' : St → Option α × St} {f f' : α → St → Option β × St} {s s' : St} (hm : Out T x (m s) (m' s')) (hf : ∀ a s1 s1', m s = (some a, s1) → m' s' = (some a, s1') → Rel T x s1 s1' → Out T x (f a s1) (f' a s1')) (hb : ∀ a s1, Bad x s1.q s1.uses → Bad x (f a s1).2.q (f a s1).2.uses) : Out T x (bnd m f s) (bnd m' f' s') := by
  unfold bnd
  cases e : m s with
  | mk o s1 =>
    cases e' : m' s' with
    | mk o' s1' =>
      rw [e, e'] at hm
      rcases hm with ⟨a, h1, h2, h3⟩ | ⟨h1, h2⟩ | h1
      · simp only at h1 h2 h3
        subst h1 h2
        exact hf a s1 s1' e e' h3
      · simp only at h1 h2
        subst h1
        exact .inr (.inl ⟨rfl, h2⟩)
      · refine .inr (.inr ?_)
        cases o with
        | none => exact h1
        | some a => exact hb a s1 h1
/-- order, at a brace before x. -/
theorem order_out {k a : Nat} {s : St} (h : Rel T x s s) (ha : a < x) (hq : s.q.a < x) : Rel T x (orderS k a s) (orderS k a s) ∨ Bad x (orderS k a s).q (orderS k a s).uses := by
  unfold orderS
  split
  · exact .inl h
  · split
    · exact .inr (new_bad h.c0 ha (by decide))
    · split
      · exact .inr (new_bad h.c0 ha (by decide))
      · exact .inl ⟨h.tk, h.c0, .inl ⟨hq, rfl⟩⟩
def sbody (T : List Nat) (k : Nat) (s : St) : Option Unit × St :=
  bnd (onQ (expectQ T 123)) (fun _ => bnd (fieldsS T k (T.length + 1) 0) (fun _ s3 => onQ (expectQ T 125) (orderS k s3.q.a s3))) s
theorem sbody_bad {k : Nat} {s : St} (h : Bad x s.q s.uses) : Bad x (sbody T k s).2.q (sbody T k s).2.uses := body_keeps (bad_clo T x) h
theorem sbody_out (hc : Cut T x) {k : Nat} {s s' : St} (h : Rel T x s s') : Out T x (sbody T k s) (sbody (T.take x) k s') := by
  unfold sbody
  refine bnd_out (expect_out hc (by decide) h) (fun _ s2 s2' _ h2 => ?_) (fun _ s2 hb => ?_)
  · refine bnd_out' (fields_out hc k (T.length + 1) ((T.take x).length + 1) 0 s2 s2' h2 (by omega) (by simp; have := hc.le; have := h2.le; omega)) (fun u s3 s3' e3 e3' h3 => ?_) (fun _ s3 hb => ?_)
    · by_cases ha : s3.q.a < x
      · have hs := h3.same ha
        subst hs
        rcases order_out (k := k) h3 ha ha with h4 | h4
        · exact expect_out hc (by decide) h4
        · exact .inr (.inr (exp_bad h4))
      · have h4 := h3.at_ ha
        have h5 := fieldsS_tok k _ 0 s2' s3' u e3'
        have h6 := h4.2.2.2.1
        omega
    · exact exp_bad (orderS_keeps (bad_clo T x) hb (fun c hc => hc))
  · exact bnd_keeps (fieldsS_keeps (bad_clo T x) k _ 0 s2 hb) (fun _ s3 _ hs3 => exp_bad (orderS_keeps (bad_clo T x) hs3 (fun c hc => hc)))
theorem strct_out (hc : Cut T x) {s : St} (h : Rel T x s s) (ha : s.q.a < x) : Out T x (strctS T s) (strctS (T.take x) s) := by
  unfold strctS
  rw [word_cut hc h ha]
  by_cases ht : s.q.t = 97 ∧ wordQ T s.q = STRUCT
  · rw [if_pos ht, if_pos ht]
    have hn := name_out hc true (h.next hc ha)
    cases e : nameQ T true (nextQ T s.q) with
    | mk o q1 =>
      cases e' : nameQ (T.take x) true (nextQ (T.take x) s.q) with
      | mk o' q1' =>
        simp only [e, e'] at hn
        rcases hn with ⟨nm, a, h1, h2, h3, h5, h4⟩ | ⟨h1, h2⟩ | h1
        · subst h1 h2
          show Out T x (sbody T _ _) (sbody (T.take x) _ _)
          by_cases hd : (builtN nm || s.names.any (· == nm)) = true
          · refine .inr (.inr (sbody_bad ?_))
            show Bad x (if _ then _ else _) _
            rw [if_pos hd]
            by_cases h16 : 4 ≤ s.names.length
            · rw [if_pos h16]; exact bad_fail (new_bad h4.c0 h3 (by decide)) _ _ (by decide)
            · rw [if_neg h16]; exact new_bad h4.c0 h3 (by decide)
          · by_cases h16 : 4 ≤ s.names.length
            · refine .inr (.inr (sbody_bad ?_))
              show Bad x (if _ then _ else _) _
              rw [if_neg hd, if_pos h16]
              exact new_bad h4.c0 h3 (by decide)
            · simp only [if_neg hd, if_neg h16]
              refine sbody_out hc ⟨h4.tk, h4.c0, ?_⟩
              rcases h4.eq with ⟨h6, h7⟩ | ⟨h6, h7⟩
              · have h8 : q1' = q1 := congrArg St.q h7
                subst h8; exact .inl ⟨h6, rfl⟩
              · have h8 : q1' = endQ x q1 := congrArg St.q h7
                subst h8; exact .inr ⟨h6, rfl⟩
        · subst h1
          exact .inr (.inl ⟨rfl, h2⟩)
        · refine .inr (.inr ?_)
          have hk := strctS_keeps' (bad_clo T x) ht (by rw [e]; exact h1 _) (fun _ _ _ c hc => hc)
          unfold strctS at hk
          rw [if_pos ht, e] at hk
          exact hk
  · rw [if_neg ht, if_neg ht]
    exact .inr (.inr (new_bad h.c0 ha (by decide)))
theorem top_out (hc : Cut T x) : ∀ (f f' : Nat) (s s' : St), Rel T x s s' → T.length < s.q.a + f → x < s.q.a + f' → Bad x (topS T f s).q [] ∨ Stop x (topS (T.take x) f' s').q ∨ (topS (T.take x) f' s').q.c = 0 := by
  intro f
  induction f with
  | zero => intro f' s s' h h1 h2; have := h.le; have := hc.le; omega
  | succ f ih =>
    intro f' s s' h h1 h2
    obtain ⟨f', rfl⟩ : ∃ g, f' = g + 1 := ⟨f' - 1, by have := h.le; omega⟩
    by_cases ha : s.q.a < x
    · have hs := h.same ha
      subst hs
      have ht : ¬ s'.q.t = 0 := by
        intro h0
        obtain ⟨n, h3, h4, h5⟩ := h.tk.a
        have := (tokN_place T n).1 (by rw [← h5]; exact h0)
        have := hc.le
        omega
      have ho := strct_out hc h ha
      cases e : strctS T s' with
      | mk o s1 =>
        cases e' : strctS (T.take x) s' with
        | mk o' s1' =>
          rw [e, e'] at ho
          have hbad : Bad x s1.q s1.uses → Bad x (topS T (f + 1) s').q [] := by
            intro hb
            cases o with
            | none => rw [topS_stop ht e]; exact hb
            | some u => rw [topS_on ht e]; exact topS_keeps (bad_clo T x) f s1 hb
          rcases ho with ⟨u, h3, h4, h5⟩ | ⟨h3, h4⟩ | h3
          · simp only at h3 h4 h5
            subst h3 h4
            rw [topS_on ht e, topS_on ht e']
            have hfar := strctS_far e (fun h0 => (h.tk.lt h0).2)
            exact ih f' s1 s1' h5 (by omega) (by omega)
          · simp only at h3 h4
            subst h3
            rw [topS_stop ht e']
            exact .inr (.inl h4)
          · exact .inl (hbad h3)
    · have h3 := h.at_ ha
      rw [topS_end (T := T.take x) h3.2.2.2.1]
      exact .inr (.inr h3.2.2.2.2)
theorem start_rel (hc : Cut T x) : Rel T x (startS T) (startS (T.take x)) := by
  have hxl := hc.le
  obtain ⟨m, hm⟩ := hc
  have h0 := tokN_mono T (Nat.zero_le m)
  have e0 : tokN T 0 = nextN T 0 := rfl
  rw [← hm, e0] at h0
  refine ⟨⟨0, rfl⟩, rfl, ?_⟩
  by_cases hlt : (nextN T 0).1 < x
  · refine .inl ⟨hlt, ?_⟩
    have hb2 := tokN_before T (n := 0) (m := m) (by rw [← hm, e0]; exact hlt)
    rw [← hm, e0] at hb2
    have := nextN_cut (Nat.zero_le _) hxl hlt hb2.1
    unfold startS nextQ
    rw [this]
  · have hx : (nextN T 0).1 = x := by omega
    refine .inr ⟨hx, ?_⟩
    have := nextN_cut_end (Nat.zero_le _) hxl (by omega)
    unfold startS nextQ endQ
    rw [this]
    simp only [hx]
end

/-! ### bind -/
theorem bind_stop {x : Nat} (names : List (List Nat)) : ∀ (us : List U) (q : Q), (q.c = 4 ∨ (q.c ≠ 0 ∧ q.x = x)) → ((bindQ names us q).c = 4 ∨ ((bindQ names us q).c ≠ 0 ∧ (bindQ names us q).x = x)) := by
  intro us
  induction us with
  | nil => intro q h; exact h
  | cons u us ih =>
    intro q h
    unfold bindQ
    split
    · exact ih q h
    · refine ih _ ?_
      unfold failQ
      split
      · exact .inl rfl
      · exact h
theorem bind_none (names : List (List Nat)) : ∀ (us : List U) (q : Q), (q.c = 4 ∨ q.c = 0) → ((bindQ names us q).c = 4 ∨ (bindQ names us q).c = 0) := by
  intro us
  induction us with
  | nil => intro q h; exact h
  | cons u us ih =>
    intro q h
    unfold bindQ
    split
    · exact ih q h
    · refine ih _ ?_
      unfold failQ
      split
      · exact .inl rfl
      · exact h

/-! ### The law -/
def topq (T : List Nat) : St := topS T (T.length + 1) (startS T)
def endq (T : List Nat) : Q := bindQ (topq T).names (topq T).uses (topq T).q
theorem parseN_eq {T : List Nat} (h : T.length ≤ 1024) : parseN T = if (endq T).c = 0 then (0, 0) else ((endq T).x, (endq T).c) := by
  unfold parseN endq topq
  rw [if_neg (by omega)]
theorem endq_place (T : List Nat) (h : (endq T).c ≠ 0) : Pl T (endq T).x (endq T).c :=
  bindQ_inv _ _ _ (topS_keeps (inv_clo T) _ _ (start_inv T)) h
theorem law_cut {T : List Nat} (hl : T.length ≤ 1024) (h : (endq T).c ≠ 0) : (parseN (T.take (endq T).x)).2 = 0 ∨ (parseN (T.take (endq T).x)).2 = 4 ∨ (parseN (T.take (endq T).x)).1 = (endq T).x := by
  have hp := endq_place T h
  obtain ⟨x, hx⟩ : ∃ x, x = (endq T).x := ⟨_, rfl⟩
  rw [← hx] at hp ⊢
  have hc : Cut T x := hp.1
  have ho := top_out hc (T.length + 1) ((T.take x).length + 1) (startS T) (startS (T.take x)) (start_rel hc) (by omega) (by simp; have := hc.le; omega)
  rw [parseN_eq (by simp; omega)]
  by_cases h0 : (endq (T.take x)).c = 0
  · rw [if_pos h0]; exact .inl rfl
  · rw [if_neg h0]
    rcases ho with h1 | h1 | h1
    · have := bindQ_bad (topq T).names (topq T).uses _ h1
      have h2 : (endq T).x < x := this.2
      omega
    · have := bind_stop (x := x) (topq (T.take x)).names (topq (T.take x)).uses (topq (T.take x)).q (.inr ⟨by rw [show (topq (T.take x)).q.c = 1 from h1.1]; decide, h1.2⟩)
      rcases this with h2 | h2
      · exact .inr (.inl h2)
      · exact .inr (.inr h2.2)
    · have := bind_none (topq (T.take x)).names (topq (T.take x)).uses (topq (T.take x)).q (.inr h1)
      rcases this with h2 | h2
      · exact .inr (.inl h2)
      · exact absurd h2 h0
/-- What SchemaPlace asks of the answer. -/
theorem schema_law (T : List Nat) : (parseN T).1 ≤ T.length ∧ ((parseN T).2 = 0 → (parseN T).1 = 0) ∧ ((parseN T).2 ≠ 0 →
    ((parseN T).1 = T.length ∧ (parseN T).2 = 1 ∨ (parseN T).1 < T.length ∧ ((parseN T).1 = 0 ∨ (blankN (T.getD (parseN T).1 0) = false ∧ T.getD (parseN T).1 0 ≠ 35))) ∧
    ((parseN (T.take (parseN T).1)).2 = 0 ∨ (parseN (T.take (parseN T).1)).2 = 4 ∨ (parseN (T.take (parseN T).1)).1 = (parseN T).1)) := by
  by_cases hl : T.length ≤ 1024
  · have e := parseN_eq hl
    by_cases h0 : (endq T).c = 0
    · rw [if_pos h0] at e
      rw [e]
      exact ⟨Nat.zero_le _, fun _ => rfl, fun h => absurd rfl h⟩
    · rw [if_neg h0] at e
      have hp := endq_place T h0
      have hc := law_cut hl h0
      rw [e]
      refine ⟨Cut.le hp.1, fun h => absurd h h0, fun _ => ⟨?_, hc⟩⟩
      by_cases hx : (endq T).x = T.length
      · exact .inl ⟨hx, hp.2 hx⟩
      · have hle : (endq T).x ≤ T.length := Cut.le hp.1
        obtain ⟨m, hm⟩ := hp.1
        have hlt : (endq T).x < T.length := by omega
        have := (tokN_place T m).2.1 (by rw [← hm]; exact hlt)
        rw [← hm] at this
        exact .inr ⟨hlt, .inr this⟩
  · have e : parseN T = (0, 1) ∨ parseN T = (0, 2) := by
      unfold parseN
      rw [if_pos (by omega)]
      split
      · exact .inl rfl
      · exact .inr rfl
    have e1 : (parseN T).1 = 0 := by rcases e with e | e <;> rw [e]
    rw [e1]
    refine ⟨Nat.zero_le _, fun _ => rfl, fun _ => ⟨.inr ⟨by omega, .inl rfl⟩, .inl ?_⟩⟩
    rw [List.take_zero]; rfl
end Go.Proofs.Ygcfad.Plain
