/-
  PLAIN: the schema's parser on a text and on the text cut at a token, in step.
-/
import Derived.Test.YgcfadSchemaLaw
namespace Go.Proofs.Ygcfad.Plain
set_option linter.unusedSimpArgs false
set_option linter.unusedVariables false

/-! ### Tokens of the text cut -/
theorem skipN_take (cm : Bool) (l : List Nat) (k : Nat) : skipN cm (l.take k) = min (skipN cm l) k := by
  induction l generalizing cm k with
  | nil => simp [skipN]
  | cons c l ih =>
    cases k with
    | zero => simp [skipN]
    | succ k =>
      rw [List.take_succ_cons]
      unfold skipN
      split
      · rw [ih]; omega
      · split
        · rw [ih]; omega
        · simp
theorem spanN_take (p : Nat → Bool) (l : List Nat) (k : Nat) : spanN p (l.take k) = min (spanN p l) k := by
  induction l generalizing k with
  | nil => simp [spanN]
  | cons c l ih =>
    cases k with
    | zero => simp [spanN]
    | succ k =>
      rw [List.take_succ_cons]
      unfold spanN
      split
      · rw [ih]; omega
      · simp
theorem drop_take' (T : List Nat) (x e : Nat) : (T.take x).drop e = (T.drop e).take (x - e) := by rw [List.drop_take]
theorem atN_cut {T : List Nat} {x e : Nat} (he : e ≤ x) : atN (T.take x) e = min (atN T e) x := by
  unfold atN
  rw [drop_take', skipN_take]
  omega
theorem getD_take {T : List Nat} {x i : Nat} (h : i < x) : (T.take x).getD i 0 = T.getD i 0 := by
  simp [List.getD, List.getElem?_take, h]
theorem nextN_cut {T : List Nat} {x e : Nat} (he : e ≤ x) (hx : x ≤ T.length) (h1 : (nextN T e).1 < x) (h2 : (nextN T e).2.1 ≤ x) : nextN (T.take x) e = nextN T e := by
  have ha : (nextN T e).1 = atN T e := by
    unfold nextN
    split
    · rfl
    · split
      · rfl
      · split
        · rfl
        · split <;> rfl
  rw [ha] at h1
  have e1 : atN (T.take x) e = atN T e := by rw [atN_cut he]; omega
  have hl : (T.take x).length = x := by simp; omega
  have n1 : ¬ T.length ≤ atN T e := by omega
  have n2 : ¬ x ≤ atN T e := by omega
  unfold nextN at h2
  rw [if_neg n1] at h2
  unfold nextN
  rw [e1, hl, getD_take h1, drop_take', spanN_take, spanN_take, if_neg n2, if_neg n1]
  by_cases c1 : letterN (T.getD (atN T e) 0) = true
  · rw [if_pos c1] at h2
    rw [if_pos c1, if_pos c1]
    simp only at h2
    rw [Nat.min_eq_left (by omega)]
  · rw [if_neg c1] at h2
    rw [if_neg c1, if_neg c1]
    by_cases c2 : digitN (T.getD (atN T e) 0) = true
    · rw [if_pos c2] at h2
      rw [if_pos c2, if_pos c2]
      simp only at h2
      rw [Nat.min_eq_left (by omega)]
    · rw [if_neg c2, if_neg c2]
theorem nextN_cut_end {T : List Nat} {x e : Nat} (he : e ≤ x) (hx : x ≤ T.length) (h1 : x ≤ (nextN T e).1) : nextN (T.take x) e = (x, x, 0) := by
  have ha : (nextN T e).1 = atN T e := by
    unfold nextN
    split
    · rfl
    · split
      · rfl
      · split
        · rfl
        · split <;> rfl
  rw [ha] at h1
  have e1 : atN (T.take x) e = x := by rw [atN_cut he]; omega
  have hl : (T.take x).length = x := by simp; omega
  unfold nextN
  rw [e1, hl, if_pos (Nat.le_refl _)]

section
variable {T : List Nat} {x : Nat}
/-- x: the place of a token. -/
def Cut (T : List Nat) (x : Nat) : Prop := ∃ m, x = (tokN T m).1
theorem Cut.le (h : Cut T x) : x ≤ T.length := by
  obtain ⟨m, rfl⟩ := h
  exact Nat.le_trans (tokN_le T m) (tokN_end T m)

def endQ (x : Nat) (q : Q) : Q := { q with e := x, t := 0 }
/-- In step. -/
structure Rel (T : List Nat) (x : Nat) (s s' : St) : Prop where
  tk : Tk T s.q
  c0 : s.q.c = 0
  eq : (s.q.a < x ∧ s' = s) ∨ (s.q.a = x ∧ s' = { s with q := endQ x s.q })
def Stop (x : Nat) (q : Q) : Prop := q.c = 1 ∧ q.x = x
def AtS (x : Nat) (s' : St) : Prop := s'.q.a = x ∧ s'.q.t = 0 ∧ s'.q.c = 0
def Out {α : Type} (T : List Nat) (x : Nat) (r r' : Option α × St) : Prop :=
  (∃ a, r.1 = some a ∧ r'.1 = some a ∧ Rel T x r.2 r'.2) ∨ (r'.1 = none ∧ Stop x r'.2.q) ∨ Bad x r.2.q r.2.uses
theorem Rel.at_ {s s' : St} (h : Rel T x s s') (ha : ¬ s.q.a < x) : s.q.a = x ∧ s' = { s with q := endQ x s.q } ∧ AtS x s' := by
  rcases h.eq with ⟨h1, _⟩ | ⟨h1, h2⟩
  · exact absurd h1 ha
  · subst h2; exact ⟨h1, rfl, h1, rfl, h.c0⟩
theorem Rel.same {s s' : St} (h : Rel T x s s') (ha : s.q.a < x) : s' = s := by
  rcases h.eq with ⟨_, h1⟩ | ⟨h1, _⟩
  · exact h1
  · omega
theorem Rel.le {s s' : St} (h : Rel T x s s') : s.q.a ≤ x := by rcases h.eq with ⟨h1, _⟩ | ⟨h1, _⟩ <;> omega
theorem Rel.next (hc : Cut T x) {s : St} (h : Rel T x s s) (ha : s.q.a < x) : Rel T x { s with q := nextQ T s.q } { s with q := nextQ (T.take x) s.q } := by
  obtain ⟨n, h1, h2, h3⟩ := h.tk.a
  have hxl := hc.le
  obtain ⟨m, hm⟩ := hc
  have hb := tokN_before T (n := n) (m := m) (by omega)
  rw [← hm, ← h2] at hb
  have ha1 : (tokN T (n + 1)).1 = (nextN T s.q.e).1 := by rw [h2]; rfl
  have he1 : (tokN T (n + 1)).2.1 = (nextN T s.q.e).2.1 := by rw [h2]; rfl
  refine ⟨h.tk.next, h.c0, ?_⟩
  by_cases hlt : (nextN T s.q.e).1 < x
  · refine .inl ⟨hlt, ?_⟩
    have hb2 := tokN_before T (n := n + 1) (m := m) (by omega)
    have := nextN_cut hb.1 hxl hlt (by rw [← he1]; omega)
    unfold nextQ
    rw [this]
  · have hx : (nextN T s.q.e).1 = x := by omega
    refine .inr ⟨hx, ?_⟩
    have := nextN_cut_end hb.1 hxl (by omega)
    unfold nextQ endQ
    rw [this]
    simp only [hx]
theorem word_cut (hc : Cut T x) {s s' : St} (h : Rel T x s s') (ha : s.q.a < x) : wordQ (T.take x) s.q = wordQ T s.q := by
  obtain ⟨n, h1, h2, h3⟩ := h.tk.a
  obtain ⟨m, hm⟩ := hc
  have hb := tokN_before T (n := n) (m := m) (by omega)
  unfold wordQ
  rw [drop_take', List.take_take]
  congr 1
  omega
theorem stop_at {s' : St} (h : AtS x s') : Stop x (failQ s'.q s'.q.a 1) := by
  unfold failQ
  rw [if_pos (.inl h.2.2)]
  exact ⟨rfl, h.1⟩
theorem expect_at {k : Nat} (hk : k ≠ 0) {s' : St} (h : AtS x s') : (onQ (expectQ (T.take x) k) s').1 = none ∧ Stop x (onQ (expectQ (T.take x) k) s').2.q := by
  have ht : ¬ s'.q.t = k := by rw [h.2.1]; exact fun e => hk e.symm
  unfold onQ expectQ
  rw [if_neg ht]
  exact ⟨rfl, stop_at h⟩
theorem name_at {cap : Bool} {s' : St} (h : AtS x s') : (nameQ (T.take x) cap s'.q).1 = none ∧ Stop x (nameQ (T.take x) cap s'.q).2 := by
  unfold nameQ
  rw [if_neg (by rw [h.2.1]; simp)]
  exact ⟨rfl, stop_at h⟩
theorem expect_out (hc : Cut T x) {k : Nat} (hk : k ≠ 0) {s s' : St} (h : Rel T x s s') : Out T x (onQ (expectQ T k) s) (onQ (expectQ (T.take x) k) s') := by
  by_cases ha : s.q.a < x
  · have hs := h.same ha
    subst hs
    unfold onQ expectQ
    by_cases ht : s'.q.t = k
    · rw [if_pos ht, if_pos ht]
      exact .inl ⟨(), rfl, rfl, h.next hc ha⟩
    · rw [if_neg ht, if_neg ht]
      exact .inr (.inr (new_bad h.c0 ha (by decide)))
  · exact .inr (.inl (expect_at hk (h.at_ ha).2.2))
/-- A name in step. -/
theorem name_out (hc : Cut T x) (cap : Bool) {s s' : St} (h : Rel T x s s') :
    (∃ nm a, (nameQ T cap s.q).1 = some (nm, a) ∧ (nameQ (T.take x) cap s'.q).1 = some (nm, a) ∧ a < x ∧ s' = s ∧ Rel T x { s with q := (nameQ T cap s.q).2 } { s with q := (nameQ (T.take x) cap s'.q).2 }) ∨
    ((nameQ (T.take x) cap s'.q).1 = none ∧ Stop x (nameQ (T.take x) cap s'.q).2) ∨ (∀ us, Bad x (nameQ T cap s.q).2 us) := by
  by_cases ha : s.q.a < x
  · have hs := h.same ha
    subst hs
    unfold nameQ
    rw [word_cut hc h ha]
    by_cases ht : (decide (s'.q.t = 97) && (!cap || capN (wordQ T s'.q))) = true
    · rw [if_pos ht, if_pos ht]
      have hn := h.next hc ha
      by_cases h8 : 8 < (wordQ T s'.q).length
      · refine .inr (.inr fun us => ?_)
        simp only [if_pos h8]
        exact new_bad (q := nextQ T s'.q) h.c0 ha (by decide)
      · refine .inl ⟨_, _, rfl, rfl, ha, rfl, ?_⟩
        simp only [if_neg h8]
        exact hn
    · rw [if_neg ht, if_neg ht]
      exact .inr (.inr fun us => new_bad h.c0 ha (by decide))
  · exact .inr (.inl (name_at (h.at_ ha).2.2))
theorem bnd_out {α β : Type} {m m' : St → Option α × St} {f f' : α → St → Option β × St} {s s' : St} (hm : Out T x (m s) (m' s')) (hf : ∀ a s1 s1', m s = (some a, s1) → Rel T x s1 s1' → Out T x (f a s1) (f' a s1')) (hb : ∀ a s1, Bad x s1.q s1.uses → Bad x (f a s1).2.q (f a s1).2.uses) : Out T x (bnd m f s) (bnd m' f' s') := by
  unfold bnd
  cases e : m s with
  | mk o s1 =>
    cases e' : m' s' with
    | mk o' s1' =>
      rw [e, e'] at hm
      rcases hm with ⟨a, h1, h2, h3⟩ | ⟨h1, h2⟩ | h1
      · simp only at h1 h2 h3
        subst h1 h2
        exact hf a s1 s1' e h3
      · simp only at h1 h2
        subst h1
        exact .inr (.inl ⟨rfl, h2⟩)
      · refine .inr (.inr ?_)
        cases o with
        | none => exact h1
        | some a => exact hb a s1 h1
theorem exp_bad {k : Nat} {s : St} (h : Bad x s.q s.uses) : Bad x (onQ (expectQ T k) s).2.q (onQ (expectQ T k) s).2.uses := expectQ_keeps (bad_cl T 0 0 x) h
end
end Go.Proofs.Ygcfad.Plain
