/-
  PLAIN: package rec's parser: how far a step goes; struct and text; the place of the error.
-/
import Derived.Test.YgcfadRecLaw
namespace Go.Proofs.Ygcfad.Plain
set_option linter.unusedSimpArgs false
set_option linter.unusedVariables false

def FarR (a0 : Nat) (a e : Nat) (_ : List V) : Prop := a0 ≤ a ∧ a ≤ e
theorem farR_cl (T : List Nat) (a0 : Nat) : ClR T (FarR a0) (fun _ => True) where
  nx := fun s h => by have := nextRN_far T s.e; exact ⟨by show a0 ≤ (nextR T s.e).1; have := h.1; have := h.2; omega, this.2⟩
  e1 := fun _ _ => ⟨trivial, trivial⟩
  e0 := fun _ _ _ _ _ => trivial
  us := fun _ _ _ _ _ _ _ h => h
theorem tok_lt' {T : List Nat} {s : RSt} (h : tokR T s ≠ []) : s.a < s.e := by
  rcases Nat.lt_or_ge s.a s.e with hl | hl
  · exact hl
  · refine absurd ?_ h
    unfold tokR; rw [Nat.sub_eq_zero_of_le hl]; simp
theorem next_farR {T : List Nat} {s : RSt} (h : tokR T s ≠ []) : FarR (s.a + 1) (nextS T s).a (nextS T s).e (nextS T s).uses := by
  have h1 := tok_lt' h
  have h2 := nextRN_far T s.e
  exact ⟨by show _ ≤ (nextR T s.e).1; omega, h2.2⟩
theorem name_ok {T : List Nat} {cap : Bool} {s s' : RSt} {nm : List Nat} (h : nameR T cap s = .ok (nm, s')) : tokR T s ≠ [] ∧ s' = nextS T s ∧ nm = tokR T s := by
  unfold nameR at h
  split at h
  · cases h
  · split at h
    · rename_i hn
      cases h
      exact ⟨fun e => by rw [e] at hn; simp [isNameN] at hn, rfl, rfl⟩
    · cases h
theorem field_far {T : List Nat} {un : Bool} {s s' : RSt} {u : Unit} (h : fieldR T un s = .ok (u, s')) : s.a + 1 ≤ s'.a := by
  have hk : Keep (FarR (s.a + 1)) (fun _ => True) (fieldR T un s) := by
    refine field_keep' (farR_cl T (s.a + 1)) ?_ (fun _ _ _ _ _ => trivial)
    cases e : nameR T false s with
    | error x => trivial
    | ok r =>
      obtain ⟨nm, s1⟩ := r
      obtain ⟨h1, h2, _⟩ := name_ok e
      subst h2
      exact next_farR h1
  rw [h] at hk
  exact hk.1
theorem union_far {T : List Nat} {s s' : RSt} {u : Unit} (ht : tokR T s ≠ []) (h : unionR T s = .ok (u, s')) : s.a + 1 ≤ s'.a := by
  have hc := farR_cl T (s.a + 1)
  have hk : Keep (FarR (s.a + 1)) (fun _ => True) (unionR T s) := by
    unfold unionR
    refine rbnd_keep (exp_keep hc (s := nextS T s) (next_farR ht)) (fun _ s1 _ hs1 => ?_)
    split
    · trivial
    · exact rbnd_keep (ufields_keep hc _ s1 hs1) (fun _ s2 _ hs2 => hc.nx s2 hs2)
  rw [h] at hk
  exact hk.1

/-! ### Where an error stands -/
def RTk (T : List Nat) (a e : Nat) : Prop := ∃ n, (a, e) = tkR T n
theorem RTk.get {T : List Nat} {a e : Nat} (h : RTk T a e) : ∃ n, a = (tkR T n).1 ∧ e = (tkR T n).2 := by
  obtain ⟨n, hn⟩ := h; exact ⟨n, congrArg (·.1) hn, congrArg (·.2) hn⟩
theorem RTk.le {T : List Nat} {a e : Nat} (h : RTk T a e) : a ≤ e ∧ e ≤ T.length := by
  obtain ⟨n, h1, h2⟩ := h.get; rw [h1, h2]; exact ⟨tkR_le T n, tkR_end T n⟩
theorem RTk.lt {T : List Nat} {s : RSt} (h : RTk T s.a s.e) (ht : tokR T s ≠ []) : s.a < T.length := by
  have := tok_lt' ht; have := h.le.2; omega
def PlR (T : List Nat) (x : Err) : Prop := (∃ m, x.1 = (tkR T m).1) ∧ (x.1 = T.length → x.2 = 1 ∨ x.2 = 7) ∧ x.2 ≠ 0
def InvR (T : List Nat) (a e : Nat) (us : List V) : Prop := RTk T a e ∧ ∀ u ∈ us, (∃ m, u.1 = (tkR T m).1) ∧ u.1 < T.length
theorem invR_cl (T : List Nat) : ClR T (InvR T) (PlR T) where
  nx := fun s h => by
    refine ⟨?_, h.2⟩
    obtain ⟨n, h1, h2⟩ := h.1.get
    refine ⟨n + 1, ?_⟩
    show ((nextR T s.e).1, (nextR T s.e).2) = nextR T (tkR T n).2
    rw [h2]
  e1 := fun s h => by
    obtain ⟨n, h1, _⟩ := h.1.get
    exact ⟨⟨⟨n, h1⟩, fun _ => .inl rfl, by show (1 : Nat) ≠ 0; decide⟩, ⟨⟨n, h1⟩, fun _ => .inr rfl, by show (7 : Nat) ≠ 0; decide⟩⟩
  e0 := fun s h ht c hc => by
    obtain ⟨n, h1, _⟩ := h.1.get
    exact ⟨⟨n, h1⟩, fun e => by have := h.1.lt ht; simp only at e; omega, hc⟩
  us := fun s a e us nm h ht hh => ⟨hh.1, fun u hu => by
    rcases List.mem_append.1 hu with hu | hu
    · exact hh.2 u hu
    · rw [List.mem_singleton.1 hu]
      obtain ⟨n, h1, _⟩ := h.1.get
      exact ⟨⟨n, h1⟩, h.1.lt ht⟩⟩
section
variable {T : List Nat}
theorem body_tok : ∀ (f : Nat) (s s' : RSt) (u : Unit), InvR T s.a s.e s.uses → T.length < s.a + f → bodyR T f s = .ok (u, s') → tokR T s' = [125] := by
  intro f
  induction f with
  | zero => intro s s' u hs hf h; have := hs.1.le; omega
  | succ f ih =>
    intro s s' u hs hf h
    unfold bodyR at h
    split at h
    · rename_i ht; cases h; exact ht
    · unfold rbnd at h
      cases e : (if tokR T s = UNION then unionR T else fieldR T false) s with
      | error x => rw [e] at h; cases h
      | ok r =>
        obtain ⟨u1, s1⟩ := r
        rw [e] at h
        have hk : Keep (InvR T) (PlR T) ((if tokR T s = UNION then unionR T else fieldR T false) s) := by
          split
          · rename_i hu; exact union_keep (invR_cl T) hs (by rw [hu]; exact UNION_ne)
          · exact field_keep (invR_cl T) hs
        rw [e] at hk
        have hfar : s.a + 1 ≤ s1.a := by
          split at e
          · rename_i hu; exact union_far (by rw [hu]; exact UNION_ne) e
          · exact field_far e
        exact ih s1 s' u hk (by omega) h
theorem strct_keep {s : RSt} (hs : InvR T s.a s.e s.uses) : Keep (InvR T) (PlR T) (strctR T s) := by
  have h := invR_cl T
  unfold strctR
  refine rbnd_keep (exp_keep h hs) (fun _ s1 _ hs1 => ?_)
  refine rbnd_keep (name_keep h hs1).1 (fun nm s2 e2 hs2 => ?_)
  have ht := (name_ok e2).1
  split
  · exact h.e0 s1 hs1 ht 2 (by decide)
  · split
    · exact h.e0 s1 hs1 ht 3 (by decide)
    · refine rbnd_keep (exp_keep h hs2) (fun _ s3 _ hs3 => ?_)
      refine rbnd_keep (body_keep h _ { s3 with fs := [], num := [] } hs3) (fun u s4 e4 hs4 => ?_)
      have ht4 := body_tok (T.length + 1) { s3 with fs := [], num := [] } s4 u hs3 (by omega) e4
      cases eo : orderR s4 with
      | error x =>
        rcases order_err eo with rfl | rfl
        · exact h.e0 s4 hs4 (by rw [ht4]; decide) 5 (by decide)
        · exact h.e0 s4 hs4 (by rw [ht4]; decide) 2 (by decide)
      | ok _ => exact exp_keep h (s := { s4 with names := s4.names ++ [nm] }) hs4
theorem strct_far {s s' : RSt} {u : Unit} (hs : InvR T s.a s.e s.uses) (h : strctR T s = .ok (u, s')) : s.a + 1 ≤ s'.a := by
  have hc := farR_cl T (s.a + 1)
  have hk : Keep (FarR (s.a + 1)) (fun _ => True) (strctR T s) := by
    unfold strctR
    refine rbnd_keep ?_ (fun _ s1 e1 hs1 => ?_)
    · unfold expR; split
      · rename_i ht; exact next_farR (by rw [ht]; decide)
      · trivial
    · refine rbnd_keep (name_keep hc hs1).1 (fun nm s2 e2 hs2 => ?_)
      split
      · trivial
      · split
        · trivial
        · refine rbnd_keep (exp_keep hc hs2) (fun _ s3 _ hs3 => ?_)
          refine rbnd_keep (body_keep hc _ { s3 with fs := [], num := [] } hs3) (fun u s4 e4 hs4 => ?_)
          cases eo : orderR s4 with
          | error x => trivial
          | ok _ => exact exp_keep hc (s := { s4 with names := s4.names ++ [nm] }) hs4
  rw [h] at hk
  exact hk.1
theorem top_keep : ∀ (f : Nat) (s : RSt), InvR T s.a s.e s.uses → Keep (InvR T) (PlR T) (topR T f s) := by
  intro f
  induction f with
  | zero => intro s hs; exact hs
  | succ f ih =>
    intro s hs
    unfold topR; split
    · exact hs
    · exact rbnd_keep (strct_keep hs) (fun _ s' _ hs' => ih s' hs')
theorem startR_inv : InvR T (startR T).a (startR T).e (startR T).uses := ⟨⟨0, rfl⟩, fun u hu => by cases hu⟩
theorem bindR_mem {names : List (List Nat)} : ∀ (us : List V) (a : Nat), bindR names us = some a → ∃ u ∈ us, u.1 = a := by
  intro us
  induction us with
  | nil => intro a h; cases h
  | cons u us ih =>
    intro a h
    unfold bindR at h
    split at h
    · obtain ⟨v, h1, h2⟩ := ih a h; exact ⟨v, List.mem_cons_of_mem _ h1, h2⟩
    · cases h; exact ⟨u, by simp, rfl⟩
/-- The place of the error. -/
theorem recN_place (hl : T.length ≤ 4096) (h : (recN T).2 ≠ 0) : PlR T (recN T) := by
  have hk := top_keep (T.length + 1) (startR T) (startR_inv (T := T))
  unfold recN at h ⊢
  rw [if_neg (by omega)] at h ⊢
  cases e : topR T (T.length + 1) (startR T) with
  | error x => rw [e] at hk; exact hk
  | ok r =>
    obtain ⟨u, s⟩ := r
    rw [e] at hk h
    simp only at h ⊢
    cases eb : bindR s.names s.uses with
    | none => rw [eb] at h; exact absurd rfl h
    | some a =>
      obtain ⟨v, h1, h2⟩ := bindR_mem _ _ eb
      obtain ⟨⟨m, h3⟩, h4⟩ := hk.2 v h1
      refine ⟨⟨m, by show a = _; rw [← h2]; exact h3⟩, fun e => ?_, by show (4 : Nat) ≠ 0; decide⟩
      simp only at e
      omega
end
end Go.Proofs.Ygcfad.Plain
