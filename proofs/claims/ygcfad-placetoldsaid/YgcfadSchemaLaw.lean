/-
  PLAIN: the place of a schema text's first error.
-/
import Derived.Test.YgcfadSchemaKeeps2
namespace Go.Proofs.Ygcfad.Plain
set_option linter.unusedSimpArgs false
set_option linter.unusedVariables false

/-! ### The tokens in a row -/
def tokN (T : List Nat) : Nat → Nat × Nat × Nat
  | 0 => nextN T 0
  | n + 1 => nextN T (tokN T n).2.1
theorem tokN_end (T : List Nat) (n : Nat) : (tokN T n).2.1 ≤ T.length := by
  induction n with
  | zero => exact (nextN_le (Nat.zero_le _)).2.2
  | succ n ih => exact (nextN_le ih).2.2
theorem tokN_le (T : List Nat) (n : Nat) : (tokN T n).1 ≤ (tokN T n).2.1 := by
  cases n with
  | zero => exact (nextN_le (Nat.zero_le _)).2.1
  | succ n => exact (nextN_le (tokN_end T n)).2.1
theorem tokN_step (T : List Nat) (n : Nat) : (tokN T n).2.1 ≤ (tokN T (n + 1)).1 := (nextN_le (tokN_end T n)).1
theorem tokN_mono (T : List Nat) {n m : Nat} (h : n ≤ m) : (tokN T n).1 ≤ (tokN T m).1 := by
  induction h with
  | refl => exact Nat.le_refl _
  | step _ ih => exact Nat.le_trans ih (Nat.le_trans (tokN_le T _) (tokN_step T _))
theorem tokN_before (T : List Nat) {n m : Nat} (h : (tokN T n).1 < (tokN T m).1) : (tokN T n).2.1 ≤ (tokN T m).1 ∧ (tokN T (n + 1)).1 ≤ (tokN T m).1 := by
  have hn : n + 1 ≤ m := by
    by_cases hh : n + 1 ≤ m
    · exact hh
    · have := tokN_mono T (n := m) (m := n) (by omega); omega
  have h1 := tokN_mono T hn
  exact ⟨Nat.le_trans (tokN_step T n) h1, h1⟩
theorem skipN_char (cm : Bool) (l : List Nat) (h : skipN cm l < l.length) : blankN (l.getD (skipN cm l) 0) = false ∧ l.getD (skipN cm l) 0 ≠ 35 := by
  induction l generalizing cm with
  | nil => simp at h
  | cons c l ih =>
    unfold skipN at h ⊢
    split at h
    · rename_i hc
      rw [if_pos hc]
      have := ih (c != 10) (by simp at h; omega)
      rw [Nat.add_comm 1]
      simpa using this
    · rename_i hc
      rw [if_neg hc]
      split at h
      · rename_i hb
        rw [if_pos hb]
        have := ih false (by simp at h; omega)
        rw [Nat.add_comm 1]
        simpa using this
      · rename_i hb
        rw [if_neg hb]
        simp only [List.getD_cons_zero]
        exact ⟨by simpa using hb, by simp at hc; exact hc.2⟩
/-- What stands at a token's place. -/
theorem nextN_place {T : List Nat} {e : Nat} (he : e ≤ T.length) : ((nextN T e).2.2 = 0 → (nextN T e).1 = T.length) ∧ ((nextN T e).1 < T.length → blankN (T.getD (nextN T e).1 0) = false ∧ T.getD (nextN T e).1 0 ≠ 35) ∧ ((nextN T e).2.2 ≠ 0 → (nextN T e).1 < T.length ∧ (nextN T e).1 < (nextN T e).2.1) := by
  have h1 := atN_le he
  have hch : atN T e < T.length → blankN (T.getD (atN T e) 0) = false ∧ T.getD (atN T e) 0 ≠ 35 := by
    intro h
    have := skipN_char false (T.drop e) (by unfold atN at h; simp; omega)
    have eq : (T.drop e).getD (skipN false (T.drop e)) 0 = T.getD (atN T e) 0 := by
      unfold atN; simp [List.getD, List.getElem?_drop]
    rw [eq] at this; exact this
  have hs0 : signN (T.getD (atN T e) 0) = true → T.getD (atN T e) 0 ≠ 0 := fun h h0 => by rw [h0] at h; exact absurd h (by decide)
  unfold nextN
  split
  · rename_i hl
    exact ⟨fun _ => by simp only; omega, fun h => by simp only at h; omega, fun h => absurd rfl h⟩
  · rename_i hl
    split
    · exact ⟨fun h => by simp at h, hch, fun _ => by dsimp only; omega⟩
    · split
      · exact ⟨fun h => by simp at h, hch, fun _ => by dsimp only; omega⟩
      · split
        · rename_i hs
          exact ⟨fun h => absurd h (hs0 hs), hch, fun _ => by dsimp only; omega⟩
        · exact ⟨fun h => by simp at h, hch, fun _ => by dsimp only; omega⟩
theorem tokN_place (T : List Nat) (n : Nat) : ((tokN T n).2.2 = 0 → (tokN T n).1 = T.length) ∧ ((tokN T n).1 < T.length → blankN (T.getD (tokN T n).1 0) = false ∧ T.getD (tokN T n).1 0 ≠ 35) ∧ ((tokN T n).2.2 ≠ 0 → (tokN T n).1 < T.length ∧ (tokN T n).1 < (tokN T n).2.1) := by
  cases n with
  | zero => exact nextN_place (Nat.zero_le _)
  | succ n => exact nextN_place (tokN_end T n)

/-! ### Where an error stands -/
def Pl (T : List Nat) (a c : Nat) : Prop := (∃ m, a = (tokN T m).1) ∧ (a = T.length → c = 1)
def Tk (T : List Nat) (q : Q) : Prop := ∃ n, (q.a, q.e, q.t) = tokN T n
def Inv (T : List Nat) (q : Q) (us : List U) : Prop := Tk T q ∧ (q.c ≠ 0 → Pl T q.x q.c) ∧ ∀ u ∈ us, Pl T u.1 4
theorem Tk.next {T : List Nat} {q : Q} (h : Tk T q) : Tk T (nextQ T q) := by
  obtain ⟨n, hn⟩ := h
  refine ⟨n + 1, ?_⟩
  have e : q.e = (tokN T n).2.1 := congrArg (fun x => x.2.1) hn
  show ((nextN T q.e).1, (nextN T q.e).2.1, (nextN T q.e).2.2) = nextN T (tokN T n).2.1
  rw [e]
theorem Tk.fail {T : List Nat} {q : Q} (h : Tk T q) (a c : Nat) : Tk T (failQ q a c) := by
  unfold failQ; split <;> exact h
theorem Tk.a {T : List Nat} {q : Q} (h : Tk T q) : ∃ n, q.a = (tokN T n).1 ∧ q.e = (tokN T n).2.1 ∧ q.t = (tokN T n).2.2 := by
  obtain ⟨n, hn⟩ := h
  exact ⟨n, congrArg (fun x => x.1) hn, congrArg (fun x => x.2.1) hn, congrArg (fun x => x.2.2) hn⟩
theorem Tk.lt {T : List Nat} {q : Q} (h : Tk T q) (ht : q.t ≠ 0) : q.a < T.length ∧ q.a < q.e := by
  obtain ⟨n, h1, h2, h3⟩ := h.a
  have := (tokN_place T n).2.2 (by rw [← h3]; exact ht)
  rw [h1, h2]; exact this
theorem inv_cl (T : List Nat) (k i : Nat) : Cl T k i (Inv T) (Pl T) where
  nx := fun q us h => ⟨h.1.next, h.2.1, h.2.2⟩
  fl := fun q us a c h ho => by
    refine ⟨h.1.fail a c, ?_, h.2.2⟩
    unfold failQ; split
    · exact fun _ => ho
    · exact h.2.1
  t0 := fun q us h ht c hc => by
    obtain ⟨n, h1, h2, h3⟩ := h.1.a
    exact ⟨⟨n, h1⟩, fun e => by have := (h.1.lt ht).1; omega⟩
  t1 := fun q us h => by
    obtain ⟨n, h1, h2, h3⟩ := h.1.a
    exact ⟨⟨n, h1⟩, fun _ => rfl⟩
  us := fun q us a nm h ho => ⟨h.1, h.2.1, fun u hu => by
    rcases List.mem_append.1 hu with hu | hu
    · exact h.2.2 u hu
    · rw [List.mem_singleton.1 hu]; exact ho⟩
theorem inv_clo (T : List Nat) : ClO T (Inv T) (Pl T) := ⟨fun k i => inv_cl T k i, fun q us k num h => ⟨h.1, h.2.1, fun u hu => by
  obtain ⟨u', hu', rfl⟩ := List.mem_map.1 hu
  have e : (ordU k num u').1 = u'.1 := by unfold ordU; split <;> rfl
  rw [e]; exact h.2.2 u' hu'⟩⟩
theorem bindQ_inv {T : List Nat} (names : List (List Nat)) : ∀ (us : List U) (q : Q), Inv T q us → (bindQ names us q).c ≠ 0 → Pl T (bindQ names us q).x (bindQ names us q).c := by
  intro us
  induction us with
  | nil => intro q h; exact h.2.1
  | cons u us ih =>
    intro q h
    unfold bindQ
    split
    · exact ih q ⟨h.1, h.2.1, fun v hv => h.2.2 v (List.mem_cons_of_mem _ hv)⟩
    · have hf := (inv_cl T 0 0).fl q us u.1 4 ⟨h.1, h.2.1, fun v hv => h.2.2 v (List.mem_cons_of_mem _ hv)⟩ (h.2.2 u (by simp))
      exact ih _ hf
theorem start_inv (T : List Nat) : Inv T (startS T).q (startS T).uses := ⟨⟨0, rfl⟩, fun h => absurd rfl h, fun u hu => by cases hu⟩

/-! ### An error before x -/
def Bad (x : Nat) (q : Q) (_ : List U) : Prop := q.c ≠ 0 ∧ q.x < x
theorem bad_fail {x : Nat} {q : Q} {us : List U} (h : Bad x q us) (a c : Nat) (hc : c ≠ 0) : Bad x (failQ q a c) us := by
  unfold failQ; split
  · rename_i h2
    refine ⟨hc, ?_⟩
    show a < x
    have := h.1; have := h.2
    omega
  · exact h
theorem bad_cl (T : List Nat) (k i x : Nat) : Cl T k i (Bad x) (fun _ c => c ≠ 0) where
  nx := fun q us h => h
  fl := fun q us a c h ho => bad_fail h a c ho
  t0 := fun _ _ _ _ c hc => hc
  t1 := fun _ _ _ => by decide
  us := fun _ _ _ _ h _ => h
theorem bad_clo (T : List Nat) (x : Nat) : ClO T (Bad x) (fun _ c => c ≠ 0) := ⟨fun k i => bad_cl T k i x, fun _ _ _ _ h => h⟩
theorem bindQ_bad {x : Nat} (names : List (List Nat)) : ∀ (us : List U) (q : Q), Bad x q [] → Bad x (bindQ names us q) [] := by
  intro us
  induction us with
  | nil => intro q h; exact h
  | cons u us ih =>
    intro q h
    unfold bindQ
    split
    · exact ih q h
    · exact ih _ (bad_fail h _ _ (by decide))
theorem new_bad {x : Nat} {q : Q} {us : List U} {a c : Nat} (h0 : q.c = 0) (ha : a < x) (hc : c ≠ 0) : Bad x (failQ q a c) us := by
  unfold failQ
  rw [if_pos (.inl h0)]
  exact ⟨hc, ha⟩
end Go.Proofs.Ygcfad.Plain
