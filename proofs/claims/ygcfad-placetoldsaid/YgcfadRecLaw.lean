/-
  PLAIN: what every step of package rec's parser keeps; where its error stands.
-/
import Derived.Test.YgcfadRecPlain
import Derived.Test.YgcfadSchemaStep
namespace Go.Proofs.Ygcfad.Plain
set_option linter.unusedSimpArgs false
set_option linter.unusedVariables false

theorem nextR_at (T : List Nat) (e : Nat) : (nextR T e).1 = atN T e := by
  unfold nextR; split
  · rfl
  · split <;> rfl
theorem nextRN_le {T : List Nat} {en : Nat} (h : en ≤ T.length) : en ≤ (nextR T en).1 ∧ (nextR T en).1 ≤ (nextR T en).2 ∧ (nextR T en).2 ≤ T.length := by
  have h1 := atN_le h
  have h2 := spanN_le alnumN (T.drop (atN T en + 1))
  simp only [List.length_drop] at h2
  unfold nextR
  split
  · exact ⟨h1.1, Nat.le_refl _, h1.2⟩
  · split <;> (dsimp only; omega)
theorem nextRN_far (T : List Nat) (e : Nat) : e ≤ (nextR T e).1 ∧ (nextR T e).1 ≤ (nextR T e).2 := by
  have h : e ≤ atN T e := by unfold atN; omega
  unfold nextR; split
  · exact ⟨h, Nat.le_refl _⟩
  · split <;> (dsimp only; omega)
theorem nextRN_place {T : List Nat} {e : Nat} (he : e ≤ T.length) : ((nextR T e).1 < T.length → blankN (T.getD (nextR T e).1 0) = false ∧ T.getD (nextR T e).1 0 ≠ 35) ∧ ((nextR T e).1 < (nextR T e).2 ↔ (nextR T e).1 < T.length) := by
  have h1 := atN_le he
  have hch : atN T e < T.length → blankN (T.getD (atN T e) 0) = false ∧ T.getD (atN T e) 0 ≠ 35 := by
    intro h
    have := skipN_char false (T.drop e) (by unfold atN at h; simp; omega)
    have eq : (T.drop e).getD (skipN false (T.drop e)) 0 = T.getD (atN T e) 0 := by
      unfold atN; simp [List.getD, List.getElem?_drop]
    rw [eq] at this; exact this
  unfold nextR; split
  · exact ⟨hch, by dsimp only; omega⟩
  · split
    · exact ⟨hch, by dsimp only; omega⟩
    · exact ⟨hch, by dsimp only; omega⟩
/-! ### The tokens in a row -/
def tkR (T : List Nat) : Nat → Nat × Nat
  | 0 => nextR T 0
  | n + 1 => nextR T (tkR T n).2
theorem tkR_end (T : List Nat) (n : Nat) : (tkR T n).2 ≤ T.length := by
  induction n with
  | zero => exact (nextRN_le (Nat.zero_le _)).2.2
  | succ n ih => exact (nextRN_le ih).2.2
theorem tkR_le (T : List Nat) (n : Nat) : (tkR T n).1 ≤ (tkR T n).2 := by
  cases n with
  | zero => exact (nextRN_le (Nat.zero_le _)).2.1
  | succ n => exact (nextRN_le (tkR_end T n)).2.1
theorem tkR_step (T : List Nat) (n : Nat) : (tkR T n).2 ≤ (tkR T (n + 1)).1 := (nextRN_le (tkR_end T n)).1
theorem tkR_mono (T : List Nat) {n m : Nat} (h : n ≤ m) : (tkR T n).1 ≤ (tkR T m).1 := by
  induction h with
  | refl => exact Nat.le_refl _
  | step _ ih => exact Nat.le_trans ih (Nat.le_trans (tkR_le T _) (tkR_step T _))
theorem tkR_before (T : List Nat) {n m : Nat} (h : (tkR T n).1 < (tkR T m).1) : (tkR T n).2 ≤ (tkR T m).1 ∧ (tkR T (n + 1)).1 ≤ (tkR T m).1 := by
  have hn : n + 1 ≤ m := by
    by_cases hh : n + 1 ≤ m
    · exact hh
    · have := tkR_mono T (n := m) (m := n) (by omega); omega
  have h1 := tkR_mono T hn
  exact ⟨Nat.le_trans (tkR_step T n) h1, h1⟩
theorem tkR_place (T : List Nat) (n : Nat) : ((tkR T n).1 < T.length → blankN (T.getD (tkR T n).1 0) = false ∧ T.getD (tkR T n).1 0 ≠ 35) ∧ ((tkR T n).1 < (tkR T n).2 ↔ (tkR T n).1 < T.length) := by
  cases n with
  | zero => exact nextRN_place (Nat.zero_le _)
  | succ n => exact nextRN_place (tkR_end T n)

/-! ### What the steps keep -/
abbrev V := Nat × List Nat
/-- A condition on the token and the uses that the steps keep; Er: an error that may be. -/
structure ClR (T : List Nat) (I : Nat → Nat → List V → Prop) (Er : Err → Prop) : Prop where
  nx : ∀ s : RSt, I s.a s.e s.uses → I (nextS T s).a (nextS T s).e s.uses
  e1 : ∀ s : RSt, I s.a s.e s.uses → Er (s.a, 1) ∧ Er (s.a, 7)
  e0 : ∀ s : RSt, I s.a s.e s.uses → tokR T s ≠ [] → ∀ c, c ≠ 0 → Er (s.a, c)
  us : ∀ (s : RSt) a e us nm, I s.a s.e s.uses → tokR T s ≠ [] → I a e us → I a e (us ++ [(s.a, nm)])
def Keep {α : Type} (I : Nat → Nat → List V → Prop) (Er : Err → Prop) (r : RR α) : Prop :=
  match r with
  | .error x => Er x
  | .ok (_, s) => I s.a s.e s.uses
section
variable {T : List Nat} {I : Nat → Nat → List V → Prop} {Er : Err → Prop}
theorem rbnd_keep {α β : Type} {m : RSt → RR α} {f : α → RSt → RR β} {s : RSt} (hm : Keep I Er (m s)) (hf : ∀ a s', m s = .ok (a, s') → I s'.a s'.e s'.uses → Keep I Er (f a s')) : Keep I Er (rbnd m f s) := by
  unfold rbnd
  cases e : m s with
  | error x => rw [e] at hm; exact hm
  | ok r => obtain ⟨a, s'⟩ := r; rw [e] at hm; exact hf a s' e hm
theorem exp_keep (h : ClR T I Er) {w : List Nat} {s : RSt} (hs : I s.a s.e s.uses) : Keep I Er (expR T w s) := by
  unfold expR; split
  · exact h.nx s hs
  · exact (h.e1 s hs).1
theorem name_keep (h : ClR T I Er) {cap : Bool} {s : RSt} (hs : I s.a s.e s.uses) : Keep I Er (nameR T cap s) ∧ ∀ nm s', nameR T cap s = .ok (nm, s') → tokR T s ≠ [] ∧ s' = nextS T s := by
  unfold nameR
  split
  · rename_i hb
    refine ⟨h.e0 s hs (fun e => by rw [e] at hb; simp at hb) 2 (by decide), fun nm s' e => by cases e⟩
  · split
    · rename_i hn
      refine ⟨h.nx s hs, fun nm s' e => ?_⟩
      cases e
      exact ⟨fun e => by rw [e] at hn; simp [isNameN] at hn, rfl⟩
    · exact ⟨(h.e1 s hs).1, fun nm s' e => by cases e⟩
theorem lists_keep (h : ClR T I Er) {first : Nat} : ∀ (f n : Nat) (s : RSt), I s.a s.e s.uses → (tokR T s = LIST ∨ 0 < n → Er (first, 6)) → Keep I Er (listsR T first f n s) := by
  intro f
  induction f with
  | zero => intro n s hs _; exact hs
  | succ f ih =>
    intro n s hs he
    unfold listsR
    split
    · rename_i ht
      split
      · exact he (.inl ht)
      · exact rbnd_keep (exp_keep h (s := nextS T s) (h.nx s hs)) (fun _ s' _ hs' => ih (n + 1) s' hs' (fun _ => he (.inl ht)))
    · exact hs
theorem lists_first {first : Nat} : ∀ (f n : Nat) (s s' : RSt) (m : Nat), listsR T first f n s = .ok (m, s') → (m = n ∧ s' = s) ∨ tokR T s = LIST := by
  intro f
  cases f with
  | zero => intro n s s' m h; cases h; exact .inl ⟨rfl, rfl⟩
  | succ f =>
    intro n s s' m h
    unfold listsR at h
    split at h
    · rename_i ht; exact .inr ht
    · cases h; exact .inl ⟨rfl, rfl⟩
theorem base_keep (h : ClR T I Er) {s : RSt} (hs : I s.a s.e s.uses) : Keep I Er (baseR T s) := by
  unfold baseR
  split
  · exact h.nx s hs
  · refine rbnd_keep (name_keep h hs).1 (fun nm s' e hs' => ?_)
    exact h.us s _ _ _ nm hs ((name_keep (cap := true) h hs).2 nm s' e).1 hs'
theorem base_first {s s' : RSt} {k : Nat} (h : baseR T s = .ok (k, s')) : tokR T s ≠ [] := by
  intro e
  unfold baseR at h
  rw [e] at h
  have h1 : kindR [] = none := rfl
  rw [h1] at h
  simp only [rbnd, nameR, e] at h
  have h2 : isNameN [] true = false := rfl
  simp [h2] at h
theorem close_keep (h : ClR T I Er) : ∀ (n : Nat) (s : RSt), I s.a s.e s.uses → Keep I Er (closeR T n s) := by
  intro n
  induction n with
  | zero => intro s hs; exact hs
  | succ n ih => intro s hs; exact rbnd_keep (exp_keep h hs) (fun _ s' _ hs' => ih s' hs')
theorem LIST_ne : LIST ≠ [] := by decide
theorem typ_keep (h : ClR T I Er) {un : Bool} {s : RSt} (hs : I s.a s.e s.uses) : Keep I Er (typR T un s) := by
  unfold typR
  refine rbnd_keep (lists_keep h 3 0 s hs ?_) (fun nest s1 e1 hs1 => ?_)
  · rintro (ht | ht)
    · exact h.e0 s hs (by rw [ht]; exact LIST_ne) 6 (by decide)
    · omega
  · refine rbnd_keep (base_keep h hs1) (fun kd s2 e2 hs2 => ?_)
    split
    · refine h.e0 s hs ?_ 6 (by decide)
      rcases lists_first 3 0 s s1 nest e1 with ⟨_, he⟩ | he
      · rw [← he]; exact base_first e2
      · rw [he]; exact LIST_ne
    · exact rbnd_keep (close_keep h nest s2 hs2) (fun _ s3 _ hs3 => hs3)
theorem value_keep (h : ClR T I Er) {k : Nat} {s : RSt} (hs : I s.a s.e s.uses) : Keep I Er (valueR T k s) := by
  unfold valueR
  have hn : I (nextS T s).a (nextS T s).e (nextS T s).uses := h.nx s hs
  split
  · exact (h.e1 s hs).2
  · split
    · split
      · exact (h.e1 _ hn).1
      · split
        · exact h.nx _ hn
        · exact (h.e1 s hs).2
    · split
      · exact hn
      · split
        · exact (h.e1 s hs).1
        · split
          · exact hn
          · exact (h.e1 s hs).2
theorem dflt_keep (h : ClR T I Er) {k : Nat} {s : RSt} (hs : I s.a s.e s.uses) : Keep I Er (dfltR T k s) := by
  unfold dfltR; split
  · exact value_keep h (s := nextS T s) (h.nx s hs)
  · exact hs
/-- field, behind its name. -/
def fbodyR (T : List Nat) (un : Bool) (nm : List Nat) (s1 : RSt) : RR Unit :=
  rbnd (expR T [64]) (fun _ s2 =>
      match ordR (tokR T s2) with
      | none => .error (s2.a, 1)
      | some n => rbnd (expR T [58]) (fun _ => rbnd (typR T un) (fun k => rbnd (dfltR T k) (fun _ s5 =>
          expR T [59] { s5 with fs := s5.fs ++ [⟨nm, k, un⟩], num := s5.num ++ [n] }))) (nextS T s2)) s1
theorem fbody_keep (h : ClR T I Er) {un : Bool} {nm : List Nat} {s : RSt} (hs : I s.a s.e s.uses) : Keep I Er (fbodyR T un nm s) := by
  unfold fbodyR
  refine rbnd_keep (exp_keep h hs) (fun _ s2 _ hs2 => ?_)
  split
  · exact (h.e1 s2 hs2).1
  · refine rbnd_keep (exp_keep h (s := nextS T s2) (h.nx s2 hs2)) (fun _ s3 _ hs3 => ?_)
    refine rbnd_keep (typ_keep h hs3) (fun k s4 _ hs4 => ?_)
    refine rbnd_keep (dflt_keep h hs4) (fun _ s5 _ hs5 => ?_)
    exact exp_keep h (s := { s5 with fs := s5.fs ++ [⟨nm, k, un⟩], num := s5.num ++ [_] }) hs5
/-- A field: behind its name the condition holds. -/
theorem field_keep' (h : ClR T I Er) {un : Bool} {s : RSt} (hm : Keep I Er (nameR T false s)) (h0 : ∀ nm s', nameR T false s = .ok (nm, s') → ∀ c, c ≠ 0 → Er (s.a, c)) : Keep I Er (fieldR T un s) := by
  unfold fieldR
  refine rbnd_keep hm (fun nm s1 e hs1 => ?_)
  split
  · exact h0 nm s1 e 3 (by decide)
  · split
    · exact h0 nm s1 e 2 (by decide)
    · exact fbody_keep h hs1
theorem field_keep (h : ClR T I Er) {un : Bool} {s : RSt} (hs : I s.a s.e s.uses) : Keep I Er (fieldR T un s) :=
  field_keep' h (name_keep h hs).1 (fun nm s' e => h.e0 s hs ((name_keep (cap := false) h hs).2 nm s' e).1)
theorem ufields_keep (h : ClR T I Er) : ∀ (f : Nat) (s : RSt), I s.a s.e s.uses → Keep I Er (ufieldsR T f s) := by
  intro f
  induction f with
  | zero => intro s hs; exact hs
  | succ f ih =>
    intro s hs
    unfold ufieldsR; split
    · exact hs
    · exact rbnd_keep (field_keep h hs) (fun _ s' _ hs' => ih s' hs')
theorem union_keep (h : ClR T I Er) {s : RSt} (hs : I s.a s.e s.uses) (ht : tokR T s ≠ []) : Keep I Er (unionR T s) := by
  unfold unionR
  refine rbnd_keep (exp_keep h (s := nextS T s) (h.nx s hs)) (fun _ s1 _ hs1 => ?_)
  split
  · exact h.e0 s hs ht 8 (by decide)
  · exact rbnd_keep (ufields_keep h _ s1 hs1) (fun _ s2 _ hs2 => h.nx s2 hs2)
theorem UNION_ne : UNION ≠ [] := by decide
theorem body_keep (h : ClR T I Er) : ∀ (f : Nat) (s : RSt), I s.a s.e s.uses → Keep I Er (bodyR T f s) := by
  intro f
  induction f with
  | zero => intro s hs; exact hs
  | succ f ih =>
    intro s hs
    unfold bodyR; split
    · exact hs
    · refine rbnd_keep ?_ (fun _ s' _ hs' => ih s' hs')
      split
      · rename_i hu; exact union_keep h hs (by rw [hu]; exact UNION_ne)
      · exact field_keep h hs
theorem order_err {s : RSt} {x : Err} (h : orderR s = .error x) : x = (s.a, 5) ∨ x = (s.a, 2) := by
  unfold orderR at h
  split at h
  · cases h; exact .inl rfl
  · split at h
    · cases h
    · cases h; exact .inr rfl
end
end Go.Proofs.Ygcfad.Plain
