/-
  PLAIN: package rec's parser on a text and on the text cut at a token, in step.
-/
import Derived.Test.YgcfadRecLaw2
namespace Go.Proofs.Ygcfad.Plain
set_option linter.unusedSimpArgs false
set_option linter.unusedVariables false

theorem nextR_cut {T : List Nat} {x e : Nat} (he : e ≤ x) (hx : x ≤ T.length) (h1 : (nextR T e).1 < x) (h2 : (nextR T e).2 ≤ x) : nextR (T.take x) e = nextR T e := by
  rw [nextR_at] at h1
  have e1 : atN (T.take x) e = atN T e := by rw [atN_cut he]; omega
  have hl : (T.take x).length = x := by simp; omega
  have n1 : ¬ T.length ≤ atN T e := by omega
  have n2 : ¬ x ≤ atN T e := by omega
  unfold nextR at h2
  rw [if_neg n1] at h2
  unfold nextR
  rw [e1, hl, getD_take h1, drop_take', spanN_take, if_neg n2, if_neg n1]
  by_cases c1 : alnumN (T.getD (atN T e) 0) = true
  · rw [if_pos c1] at h2
    rw [if_pos c1, if_pos c1]
    simp only at h2
    rw [Nat.min_eq_left (by omega)]
  · rw [if_neg c1, if_neg c1]
theorem nextR_cut_end {T : List Nat} {x e : Nat} (he : e ≤ x) (hx : x ≤ T.length) (h1 : x ≤ (nextR T e).1) : nextR (T.take x) e = (x, x) := by
  rw [nextR_at] at h1
  have e1 : atN (T.take x) e = x := by rw [atN_cut he]; omega
  have hl : (T.take x).length = x := by simp; omega
  unfold nextR
  rw [e1, hl, if_pos (Nat.le_refl _)]
def CutR (T : List Nat) (x : Nat) : Prop := ∃ m, x = (tkR T m).1
theorem CutR.le {T : List Nat} {x : Nat} (h : CutR T x) : x ≤ T.length := by
  obtain ⟨m, rfl⟩ := h; exact Nat.le_trans (tkR_le T m) (tkR_end T m)
/-- In step. -/
structure RelR (T : List Nat) (x : Nat) (s s' : RSt) : Prop where
  tk : RTk T s.a s.e
  eq : (s.a < x ∧ s' = s) ∨ (s.a = x ∧ s' = { s with e := x })
def AtR (x : Nat) (s' : RSt) : Prop := s'.a = x ∧ s'.e = x
def OutR {α : Type} (T : List Nat) (x : Nat) (r r' : RR α) : Prop :=
  (∃ a s1 s1', r = .ok (a, s1) ∧ r' = .ok (a, s1') ∧ RelR T x s1 s1') ∨ (∃ c, r' = .error (x, c)) ∨ (∃ y c, r = .error (y, c) ∧ y < x)
/-- .. or the cut text's run stands at its end, ahead of its next look. -/
def OutL' {α : Type} (T : List Nat) (x : Nat) (r r' : RR α) : Prop := OutR T x r r' ∨ ∃ a s1', r' = .ok (a, s1') ∧ AtR x s1'
section
variable {T : List Nat} {x : Nat}
theorem RelR.at_ {s s' : RSt} (h : RelR T x s s') (ha : ¬ s.a < x) : s.a = x ∧ AtR x s' := by
  rcases h.eq with ⟨h1, _⟩ | ⟨h1, h2⟩
  · exact absurd h1 ha
  · subst h2; exact ⟨h1, h1, rfl⟩
theorem RelR.same {s s' : RSt} (h : RelR T x s s') (ha : s.a < x) : s' = s := by
  rcases h.eq with ⟨_, h1⟩ | ⟨h1, _⟩
  · exact h1
  · omega
theorem RelR.le {s s' : RSt} (h : RelR T x s s') : s.a ≤ x := by rcases h.eq with ⟨h1, _⟩ | ⟨h1, _⟩ <;> omega
theorem RelR.turn {s s' : RSt} (h : RelR T x s s') (us : List V → List V) (nm : List (List Nat) → List (List Nat)) (nu : List Nat → List Nat) (fs : List FR → List FR) :
    RelR T x { s with uses := us s.uses, names := nm s.names, num := nu s.num, fs := fs s.fs } { s' with uses := us s'.uses, names := nm s'.names, num := nu s'.num, fs := fs s'.fs } := by
  refine ⟨h.tk, ?_⟩
  rcases h.eq with ⟨h1, h2⟩ | ⟨h1, h2⟩
  · subst h2; exact .inl ⟨h1, rfl⟩
  · subst h2; exact .inr ⟨h1, rfl⟩
theorem RelR.next (hc : CutR T x) {s : RSt} (h : RelR T x s s) (ha : s.a < x) : RelR T x (nextS T s) (nextS (T.take x) s) := by
  obtain ⟨n, h1, h2⟩ := h.tk.get
  have hxl := hc.le
  obtain ⟨m, hm⟩ := hc
  have hb := tkR_before T (n := n) (m := m) (by omega)
  rw [← hm, ← h2] at hb
  have ha1 : (tkR T (n + 1)).1 = (nextR T s.e).1 := by rw [h2]; rfl
  have he1 : (tkR T (n + 1)).2 = (nextR T s.e).2 := by rw [h2]; rfl
  refine ⟨⟨n + 1, by show ((nextR T s.e).1, (nextR T s.e).2) = nextR T (tkR T n).2; rw [h2]⟩, ?_⟩
  by_cases hlt : (nextR T s.e).1 < x
  · refine .inl ⟨hlt, ?_⟩
    have hb2 := tkR_before T (n := n + 1) (m := m) (by omega)
    have := nextR_cut hb.1 hxl hlt (by rw [← he1]; omega)
    unfold nextS
    rw [this]
  · have hx : (nextR T s.e).1 = x := by omega
    refine .inr ⟨hx, ?_⟩
    have := nextR_cut_end hb.1 hxl (by omega)
    unfold nextS
    rw [this]
    simp only [hx]
theorem tok_cut (hc : CutR T x) {s s' : RSt} (h : RelR T x s s') (ha : s.a < x) : tokR (T.take x) s = tokR T s := by
  obtain ⟨n, h1, h2⟩ := h.tk.get
  obtain ⟨m, hm⟩ := hc
  have hb := tkR_before T (n := n) (m := m) (by omega)
  unfold tokR
  rw [drop_take', List.take_take]
  congr 1
  omega
theorem tok_at {s' : RSt} (h : AtR x s') : tokR (T.take x) s' = [] := by
  unfold tokR; rw [h.1, h.2, Nat.sub_self]; simp
theorem rbnd_out {α β : Type} {m m' : RSt → RR α} {f f' : α → RSt → RR β} {s s' : RSt} (hm : OutR T x (m s) (m' s')) (hf : ∀ a s1 s1', m s = .ok (a, s1) → m' s' = .ok (a, s1') → RelR T x s1 s1' → OutR T x (f a s1) (f' a s1')) : OutR T x (rbnd m f s) (rbnd m' f' s') := by
  rcases hm with ⟨a, s1, s1', h1, h2, h3⟩ | ⟨c, h1⟩ | ⟨y, c, h1, h2⟩
  · have e1 : rbnd m f s = f a s1 := by unfold rbnd; rw [h1]
    have e2 : rbnd m' f' s' = f' a s1' := by unfold rbnd; rw [h2]
    rw [e1, e2]; exact hf a s1 s1' h1 h2 h3
  · exact .inr (.inl ⟨c, by unfold rbnd; rw [h1]⟩)
  · exact .inr (.inr ⟨y, c, by unfold rbnd; rw [h1], h2⟩)
theorem rbnd_outL {α β : Type} {m m' : RSt → RR α} {f f' : α → RSt → RR β} {s s' : RSt} (hm : OutL' T x (m s) (m' s')) (hf : ∀ a s1 s1', m s = .ok (a, s1) → m' s' = .ok (a, s1') → RelR T x s1 s1' → OutR T x (f a s1) (f' a s1')) (ha : ∀ a s1', AtR x s1' → ∃ c, f' a s1' = .error (x, c)) : OutR T x (rbnd m f s) (rbnd m' f' s') := by
  rcases hm with hm | ⟨a, s1', h1, h2⟩
  · exact rbnd_out hm hf
  · obtain ⟨c, h3⟩ := ha a s1' h2
    exact .inr (.inl ⟨c, by unfold rbnd; rw [h1]; exact h3⟩)
theorem exp_at {w : List Nat} (hw : w ≠ []) {s' : RSt} (h : AtR x s') : expR (T.take x) w s' = .error (x, 1) := by
  unfold expR; rw [tok_at h, if_neg (fun e => hw e.symm), h.1]
theorem exp_out (hc : CutR T x) {w : List Nat} (hw : w ≠ []) {s s' : RSt} (h : RelR T x s s') : OutR T x (expR T w s) (expR (T.take x) w s') := by
  by_cases ha : s.a < x
  · have hs := h.same ha
    subst hs
    unfold expR
    rw [tok_cut hc h ha]
    by_cases ht : tokR T s' = w
    · rw [if_pos ht, if_pos ht]; exact .inl ⟨_, _, _, rfl, rfl, h.next hc ha⟩
    · rw [if_neg ht]; exact .inr (.inr ⟨_, _, rfl, ha⟩)
  · exact .inr (.inl ⟨1, exp_at hw (h.at_ ha).2⟩)
theorem name_atR {cap : Bool} {s' : RSt} (h : AtR x s') : nameR (T.take x) cap s' = .error (x, 1) := by
  unfold nameR
  rw [tok_at h, if_neg (by simp), if_neg (by simp [isNameN]), h.1]
theorem name_outR (hc : CutR T x) (cap : Bool) {s s' : RSt} (h : RelR T x s s') : OutR T x (nameR T cap s) (nameR (T.take x) cap s') := by
  by_cases ha : s.a < x
  · have hs := h.same ha
    subst hs
    unfold nameR
    rw [tok_cut hc h ha]
    split
    · exact .inr (.inr ⟨_, _, rfl, ha⟩)
    · split
      · exact .inl ⟨_, _, _, rfl, rfl, h.next hc ha⟩
      · exact .inr (.inr ⟨_, _, rfl, ha⟩)
  · exact .inr (.inl ⟨1, name_atR (h.at_ ha).2⟩)
theorem lists_outR (hc : CutR T x) {first : Nat} : ∀ (f n : Nat) (s s' : RSt), RelR T x s s' → first ≤ s.a → OutL' T x (listsR T first f n s) (listsR (T.take x) first f n s') := by
  intro f
  induction f with
  | zero => intro n s s' h _; exact .inl (.inl ⟨_, _, _, rfl, rfl, h⟩)
  | succ f ih =>
    intro n s s' h hf
    by_cases ha : s.a < x
    · have hs := h.same ha
      subst hs
      unfold listsR
      rw [tok_cut hc h ha]
      by_cases ht : tokR T s' = LIST
      · rw [if_pos ht, if_pos ht]
        by_cases hd : 2 < n + 1
        · rw [if_pos hd, if_pos hd]; exact .inl (.inr (.inr ⟨_, _, rfl, by omega⟩))
        · rw [if_neg hd, if_neg hd]
          have hn := h.next hc ha
          have hfar := next_farR (T := T) (s := s') (by rw [ht]; exact LIST_ne)
          have he := exp_out hc (w := [40]) (by decide) hn
          have hfar2 : Keep (FarR (s'.a + 1)) (fun _ => True) (expR T [40] (nextS T s')) := exp_keep (farR_cl T (s'.a + 1)) hfar
          rcases he with ⟨a, s1, s1', h1, h2, h3⟩ | ⟨c, h1⟩ | ⟨y, c, h1, h2⟩
          · rw [h1] at hfar2
            have e1 : rbnd (expR T [40]) (fun _ => listsR T first f (n + 1)) (nextS T s') = listsR T first f (n + 1) s1 := by unfold rbnd; rw [h1]
            have e2 : rbnd (expR (T.take x) [40]) (fun _ => listsR (T.take x) first f (n + 1)) (nextS (T.take x) s') = listsR (T.take x) first f (n + 1) s1' := by unfold rbnd; rw [h2]
            rw [e1, e2]
            exact ih (n + 1) s1 s1' h3 (by have := hfar2.1; omega)
          · exact .inl (.inr (.inl ⟨c, by unfold rbnd; rw [h1]⟩))
          · exact .inl (.inr (.inr ⟨y, c, by unfold rbnd; rw [h1], h2⟩))
      · rw [if_neg ht, if_neg ht]; exact .inl (.inl ⟨_, _, _, rfl, rfl, h⟩)
    · refine .inr ⟨n, s', ?_, (h.at_ ha).2⟩
      unfold listsR
      rw [tok_at (h.at_ ha).2, if_neg (fun e => LIST_ne e.symm)]
theorem base_at {s' : RSt} (h : AtR x s') : baseR (T.take x) s' = .error (x, 1) := by
  unfold baseR
  rw [tok_at h]
  show rbnd _ _ s' = _
  unfold rbnd; rw [name_atR h]
theorem base_out (hc : CutR T x) {s s' : RSt} (h : RelR T x s s') : OutR T x (baseR T s) (baseR (T.take x) s') := by
  by_cases ha : s.a < x
  · have hs := h.same ha
    subst hs
    unfold baseR
    rw [tok_cut hc h ha]
    cases kindR (tokR T s') with
    | some k => exact .inl ⟨_, _, _, rfl, rfl, h.next hc ha⟩
    | none => exact rbnd_out (name_outR hc true h) (fun nm s1 s1' _ _ h1 => .inl ⟨_, _, _, rfl, rfl, h1.turn (· ++ [(s'.a, nm)]) id id id⟩)
  · exact .inr (.inl ⟨1, base_at (h.at_ ha).2⟩)
theorem close_outR (hc : CutR T x) : ∀ (n : Nat) (s s' : RSt), RelR T x s s' → OutR T x (closeR T n s) (closeR (T.take x) n s') := by
  intro n
  induction n with
  | zero => intro s s' h; exact .inl ⟨_, _, _, rfl, rfl, h⟩
  | succ n ih => intro s s' h; exact rbnd_out (exp_out hc (by decide) h) (fun _ s1 s1' _ _ h1 => ih s1 s1' h1)
theorem typ_outR (hc : CutR T x) {un : Bool} {s s' : RSt} (h : RelR T x s s') : OutR T x (typR T un s) (typR (T.take x) un s') := by
  by_cases ha : s.a < x
  · have hs := h.same ha
    subst hs
    unfold typR
    refine rbnd_outL (lists_outR hc 3 0 s' s' h (Nat.le_refl _)) (fun nest s1 s1' _ _ h1 => ?_) (fun nest s1' h1 => ⟨1, by unfold rbnd; rw [base_at h1]⟩)
    refine rbnd_out (base_out hc h1) (fun kd s2 s2' _ _ h2 => ?_)
    split
    · exact .inr (.inr ⟨_, _, rfl, ha⟩)
    · exact rbnd_out (close_outR hc nest s2 s2' h2) (fun _ s3 s3' _ _ h3 => .inl ⟨_, _, _, rfl, rfl, h3⟩)
  · have h1 := (h.at_ ha).2
    refine .inr (.inl ⟨1, ?_⟩)
    unfold typR
    have e : listsR (T.take x) s'.a 3 0 s' = .ok (0, s') := by
      unfold listsR; rw [tok_at h1, if_neg (fun e => LIST_ne e.symm)]
    unfold rbnd
    rw [e]
    simp only [base_at h1]
theorem value_at {k : Nat} {s' : RSt} (h : AtR x s') : ∃ c, valueR (T.take x) k s' = .error (x, c) := by
  unfold valueR
  rw [tok_at h]
  split
  · exact ⟨7, by rw [h.1]⟩
  · rw [if_neg (by decide), if_neg (by intro h; rcases h.2 with h | h <;> cases h), if_pos (.inl rfl)]
    exact ⟨1, by rw [h.1]⟩
theorem value_out (hc : CutR T x) {k : Nat} {s s' : RSt} (h : RelR T x s s') : OutR T x (valueR T k s) (valueR (T.take x) k s') := by
  by_cases ha : s.a < x
  · have hs := h.same ha
    subst hs
    have hn := h.next hc ha
    unfold valueR
    rw [tok_cut hc h ha]
    by_cases hw : widthN k = 0
    · rw [if_pos hw]; exact .inr (.inr ⟨_, _, rfl, ha⟩)
    · rw [if_neg hw, if_neg hw]
      by_cases h45 : tokR T s' = [45]
      · rw [if_pos h45, if_pos h45]
        by_cases hb : (nextS T s').a < x
        · have hs2 := hn.same hb
          rw [hs2] at hn ⊢
          rw [tok_cut hc hn hb]
          split
          · exact .inr (.inr ⟨_, _, rfl, hb⟩)
          · split
            · exact .inl ⟨_, _, _, rfl, rfl, hn.next hc hb⟩
            · exact .inr (.inr ⟨_, _, rfl, ha⟩)
        · have h2 := (hn.at_ hb).2
          refine .inr (.inl ⟨1, ?_⟩)
          rw [tok_at h2, if_pos (.inl rfl), h2.1]
      · rw [if_neg h45, if_neg h45]
        split
        · exact .inl ⟨_, _, _, rfl, rfl, hn⟩
        · split
          · exact .inr (.inr ⟨_, _, rfl, ha⟩)
          · split
            · exact .inl ⟨_, _, _, rfl, rfl, hn⟩
            · exact .inr (.inr ⟨_, _, rfl, ha⟩)
  · obtain ⟨c, h1⟩ := value_at (T := T) (k := k) (h.at_ ha).2
    exact .inr (.inl ⟨c, h1⟩)
theorem dflt_out (hc : CutR T x) {k : Nat} {s s' : RSt} (h : RelR T x s s') : OutL' T x (dfltR T k s) (dfltR (T.take x) k s') := by
  by_cases ha : s.a < x
  · have hs := h.same ha
    subst hs
    unfold dfltR
    rw [tok_cut hc h ha]
    split
    · exact .inl (value_out hc (h.next hc ha))
    · exact .inl (.inl ⟨_, _, _, rfl, rfl, h⟩)
  · have h1 := (h.at_ ha).2
    refine .inr ⟨(), s', ?_, h1⟩
    unfold dfltR; rw [tok_at h1, if_neg (by decide)]
end
end Go.Proofs.Ygcfad.Plain
