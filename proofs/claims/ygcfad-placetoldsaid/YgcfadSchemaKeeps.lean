/-
  PLAIN: what every step of the schema's parser keeps.
-/
import Derived.Test.YgcfadSchemaPlain
namespace Go.Proofs.Ygcfad.Plain
set_option linter.unusedSimpArgs false
set_option linter.unusedVariables false

abbrev U := Nat × Nat × Nat × List Nat
/-- A condition on the token in hand and the uses that the steps keep; Ok: where an error may stand. -/
structure Cl (T : List Nat) (k i : Nat) (I : Q → List U → Prop) (Ok : Nat → Nat → Prop) : Prop where
  nx : ∀ q us, I q us → I (nextQ T q) us
  fl : ∀ q us a c, I q us → Ok a c → I (failQ q a c) us
  t0 : ∀ q us, I q us → q.t ≠ 0 → ∀ c, c ≠ 0 → Ok q.a c
  t1 : ∀ q us, I q us → Ok q.a 1
  us : ∀ q us a nm, I q us → Ok a 4 → I q (us ++ [(a, k, i, nm)])

section
variable {T : List Nat} {k i : Nat} {I : Q → List U → Prop} {Ok : Nat → Nat → Prop}
theorem expectQ_keeps (h : Cl T k i I Ok) {x : Nat} {s : St} (hs : I s.q s.uses) : I (onQ (expectQ T x) s).2.q (onQ (expectQ T x) s).2.uses := by
  unfold onQ expectQ
  split
  · exact h.nx _ _ hs
  · exact h.fl _ _ _ _ hs (h.t1 _ _ hs)
theorem expectQ_keeps' (h : Cl T k i I Ok) {x : Nat} {q : Q} {us : List U} (hs : I q us) : I (expectQ T x q).2 us := by
  unfold expectQ
  split
  · exact h.nx _ _ hs
  · exact h.fl _ _ _ _ hs (h.t1 _ _ hs)
theorem nameQ_keeps (h : Cl T k i I Ok) {cap : Bool} {q : Q} {us : List U} (hs : I q us) : I (nameQ T cap q).2 us ∧ ∀ nm a, (nameQ T cap q).1 = some (nm, a) → ∀ c, c ≠ 0 → Ok a c := by
  unfold nameQ
  split
  · rename_i ht
    have ht' : q.t ≠ 0 := by simp at ht; omega
    have hok := h.t0 _ _ hs ht'
    refine ⟨?_, fun nm a e c hc => by simp at e; rw [← e.2]; exact hok c hc⟩
    simp only
    split
    · exact h.fl _ _ _ _ (h.nx _ _ hs) (hok 2 (by decide))
    · exact h.nx _ _ hs
  · exact ⟨h.fl _ _ _ _ hs (h.t1 _ _ hs), fun nm a e => by simp at e⟩
theorem bnd_keeps {α β : Type} {m : St → Option α × St} {f : α → St → Option β × St} {s : St} (hm : I (m s).2.q (m s).2.uses) (hf : ∀ a s', (m s) = (some a, s') → I s'.q s'.uses → I (f a s').2.q (f a s').2.uses) : I (bnd m f s).2.q (bnd m f s).2.uses := by
  unfold bnd
  cases e : m s with
  | mk o s' =>
    rw [e] at hm
    cases o with
    | none => exact hm
    | some a => exact hf a s' e hm
theorem listsS_keeps (h : Cl T k i I Ok) : ∀ (f n : Nat) (s : St), I s.q s.uses → I (listsS T f n s).2.q (listsS T f n s).2.uses ∧ ∀ m, (listsS T f n s).1 = some m → n ≤ m ∧ (n < m → s.q.t = 97) := by
  intro f
  induction f with
  | zero => intro n s hs; exact ⟨hs, fun m e => by simp [listsS] at e⟩
  | succ f ih =>
    intro n s hs
    unfold listsS
    by_cases ht : s.q.t = 97 ∧ wordQ T s.q = LIST
    · rw [if_pos ht]
      refine ⟨bnd_keeps (expectQ_keeps h (h.nx _ _ hs)) (fun a s' _ hs' => (ih (n + 1) s' hs').1), fun m e => ?_⟩
      refine ⟨?_, fun _ => ht.1⟩
      unfold bnd at e
      cases e2 : onQ (expectQ T 40) { s with q := nextQ T s.q } with
      | mk o s2 =>
        rw [e2] at e
        cases o with
        | none => simp at e
        | some a =>
          have hk := expectQ_keeps (x := 40) (s := { s with q := nextQ T s.q }) h (h.nx _ _ hs)
          rw [e2] at hk
          have := ((ih (n + 1) s2 hk).2 m e).1
          omega
    · rw [if_neg ht]
      exact ⟨hs, fun m e => by simp at e; omega⟩
theorem kindS_keeps (h : Cl T k i I Ok) {s : St} (hs : I s.q s.uses) : I (kindS T k i s).2.q (kindS T k i s).2.uses := by
  unfold kindS
  split
  · exact h.nx _ _ hs
  · have hn := nameQ_keeps (cap := true) h hs
    cases e : nameQ T true s.q with
    | mk o q' =>
      rw [e] at hn
      cases o with
      | none => exact hn.1
      | some r =>
        obtain ⟨nm, a⟩ := r
        exact h.us _ _ _ _ hn.1 (hn.2 nm a rfl 4 (by decide))
theorem closeS_keeps (h : Cl T k i I Ok) : ∀ (n : Nat) (s : St), I s.q s.uses → I (closeS T n s).2.q (closeS T n s).2.uses := by
  intro n
  induction n with
  | zero => intro s hs; exact hs
  | succ n ih => intro s hs; exact bnd_keeps (expectQ_keeps h hs) (fun a s' _ hs' => ih s' hs')
theorem typS_keeps (h : Cl T k i I Ok) {s : St} (hs : I s.q s.uses) : I (typS T k i s).2.q (typS T k i s).2.uses := by
  unfold typS
  have hl := listsS_keeps h (T.length + 1) 0 s hs
  refine bnd_keeps hl.1 (fun nest s1 e1 hs1 => ?_)
  refine bnd_keeps (kindS_keeps h hs1) (fun kd s2 _ hs2 => ?_)
  have hb : I (badS nest kd s.q.a s2).q (badS nest kd s.q.a s2).uses := by
    unfold badS
    split
    · rename_i hb
      have h0 : 0 < nest := by omega
      have ht := (hl.2 nest (by rw [e1])).2 h0
      exact h.fl _ _ _ _ hs2 (h.t0 _ _ hs (by omega) 6 (by decide))
    · exact hs2
  exact bnd_keeps (closeS_keeps h nest _ hb) (fun _ s3 _ hs3 => hs3)
/-- field, behind its name. -/
def fbody (T : List Nat) (k i : Nat) (nm : List Nat) (s : St) : Option Unit × St :=
  bnd (onQ (expectQ T 64)) (fun _ s2 =>
    bnd (onQ (expectQ T 48)) (fun _ => bnd (onQ (expectQ T 58)) (fun _ => bnd (typS T k i) (fun kd s5 =>
      onQ (expectQ T 59) { s5 with fs := s5.fs ++ [(nm, kd)], num := if i < 16 then s5.num.set i (valN 0 (wordQ T s2.q)) else s5.num }))) s2) s
theorem fbody_keeps (h : Cl T k i I Ok) {nm : List Nat} {s : St} (hs : I s.q s.uses) : I (fbody T k i nm s).2.q (fbody T k i nm s).2.uses := by
  unfold fbody
  refine bnd_keeps (expectQ_keeps h hs) (fun _ s2 _ hs2 => ?_)
  refine bnd_keeps (expectQ_keeps h hs2) (fun _ s3 _ hs3 => ?_)
  refine bnd_keeps (expectQ_keeps h hs3) (fun _ s4 _ hs4 => ?_)
  refine bnd_keeps (typS_keeps h hs4) (fun _ s5 _ hs5 => ?_)
  exact expectQ_keeps h hs5
/-- Behind the field's name. -/
theorem fieldS_keeps' (h : Cl T k i I Ok) {s : St} (hq : I (nameQ T false s.q).2 s.uses) (hok : ∀ nm a, (nameQ T false s.q).1 = some (nm, a) → ∀ c, c ≠ 0 → Ok a c) : I (fieldS T k i s).2.q (fieldS T k i s).2.uses := by
  unfold fieldS
  cases e : nameQ T false s.q with
  | mk o q' =>
    rw [e] at hq hok
    cases o with
    | none => exact hq
    | some r =>
      obtain ⟨nm, a⟩ := r
      have ho := hok nm a rfl
      have h1 : I (if 16 ≤ i then failQ q' a 2 else q') s.uses := by
        split
        · exact h.fl _ _ _ _ hq (ho 2 (by decide))
        · exact hq
      have h2 : I (if s.fs.any (fun f => f.1 == nm) then failQ (if 16 ≤ i then failQ q' a 2 else q') a 3 else (if 16 ≤ i then failQ q' a 2 else q')) s.uses := by
        split
        · exact h.fl _ _ _ _ h1 (ho 3 (by decide))
        · exact h1
      exact fbody_keeps h h2
theorem fieldS_keeps (h : Cl T k i I Ok) {s : St} (hs : I s.q s.uses) : I (fieldS T k i s).2.q (fieldS T k i s).2.uses :=
  fieldS_keeps' h (nameQ_keeps h hs).1 (nameQ_keeps h hs).2
/-- A field read: its name was there. -/
theorem fieldS_some {s s' : St} {u : Unit} (h : fieldS T k i s = (some u, s')) : s.q.t = 97 ∧ ∃ nm a, nameQ T false s.q = (some (nm, a), (nameQ T false s.q).2) := by
  unfold fieldS at h
  cases e : nameQ T false s.q with
  | mk o q' =>
    rw [e] at h
    cases o with
    | none => simp at h
    | some r =>
      obtain ⟨nm, a⟩ := r
      refine ⟨?_, nm, a, rfl⟩
      unfold nameQ at e
      split at e
      · rename_i ht; simp at ht; exact ht
      · simp at e
end

/-- How far the reading has come. -/
def Far (a0 : Nat) (q : Q) (_ : List U) : Prop := a0 ≤ q.a ∧ q.a ≤ q.e
theorem nextN_far (T : List Nat) (e : Nat) : e ≤ (nextN T e).1 ∧ (nextN T e).1 ≤ (nextN T e).2.1 := by
  have h : e ≤ atN T e := by unfold atN; omega
  unfold nextN
  split
  · exact ⟨h, Nat.le_refl _⟩
  · split
    · dsimp only; omega
    · split
      · dsimp only; omega
      · split <;> (dsimp only; omega)
theorem far_cl (T : List Nat) (k i a0 : Nat) : Cl T k i (Far a0) (fun _ _ => True) where
  nx := fun q us h => by have := nextN_far T q.e; exact ⟨by show a0 ≤ (nextN T q.e).1; have := h.1; have := h.2; omega, this.2⟩
  fl := fun q us a c h _ => by unfold failQ; split <;> exact h
  t0 := fun _ _ _ _ _ _ => trivial
  t1 := fun _ _ _ => trivial
  us := fun _ _ _ _ h _ => h
theorem nameQ_far {T : List Nat} {cap : Bool} {q : Q} {nm : List Nat} {a : Nat} {q' : Q} (h : nameQ T cap q = (some (nm, a), q')) (ht : q.t ≠ 0 → q.a < q.e) : q.a + 1 ≤ q'.a ∧ q'.a ≤ q'.e ∧ q.t = 97 ∧ a = q.a ∧ nm = wordQ T q := by
  unfold nameQ at h
  split at h
  · rename_i h1
    have h97 : q.t = 97 := by simp at h1; exact h1.1
    have := nextN_far T q.e
    have hlt := ht (by omega)
    simp only [Prod.mk.injEq, Option.some.injEq] at h
    obtain ⟨⟨h2, h3⟩, h4⟩ := h
    have hq : q.a + 1 ≤ (nextQ T q).a ∧ (nextQ T q).a ≤ (nextQ T q).e := ⟨by show _ ≤ (nextN T q.e).1; omega, this.2⟩
    have hf : q.a + 1 ≤ (failQ (nextQ T q) q.a 2).a ∧ (failQ (nextQ T q) q.a 2).a ≤ (failQ (nextQ T q) q.a 2).e := by unfold failQ; split <;> exact hq
    refine ⟨?_, ?_, h97, h3.symm, h2.symm⟩
    · rw [← h4]; split
      · exact hf.1
      · exact hq.1
    · rw [← h4]; split
      · exact hf.2
      · exact hq.2
  · simp at h
theorem fieldS_far {T : List Nat} {k i : Nat} {s s' : St} {u : Unit} (h : fieldS T k i s = (some u, s')) (ht : s.q.t ≠ 0 → s.q.a < s.q.e) : s.q.a + 1 ≤ s'.q.a := by
  obtain ⟨h97, nm, a, hn⟩ := fieldS_some h
  have hf := nameQ_far hn ht
  have := fieldS_keeps' (far_cl T k i (s.q.a + 1)) (s := s) ⟨hf.1, hf.2.1⟩ (fun _ _ _ _ _ => trivial)
  rw [h] at this
  exact this.1
/-- The uses that a field brings. -/
def UseIn (B : U → Prop) (_ : Q) (us : List U) : Prop := ∀ u ∈ us, B u
theorem use_cl (T : List Nat) (k i : Nat) (B : U → Prop) (hB : ∀ a nm, B (a, k, i, nm)) : Cl T k i (UseIn B) (fun _ _ => True) where
  nx := fun _ _ h => h
  fl := fun _ _ _ _ h _ => h
  t0 := fun _ _ _ _ _ _ => trivial
  t1 := fun _ _ _ => trivial
  us := fun _ us a nm h _ u hu => by
    rcases List.mem_append.1 hu with hu | hu
    · exact h u hu
    · rw [List.mem_singleton.1 hu]; exact hB a nm
theorem fieldS_uses {T : List Nat} {k i : Nat} {s : St} (B : U → Prop) (hB : ∀ a nm, B (a, k, i, nm)) (h : ∀ u ∈ s.uses, B u) : ∀ u ∈ (fieldS T k i s).2.uses, B u :=
  fieldS_keeps (use_cl T k i B hB) (s := s) h
end Go.Proofs.Ygcfad.Plain
