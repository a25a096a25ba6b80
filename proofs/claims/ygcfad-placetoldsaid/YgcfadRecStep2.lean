/-
  PLAIN: package rec's field, union, struct and text in step; the law of the place.
-/
import Derived.Test.YgcfadRecStep
namespace Go.Proofs.Ygcfad.Plain
set_option linter.unusedSimpArgs false
set_option linter.unusedVariables false

section
variable {T : List Nat} {x : Nat}
theorem fbody_outR (hc : CutR T x) {un : Bool} {nm : List Nat} {s s' : RSt} (h : RelR T x s s') : OutR T x (fbodyR T un nm s) (fbodyR (T.take x) un nm s') := by
  unfold fbodyR
  refine rbnd_out (exp_out hc (by decide) h) (fun _ s2 s2' _ _ h2 => ?_)
  by_cases ha : s2.a < x
  · have hs := h2.same ha
    subst hs
    rw [tok_cut hc h2 ha]
    cases ordR (tokR T s2') with
    | none => exact .inr (.inr ⟨_, _, rfl, ha⟩)
    | some n =>
      refine rbnd_out (exp_out hc (by decide) (h2.next hc ha)) (fun _ s3 s3' _ _ h3 => ?_)
      refine rbnd_out (typ_outR hc h3) (fun k s4 s4' _ _ h4 => ?_)
      refine rbnd_outL (dflt_out hc h4) (fun _ s5 s5' _ _ h5 => ?_) (fun _ s5' h5 => ⟨1, ?_⟩)
      · exact exp_out hc (by decide) (h5.turn id id (fun l => l ++ [n]) (fun l => l ++ [(⟨nm, k, un⟩ : FR)]))
      · exact exp_at (by decide) ⟨h5.1, h5.2⟩
  · have h3 := (h2.at_ ha).2
    refine .inr (.inl ⟨1, ?_⟩)
    rw [tok_at h3]
    show Except.error (s2'.a, 1) = _
    rw [h3.1]
theorem field_atR {un : Bool} {s' : RSt} (h : AtR x s') : fieldR (T.take x) un s' = .error (x, 1) := by
  unfold fieldR rbnd; rw [name_atR h]
theorem field_outR (hc : CutR T x) {un : Bool} {s s' : RSt} (h : RelR T x s s') : OutR T x (fieldR T un s) (fieldR (T.take x) un s') := by
  by_cases ha : s.a < x
  · have hs := h.same ha
    subst hs
    unfold fieldR
    refine rbnd_out (name_outR hc false h) (fun nm s1 s1' _ _ h1 => ?_)
    have e1 : s1'.fs = s1.fs := by rcases h1.eq with ⟨_, e⟩ | ⟨_, e⟩ <;> rw [e]
    rw [e1]
    split
    · exact .inr (.inr ⟨_, _, rfl, ha⟩)
    · split
      · exact .inr (.inr ⟨_, _, rfl, ha⟩)
      · exact fbody_outR hc h1
  · exact .inr (.inl ⟨1, field_atR (h.at_ ha).2⟩)
/-- In step, at a closing brace before x. -/
def OutB (T : List Nat) (x : Nat) (r r' : RR Unit) : Prop :=
  (∃ s1, r = .ok ((), s1) ∧ r' = .ok ((), s1) ∧ RelR T x s1 s1 ∧ s1.a < x) ∨ (∃ c, r' = .error (x, c)) ∨ (∃ y c, r = .error (y, c) ∧ y < x)
theorem step_outB {m m' f f' : RSt → RR Unit} {s s' : RSt} (hm : OutR T x (m s) (m' s')) (hf : ∀ s1 s1', m s = .ok ((), s1) → RelR T x s1 s1' → OutB T x (f s1) (f' s1')) : OutB T x (rbnd m (fun _ => f) s) (rbnd m' (fun _ => f') s') := by
  rcases hm with ⟨a, s1, s1', h1, h2, h3⟩ | ⟨c, h1⟩ | ⟨y, c, h1, h2⟩
  · have e1 : rbnd m (fun _ => f) s = f s1 := by unfold rbnd; rw [h1]
    have e2 : rbnd m' (fun _ => f') s' = f' s1' := by unfold rbnd; rw [h2]
    rw [e1, e2]; exact hf s1 s1' h1 h3
  · exact .inr (.inl ⟨c, by unfold rbnd; rw [h1]⟩)
  · exact .inr (.inr ⟨y, c, by unfold rbnd; rw [h1], h2⟩)
theorem ufields_out (hc : CutR T x) : ∀ (f f' : Nat) (s s' : RSt), RelR T x s s' → T.length < s.a + f → x < s.a + f' → OutB T x (ufieldsR T f s) (ufieldsR (T.take x) f' s') := by
  intro f
  induction f with
  | zero => intro f' s s' h h1 h2; have := h.tk.le; omega
  | succ f ih =>
    intro f' s s' h h1 h2
    obtain ⟨f', rfl⟩ : ∃ g, f' = g + 1 := ⟨f' - 1, by have := h.le; omega⟩
    by_cases ha : s.a < x
    · have hs := h.same ha
      subst hs
      unfold ufieldsR
      rw [tok_cut hc h ha]
      split
      · exact .inl ⟨_, rfl, rfl, h, ha⟩
      · refine step_outB (field_outR hc h) (fun s1 s1' e h3 => ?_)
        have := field_far e
        exact ih f' s1 s1' h3 (by omega) (by omega)
    · have h3 := (h.at_ ha).2
      refine .inr (.inl ⟨1, ?_⟩)
      unfold ufieldsR
      rw [tok_at h3, if_neg (by decide)]
      unfold rbnd; rw [field_atR h3]
theorem union_outR (hc : CutR T x) {s : RSt} (h : RelR T x s s) (ha : s.a < x) : OutR T x (unionR T s) (unionR (T.take x) s) := by
  unfold unionR
  refine rbnd_out (exp_out hc (by decide) (h.next hc ha)) (fun _ s1 s1' _ _ h1 => ?_)
  have e1 : s1'.fs = s1.fs := by rcases h1.eq with ⟨_, e⟩ | ⟨_, e⟩ <;> rw [e]
  by_cases hb : s1.a < x
  · have hs := h1.same hb
    subst hs
    rw [tok_cut hc h1 hb]
    split
    · exact .inr (.inr ⟨_, _, rfl, ha⟩)
    · rcases ufields_out hc (T.length + 1) ((T.take x).length + 1) s1' s1' h1 (by omega) (by simp; have := hc.le; omega) with ⟨s2, k1, k2, k3, k4⟩ | ⟨c, k1⟩ | ⟨y, c, k1, k2⟩
      · refine .inl ⟨(), nextS T s2, nextS (T.take x) s2, ?_, ?_, k3.next hc k4⟩
        · unfold rbnd; rw [k1]
        · unfold rbnd; rw [k2]
      · exact .inr (.inl ⟨c, by unfold rbnd; rw [k1]⟩)
      · exact .inr (.inr ⟨y, c, by unfold rbnd; rw [k1], k2⟩)
  · have h3 := (h1.at_ hb).2
    rw [tok_at h3, e1]
    by_cases hun : s1.fs.any (fun f => f.u) = true
    · refine .inr (.inr ⟨s.a, 8, ?_, ha⟩)
      rw [if_pos (by rw [hun]; simp)]
    · refine .inr (.inl ⟨1, ?_⟩)
      rw [if_neg (by simpa using hun)]
      unfold rbnd ufieldsR
      rw [tok_at h3, if_neg (by decide)]
      unfold rbnd; rw [field_atR h3]
theorem body_outR (hc : CutR T x) : ∀ (f f' : Nat) (s s' : RSt), RelR T x s s' → T.length < s.a + f → x < s.a + f' → OutB T x (bodyR T f s) (bodyR (T.take x) f' s') := by
  intro f
  induction f with
  | zero => intro f' s s' h h1 h2; have := h.tk.le; omega
  | succ f ih =>
    intro f' s s' h h1 h2
    obtain ⟨f', rfl⟩ : ∃ g, f' = g + 1 := ⟨f' - 1, by have := h.le; omega⟩
    by_cases ha : s.a < x
    · have hs := h.same ha
      subst hs
      unfold bodyR
      rw [tok_cut hc h ha]
      split
      · exact .inl ⟨_, rfl, rfl, h, ha⟩
      · by_cases hu : tokR T s' = UNION
        · rw [if_pos hu, if_pos hu]
          refine step_outB (union_outR hc h ha) (fun s1 s1' e h3 => ?_)
          have := union_far (by rw [hu]; exact UNION_ne) e
          exact ih f' s1 s1' h3 (by omega) (by omega)
        · rw [if_neg hu, if_neg hu]
          refine step_outB (field_outR hc h) (fun s1 s1' e h3 => ?_)
          have := field_far e
          exact ih f' s1 s1' h3 (by omega) (by omega)
    · have h3 := (h.at_ ha).2
      refine .inr (.inl ⟨1, ?_⟩)
      unfold bodyR
      rw [tok_at h3, if_neg (by decide), if_neg (fun e => UNION_ne e.symm)]
      unfold rbnd; rw [field_atR h3]
theorem strct_outR (hc : CutR T x) {s : RSt} (h : RelR T x s s) (ha : s.a < x) : OutR T x (strctR T s) (strctR (T.take x) s) := by
  unfold strctR
  refine rbnd_out (exp_out hc (by decide) h) (fun _ s1 s1' _ _ h1 => ?_)
  by_cases hb : s1.a < x
  · have hs := h1.same hb
    subst hs
    refine rbnd_out (name_outR hc true h1) (fun nm s2 s2' _ _ h2 => ?_)
    have e1 : s2'.names = s2.names := by rcases h2.eq with ⟨_, e⟩ | ⟨_, e⟩ <;> rw [e]
    rw [e1]
    split
    · exact .inr (.inr ⟨_, _, rfl, hb⟩)
    · split
      · exact .inr (.inr ⟨_, _, rfl, hb⟩)
      · refine rbnd_out (exp_out hc (by decide) h2) (fun _ s3 s3' _ _ h3 => ?_)
        have h3' : RelR T x { s3 with fs := [], num := [] } { s3' with fs := [], num := [] } := h3.turn id id (fun _ => []) (fun _ => [])
        rcases body_outR hc (T.length + 1) ((T.take x).length + 1) _ _ h3' (by omega) (by simp; have := hc.le; have := h3.le; omega) with ⟨s4, k1, k2, k3, k4⟩ | ⟨c, k1⟩ | ⟨y, c, k1, k2⟩
        · unfold rbnd
          rw [k1, k2]
          simp only
          cases eo : orderR s4 with
          | error z =>
            rcases order_err eo with rfl | rfl
            · exact .inr (.inr ⟨_, _, rfl, k4⟩)
            · exact .inr (.inr ⟨_, _, rfl, k4⟩)
          | ok _ => exact exp_out hc (by decide) (k3.turn id (fun l => l ++ [nm]) id id)
        · exact .inr (.inl ⟨c, by unfold rbnd; rw [k1]⟩)
        · exact .inr (.inr ⟨y, c, by unfold rbnd; rw [k1], k2⟩)
  · refine .inr (.inl ⟨1, ?_⟩)
    unfold rbnd; rw [name_atR (h1.at_ hb).2]
theorem top_outR (hc : CutR T x) : ∀ (f f' : Nat) (s s' : RSt), RelR T x s s' → InvR T s.a s.e s.uses → T.length < s.a + f → x < s.a + f' → (∃ c, topR (T.take x) f' s' = .error (x, c)) ∨ (∃ s1', topR (T.take x) f' s' = .ok ((), s1')) ∨ (∃ y c, topR T f s = .error (y, c) ∧ y < x) := by
  intro f
  induction f with
  | zero => intro f' s s' h hi h1 h2; have := h.tk.le; omega
  | succ f ih =>
    intro f' s s' h hi h1 h2
    obtain ⟨f', rfl⟩ : ∃ g, f' = g + 1 := ⟨f' - 1, by have := h.le; omega⟩
    by_cases ha : s.a < x
    · have hs := h.same ha
      subst hs
      unfold topR
      rw [tok_cut hc h ha]
      by_cases ht : tokR T s' = []
      · rw [if_pos ht, if_pos ht]; exact .inr (.inl ⟨_, rfl⟩)
      · rw [if_neg ht, if_neg ht]
        rcases strct_outR hc h ha with ⟨u, s1, s1', k1, k2, k3⟩ | ⟨c, k1⟩ | ⟨y, c, k1, k2⟩
        · have e1 : rbnd (strctR T) (fun _ => topR T f) s' = topR T f s1 := by unfold rbnd; rw [k1]
          have e2 : rbnd (strctR (T.take x)) (fun _ => topR (T.take x) f') s' = topR (T.take x) f' s1' := by unfold rbnd; rw [k2]
          rw [e1, e2]
          have hk := strct_keep (T := T) hi
          rw [k1] at hk
          have := strct_far hi k1
          exact ih f' s1 s1' k3 hk (by omega) (by omega)
        · exact .inl ⟨c, by unfold rbnd; rw [k1]⟩
        · exact .inr (.inr ⟨y, c, by unfold rbnd; rw [k1], k2⟩)
    · have h3 := (h.at_ ha).2
      refine .inr (.inl ⟨s', ?_⟩)
      unfold topR; rw [tok_at h3, if_pos rfl]
theorem startR_rel (hc : CutR T x) : RelR T x (startR T) (startR (T.take x)) := by
  have hxl := hc.le
  obtain ⟨m, hm⟩ := hc
  have h0 := tkR_mono T (Nat.zero_le m)
  have e0 : tkR T 0 = nextR T 0 := rfl
  rw [← hm, e0] at h0
  refine ⟨⟨0, rfl⟩, ?_⟩
  by_cases hlt : (nextR T 0).1 < x
  · refine .inl ⟨hlt, ?_⟩
    have hb2 := tkR_before T (n := 0) (m := m) (by rw [← hm, e0]; exact hlt)
    rw [← hm, e0] at hb2
    have := nextR_cut (Nat.zero_le _) hxl hlt hb2.1
    unfold startR nextS
    rw [this]
  · have hx : (nextR T 0).1 = x := by omega
    refine .inr ⟨hx, ?_⟩
    have := nextR_cut_end (Nat.zero_le _) hxl (by omega)
    unfold startR nextS
    rw [this]
    simp only [hx]
end
theorem recN_ok {T : List Nat} {s : RSt} (hl : T.length ≤ 4096) (h : topR T (T.length + 1) (startR T) = .ok ((), s)) : (recN T).2 = 0 ∨ (recN T).2 = 4 := by
  unfold recN
  rw [if_neg (by omega), h]
  simp only
  cases bindR s.names s.uses with
  | none => exact .inl rfl
  | some a => exact .inr rfl
theorem recN_err {T : List Nat} {z : Err} (hl : T.length ≤ 4096) (h : topR T (T.length + 1) (startR T) = .error z) : recN T = z := by
  unfold recN
  rw [if_neg (by omega), h]
/-- What RecPlace asks of the answer. -/
theorem rec_law (T : List Nat) : (recN T).1 ≤ T.length ∧ ((recN T).2 = 0 → (recN T).1 = 0) ∧ ((recN T).2 ≠ 0 →
    ((recN T).1 = T.length ∧ ((recN T).2 = 1 ∨ (recN T).2 = 7) ∨ (recN T).1 < T.length ∧ ((recN T).1 = 0 ∨ (blankN (T.getD (recN T).1 0) = false ∧ T.getD (recN T).1 0 ≠ 35))) ∧
    ((recN (T.take (recN T).1)).2 = 0 ∨ (recN (T.take (recN T).1)).2 = 4 ∨ (recN (T.take (recN T).1)).1 = (recN T).1)) := by
  by_cases hl : T.length ≤ 4096
  · by_cases h0 : (recN T).2 = 0
    · have hz : recN T = (0, 0) := by
        cases e : topR T (T.length + 1) (startR T) with
        | error z =>
          have hk := top_keep (T.length + 1) (startR T) (startR_inv (T := T))
          rw [e] at hk
          have h1 := recN_err hl e
          rw [h1] at h0
          exact absurd h0 hk.2.2
        | ok r =>
          obtain ⟨u, s⟩ := r
          unfold recN at h0 ⊢
          rw [if_neg (by omega), e] at h0 ⊢
          simp only at h0 ⊢
          cases eb : bindR s.names s.uses with
          | none => rfl
          | some a => rw [eb] at h0; cases h0
      rw [hz]
      exact ⟨Nat.zero_le _, fun _ => rfl, fun h => absurd rfl h⟩
    · have hp := recN_place hl h0
      obtain ⟨x, c, hr⟩ : ∃ x c, recN T = (x, c) := ⟨_, _, rfl⟩
      rw [hr] at hp h0 ⊢
      have hc : CutR T x := hp.1
      refine ⟨hc.le, fun h => absurd h h0, fun _ => ⟨?_, ?_⟩⟩
      · by_cases hx : x = T.length
        · exact .inl ⟨hx, hp.2.1 hx⟩
        · have hle := hc.le
          obtain ⟨m, hm⟩ := hc
          have hlt : x < T.length := by omega
          have := (tkR_place T m).1 (by rw [← hm]; exact hlt)
          rw [← hm] at this
          exact .inr ⟨hlt, .inr this⟩
      · have hl2 : (T.take x).length ≤ 4096 := by simp; omega
        rcases top_outR hc (T.length + 1) ((T.take x).length + 1) (startR T) (startR (T.take x)) (startR_rel hc) (startR_inv (T := T)) (by omega) (by simp; have := hc.le; omega) with ⟨c', k1⟩ | ⟨s1, k1⟩ | ⟨y, c', k1, k2⟩
        · rw [recN_err hl2 k1]; exact .inr (.inr rfl)
        · rcases recN_ok hl2 k1 with h | h
          · exact .inl h
          · exact .inr (.inl h)
        · have := recN_err hl k1
          rw [hr] at this
          have : x = y := congrArg Prod.fst this
          omega
  · have e : recN T = (0, 2) := by unfold recN; rw [if_pos (by omega)]
    rw [e]
    refine ⟨Nat.zero_le _, fun _ => rfl, fun _ => ⟨.inr ⟨by show 0 < T.length; omega, .inl rfl⟩, .inl ?_⟩⟩
    rw [List.take_zero]; rfl
end Go.Proofs.Ygcfad.Plain
