/-
  bind of package rec: what it needs beside its walk.
-/
import Derived.Test.YgcfadRecStrctMem
namespace Go.Proofs.Ygcfad
open Go.RowKit Plain
set_option linter.unusedSimpArgs false
set_option linter.unusedVariables false

theorem Fadg.info5 : (Fadg.prog.info? 5).map (fun i => (i.zero, i.size, i.bytes)) = some (some (.int .u8 0), 1, 1) := by kernel_rfl
theorem Fadg.len209 : (Fadg.prog.info? 209).map (·.size) = some 2 := by kernel_rfl
def rc (x : Nat) : List Value := [.int .u8 (x : Int)]
theorem rc_len (x : Nat) : (rc x).length = 1 := rfl
theorem rc_one (n : Nat) : ∀ x ∈ rc n, x.oneCell' = true := by intro x hx; simp [rc] at hx; subst hx; rfl
/-- The indexes found. -/
def qR (v : Value) (xs : List Nat) : Row := ⟨v, 5, 1, xs.length, xs.flatMap rc⟩
/-- A use in a block of its own. -/
def qW (V : Nat) (u : UR) : Row := ⟨.slice (some ⟨V, 0, none⟩) 1 1, 209, 2, 1, vc u⟩
section
variable {P V g n cap i k : Nat} {T : List Nat} {w0 w w' : World} {M : RM} {rs : List Row} {m : SR} {u : UR} {xs : List Nat} {v : Value}
theorem uc_load (h : RStd P T w0 w M rs) (hv : M.p.uv = .slice (some ⟨g, 0, none⟩) n cap) (hn : n = M.us.length) (hi : M.us[i]? = some u) :
    ∀ t v, [Value.int .i64 (u.a : Int), .string u.b][t]? = some v → w.cell? ((⟨g, i * 2, none⟩ : Addr).add t) = some v := by
  intro t v ht
  have ht2 : t < 2 := by have := (List.getElem?_eq_some_iff.1 ht).1; simpa using this
  have hl := (List.getElem?_eq_some_iff.1 hi).1
  rw [Addr.add_lit, h.okU.at (g := g) (cap := cap) (by show M.p.uv = _; rw [hv, hn]; rfl) (i * 2 + t) (by show _ < M.us.length * 2; omega)]
  show (M.us.flatMap vc)[i * 2 + t]? = _
  rw [flat_get vc_len hi t ht2]
  exact ht
theorem RStd.newW (h : RStd P T w0 w M rs) (u : UR) : RStd P T w0 (w.alloc (.cells #[.int .i64 (u.a : Int), .string u.b] 209)) M (qW w.heap.size u :: rs) :=
  h.more (r := qW w.heap.size u) ((Below.refl _ _).alloc (Nat.le_refl _) _) (World.ownsRow_lit (base := P + 1) (e := 209) (size := 2) w #[.int .i64 (u.a : Int), .string u.b] 1 h.lt (by decide) rfl) (fun g hg => by simp [qW, Value.ownBlock] at hg; omega)
theorem qW_at (h : (qW V u).ok (P + 1) w) : w.cell? ⟨V, 0, none⟩ = some (.int .i64 (u.a : Int)) ∧ w.cell? ⟨V, 1, none⟩ = some (.string u.b) :=
  ⟨h.at (g := V) (cap := 1) rfl 0 (by show 0 < 1 * 2; omega), h.at (g := V) (cap := 1) rfl 1 (by show 1 < 1 * 2; omega)⟩
theorem RStd.nilR (h : RStd P T w0 w M rs) : RStd P T w0 w M (qR (.slice none 0 0) [] :: rs) :=
  h.more (r := qR (.slice none 0 0) []) (Below.refl _ _) (World.ownsRow_nil _ _ _ _) (fun g hg => by simp [qR, Value.ownBlock] at hg)
theorem ownR {nr : Nat} (h : (qR v xs).ok (P + 1) w) (hn : nr = xs.length) : w.ownsRow (P + 1) 5 1 v nr (xs.flatMap rc) := by subst hn; exact h
/-- An index more. -/
theorem RStd.pushR {ao : Option Addr} {n' x : Nat} (h : RStd P T w0 w M (qR v xs :: rs)) (hn : n' = xs.length + 1) (ho : w'.ownsRow (P + 1) 5 1 (.slice ao n' cap) n' (xs.flatMap rc ++ rc x))
    (hg : w.grownBy w' v.ownBlock) (hnew : (Value.slice ao n' cap).ownBlock = v.ownBlock ∨ ∀ g, (Value.slice ao n' cap).ownBlock = some g → w.heap.size ≤ g) :
    RStd P T w0 w' M (qR (.slice ao n' cap) (xs ++ [x]) :: rs) := by
  have e : qR (.slice ao n' cap) (xs ++ [x]) = ⟨.slice ao n' cap, 5, 1, n', xs.flatMap rc ++ rc x⟩ := by unfold qR; simp [hn]
  exact h.turn (r := qR v xs) (r' := qR (.slice ao n' cap) (xs ++ [x])) hg (by rw [e]; exact ho) (by rw [e]; exact hnew)
theorem qR_at {nr : Nat} {x : Nat} (h : (qR (.slice (some ⟨g, 0, none⟩) nr cap) xs).ok (P + 1) w) (hn : nr = xs.length) (hi : xs[i]? = some x) : w.cell? ⟨g, i, none⟩ = some (.int .u8 (x : Int)) := by
  have hl := (List.getElem?_eq_some_iff.1 hi).1
  rw [h.at (g := g) (cap := cap) (by show Value.slice _ nr cap = _; rw [hn]; rfl) i (by show i < xs.length * 1; omega)]
  have := flat_get rc_len hi 0 (by decide)
  rw [Nat.mul_one, Nat.add_zero] at this
  exact this
theorem qR_form {ao : Option Addr} {nr : Nat} (h : (qR (.slice ao nr cap) xs).ok (P + 1) w) (h0 : 0 < xs.length) : ∃ g, ao = some ⟨g, 0, none⟩ := by
  rcases Row.ok.form' h with ⟨ao', cap', hv, h1 | ⟨g2, hg2⟩⟩
  · have : xs.length = 0 := h1
    omega
  · have hv' : (Value.slice ao nr cap) = .slice ao' xs.length cap' := hv
    injection hv' with e1 e2 e3
    exact ⟨g2, by rw [e1, hg2]⟩
theorem qrows_at {pre post : List SR} (hss : M.ss = pre ++ m :: post) : (qrows M rs).Perm (qF m :: qS M :: qU M :: qN M :: ((pre ++ post).map qF ++ rs)) := by
  unfold qrows
  rw [hss, List.map_append, List.map_cons, List.map_append, List.append_assoc, List.append_assoc]
  have h1 : (List.map qF pre ++ (qF m :: List.map qF post ++ rs)).Perm (qF m :: (List.map qF pre ++ (List.map qF post ++ rs))) := List.perm_middle
  exact (((h1.cons _).cons _).cons _).trans ((((List.Perm.swap _ _ _).cons _).cons _).trans (((List.Perm.swap _ _ _).cons _).trans (List.Perm.swap _ _ _)))
theorem setSR_at {pre post : List SR} {m' : SR} (hss : M.ss = pre ++ m :: post) : (setSR M pre.length m').ss = pre ++ m' :: post := by
  show M.ss.set pre.length m' = _; rw [hss]; simp
theorem qS_setSR {pre post : List SR} {m' : SR} (hss : M.ss = pre ++ m :: post) (he : hc m' = hc m) : qS (setSR M pre.length m') = qS M := by
  unfold qS setSR
  simp only [List.length_set]
  rw [hss]
  simp [he]
/-- A field's Ref set. -/
theorem RStd.refd (h : RStd P T w0 w M rs) (hk : M.ss[k]? = some m) {gf nf fcap fd : Nat} (hv : m.fv = .slice (some ⟨gf, 0, none⟩) nf fcap) (hn : nf = m.fl.length) {f : RF} (hf : m.fl[fd]? = some f) (x : Nat) :
    RStd P T w0 (w.setCell ⟨gf, fd * 11 + 3, none⟩ (.int .u8 (x : Int))) (setSR M k { m with fl := m.fl.set fd { f with r := x } }) rs := by
  have hmem : m ∈ M.ss := List.mem_of_getElem? hk
  have hkl := (List.getElem?_eq_some_iff.1 hk).1
  obtain ⟨pre, post, hss, hpl⟩ : ∃ pre post, M.ss = pre ++ m :: post ∧ pre.length = k := by
    refine ⟨M.ss.take k, M.ss.drop (k + 1), ?_, by simp; omega⟩
    have e : M.ss[k] = m := by rw [List.getElem?_eq_getElem hkl] at hk; simpa using hk
    rw [← e, ← List.drop_eq_getElem_cons hkl, List.take_append_drop]
  subst hpl
  have hgb : (qF m).v.ownBlock = some gf := by show m.fv.ownBlock = _; rw [hv]; rfl
  have hgP := ((h.okF hmem).lt hgb).1
  have s1 := (h.sep.perm (qrows_at hss)).store (g := gf) (cap := fcap) (by show m.fv = _; rw [hv, hn]; rfl) (fd * 11 + 3) (.int .u8 (x : Int))
  have e : ({ qF m with xs := (qF m).xs.set (fd * 11 + 3) (.int .u8 (x : Int)) } : Row) = qF { m with fl := m.fl.set fd { f with r := x } } := by
    unfold qF; simp only [List.length_set]; rw [flat_set gc_len hf 3 (by decide) _ (x' := { f with r := x }) rfl]
  rw [e, ← qS_setSR (m' := { m with fl := m.fl.set fd { f with r := x } }) hss rfl] at s1
  have s2 := s1.perm (qrows_at (M := setSR M pre.length { m with fl := m.fl.set fd { f with r := x } }) (setSR_at hss)).symm
  have hP : (w.setCell ⟨gf, fd * 11 + 3, none⟩ (.int .u8 (x : Int))).heap[P]? = w.heap[P]? := Below.heap_setCell w ⟨gf, _, none⟩ _ P (by show P ≠ gf; omega)
  exact ⟨h.p.same hP, by simp [World.setCell]; exact h.lt, s2, ⟨h.wf.ae, h.wf.en, h.wf.sz, h.wf.us, by show (M.ss.set _ _).length ≤ _; rw [List.length_set]; exact h.wf.ss, h.wf.ns, h.wf.c0⟩, h.tx, h.bel.setCell (by show P ≤ gf; omega) _⟩
end
/-- What is still to be bound, at struct k, field i: its Refs are among nr. -/
def Pend (nr k i : Nat) (M : RM) : Prop := ∀ k' m', M.ss[k']? = some m' → (k < k' → ∀ f ∈ m'.fl, RefF nr f) ∧ (k' = k → ∀ i' f, i ≤ i' → m'.fl[i']? = some f → RefF nr f)
theorem Pend.start {nr : Nat} {M : RM} (h : RAll M) (hn : M.us.length ≤ nr) : Pend nr 0 0 M := fun k' m' hk =>
  ⟨fun _ f hf => (h m' (List.mem_of_getElem? hk) f hf).2.mono hn, fun _ i' f _ hf => (h m' (List.mem_of_getElem? hk) f (List.mem_of_getElem? hf)).2.mono hn⟩
theorem Pend.next {nr k i : Nat} {M : RM} (h : Pend nr k i M) : Pend nr (k + 1) 0 M := fun k' m' hk =>
  ⟨fun hl f hf => (h k' m' hk).1 (by omega) f hf, fun e i' f _ hf => (h k' m' hk).1 (by omega) f (List.mem_of_getElem? hf)⟩
theorem Pend.step {nr k i : Nat} {M : RM} (h : Pend nr k i M) : Pend nr k (i + 1) M := fun k' m' hk =>
  ⟨fun hl f hf => (h k' m' hk).1 hl f hf, fun e i' f hi hf => (h k' m' hk).2 e i' f (by omega) hf⟩
theorem Pend.set {nr k i : Nat} {M : RM} {m : SR} {f : RF} (h : Pend nr k i M) (hk : M.ss[k]? = some m) : Pend nr k (i + 1) (setSR M k { m with fl := m.fl.set i f }) := by
  intro k' m' hk'
  have hk2 : (M.ss.set k { m with fl := m.fl.set i f })[k']? = some m' := hk'
  rw [List.getElem?_set] at hk2
  by_cases e : k = k'
  · subst e
    rw [if_pos rfl, if_pos (List.getElem?_eq_some_iff.1 hk).1] at hk2
    injection hk2 with hk2
    subst hk2
    refine ⟨fun hl => by omega, fun _ i' f' hi hf' => ?_⟩
    have hf2 : (m.fl.set i f)[i']? = some f' := hf'
    rw [List.getElem?_set, if_neg (by omega)] at hf2
    exact (h k m hk).2 rfl i' f' (by omega) hf2
  · rw [if_neg e] at hk2
    exact ⟨fun hl f hf => (h k' m' hk2).1 hl f hf, fun e' => by omega⟩
theorem bindR_no {names : List (List Nat)} {us : List UR} {j : Nat} {u : UR} (hu : us[j]? = some u) (hn : names.any (· == nats u.b) = false) : bindR names ((us.drop j).map vOf) = some u.a := by
  have hl := (List.getElem?_eq_some_iff.1 hu).1
  have e : us[j] = u := by rw [List.getElem?_eq_getElem hl] at hu; simpa using hu
  rw [List.drop_eq_getElem_cons hl, e, List.map_cons, bindR, if_neg (by show ¬ names.any (· == nats u.b) = true; rw [hn]; decide)]; rfl
theorem bindR_yes {names : List (List Nat)} {us : List UR} {j : Nat} {u : UR} (hu : us[j]? = some u) (hn : names.any (· == nats u.b) = true) : bindR names ((us.drop j).map vOf) = bindR names ((us.drop (j + 1)).map vOf) := by
  have hl := (List.getElem?_eq_some_iff.1 hu).1
  have e : us[j] = u := by rw [List.getElem?_eq_getElem hl] at hu; simpa using hu
  rw [List.drop_eq_getElem_cons hl, e, List.map_cons, bindR, if_pos (by show names.any (· == nats u.b) = true; exact hn)]
/-- What bind leaves. -/
def BindRPost (P : Nat) (w0 : World) (r : Option Nat) (e : Ending) (w' : World) : Prop :=
  match r with
  | some a => e = .returned (.bool false) ∧ RFail P w0 (a, 4) w'
  | none => e = .returned (.bool true) ∧ Below P w0 w'
end Go.Proofs.Ygcfad
