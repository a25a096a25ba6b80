/-
  field of package rec: what it needs beside its walk.
-/
import Derived.Test.YgcfadRecValue
namespace Go.Proofs.Ygcfad
open Go.RowKit Plain
set_option linter.unusedSimpArgs false
set_option linter.unusedVariables false

theorem Fadg.info212 : (Fadg.prog.info? 212).map (fun i => (i.zero, i.size, i.bytes)) = some (some (.agg #[.string ⟨#[]⟩, .int .u8 0, .int .u8 0, .int .u8 0, .int .u8 0, .int .u8 0, .int .u16 0, .int .u8 0, .bool false, .int .u64 0, .bool false]), 11, 48) := by kernel_rfl
theorem Fadg.len212 : (Fadg.prog.info? 212).map (·.size) = some 11 := by kernel_rfl
theorem Fadg.info3 : (Fadg.prog.info? 3).map (fun i => (i.zero, i.size, i.bytes)) = some (some (.int .i64 0), 1, 8) := by kernel_rfl
/-- A struct that is being read, in a block of its own. -/
def qB (B : Nat) (m : SR) : Row := ⟨.slice (some ⟨B, 0, none⟩) 1 1, 204, 8, 1, hc m⟩
/-- A field in a block of its own. -/
def qV (V : Nat) (f : RF) : Row := ⟨.slice (some ⟨V, 0, none⟩) 1 1, 212, 11, 1, gc f⟩
/-- A field's Ref is one of the uses. -/
def RefF (n : Nat) (f : RF) : Prop := (f.k = 13 ∨ (f.k = 12 ∧ f.e = 13)) → f.r < n
theorem RefF.mono {n n' : Nat} {f : RF} (h : RefF n f) (hn : n ≤ n') : RefF n' f := fun k => Nat.lt_of_lt_of_le (h k) hn
section
variable {P R B : Nat} {T : List Nat} {w0 w w' : World} {M : RM} {rs : List Row} {m : SR} {f : RF}
theorem RFail.set {x : Nat × Nat} (h : RFail P w0 x w) {j : Nat} {v : Value} (hR : P < R) : RFail P w0 x (w.setCell ⟨R, j, none⟩ v) := by
  obtain ⟨p', h1, h2, h3, h4⟩ := h
  exact ⟨p', h1.same (Below.heap_setCell _ ⟨R, _, none⟩ _ P (by show P ≠ R; omega)), h2, h3, h4.setCell (by show P ≤ R; omega) _⟩
theorem qB_at (h : (qB B m).ok (P + 1) w) (j : Nat) (hj : j < 8) : w.cell? ⟨B, j, none⟩ = (hc m)[j]? := h.at (g := B) (cap := 1) rfl j (by show j < 1 * 8; omega)
theorem qB_fr (h : (qB B m).ok (P + 1) w) (j : Nat) : w.frozen? ⟨B, j, none⟩ = false := h.fr (g := B) (cap := 1) rfl j
theorem qV_at {V : Nat} (h : (qV V f).ok (P + 1) w) (j : Nat) (hj : j < 11) : w.cell? ⟨V, j, none⟩ = (gc f)[j]? := h.at (g := V) (cap := 1) rfl j (by show j < 1 * 11; omega)
theorem qV_fr {V : Nat} (h : (qV V f).ok (P + 1) w) (j : Nat) : w.frozen? ⟨V, j, none⟩ = false := h.fr (g := V) (cap := 1) rfl j
theorem qV_load {V : Nat} (h : (qV V f).ok (P + 1) w) : ∀ j v, [Value.string f.b, .int .u8 (f.k : Int), .int .u8 (f.e : Int), .int .u8 (f.r : Int), .int .u8 f.ns, .int .u8 f.q1, .int .u16 f.q2, .int .u8 f.q3, .bool f.q4, .int .u64 f.d, .bool f.u][j]? = some v → w.cell? ((⟨V, 0, none⟩ : Addr).add j) = some v := by
  intro j v hj
  have hj4 : j < 11 := by have := (List.getElem?_eq_some_iff.1 hj).1; simpa using this
  rw [Addr.add_lit, Nat.zero_add, qV_at h j hj4]
  exact hj
theorem RStd.newV (h : RStd P T w0 w M rs) (f : RF) : RStd P T w0 (w.alloc (.cells #[.string f.b, .int .u8 (f.k : Int), .int .u8 (f.e : Int), .int .u8 (f.r : Int), .int .u8 f.ns, .int .u8 f.q1, .int .u16 f.q2, .int .u8 f.q3, .bool f.q4, .int .u64 f.d, .bool f.u] 212)) M (qV w.heap.size f :: rs) :=
  h.more ((Below.refl _ _).alloc (Nat.le_refl _) _) (World.ownsRow_lit (base := P + 1) (e := 212) (size := 11) w #[.string f.b, .int .u8 (f.k : Int), .int .u8 (f.e : Int), .int .u8 (f.r : Int), .int .u8 f.ns, .int .u8 f.q1, .int .u16 f.q2, .int .u8 f.q3, .bool f.q4, .int .u64 f.d, .bool f.u] 1 h.lt (by decide) rfl) (fun g hg => by simp [qV, Value.ownBlock] at hg; omega)
theorem RStd.setD {V : Nat} (h : RStd P T w0 w M (qV V f :: rs)) (x : Int) : RStd P T w0 (w.setCell ⟨V, 9, none⟩ (.int .u64 x)) M (qV V { f with d := x } :: rs) :=
  h.store (g := V) (cap := 1) rfl 9 (.int .u64 x)
theorem gc_one (f : RF) : ∀ x ∈ gc f, x.oneCell' = true := by
  intro x hx
  simp [gc] at hx
  rcases hx with rfl | rfl | rfl | rfl | rfl | rfl | rfl | rfl | rfl | rfl | rfl <;> rfl
theorem eleven_new (w : World) (f : RF) (g : Nat) (hg : g = w.heap.size) : ∀ j u, (gc f)[j]? = some u → (w.alloc (.cells #[.string f.b, .int .u8 (f.k : Int), .int .u8 (f.e : Int), .int .u8 (f.r : Int), .int .u8 f.ns, .int .u8 f.q1, .int .u16 f.q2, .int .u8 f.q3, .bool f.q4, .int .u64 f.d, .bool f.u] 212)).cell? ((⟨g, 0, none⟩ : Addr).add j) = some u := by
  subst hg
  intro j u hj
  have ho := World.ownsRow_lit (base := 0) (e := 212) (size := 11) w #[.string f.b, .int .u8 (f.k : Int), .int .u8 (f.e : Int), .int .u8 (f.r : Int), .int .u8 f.ns, .int .u8 f.q1, .int .u16 f.q2, .int .u8 f.q3, .bool f.q4, .int .u64 f.d, .bool f.u] 1 (Nat.zero_le _) (by decide) rfl
  have hj4 : j < 11 := by have := (List.getElem?_eq_some_iff.1 hj).1; simpa [gc] using this
  rw [Addr.add_lit, Nat.zero_add, ho.cellAt j (by omega)]
  exact hj
/-- The fields of the struct in hand. -/
theorem RStd.fForm (h : (qF m).ok (P + 1) w) : ∃ ao cap, m.fv = .slice ao m.fl.length cap ∧ (m.fl.length = 0 ∨ ∃ g, ao = some ⟨g, 0, none⟩) := h.form'
theorem qF_at (h : (qF m).ok (P + 1) w) {g n cap j : Nat} (hv : m.fv = .slice (some ⟨g, 0, none⟩) n cap) (hn : n = m.fl.length) (hj : m.fl[j]? = some f) (t : Nat) (ht : t < 11) : w.cell? ⟨g, j * 11 + t, none⟩ = (gc f)[t]? := by
  have hl : j < m.fl.length := (List.getElem?_eq_some_iff.1 hj).1
  rw [h.at (g := g) (cap := cap) (by show m.fv = _; rw [hv, hn]; rfl) (j * 11 + t) (by show _ < m.fl.length * 11; omega)]
  exact flat_get gc_len hj t ht
theorem qF_load (h : (qF m).ok (P + 1) w) {g n cap j : Nat} (hv : m.fv = .slice (some ⟨g, 0, none⟩) n cap) (hn : n = m.fl.length) (hj : m.fl[j]? = some f) :
    ∀ t v, [Value.string f.b, .int .u8 (f.k : Int), .int .u8 (f.e : Int), .int .u8 (f.r : Int), .int .u8 f.ns, .int .u8 f.q1, .int .u16 f.q2, .int .u8 f.q3, .bool f.q4, .int .u64 f.d, .bool f.u][t]? = some v → w.cell? ((⟨g, j * 11, none⟩ : Addr).add t) = some v := by
  intro t v ht
  have ht11 : t < 11 := by have := (List.getElem?_eq_some_iff.1 ht).1; simpa using this
  rw [Addr.add_lit, qF_at h hv hn hj t ht11]
  exact ht
theorem ownFR {v : Value} {n : Nat} (h : (qF m).ok (P + 1) w) (hv : m.fv = v) (hn : n = m.fl.length) : w.ownsRow (P + 1) 212 11 v n (m.fl.flatMap gc) := by
  subst hv hn; exact h
/-- A field appended to the struct in hand. -/
theorem RStd.fielded {ao : Option Addr} {n' cap : Nat} {v : Value} (h : RStd P T w0 w M (qB B m :: qF m :: rs)) (hv : m.fv = v) (hn : n' = m.fl.length + 1) (ho : w'.ownsRow (P + 1) 212 11 (.slice ao n' cap) n' (m.fl.flatMap gc ++ gc f))
    (hg : w.grownBy w' v.ownBlock) (hnew : (Value.slice ao n' cap).ownBlock = v.ownBlock ∨ ∀ g, (Value.slice ao n' cap).ownBlock = some g → w.heap.size ≤ g) :
    RStd P T w0 (w'.setCell ⟨B, 1, none⟩ (.slice ao n' cap)) M (qB B { m with fv := .slice ao n' cap, fl := m.fl ++ [f] } :: qF { m with fv := .slice ao n' cap, fl := m.fl ++ [f] } :: rs) ∧ (qB B m).ok (P + 1) w' := by
  subst hv
  have e : qF { m with fv := .slice ao n' cap, fl := m.fl ++ [f] } = ⟨.slice ao n' cap, 212, 11, n', m.fl.flatMap gc ++ gc f⟩ := by
    unfold qF; simp [hn]
  have h1 : RStd P T w0 w M (qF m :: qB B m :: rs) := h.perm (List.Perm.swap _ _ _)
  have h2 : RStd P T w0 w' M (qF { m with fv := .slice ao n' cap, fl := m.fl ++ [f] } :: qB B m :: rs) := h1.turn hg (by rw [e]; exact ho) (by rw [e]; exact hnew)
  have h3 := h2.perm (List.Perm.swap _ _ _)
  exact ⟨h3.store (g := B) (cap := 1) rfl 1 (.slice ao n' cap), h3.headR⟩
/-- A number appended. -/
def numR (M : RM) (v : Value) (n : Nat) : RM := { M with p := { M.p with nv := v }, ns := M.ns ++ [n] }
theorem qrows_N (M : RM) (rs : List Row) : (qrows M rs).Perm (qN M :: qS M :: qU M :: (M.ss.map qF ++ rs)) := ((List.Perm.swap _ _ _).cons _).trans (List.Perm.swap _ _ _)
theorem RStd.numbered (h : RStd P T w0 w M rs) {ao : Option Addr} {n' cap n : Nat} (hn : n' = M.ns.length + 1) (ho : w'.ownsRow (P + 1) 3 1 (.slice ao n' cap) n' (M.ns.flatMap nc ++ nc n))
    (hg : w.grownBy w' M.p.nv.ownBlock) (hnew : (Value.slice ao n' cap).ownBlock = M.p.nv.ownBlock ∨ ∀ g, (Value.slice ao n' cap).ownBlock = some g → w.heap.size ≤ g) (hu : M.ns.length + 1 ≤ 16) :
    RStd P T w0 (w'.setCell ⟨P, 5, none⟩ (.slice ao n' cap)) (numR M (.slice ao n' cap) n) rs := by
  have hsep := h.sep.perm (qrows_N M rs)
  have hru : (qN M).v.ownBlock ≠ some P := fun e => by have := (h.okN.lt e).1; omega
  have hP : w'.heap[P]? = w.heap[P]? := hg.block P h.lt (fun e => hru e.symm)
  have e' : (qN (numR M (.slice ao n' cap) n)) = ⟨.slice ao n' cap, 3, 1, n', M.ns.flatMap nc ++ nc n⟩ := by
    unfold qN numR; simp only [List.flatMap_append, List.length_append, List.length_singleton, hn]; simp
  have hs2 : Sep (P + 1) w' (qN (numR M (.slice ao n' cap) n) :: qS M :: qU M :: (M.ss.map qF ++ rs)) := hsep.turn (r' := qN (numR M (.slice ao n' cap) n)) hg (by rw [e']; exact ho) (by rw [e']; exact hnew)
  refine ⟨(h.p.same hP).setNv _, by simp [World.setCell]; exact Nat.lt_of_lt_of_le h.lt hg.size, ?_, ⟨h.wf.ae, h.wf.en, h.wf.sz, h.wf.us, h.wf.ss, by show (M.ns ++ [n]).length ≤ 16; simp; omega, h.wf.c0⟩, h.tx, ?_⟩
  · exact (hs2.perm (qrows_N (numR M (.slice ao n' cap) n) rs).symm).setCell (by show P < P + 1; omega) _
  · refine (h.bel.grown hg (Nat.le_of_lt h.lt) (fun q hq => ?_)).setCell (Nat.le_refl P) _
    have := (h.okN.lt hq).1
    omega
theorem RStd.grownN (h : RStd P T w0 w M rs) (hg : w.grownBy w' M.p.nv.ownBlock) : RAt P w' M.p :=
  h.p.same (hg.block P h.lt (fun e => by have := (h.okN.lt e.symm).1; omega))
theorem ownN {v : Value} {n : Nat} (h : (qN M).ok (P + 1) w) (hv : M.p.nv = v) (hn : n = M.ns.length) : w.ownsRow (P + 1) 3 1 v n (M.ns.flatMap nc) := by
  subst hv hn; exact h
end
theorem nc_one (n : Nat) : ∀ x ∈ nc n, x.oneCell' = true := by intro x hx; simp [nc] at hx; subst hx; rfl
theorem one_new (w : World) (v0 : Value) (e g : Nat) (hg : g = w.heap.size) : ∀ j u, [v0][j]? = some u → (w.alloc (.cells #[v0] e)).cell? ((⟨g, 0, none⟩ : Addr).add j) = some u := by
  subst hg
  intro j u hj
  have hj1 : j < 1 := by have := (List.getElem?_eq_some_iff.1 hj).1; simpa using this
  obtain rfl : j = 0 := by omega
  simp at hj; rw [← hj, Addr.add_lit]; simp
/-- What field leaves. -/
def FieldRPost (P : Nat) (T : List Nat) (w0 : World) (M : RM) (B : Nat) (m : SR) (rs : List Row) (r : RR Unit) (e : Ending) (w' : World) : Prop :=
  match r with
  | .error x => e = .returned (.bool false) ∧ RFail P w0 x w'
  | .ok (_, s') => e = .returned (.bool true) ∧ ∃ (M' : RM) (m' : SR) (f : RF), RStd P T w0 w' M' (qB B m' :: qF m' :: rs) ∧ absR M' m'.fl = s' ∧ m'.fl = m.fl ++ [f] ∧ m'.b = m.b ∧ (0 < f.b.size ∧ f.k ≤ 14 ∧ RefF M'.us.length f) ∧ M'.ss = M.ss ∧ M'.p.sv = M.p.sv ∧ M'.ns.length = M.ns.length + 1 ∧ M.us.length ≤ M'.us.length ∧ M.p.at_ + 1 ≤ M'.p.at_
end Go.Proofs.Ygcfad
