/-
  strct of package rec: what it needs beside its walk.
-/
import Derived.Test.YgcfadRecOrderMem2
namespace Go.Proofs.Ygcfad
open Go.RowKit Plain
set_option linter.unusedSimpArgs false
set_option linter.unusedVariables false

theorem Fadg.info204 : (Fadg.prog.info? 204).map (fun i => (i.zero, i.size, i.bytes)) = some (some (.agg #[.string ⟨#[]⟩, .slice none 0 0, .int .u8 0, .int .u16 0, .int .u8 0, .bool false, .int .u8 0, .int .u8 0]), 8, 48) := by kernel_rfl
theorem Fadg.len204 : (Fadg.prog.info? 204).map (·.size) = some 8 := by kernel_rfl

/-! ### The plain, cut where the walk is -/
def sconR2 (T nm : List Nat) (s : RSt) : RR Unit :=
  rbnd (bodyR T (T.length + 1)) (fun _ s4 => match orderR s4 with
      | .error x => .error x
      | .ok _ => expR T [125] { s4 with names := s4.names ++ [nm] }) s
def sconR (T nm : List Nat) (s2 : RSt) : RR Unit := rbnd (expR T [123]) (fun _ s3 => sconR2 T nm { s3 with fs := [], num := [] }) s2
section
variable {T nm : List Nat} {s s1 s2 s3 s4 : RSt} {x : Nat × Nat} {u : Unit}
theorem strctR_no1 (h : expR T STRUCT s = .error x) : strctR T s = .error x := rbnd_error h
theorem strctR_no2 (h : expR T STRUCT s = .ok (u, s1)) (h2 : nameR T true s1 = .error x) : strctR T s = .error x := by
  unfold strctR; rw [rbnd_ok h]; exact rbnd_error h2
theorem strctR_lim (h : expR T STRUCT s = .ok (u, s1)) (h2 : nameR T true s1 = .ok (nm, s2)) (hl : 4 ≤ s2.names.length) : strctR T s = .error (s1.a, 2) := by
  unfold strctR; rw [rbnd_ok h, rbnd_ok h2, if_pos hl]
theorem strctR_dup (h : expR T STRUCT s = .ok (u, s1)) (h2 : nameR T true s1 = .ok (nm, s2)) (hl : ¬ 4 ≤ s2.names.length) (hd : (builtR nm || s2.names.any (· == nm)) = true) : strctR T s = .error (s1.a, 3) := by
  unfold strctR; rw [rbnd_ok h, rbnd_ok h2, if_neg hl, if_pos hd]
theorem strctR_con (h : expR T STRUCT s = .ok (u, s1)) (h2 : nameR T true s1 = .ok (nm, s2)) (hl : ¬ 4 ≤ s2.names.length) (hd : (builtR nm || s2.names.any (· == nm)) = false) : strctR T s = sconR T nm s2 := by
  unfold strctR; rw [rbnd_ok h, rbnd_ok h2, if_neg hl, if_neg (by rw [hd]; decide)]; rfl
theorem sconR_no (h : expR T [123] s2 = .error x) : sconR T nm s2 = .error x := rbnd_error h
theorem sconR_go (h : expR T [123] s2 = .ok (u, s3)) : sconR T nm s2 = sconR2 T nm { s3 with fs := [], num := [] } := rbnd_ok h
theorem sconR2_no (h : bodyR T (T.length + 1) s = .error x) : sconR2 T nm s = .error x := rbnd_error h
theorem sconR2_bad (h : bodyR T (T.length + 1) s = .ok (u, s4)) (ho : orderR s4 = .error x) : sconR2 T nm s = .error x := by
  unfold sconR2; rw [rbnd_ok h, ho]
theorem sconR2_go (h : bodyR T (T.length + 1) s = .ok (u, s4)) (ho : orderR s4 = .ok ()) : sconR2 T nm s = expR T [125] { s4 with names := s4.names ++ [nm] } := by
  unfold sconR2; rw [rbnd_ok h, ho]
theorem bodyR_end {f : Nat} (h : tokR T s = [125]) : bodyR T (f + 1) s = .ok ((), s) := by rw [bodyR, if_pos h]
theorem bodyR_uni {f : Nat} (h : ¬ tokR T s = [125]) (hu : tokR T s = UNION) : bodyR T (f + 1) s = rbnd (unionR T) (fun _ => bodyR T f) s := by rw [bodyR, if_neg h, if_pos hu]
theorem bodyR_fld {f : Nat} (h : ¬ tokR T s = [125]) (hu : ¬ tokR T s = UNION) : bodyR T (f + 1) s = rbnd (fieldR T false) (fun _ => bodyR T f) s := by rw [bodyR, if_neg h, if_neg hu]
end

/-! ### Memory -/
def newSR (b : ByteArray) : SR := ⟨b, .slice none 0 0, 0, 0, 0, false, 0, 0, []⟩
/-- Every field of every struct has a known kind, and its Ref among the uses. -/
def RAll (M : RM) : Prop := ∀ m ∈ M.ss, ∀ f ∈ m.fl, f.k ≤ 14 ∧ RefF M.us.length f
def clearN (M : RM) : RM := { M with p := { M.p with nv := .slice none 0 0 }, ns := [] }
def addSR (M : RM) (v : Value) (m : SR) : RM := { M with p := { M.p with sv := v }, ss := M.ss ++ [m] }
section
variable {P B g n cap i : Nat} {T : List Nat} {w0 w w' : World} {M : RM} {rs : List Row} {m : SR} {b : ByteArray}
theorem RStd.newB (h : RStd P T w0 w M rs) (b : ByteArray) : RStd P T w0 (w.alloc (.cells #[.string b, .slice none 0 0, .int .u8 0, .int .u16 0, .int .u8 0, .bool false, .int .u8 0, .int .u8 0] 204)) M (qB w.heap.size (newSR b) :: qF (newSR b) :: rs) := by
  have h1 : RStd P T w0 w M (qF (newSR b) :: rs) := h.more (r := qF (newSR b)) (Below.refl _ _) (World.ownsRow_nil _ _ _ _) (fun g hg => by simp [qF, newSR, Value.ownBlock] at hg)
  exact h1.more (r := qB w.heap.size (newSR b)) ((Below.refl _ _).alloc (Nat.le_refl _) _) (World.ownsRow_lit (base := P + 1) (e := 204) (size := 8) w #[.string b, .slice none 0 0, .int .u8 0, .int .u16 0, .int .u8 0, .bool false, .int .u8 0, .int .u8 0] 1 h.lt (by decide) rfl) (fun g hg => by simp [qB, Value.ownBlock] at hg; omega)
theorem RStd.clearN (h : RStd P T w0 w M rs) : RStd P T w0 (w.setCell ⟨P, 5, none⟩ (.slice none 0 0)) (Go.Proofs.Ygcfad.clearN M) rs := by
  have hs := (h.sep.perm (qrows_N M rs)).tail
  have hs2 : Sep (P + 1) w (qN (Go.Proofs.Ygcfad.clearN M) :: qS M :: qU M :: (M.ss.map qF ++ rs)) := hs.more (r := qN (Go.Proofs.Ygcfad.clearN M)) (Below.refl _ _) (World.ownsRow_nil _ _ _ _) (fun g hg => by simp [qN, Go.Proofs.Ygcfad.clearN, Value.ownBlock] at hg)
  refine ⟨h.p.setNv _, by simp [World.setCell]; exact h.lt, ?_, ⟨h.wf.ae, h.wf.en, h.wf.sz, h.wf.us, h.wf.ss, Nat.zero_le _, h.wf.c0⟩, h.tx, h.bel.setCell (Nat.le_refl P) _⟩
  exact (hs2.perm (qrows_N (Go.Proofs.Ygcfad.clearN M) rs).symm).setCell (by show P < P + 1; omega) _
theorem abs_clear (M : RM) (fs : List RF) : absR (Go.Proofs.Ygcfad.clearN M) [] = { absR M fs with fs := [], num := [] } := rfl
/-- A struct as the program loads it. -/
theorem hc_load (h : RStd P T w0 w M rs) (hv : M.p.sv = .slice (some ⟨g, 0, none⟩) n cap) (hn : n = M.ss.length) (hi : M.ss[i]? = some m) :
    ∀ t v, [Value.string m.b, m.fv, .int .u8 m.g1, .int .u16 m.g2, .int .u8 m.g3, .bool m.g4, .int .u8 m.d, .int .u8 m.p][t]? = some v → w.cell? ((⟨g, i * 8, none⟩ : Addr).add t) = some v := by
  intro t v ht
  have ht8 : t < 8 := by have := (List.getElem?_eq_some_iff.1 ht).1; simpa using this
  rw [Addr.add_lit, h.sCell hv hn hi t ht8]
  exact ht
theorem qB_load (h : (qB B m).ok (P + 1) w) : ∀ t v, [Value.string m.b, m.fv, .int .u8 m.g1, .int .u16 m.g2, .int .u8 m.g3, .bool m.g4, .int .u8 m.d, .int .u8 m.p][t]? = some v → w.cell? ((⟨B, 0, none⟩ : Addr).add t) = some v := by
  intro t v ht
  have ht8 : t < 8 := by have := (List.getElem?_eq_some_iff.1 ht).1; simpa using this
  rw [Addr.add_lit, Nat.zero_add, qB_at h t ht8]
  exact ht
theorem hc_one (m : SR) {ao : Option Addr} {k c : Nat} (h : m.fv = .slice ao k c) : ∀ x ∈ hc m, x.oneCell' = true := by
  intro x hx
  simp [hc, h] at hx
  rcases hx with rfl | rfl | rfl | rfl | rfl | rfl | rfl | rfl <;> rfl
theorem eight_new (w : World) (m : SR) (g : Nat) (hg : g = w.heap.size) : ∀ j u, (hc m)[j]? = some u → (w.alloc (.cells #[.string m.b, m.fv, .int .u8 m.g1, .int .u16 m.g2, .int .u8 m.g3, .bool m.g4, .int .u8 m.d, .int .u8 m.p] 204)).cell? ((⟨g, 0, none⟩ : Addr).add j) = some u := by
  subst hg
  intro j u hj
  have ho := World.ownsRow_lit (base := 0) (e := 204) (size := 8) w #[.string m.b, m.fv, .int .u8 m.g1, .int .u16 m.g2, .int .u8 m.g3, .bool m.g4, .int .u8 m.d, .int .u8 m.p] 1 (Nat.zero_le _) (by decide) rfl
  have hj8 : j < 8 := by have := (List.getElem?_eq_some_iff.1 hj).1; simpa [hc] using this
  rw [Addr.add_lit, Nat.zero_add, ho.cellAt j (by omega)]
  exact hj
theorem ownSR {v : Value} (h : (qS M).ok (P + 1) w) (hv : M.p.sv = v) (hn : n = M.ss.length) : w.ownsRow (P + 1) 204 8 v n (M.ss.flatMap hc) := by
  subst hv hn; exact h
/-- A struct appended: it had its own block, its fields stay where they lie. -/
theorem RStd.structed {ao : Option Addr} {n' : Nat} (h : RStd P T w0 w M (qF m :: rs)) (hn : n' = M.ss.length + 1) (ho : w'.ownsRow (P + 1) 204 8 (.slice ao n' cap) n' (M.ss.flatMap hc ++ hc m))
    (hg : w.grownBy w' M.p.sv.ownBlock) (hnew : (Value.slice ao n' cap).ownBlock = M.p.sv.ownBlock ∨ ∀ g, (Value.slice ao n' cap).ownBlock = some g → w.heap.size ≤ g) (hu : M.ss.length + 1 ≤ 4) :
    RStd P T w0 (w'.setCell ⟨P, 3, none⟩ (.slice ao n' cap)) (addSR M (.slice ao n' cap) m) rs := by
  have hru : (qS M).v.ownBlock ≠ some P := fun e => by have := (h.okS.lt e).1; omega
  have hP : w'.heap[P]? = w.heap[P]? := hg.block P h.lt (fun e => hru e.symm)
  have e' : (qS (addSR M (.slice ao n' cap) m)) = ⟨.slice ao n' cap, 204, 8, n', M.ss.flatMap hc ++ hc m⟩ := by
    unfold qS addSR; simp only [List.flatMap_append, List.length_append, List.length_singleton, hn]; simp
  have hs2 : Sep (P + 1) w' (qS (addSR M (.slice ao n' cap) m) :: qU M :: qN M :: (M.ss.map qF ++ qF m :: rs)) := Sep.turn (r := qS M) h.sep (r' := qS (addSR M (.slice ao n' cap) m)) hg (by rw [e']; exact ho) (by rw [e']; exact hnew)
  have hq : qS (addSR M (.slice ao n' cap) m) :: qU M :: qN M :: (M.ss.map qF ++ qF m :: rs) = qrows (addSR M (.slice ao n' cap) m) rs := by
    unfold qrows
    rw [show (addSR M (.slice ao n' cap) m).ss = M.ss ++ [m] from rfl, List.map_append, List.append_assoc]; rfl
  rw [hq] at hs2
  refine ⟨(h.p.same hP).setSv _, by simp [World.setCell]; exact Nat.lt_of_lt_of_le h.lt hg.size, hs2.setCell (by show P < P + 1; omega) _, ⟨h.wf.ae, h.wf.en, h.wf.sz, h.wf.us, by show (M.ss ++ [m]).length ≤ 4; simp; omega, h.wf.ns, h.wf.c0⟩, h.tx, ?_⟩
  refine (h.bel.grown hg (Nat.le_of_lt h.lt) (fun q hq => ?_)).setCell (Nat.le_refl P) _
  have := (h.okS.lt hq).1
  omega
theorem RStd.grownS (h : RStd P T w0 w M rs) (hg : w.grownBy w' M.p.sv.ownBlock) : RAt P w' M.p :=
  h.p.same (hg.block P h.lt (fun e => by have := (h.okS.lt e.symm).1; omega))
theorem abs_addSR (M : RM) (v : Value) (m : SR) (fs : List RF) : absR (addSR M v m) fs = { absR M fs with names := (absR M fs).names ++ [nats m.b] } := by
  unfold absR addSR; simp
theorem order_add (M : RM) (v : Value) (m : SR) (fs : List RF) : orderR (absR (addSR M v m) fs) = orderR (absR M fs) := rfl
theorem any_namesR (l : List SR) (nm : List Nat) : (l.map (fun m => nats m.b)).any (· == nm) = l.any (fun m => nats m.b == nm) := by rw [List.any_map]; rfl
/-- The last struct turned, and its name kept: nothing of it is seen in the plain. -/
theorem abs_setSR {k : Nat} {m' : SR} {fs : List RF} (hk : M.ss[k]? = some m) (hb : m'.b = m.b) : absR (setSR M k m') fs = absR M fs := by
  have e : (M.ss.set k m').map (fun m => nats m.b) = M.ss.map (fun m => nats m.b) := by
    rw [List.map_set]
    apply list_set_self
    rw [List.getElem?_map, hk, hb]; rfl
  unfold absR setSR; simp only [e]
theorem RAll.set {k : Nat} {m' : SR} {M0 : RM} (h : RAll M0) (hss : M.ss = M0.ss ++ [m]) (hk : k = M0.ss.length) (hu : M0.us.length ≤ M.us.length) (hm : ∀ f ∈ m'.fl, f.k ≤ 14 ∧ RefF M.us.length f) : RAll (setSR M k m') := by
  intro x hx
  have e : (setSR M k m').ss = M0.ss ++ [m'] := by rw [hk]; exact setSR_ss hss
  rw [e] at hx
  rcases List.mem_append.1 hx with hx | hx
  · intro f hf
    exact ⟨(h x hx f hf).1, (h x hx f hf).2.mono hu⟩
  · rw [List.mem_singleton.1 hx]; exact hm
end
/-- What strct leaves. -/
def StrctRPost (P : Nat) (T : List Nat) (w0 : World) (rs : List Row) (r : RR Unit) (e : Ending) (w' : World) : Prop :=
  match r with
  | .error x => e = .returned (.bool false) ∧ RFail P w0 x w'
  | .ok (_, s') => e = .returned (.bool true) ∧ ∃ (M' : RM) (fs' : List RF), RStd P T w0 w' M' rs ∧ absR M' fs' = s' ∧ RAll M'
end Go.Proofs.Ygcfad
