/-
  typ of package rec: what it needs beside its walk.
-/
import Derived.Test.YgcfadRecMem
import Derived.Test.YgcfadRecNumber
namespace Go.Proofs.Ygcfad
open Go.RowKit Plain
set_option linter.unusedSimpArgs false
set_option linter.unusedVariables false

/-- A type, its four cells; a block of its own. -/
structure YT where
  k : Nat
  e : Nat
  r : Nat
  ns : Int
def yc (t : YT) : List Value := [.int .u8 (t.k : Int), .int .u8 (t.e : Int), .int .u8 (t.r : Int), .int .u8 t.ns]
def zeroY : YT := ⟨0, 0, 0, 0⟩
def qT (R : Nat) (t : YT) : Row := ⟨.slice (some ⟨R, 0, none⟩) 1 1, 194, 4, 1, yc t⟩
section
variable {P R : Nat} {T : List Nat} {w0 w w' : World} {M : RM} {rs : List Row} {t : YT}
theorem qT_new (w : World) (P : Nat) (hP : P < w.heap.size) (t : YT) : (qT w.heap.size t).ok (P + 1) (w.alloc (.cells #[.int .u8 (t.k : Int), .int .u8 (t.e : Int), .int .u8 (t.r : Int), .int .u8 t.ns] 194)) :=
  World.ownsRow_lit (base := P + 1) (e := 194) (size := 4) w #[.int .u8 (t.k : Int), .int .u8 (t.e : Int), .int .u8 (t.r : Int), .int .u8 t.ns] 1 hP (by decide) rfl
theorem RStd.newT (h : RStd P T w0 w M rs) (t : YT) : RStd P T w0 (w.alloc (.cells #[.int .u8 (t.k : Int), .int .u8 (t.e : Int), .int .u8 (t.r : Int), .int .u8 t.ns] 194)) M (qT w.heap.size t :: rs) :=
  h.more ((Below.refl _ _).alloc (Nat.le_refl _) _) (qT_new w P h.lt t) (fun g hg => by simp [qT, Value.ownBlock] at hg; omega)
theorem qT_cells (h : (qT R t).ok (P + 1) w) : w.cell? ⟨R, 0, none⟩ = some (.int .u8 (t.k : Int)) ∧ w.cell? ⟨R, 1, none⟩ = some (.int .u8 (t.e : Int)) ∧ w.cell? ⟨R, 2, none⟩ = some (.int .u8 (t.r : Int)) ∧ w.cell? ⟨R, 3, none⟩ = some (.int .u8 t.ns) ∧ ∀ j, w.frozen? ⟨R, j, none⟩ = false :=
  ⟨h.at (g := R) (cap := 1) rfl 0 (by show 0 < 1 * 4; decide), h.at (g := R) (cap := 1) rfl 1 (by show 1 < 1 * 4; decide), h.at (g := R) (cap := 1) rfl 2 (by show 2 < 1 * 4; decide), h.at (g := R) (cap := 1) rfl 3 (by show 3 < 1 * 4; decide), fun j => h.fr (g := R) (cap := 1) rfl j⟩
theorem qT_load (h : (qT R t).ok (P + 1) w) : ∀ j v, [Value.int .u8 (t.k : Int), .int .u8 (t.e : Int), .int .u8 (t.r : Int), .int .u8 t.ns][j]? = some v → w.cell? ((⟨R, 0, none⟩ : Addr).add j) = some v := by
  intro j v hj
  have hj4 : j < 4 := by have := (List.getElem?_eq_some_iff.1 hj).1; simpa using this
  rw [Addr.add_lit, Nat.zero_add, h.at (g := R) (cap := 1) rfl j (by show j < 1 * 4; omega)]
  exact hj
def putT (w : World) (R : Nat) (t : YT) : World :=
  (((w.setCell ⟨R, 0, none⟩ (.int .u8 (t.k : Int))).setCell ⟨R, 1, none⟩ (.int .u8 (t.e : Int))).setCell ⟨R, 2, none⟩ (.int .u8 (t.r : Int))).setCell ⟨R, 3, none⟩ (.int .u8 t.ns)
theorem RStd.putT (h : RStd P T w0 w M (qT R t :: rs)) (t' : YT) : RStd P T w0 (putT w R t') M (qT R t' :: rs) := by
  have h1 := h.store (g := R) (cap := 1) rfl 0 (.int .u8 (t'.k : Int))
  have h2 := h1.store (g := R) (cap := 1) rfl 1 (.int .u8 (t'.e : Int))
  have h3 := h2.store (g := R) (cap := 1) rfl 2 (.int .u8 (t'.r : Int))
  exact h3.store (g := R) (cap := 1) rfl 3 (.int .u8 t'.ns)
theorem RFail.putT {x : Nat × Nat} (h : RFail P w0 x w) (hR : P < R) (t' : YT) : RFail P w0 x (putT w R t') := by
  obtain ⟨p', h1, h2, h3, h4⟩ := h
  have hP : (Ygcfad.putT w R t').heap[P]? = w.heap[P]? :=
    ((Below.heap_setCell _ ⟨R, _, none⟩ _ P (by show P ≠ R; omega)).trans ((Below.heap_setCell _ ⟨R, _, none⟩ _ P (by show P ≠ R; omega)).trans ((Below.heap_setCell _ ⟨R, _, none⟩ _ P (by show P ≠ R; omega)).trans (Below.heap_setCell _ ⟨R, _, none⟩ _ P (by show P ≠ R; omega)))))
  have hX : P ≤ R := by omega
  exact ⟨p', h1.same hP, h2, h3, Below.setCell (Below.setCell (Below.setCell (Below.setCell h4 hX _) hX _) hX _) hX _⟩
/-- A use more. -/
def useR (M : RM) (v : Value) (u : UR) : RM := { M with p := { M.p with uv := v }, us := M.us ++ [u] }
theorem qrows_U (M : RM) (rs : List Row) : (qrows M rs).Perm (qU M :: qS M :: qN M :: (M.ss.map qF ++ rs)) := List.Perm.swap _ _ _
theorem RStd.used (h : RStd P T w0 w M rs) {ao : Option Addr} {n' cap : Nat} {u : UR} (hn : n' = M.us.length + 1) (ho : w'.ownsRow (P + 1) 209 2 (.slice ao n' cap) n' (M.us.flatMap vc ++ vc u))
    (hg : w.grownBy w' M.p.uv.ownBlock) (hnew : (Value.slice ao n' cap).ownBlock = M.p.uv.ownBlock ∨ ∀ g, (Value.slice ao n' cap).ownBlock = some g → w.heap.size ≤ g) (hu : M.us.length + 1 ≤ M.p.at_) :
    RStd P T w0 (w'.setCell ⟨P, 4, none⟩ (.slice ao n' cap)) (useR M (.slice ao n' cap) u) rs := by
  have hsep := h.sep.perm (qrows_U M rs)
  have hru : (qU M).v.ownBlock ≠ some P := fun e => by have := (h.okU.lt e).1; omega
  have hP : w'.heap[P]? = w.heap[P]? := hg.block P h.lt (fun e => hru e.symm)
  have e' : (qU (useR M (.slice ao n' cap) u)) = ⟨.slice ao n' cap, 209, 2, n', M.us.flatMap vc ++ vc u⟩ := by
    unfold qU useR; simp only [List.flatMap_append, List.length_append, List.length_singleton, hn]; simp
  have hs2 : Sep (P + 1) w' (qU (useR M (.slice ao n' cap) u) :: qS M :: qN M :: (M.ss.map qF ++ rs)) := hsep.turn (r' := qU (useR M (.slice ao n' cap) u)) hg (by rw [e']; exact ho) (by rw [e']; exact hnew)
  refine ⟨(h.p.same hP).setUv _, by simp [World.setCell]; exact Nat.lt_of_lt_of_le h.lt hg.size, ?_, ⟨h.wf.ae, h.wf.en, h.wf.sz, by show (M.us ++ [u]).length ≤ M.p.at_; simp; exact hu, h.wf.ss, h.wf.ns, h.wf.c0⟩, h.tx, ?_⟩
  · exact (hs2.perm (qrows_U (useR M (.slice ao n' cap) u) rs).symm).setCell (by show P < P + 1; omega) _
  · refine (h.bel.grown hg (Nat.le_of_lt h.lt) (fun q hq => ?_)).setCell (Nat.le_refl P) _
    have := (h.okU.lt hq).1
    omega
theorem RStd.grownU (h : RStd P T w0 w M rs) (hg : w.grownBy w' M.p.uv.ownBlock) : RAt P w' M.p :=
  h.p.same (hg.block P h.lt (fun e => by have := (h.okU.lt e.symm).1; omega))
theorem abs_use (M : RM) (v : Value) (a : Nat) (b : ByteArray) (fs : List RF) : absR (useR M v ⟨a, b⟩) fs = { absR M fs with uses := (absR M fs).uses ++ [(a, nats b)] } := by
  unfold absR useR; simp [vOf]
end
theorem vc_one (u : UR) : ∀ x ∈ vc u, x.oneCell' = true := by
  intro x hx
  simp [vc] at hx
  rcases hx with rfl | rfl <;> rfl
theorem two_new (w : World) (v0 v1 : Value) (e g : Nat) (hg : g = w.heap.size) : ∀ j u, [v0, v1][j]? = some u → (w.alloc (.cells #[v0, v1] e)).cell? ((⟨g, 0, none⟩ : Addr).add j) = some u := by
  subst hg
  intro j u hj
  have hj2 : j < 2 := by have := (List.getElem?_eq_some_iff.1 hj).1; simpa using this
  rw [Addr.add_lit]
  match j, hj2, hj with
  | 0, _, hj => simp at hj; rw [← hj]; simp
  | 1, _, hj => simp at hj; rw [← hj]; simp
theorem Fadg.info209 : (Fadg.prog.info? 209).map (fun i => (i.zero, i.size, i.bytes)) = some (some (.agg #[.int .i64 0, .string ⟨#[]⟩]), 2, 24) := by kernel_rfl

/-! ### name, its answer known in the plain -/
section
variable {P : Nat} {T : List Nat} {w0 w : World} {M : RM} {rs : List Row} {fs : List RF} {cap : Bool}
theorem nameR_yes (h : RStd P T w0 w M rs) {nm : List Nat} {s' : RSt} (hn : nameR T cap (absR M fs) = .ok (nm, s')) :
    (Calls Fadg.prog 120 #[.pointer (some ⟨P, 0, none⟩), .bool cap] w fun e w' => e = .returned (.tuple #[.string (tokM M), .bool true]) ∧ RStd P T w0 w' (nextM M) rs ∧ ∃ q, Only P (w.drewN q) w') ∧ nm = nats (tokM M) ∧ s' = absR (nextM M) fs ∧ M.p.at_ < M.p.en ∧ 0 < (tokM M).size := by
  cases hb : bigName (nats (tokM M)) cap with
  | true => rw [abs_name_big h cap fs hb] at hn; cases hn
  | false =>
    cases hi : isNameN (nats (tokM M)) cap with
    | false => rw [abs_nameR_no h cap fs hb hi] at hn; cases hn
    | true =>
      rw [abs_nameR_yes h cap fs hb hi] at hn
      cases hn
      have hne : nats (tokM M) ≠ [] := fun e => by rw [e] at hi; simp [isNameN] at hi
      refine ⟨(nameR_go h cap hb).mono fun e w' h1 => h1.1 hi, rfl, rfl, tok_lt h hne, ?_⟩
      rw [← nats_length]
      exact List.length_pos_iff.2 hne
theorem nameR_no (h : RStd P T w0 w M rs) {x : Nat × Nat} (hn : nameR T cap (absR M fs) = .error x) :
    Calls Fadg.prog 120 #[.pointer (some ⟨P, 0, none⟩), .bool cap] w fun e w' => e = .returned (.tuple #[.string ⟨#[]⟩, .bool false]) ∧ RFail P w0 x w' ∧ ∃ q, Only P (w.drewN q) w' := by
  cases hb : bigName (nats (tokM M)) cap with
  | true => rw [abs_name_big h cap fs hb] at hn; cases hn; exact nameR_big h cap hb
  | false =>
    cases hi : isNameN (nats (tokM M)) cap with
    | false => rw [abs_nameR_no h cap fs hb hi] at hn; cases hn; exact (nameR_go h cap hb).mono fun e w' h1 => h1.2 hi
    | true => rw [abs_nameR_yes h cap fs hb hi] at hn; cases hn
end
end Go.Proofs.Ygcfad
