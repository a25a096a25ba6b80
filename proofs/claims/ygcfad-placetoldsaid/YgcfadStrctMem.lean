/-
  strct: what it needs beside its walk.
-/
import Derived.Test.YgcfadOrder
import Derived.Test.YgcfadSchemaKeeps
namespace Go.Proofs.Ygcfad
open Go.RowKit Plain
set_option linter.unusedSimpArgs false
set_option linter.unusedVariables false

theorem Fadg.info189 : (Fadg.prog.info? 189).map (fun i => (i.zero, i.size, i.bytes)) = some (some (.agg #[.string ⟨#[]⟩, .slice none 0 0, .int .u8 0, .int .u8 0]), 4, 48) := by kernel_rfl
/-- strct, behind its name. -/
def scont (T : List Nat) (k : Nat) (s : St) : Option Unit × St :=
  bnd (onQ (expectQ T 123)) (fun _ => bnd (fieldsS T k (T.length + 1) 0) (fun _ s3 => onQ (expectQ T 125) (orderS k s3.q.a s3))) s
section
variable {T : List Nat} {s : St} {q1 q' : Q} {nm : List Nat} {a : Nat}
theorem strctS_bad (h : ¬ (s.q.t = 97 ∧ wordQ T s.q = STRUCT)) : strctS T s = (none, { s with q := failQ s.q s.q.a 1 }) := by unfold strctS; rw [if_neg h]
theorem strctS_no (h : s.q.t = 97 ∧ wordQ T s.q = STRUCT) (hn : nameQ T true (nextQ T s.q) = (none, q')) : strctS T s = (none, { s with q := q' }) := by unfold strctS; rw [if_pos h, hn]
theorem strctS_yes (h : s.q.t = 97 ∧ wordQ T s.q = STRUCT) (hn : nameQ T true (nextQ T s.q) = (some (nm, a), q1)) : strctS T s = scont T s.names.length
    { s with q := if (builtN nm || s.names.any (· == nm)) = true then failQ (if 4 ≤ s.names.length then failQ q1 a 2 else q1) a 3 else (if 4 ≤ s.names.length then failQ q1 a 2 else q1), names := s.names ++ [nm], fs := [] } := by
  unfold strctS scont; rw [if_pos h, hn]
end
def limS (k a : Nat) (M : MM) : MM := if 4 ≤ k then { M with p := failP M.p a 2 } else M
theorem limS_same (k a : Nat) (M : MM) : (limS k a M).ss = M.ss ∧ (limS k a M).us = M.us ∧ (limS k a M).p.sv = M.p.sv ∧ (limS k a M).p.uv = M.p.uv ∧ (limS k a M).p.at_ = M.p.at_ := by
  unfold limS; split
  · exact ⟨rfl, rfl, (failP_sv _ _ _).1, (failP_sv _ _ _).2.1, (failP_sv _ _ _).2.2.2.1⟩
  · exact ⟨rfl, rfl, rfl, rfl, rfl⟩
theorem dupM_at (d : Bool) (a : Nat) (M : MM) : (dupM d a M).p.at_ = M.p.at_ := by
  unfold dupM; split
  · exact (failP_sv _ _ _).2.2.2.1
  · rfl
theorem nameM_at (M : MM) : (nameM M).p.at_ = (nextP M.p).at_ := by
  unfold nameM nameP; simp only; split
  · rw [(failP_sv (nextP M.p) M.p.at_ 2).2.2.2.1]
  · rfl
theorem abs_limS (k a : Nat) (M : MM) (fs : List (List Nat × Nat)) : absM (limS k a M) fs = { absM M fs with q := if 4 ≤ k then failQ (absM M fs).q a 2 else (absM M fs).q } := by
  unfold limS; split
  · exact absM_fail M fs a 2
  · rfl
def newS (b : ByteArray) : MS := ⟨b, .slice none 0 0, 0, 0, []⟩
/-- A struct more. -/
def addM (M : MM) (v : Value) (b : ByteArray) : MM := { M with p := { M.p with sv := v }, ss := M.ss ++ [newS b] }
theorem abs_addM (M : MM) (v : Value) (b : ByteArray) (fs : List (List Nat × Nat)) : absM (addM M v b) [] = { absM M fs with names := (absM M fs).names ++ [nats b], fs := [] } := by
  unfold absM addM; simp [newS]; rfl
theorem sc_one (u : MS) (h : u.fv = .slice none 0 0) : ∀ x ∈ sc u, x.oneCell' = true := by
  intro x hx
  simp [sc, h] at hx
  rcases hx with rfl | rfl | rfl | rfl <;> rfl
theorem Std.structed {P : Nat} {T : List Nat} {w0 w w' : World} {M : MM} (h : Std P T w0 w M) {ao : Option Addr} {n' cap : Nat} {b : ByteArray} (hn : n' = M.ss.length + 1) (ho : w'.ownsRow (P + 1) 189 4 (.slice ao n' cap) n' (M.ss.flatMap sc ++ sc (newS b)))
    (hg : w.grownBy w' M.p.sv.ownBlock) (hnew : (Value.slice ao n' cap).ownBlock = M.p.sv.ownBlock ∨ ∀ g, (Value.slice ao n' cap).ownBlock = some g → w.heap.size ≤ g) (hu : M.ss.length + 1 ≤ M.p.at_) :
    Std P T w0 (w'.setCell ⟨P, 6, none⟩ (.slice ao n' cap)) (addM M (.slice ao n' cap) b) := by
  have hru : (rS M).v.ownBlock ≠ some P := fun e => by have := ((h.m.sep.1 (rS M) (by simp [rows])).lt e).1; omega
  have hP : w'.heap[P]? = w.heap[P]? := hg.block P h.m.lt (fun e => hru e.symm)
  have e' : (rS (addM M (.slice ao n' cap) b)) = ⟨.slice ao n' cap, 189, 4, n', M.ss.flatMap sc ++ sc (newS b)⟩ := by
    unfold rS addM; simp only [List.flatMap_append, List.length_append, List.length_singleton, hn]; simp
  have hs2 : Sep (P + 1) w' (rS (addM M (.slice ao n' cap) b) :: rU M :: M.ss.map rF) := Sep.turn (r := rS M) h.m.sep (r' := rS (addM M (.slice ao n' cap) b)) hg (by rw [e']; exact ho) (by rw [e']; exact hnew)
  have hs3 : Sep (P + 1) w' (rF (newS b) :: rS (addM M (.slice ao n' cap) b) :: rU M :: M.ss.map rF) := by
    refine ⟨fun x hx => ?_, List.pairwise_cons.2 ⟨fun x hx g h1 h2 => by simp [rF, newS, Value.ownBlock] at h1, hs2.2⟩⟩
    rcases List.mem_cons.1 hx with rfl | hx
    · exact World.ownsRow_nil _ _ _ _
    · exact hs2.1 x hx
  have hs4 : Sep (P + 1) w' (rows (addM M (.slice ao n' cap) b)) := by
    have hp := rows_at (M := addM M (.slice ao n' cap) b) (pre := M.ss) (post := []) (m := newS b) rfl
    rw [List.append_nil] at hp
    exact hs3.perm hp.symm
  refine ⟨⟨set_sv' _ _ (h.m.p.same hP), by simp [World.setCell]; exact Nat.lt_of_lt_of_le h.m.lt hg.size, hs4.setCell (by show P < P + 1; omega) _⟩, ⟨h.wf.ae, h.wf.en, h.wf.sz, h.wf.tok, h.wf.us, by show (M.ss ++ [newS b]).length ≤ M.p.at_; simp; exact hu, h.wf.num⟩, h.tx, ?_⟩
  refine (h.bel.grown hg (Nat.le_of_lt h.m.lt) (fun q hq => ?_)).setCell (Nat.le_refl P) _
  have := ((h.m.sep.1 (rS M) (by simp [rows])).lt hq).1
  omega
theorem Std.grownS {P : Nat} {T : List Nat} {w0 w w' : World} {M : MM} (h : Std P T w0 w M) (hg : w.grownBy w' M.p.sv.ownBlock) : PAt P w' M.p :=
  h.m.p.same (hg.block P h.m.lt (fun e => by have := ((h.m.sep.1 (rS M) (by simp [rows])).lt e.symm).1; omega))

/-- Every use stands at a field that is there. -/
def InU (M : MM) : Prop := ∀ u ∈ M.us, ∃ m, M.ss[u.st]? = some m ∧ u.fd < m.fl.length
def UB (pre : List MS) (n : Nat) (u : U) : Prop := (∃ m, pre[u.2.1]? = some m ∧ u.2.2.1 < m.fl.length) ∨ (u.2.1 = pre.length ∧ u.2.2.1 < n)
theorem UB.of {M : MM} (h : InU M) (n : Nat) : ∀ u ∈ M.us.map uOf, UB M.ss n u := by
  intro u hu
  obtain ⟨u', hu', rfl⟩ := List.mem_map.1 hu
  exact .inl (h u' hu')
theorem UB.step {T : List Nat} {k i : Nat} {pre : List MS} {s : St} (hk : k = pre.length) (h : ∀ u ∈ s.uses, UB pre i u) : ∀ u ∈ (fieldS T k i s).2.uses, UB pre (i + 1) u := by
  refine fieldS_uses (UB pre (i + 1)) (fun a nm => .inr ⟨hk, Nat.lt_succ_self i⟩) fun u hu => ?_
  rcases h u hu with h1 | ⟨h1, h2⟩
  · exact .inl h1
  · exact .inr ⟨h1, by omega⟩
theorem UB.fd {M : MM} {pre : List MS} {n k : Nat} (hk : k = pre.length) (h : ∀ u ∈ M.us.map uOf, UB pre n u) : ∀ u ∈ M.us, u.st = k → u.fd < n := by
  intro u hu e
  rcases h (uOf u) (List.mem_map_of_mem hu) with ⟨m, h1, h2⟩ | ⟨h1, h2⟩
  · have h3 : pre[u.st]? = some m := h1
    rw [e, hk] at h3; simp at h3
  · exact h2
theorem UB.last {M M' : MM} {pre : List MS} {m m' : MS} {n k : Nat} (hk : k = pre.length) (h : ∀ u ∈ M.us.map uOf, UB pre n u) (hm : m.fl.length = n) (hs : M'.ss = pre ++ [m']) (hl : m'.fl.length = m.fl.length)
    (hu : ∀ u' ∈ M'.us, ∃ u ∈ M.us, u'.st = u.st ∧ (u'.fd = u.fd ∨ (u.st = k ∧ u'.fd < m.fl.length))) : InU M' := by
  intro u' hu'
  obtain ⟨u, hu1, h1, h2⟩ := hu u' hu'
  rw [hs, h1]
  rcases h (uOf u) (List.mem_map_of_mem hu1) with ⟨m0, h3, h4⟩ | ⟨h3, h4⟩
  · have h3' : pre[u.st]? = some m0 := h3
    have hlt := (List.getElem?_eq_some_iff.1 h3').1
    refine ⟨m0, by rw [List.getElem?_append_left hlt]; exact h3', ?_⟩
    rcases h2 with h2 | ⟨h2, _⟩
    · rw [h2]; exact h4
    · omega
  · have h3' : u.st = pre.length := h3
    refine ⟨m', by rw [h3']; simp, ?_⟩
    rcases h2 with h2 | ⟨_, h2⟩
    · rw [h2, hl, hm]; exact h4
    · rw [hl]; exact h2
theorem orderS_t (k a : Nat) (s : St) : (orderS k a s).q.t = s.q.t := by
  have hf : ∀ q a c, (failQ q a c).t = q.t := fun q a c => by unfold failQ; split <;> rfl
  unfold orderS
  split
  · rfl
  · split
    · exact hf _ _ _
    · split
      · exact hf _ _ _
      · rfl
theorem fieldsS_end {T : List Nat} {k f i : Nat} {s : St} (h : s.q.t = 125) : fieldsS T k (f + 1) i s = (some (), s) := by rw [fieldsS, if_pos h]
theorem fieldsS_on {T : List Nat} {k f i : Nat} {s : St} (h : ¬ s.q.t = 125) : fieldsS T k (f + 1) i s = bnd (fieldS T k i) (fun _ => fieldsS T k f (i + 1)) s := by rw [fieldsS, if_neg h]
theorem any_names (l : List MS) (nm : List Nat) : (l.map (fun m => nats m.b)).any (· == nm) = l.any (fun m => nats m.b == nm) := by rw [List.any_map]; rfl
/-- What strct leaves. -/
def StrctPost (P : Nat) (T : List Nat) (w0 : World) (r : Option Unit × St) (e : Ending) (w' : World) : Prop :=
  ∃ M' fs', Std P T w0 w' M' ∧ absM M' fs' = r.2 ∧
  match r.1 with
  | none => M'.p.code ≠ 0 ∧ e = .returned (.bool false)
  | some _ => e = .returned (.bool true) ∧ InU M'
end Go.Proofs.Ygcfad
