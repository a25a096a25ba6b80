/-
  THE SCHEMA IN MEMORY, second part: the cells of structs, fields and uses; what a store and an append leave.
-/
import Derived.Test.YgcfadTyp
import Derived.Laws.OwnMore
import Derived.Deep.RegionLawGrows
namespace Go.Proofs.Ygcfad
open Go.RowKit Plain
set_option linter.unusedSimpArgs false
set_option linter.unusedVariables false

section
variable {α : Type} {f : α → List Value} {c : Nat}
theorem flat_length (hf : ∀ x, (f x).length = c) (L : List α) : (L.flatMap f).length = L.length * c := by
  induction L with
  | nil => simp
  | cons x L ih => rw [List.flatMap_cons, List.length_append, ih, hf, List.length_cons, Nat.add_mul]; omega
theorem flat_get (hf : ∀ x, (f x).length = c) {L : List α} {i : Nat} {x : α} (hi : L[i]? = some x) (j : Nat) (hj : j < c) : (L.flatMap f)[i * c + j]? = (f x)[j]? := by
  induction L generalizing i with
  | nil => simp at hi
  | cons y L ih =>
    rw [List.flatMap_cons]
    cases i with
    | zero =>
      simp at hi; subst hi
      rw [Nat.zero_mul, Nat.zero_add, List.getElem?_append_left (by rw [hf]; exact hj)]
    | succ i =>
      simp at hi
      rw [List.getElem?_append_right (by rw [hf, Nat.add_mul]; omega), hf, ← ih hi]
      congr 1
      rw [Nat.add_mul]; omega
theorem flat_set (hf : ∀ x, (f x).length = c) {L : List α} {i : Nat} {x x' : α} (hi : L[i]? = some x) (j : Nat) (hj : j < c) (v : Value) (hx : f x' = (f x).set j v) : (L.flatMap f).set (i * c + j) v = (L.set i x').flatMap f := by
  induction L generalizing i with
  | nil => simp at hi
  | cons y L ih =>
    rw [List.flatMap_cons]
    cases i with
    | zero =>
      simp at hi; subst hi
      rw [Nat.zero_mul, Nat.zero_add, List.set_append_left _ _ (by rw [hf]; exact hj), List.set_cons_zero, List.flatMap_cons, hx]
    | succ i =>
      simp at hi
      rw [List.set_append_right _ _ (by rw [hf, Nat.add_mul]; omega), hf, List.set_cons_succ, List.flatMap_cons, ← ih hi]
      congr 2
      rw [Nat.add_mul]; omega
end
theorem sc_len (x : MS) : (sc x).length = 4 := rfl
theorem fc_len (x : MF) : (fc x).length = 9 := rfl
theorem uc_len (x : MU) : (uc x).length = 4 := rfl

section
variable {B : Nat} {w w' : World}
theorem Row.ok.form {r : Row} (h : r.ok B w) (hn : 0 < r.n) : ∃ g cap, r.v = .slice (some ⟨g, 0, none⟩) r.n cap := by
  rcases h.2 with ⟨_, h0⟩ | ⟨g, cap, cur, hv, _⟩
  · omega
  · exact ⟨g, cap, hv⟩
theorem Row.ok.form' {r : Row} (h : r.ok B w) : ∃ ao cap, r.v = .slice ao r.n cap ∧ (r.n = 0 ∨ ∃ g, ao = some ⟨g, 0, none⟩) := by
  rcases h.2 with ⟨hv, h0⟩ | ⟨g, cap, cur, hv, _⟩
  · exact ⟨none, 0, by rw [hv, h0], .inl h0⟩
  · exact ⟨_, cap, hv, .inr ⟨g, rfl⟩⟩
theorem Row.ok.at {r : Row} (h : r.ok B w) {g cap : Nat} (hv : r.v = .slice (some ⟨g, 0, none⟩) r.n cap) (j : Nat) (hj : j < r.n * r.size) : w.cell? ⟨g, j, none⟩ = r.xs[j]? := by
  unfold Row.ok at h; rw [hv] at h; exact h.cellAt j hj
theorem Row.ok.fr {r : Row} (h : r.ok B w) {g cap : Nat} (hv : r.v = .slice (some ⟨g, 0, none⟩) r.n cap) (j : Nat) : w.frozen? ⟨g, j, none⟩ = false := by
  unfold Row.ok at h; rw [hv] at h; exact h.frozenAt j
/-- A store into the row at the head. -/
theorem Sep.store {r : Row} {rs : List Row} (h : Sep B w (r :: rs)) {g cap : Nat} (hv : r.v = .slice (some ⟨g, 0, none⟩) r.n cap) (j : Nat) (u : Value) : Sep B (w.setCell ⟨g, j, none⟩ u) ({ r with xs := r.xs.set j u } :: rs) := by
  have ho := h.head
  unfold Row.ok at ho; rw [hv] at ho
  have hs := ho.stored j u
  refine h.turn (r' := { r with xs := r.xs.set j u }) ?_ ?_ (.inl rfl)
  · rw [hv]; exact hs.2
  · show World.ownsRow _ _ _ _ r.v _ _
    rw [hv]; exact hs.1
theorem Sep.drop {r : Row} {rs : List Row} (h : Sep B w (r :: rs)) (e size : Nat) : Sep B w (⟨.slice none 0 0, e, size, 0, []⟩ :: rs) := by
  refine ⟨fun x hx => ?_, List.pairwise_cons.2 ⟨fun x hx g h1 h2 => by simp [Value.ownBlock] at h1, h.tail.2⟩⟩
  rcases List.mem_cons.1 hx with rfl | hx
  · exact World.ownsRow_nil _ _ _ _
  · exact h.tail.1 x hx
end

section
variable {P : Nat} {w w' : World} {M : MM}
theorem MAt.rs (h : MAt P w M) : (rS M).ok (P + 1) w := h.sep.1 _ (by simp [rows])
theorem MAt.ru (h : MAt P w M) : (rU M).ok (P + 1) w := h.sep.1 _ (by simp [rows])
theorem MAt.rf (h : MAt P w M) {m : MS} (hm : m ∈ M.ss) : (rF m).ok (P + 1) w := h.sep.1 _ (by unfold rows; exact List.mem_cons_of_mem _ (List.mem_cons_of_mem _ (List.mem_map_of_mem hm)))
/-- The four cells of a struct. -/
theorem MAt.sCells (h : MAt P w M) {g n cap i : Nat} {m : MS} (hv : M.p.sv = .slice (some ⟨g, 0, none⟩) n cap) (hn : n = M.ss.length) (hi : M.ss[i]? = some m) :
    w.cell? ⟨g, i * 4, none⟩ = some (.string m.b) ∧ w.cell? ⟨g, i * 4 + 1, none⟩ = some m.fv ∧ w.cell? ⟨g, i * 4 + 2, none⟩ = some (.int .u8 m.d) ∧ w.cell? ⟨g, i * 4 + 3, none⟩ = some (.int .u8 m.p) := by
  have hl : i < M.ss.length := (List.getElem?_eq_some_iff.1 hi).1
  have k : ∀ j, j < 4 → w.cell? ⟨g, i * 4 + j, none⟩ = (sc m)[j]? := fun j hj => by
    rw [h.rs.at (g := g) (cap := cap) (by show M.p.sv = _; rw [hv, hn]; rfl) (i * 4 + j) (by show _ < M.ss.length * 4; omega)]
    exact flat_get sc_len hi j hj
  exact ⟨k 0 (by decide), k 1 (by decide), k 2 (by decide), k 3 (by decide)⟩
theorem MAt.sFr (h : MAt P w M) {g n cap : Nat} (hv : M.p.sv = .slice (some ⟨g, 0, none⟩) n cap) (hn : n = M.ss.length) (j : Nat) : w.frozen? ⟨g, j, none⟩ = false :=
  h.rs.fr (g := g) (cap := cap) (by show M.p.sv = _; rw [hv, hn]; rfl) j
theorem MAt.sForm (h : MAt P w M) (hn : 0 < M.ss.length) : ∃ g cap, M.p.sv = .slice (some ⟨g, 0, none⟩) M.ss.length cap ∧ P < g := by
  obtain ⟨g, cap, hv⟩ := h.rs.form hn
  have hv' : M.p.sv = .slice (some ⟨g, 0, none⟩) M.ss.length cap := hv
  have := (h.rs.lt (g := g) (by show M.p.sv.ownBlock = _; rw [hv']; rfl)).1
  exact ⟨g, cap, hv', by omega⟩
theorem MAt.fForm (h : MAt P w M) {m : MS} (hm : m ∈ M.ss) : ∃ ao cap, m.fv = .slice ao m.fl.length cap ∧ (m.fl.length = 0 ∨ ∃ g, ao = some ⟨g, 0, none⟩) := (h.rf hm).form'
theorem MAt.fCells (h : MAt P w M) {m : MS} (hm : m ∈ M.ss) {g n cap j : Nat} {f : MF} (hv : m.fv = .slice (some ⟨g, 0, none⟩) n cap) (hn : n = m.fl.length) (hj : m.fl[j]? = some f) (t : Nat) (ht : t < 9) :
    w.cell? ⟨g, j * 9 + t, none⟩ = (fc f)[t]? := by
  have hl : j < m.fl.length := (List.getElem?_eq_some_iff.1 hj).1
  rw [(h.rf hm).at (g := g) (cap := cap) (by show m.fv = _; rw [hv, hn]; rfl) (j * 9 + t) (by show _ < m.fl.length * 9; omega)]
  exact flat_get fc_len hj t ht
theorem MAt.uCells (h : MAt P w M) {g n cap j : Nat} {u : MU} (hv : M.p.uv = .slice (some ⟨g, 0, none⟩) n cap) (hn : n = M.us.length) (hj : M.us[j]? = some u) (t : Nat) (ht : t < 4) :
    w.cell? ⟨g, j * 4 + t, none⟩ = (uc u)[t]? := by
  have hl : j < M.us.length := (List.getElem?_eq_some_iff.1 hj).1
  rw [h.ru.at (g := g) (cap := cap) (by show M.p.uv = _; rw [hv, hn]; rfl) (j * 4 + t) (by show _ < M.us.length * 4; omega)]
  exact flat_get uc_len hj t ht

/-- The rows with the fields of one struct ahead. -/
theorem rows_at {pre post : List MS} {m : MS} (hss : M.ss = pre ++ m :: post) : (rows M).Perm (rF m :: rS M :: rU M :: (pre ++ post).map rF) := by
  unfold rows
  rw [hss, List.map_append, List.map_cons, List.map_append]
  have h1 : (List.map rF pre ++ rF m :: List.map rF post).Perm (rF m :: (List.map rF pre ++ List.map rF post)) := List.perm_middle
  refine ((h1.cons (rU M)).cons (rS M)).trans ?_
  exact ((List.Perm.swap _ _ _).cons _).trans (List.Perm.swap _ _ _)
/-- The array of structs, one of them turned. -/
def setS (M : MM) (k : Nat) (m' : MS) : MM := { M with ss := M.ss.set k m' }
theorem rows_setS {pre post : List MS} {m m' : MS} (hss : M.ss = pre ++ m :: post) : (rF m' :: rS (setS M pre.length m') :: rU M :: (pre ++ post).map rF).Perm (rows (setS M pre.length m')) := by
  have e : (setS M pre.length m').ss = pre ++ m' :: post := by show M.ss.set pre.length m' = _; rw [hss]; simp
  exact (rows_at e).symm
/-- A store into a struct's cell. -/
theorem sep_storeS {pre post : List MS} {m m' : MS} {rs : List Row} {g n cap : Nat} (hss : M.ss = pre ++ m :: post) (h : Sep (P + 1) w (rS M :: rs)) (hv : M.p.sv = .slice (some ⟨g, 0, none⟩) n cap) (hn : n = M.ss.length)
    (j : Nat) (hj : j < 4) (u : Value) (hm : sc m' = (sc m).set j u) : Sep (P + 1) (w.setCell ⟨g, pre.length * 4 + j, none⟩ u) (rS (setS M pre.length m') :: rs) := by
  have := h.store (g := g) (cap := cap) (by show M.p.sv = _; rw [hv, hn]; rfl) (pre.length * 4 + j) u
  have e : ({ rS M with xs := (rS M).xs.set (pre.length * 4 + j) u } : Row) = rS (setS M pre.length m') := by
    unfold rS setS
    simp only [List.length_set]
    rw [flat_set sc_len (i := pre.length) (x := m) (x' := m') (by rw [hss]; simp) j hj u hm]
  rw [e] at this
  exact this
end

/-- Append to a row of the call's own, as one step of a region that draws. -/
theorem step_append_sep {B : Nat} (w : World) {ops : Array Oper} {o : Oper} {a : Act} {K : Act → World → Prop} {Q : Exit → Act → World → Prop} {E : Prop} (hgd : o.guard = none) (s x : Operand) (t : TypeId)
    (ho : o.op = .call { callee := .builtin .append, args := #[s, x], argTypes := #[t, t] })
    (e : TypeId) (i : TypeInfo) (z : Value) (size bytes : Nat) (ht : Fadg.prog.underlying t = some (.slice e)) (hi : Fadg.prog.info? e = some i) (hz : i.zero = some z)
    (hsize : i.size = size) (hby : i.bytes = bytes) (hzs : z.cells.size = size) (hsz : 0 < size)
    (v : Value) (n : Nat) (xs : List Value) (hs : a.eval s = v) (hown : w.ownsRow B e size v n xs)
    (ad : Addr) (m c : Nat) (news : List Value) (hx : a.eval x = .slice (some ad) m c) (hl : news.length = m * size) (hnews : ∀ j u, news[j]? = some u → w.cell? (ad.add j) = some u) (h1 : ∀ u ∈ news, u.oneCell' = true)
    (hm0 : 0 < m) (h63 : n + m ≤ 1000000) (hb16 : bytes ≤ 1000)
    (h : ∀ ao n' cap w', Hid (n' = n + m) → w'.ownsRow B e size (.slice ao n' cap) n' (xs ++ news) → w.grownBy w' v.ownBlock → ((Value.slice ao n' cap).ownBlock = v.ownBlock ∨ ∀ g, (Value.slice ao n' cap).ownBlock = some g → w.heap.size ≤ g) → K (a.put o.dst (.slice ao n' cap)) w')
    (hbase : B ≤ w.heap.size) :
    if Region.wanted o (yielded ops a.tmps) = true then Oper.wp Fadg.prog o a w K Q else E := by
  have hbb : (n + m) * bytes ≤ 140737488355328 := Nat.le_trans (Nat.mul_le_mul h63 hb16) (by decide)
  have hmax : n + m ≤ maxLen := by unfold maxLen; omega
  have grows : ∀ (ao : Option Addr) (cap : Nat), v = .slice ao n cap → (ao = none → n = 0 ∧ cap = 0) → (∀ b, ao = some b → ∀ j u, xs[j]? = some u → w.cell? (b.add j) = some u) → cap < n + m → if Region.wanted o (yielded ops a.tmps) = true then Oper.wp Fadg.prog o a w K Q else E := by
    intro ao cap hv hnone holds hfull
    subst hv
    refine step_append_grows hgd s x t ho e i z size bytes ht hi hz hsize hby hzs hsz ao n cap xs hs hnone hown.1 holds ad m c news hx hl hnews h1 hfull hmax hbb fun v' w' o1 g1 => ?_
    have hlt := fun q hq => (World.ownsRow.lt o1 q hq).1
    have o1' : w'.ownsRow B e size v' (n + m) (xs ++ news) := ⟨o1.1, by
      rcases o1.2 with k | ⟨g', cap', cur', k1, k2, k3⟩
      · exact .inl k
      · exact .inr ⟨g', cap', cur', k1, by omega, k3⟩⟩
    obtain ⟨ao', cap', hv''⟩ : ∃ ao' cap', v' = .slice ao' (n + m) cap' := by
      rcases o1.2 with ⟨k1, k2⟩ | ⟨g', cap', cur', k1, _⟩
      · omega
      · exact ⟨_, _, k1⟩
    subst hv''
    exact h ao' _ cap' w' rfl o1' ⟨g1.os, g1.tape, g1.output, g1.size, fun k hk _ => g1.block k hk (by simp)⟩ (.inr hlt)
  rcases hown.2 with ⟨hv, hn0⟩ | ⟨g, cap, cur, hv, hbg, hh, hnc, hcm, hcs, htake⟩
  · exact grows none 0 (by rw [hv, hn0]) (fun _ => ⟨hn0, rfl⟩) (fun b hb => by cases hb) (by omega)
  · by_cases hroom : n + m ≤ cap
    · subst hv
      have hw : Region.wanted o (yielded ops a.tmps) = true := by simp [Region.wanted, hgd]
      rw [if_pos hw]
      obtain ⟨w', hrun, r1, r2⟩ := run_append_fits (P := Fadg.prog) w B t o.type e i size ht hi hsize g n cap xs hown ad m c news hl hnews h1 hroom
      unfold Oper.wp
      simp [execOp, ho, resolve, invoke, builtin, hs, hx, hrun, Result.andThen]
      exact h _ _ _ w' rfl r1 r2 (.inl rfl)
    · exact grows _ cap hv (fun k => by cases k) (fun b hb => by cases hb; exact hown.cells (g := g) (by rw [hv]; rfl)) (by omega)
end Go.Proofs.Ygcfad
