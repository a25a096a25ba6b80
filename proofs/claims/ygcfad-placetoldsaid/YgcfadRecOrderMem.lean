/-
  order of package rec: what it needs beside its walk.
-/
import Derived.Test.YgcfadRecLayout
namespace Go.Proofs.Ygcfad
open Go.RowKit Plain
set_option linter.unusedSimpArgs false
set_option linter.unusedVariables false

/-- The fields sorted, in a block of the call's own. -/
def qX (X n : Nat) (so : List RF) : Row := ⟨.slice (some ⟨X, 0, none⟩) n n, 212, 11, n, so.flatMap gc⟩
def zeroRF : RF := ⟨⟨#[]⟩, 0, 0, 0, 0, 0, 0, 0, false, 0, false⟩
def setSR (M : RM) (k : Nat) (m : SR) : RM := { M with ss := M.ss.set k m }
section
variable {P X n d : Nat} {T : List Nat} {w0 w w' : World} {M : RM} {rs : List Row} {so : List RF} {f g : RF} {pre : List SR} {m m' : SR}
theorem RStd.put1 (h : RStd P T w0 w M (qX X n so :: rs)) (hd : so[d]? = some g) (j : Nat) (hj : j < 11) (v : Value) (hx : gc f = (gc g).set j v) : RStd P T w0 (w.setCell ⟨X, d * 11 + j, none⟩ v) M (qX X n (so.set d f) :: rs) := by
  have := h.store (g := X) (cap := n) rfl (d * 11 + j) v
  have e : ({ qX X n so with xs := (qX X n so).xs.set (d * 11 + j) v } : Row) = qX X n (so.set d f) := by
    unfold qX; simp only; rw [flat_set gc_len hd j hj v hx]
  rw [e] at this; exact this
theorem getR (h : so[d]? = some g) : (so.set d f)[d]? = some f := by
  have hl := (List.getElem?_eq_some_iff.1 h).1
  rw [List.getElem?_set, if_pos rfl, if_pos hl]
/-- A field whole. -/
def putX11 (w : World) (X d : Nat) (f : RF) : World :=
  ((((((((((w.setCell ⟨X, d * 11, none⟩ (.string f.b)).setCell ⟨X, d * 11 + 1, none⟩ (.int .u8 (f.k : Int))).setCell ⟨X, d * 11 + 2, none⟩ (.int .u8 (f.e : Int))).setCell ⟨X, d * 11 + 3, none⟩ (.int .u8 (f.r : Int))).setCell ⟨X, d * 11 + 4, none⟩ (.int .u8 f.ns)).setCell ⟨X, d * 11 + 5, none⟩ (.int .u8 f.q1)).setCell ⟨X, d * 11 + 6, none⟩ (.int .u16 f.q2)).setCell ⟨X, d * 11 + 7, none⟩ (.int .u8 f.q3)).setCell ⟨X, d * 11 + 8, none⟩ (.bool f.q4)).setCell ⟨X, d * 11 + 9, none⟩ (.int .u64 f.d)).setCell ⟨X, d * 11 + 10, none⟩ (.bool f.u)
theorem RStd.put11 (h : RStd P T w0 w M (qX X n so :: rs)) (hd : so[d]? = some g) : RStd P T w0 (putX11 w X d f) M (qX X n (so.set d f) :: rs) := by
  obtain ⟨b, k, e, r, ns, q1, q2, q3, q4, dd, u⟩ := f
  obtain ⟨b', k', e', r', ns', q1', q2', q3', q4', dd', u'⟩ := g
  have h0 := h.put1 (f := ⟨b, k', e', r', ns', q1', q2', q3', q4', dd', u'⟩) hd 0 (by decide) (.string b) rfl
  have d0 := getR (f := ⟨b, k', e', r', ns', q1', q2', q3', q4', dd', u'⟩) hd
  have h1 := h0.put1 (f := ⟨b, k, e', r', ns', q1', q2', q3', q4', dd', u'⟩) d0 1 (by decide) (.int .u8 (k : Int)) rfl
  have d1 := getR (f := ⟨b, k, e', r', ns', q1', q2', q3', q4', dd', u'⟩) d0
  have h2 := h1.put1 (f := ⟨b, k, e, r', ns', q1', q2', q3', q4', dd', u'⟩) d1 2 (by decide) (.int .u8 (e : Int)) rfl
  have d2 := getR (f := ⟨b, k, e, r', ns', q1', q2', q3', q4', dd', u'⟩) d1
  have h3 := h2.put1 (f := ⟨b, k, e, r, ns', q1', q2', q3', q4', dd', u'⟩) d2 3 (by decide) (.int .u8 (r : Int)) rfl
  have d3 := getR (f := ⟨b, k, e, r, ns', q1', q2', q3', q4', dd', u'⟩) d2
  have h4 := h3.put1 (f := ⟨b, k, e, r, ns, q1', q2', q3', q4', dd', u'⟩) d3 4 (by decide) (.int .u8 ns) rfl
  have d4 := getR (f := ⟨b, k, e, r, ns, q1', q2', q3', q4', dd', u'⟩) d3
  have h5 := h4.put1 (f := ⟨b, k, e, r, ns, q1, q2', q3', q4', dd', u'⟩) d4 5 (by decide) (.int .u8 q1) rfl
  have d5 := getR (f := ⟨b, k, e, r, ns, q1, q2', q3', q4', dd', u'⟩) d4
  have h6 := h5.put1 (f := ⟨b, k, e, r, ns, q1, q2, q3', q4', dd', u'⟩) d5 6 (by decide) (.int .u16 q2) rfl
  have d6 := getR (f := ⟨b, k, e, r, ns, q1, q2, q3', q4', dd', u'⟩) d5
  have h7 := h6.put1 (f := ⟨b, k, e, r, ns, q1, q2, q3, q4', dd', u'⟩) d6 7 (by decide) (.int .u8 q3) rfl
  have d7 := getR (f := ⟨b, k, e, r, ns, q1, q2, q3, q4', dd', u'⟩) d6
  have h8 := h7.put1 (f := ⟨b, k, e, r, ns, q1, q2, q3, q4, dd', u'⟩) d7 8 (by decide) (.bool q4) rfl
  have d8 := getR (f := ⟨b, k, e, r, ns, q1, q2, q3, q4, dd', u'⟩) d7
  have h9 := h8.put1 (f := ⟨b, k, e, r, ns, q1, q2, q3, q4, dd, u'⟩) d8 9 (by decide) (.int .u64 dd) rfl
  have d9 := getR (f := ⟨b, k, e, r, ns, q1, q2, q3, q4, dd, u'⟩) d8
  have h10 := h9.put1 (f := ⟨b, k, e, r, ns, q1, q2, q3, q4, dd, u⟩) d9 10 (by decide) (.bool u) rfl
  simp only [List.set_set] at h10
  exact h10
theorem qX_at (h : (qX X n so).ok (P + 1) w) (hl : so.length = n) (hd : so[d]? = some g) (j : Nat) (hj : j < 11) : w.cell? ⟨X, d * 11 + j, none⟩ = (gc g)[j]? := by
  have hl2 := (List.getElem?_eq_some_iff.1 hd).1
  rw [h.at (g := X) (cap := n) rfl (d * 11 + j) (by show _ < n * 11; omega)]
  exact flat_get gc_len hd j hj
theorem qX_fr (h : (qX X n so).ok (P + 1) w) (j : Nat) : w.frozen? ⟨X, j, none⟩ = false := h.fr (g := X) (cap := n) rfl j
/-- The rows with the fields of the last struct ahead. -/
theorem qrows_last (hss : M.ss = pre ++ [m]) : (qrows M rs).Perm (qF m :: qS M :: qU M :: qN M :: (pre.map qF ++ rs)) := by
  unfold qrows
  rw [hss, List.map_append, List.append_assoc]
  have h1 : (pre.map qF ++ ([m].map qF ++ rs)).Perm (qF m :: (pre.map qF ++ rs)) := List.perm_middle
  exact (((h1.cons _).cons _).cons _).trans ((((List.Perm.swap _ _ _).cons _).cons _).trans (((List.Perm.swap _ _ _).cons _).trans (List.Perm.swap _ _ _)))
theorem setSR_ss (hss : M.ss = pre ++ [m]) : (setSR M pre.length m').ss = pre ++ [m'] := by
  show M.ss.set pre.length m' = _; rw [hss]; simp
/-- The cells of a struct. -/
theorem RStd.sCell (h : RStd P T w0 w M rs) {g n cap i : Nat} (hv : M.p.sv = .slice (some ⟨g, 0, none⟩) n cap) (hn : n = M.ss.length) (hi : M.ss[i]? = some m) (j : Nat) (hj : j < 8) : w.cell? ⟨g, i * 8 + j, none⟩ = (hc m)[j]? := by
  have hl : i < M.ss.length := (List.getElem?_eq_some_iff.1 hi).1
  rw [h.okS.at (g := g) (cap := cap) (by show M.p.sv = _; rw [hv, hn]; rfl) (i * 8 + j) (by show _ < M.ss.length * 8; omega)]
  exact flat_get hc_len hi j hj
theorem RStd.sFrz (h : RStd P T w0 w M rs) {g n cap : Nat} (hv : M.p.sv = .slice (some ⟨g, 0, none⟩) n cap) (hn : n = M.ss.length) (j : Nat) : w.frozen? ⟨g, j, none⟩ = false :=
  h.okS.fr (g := g) (cap := cap) (by show M.p.sv = _; rw [hv, hn]; rfl) j
theorem RStd.sFormR (h : RStd P T w0 w M rs) (hn : 0 < M.ss.length) : ∃ g cap, M.p.sv = .slice (some ⟨g, 0, none⟩) M.ss.length cap ∧ P < g := by
  obtain ⟨g, cap, hv⟩ := h.okS.form hn
  have hv' : M.p.sv = .slice (some ⟨g, 0, none⟩) M.ss.length cap := hv
  have := (h.okS.lt (g := g) (by show M.p.sv.ownBlock = _; rw [hv']; rfl)).1
  exact ⟨g, cap, hv', by omega⟩
end
end Go.Proofs.Ygcfad
