/-
  order's last part in memory: the places written into the fields sorted, the struct turned.
-/
import Derived.Test.YgcfadOrderMem
namespace Go.Proofs.Ygcfad
open Go.RowKit Plain
set_option linter.unusedSimpArgs false
set_option linter.unusedVariables false

theorem plc_len (p : Int × Int × Int × Bool) : (plc p).length = 4 := rfl
def rP (ps : Value) (n : Nat) (pl : List (Int × Int × Int × Bool)) : Row := ⟨ps, 196, 4, n, pl.flatMap plc⟩
/-- The fields sorted and the places beside the parser. -/
structure OT (P : Nat) (T : List Nat) (w0 w : World) (M : MM) (X n : Nat) (so : List MF) (ps : Value) (pl : List (Int × Int × Int × Bool)) : Prop where
  s : Std P T w0 w M
  sep : Sep (P + 1) w (rX X n so :: rP ps n pl :: rows M)
  ls : so.length = n
  lp : pl.length = n
/-- A field with its place. -/
def atP (f : MF) (p : Int × Int × Int × Bool) : MF := { f with q1 := p.1, q2 := p.2.1, q3 := p.2.2.1, q4 := p.2.2.2 }
def putP (w : World) (X d : Nat) (p : Int × Int × Int × Bool) : World :=
  (((w.setCell ⟨X, d * 9 + 5, none⟩ (.int .u8 p.1)).setCell ⟨X, d * 9 + 6, none⟩ (.int .u16 p.2.1)).setCell ⟨X, d * 9 + 7, none⟩ (.int .u8 p.2.2.1)).setCell ⟨X, d * 9 + 8, none⟩ (.bool p.2.2.2)

section
variable {P X Y n d : Nat} {T : List Nat} {w0 w w' : World} {M M' : MM} {so : List MF} {ts : List MT} {ps : Value} {pl : List (Int × Int × Int × Bool)}
theorem OT.of (h : OS P T w0 w M X Y n so ts) (hb : Below w.heap.size w w') (ho : w'.ownsRow w.heap.size 196 4 ps n (pl.flatMap plc)) (hl : pl.length = n) : OT P T w0 w' M X n so ps pl := by
  have hP : P + 1 ≤ w.heap.size := h.s.m.lt
  have s1 : Sep (P + 1) w' (rP ps n pl :: rX X n so :: rY Y n ts :: rows M) := h.sep.more hb (r := rP ps n pl) (⟨ho.1, ho.2.imp id (fun ⟨g, cap, cur, a, b, c⟩ => ⟨g, cap, cur, a, Nat.le_trans hP b, c⟩)⟩) (fun g hg => (World.ownsRow.lt ho g hg).1)
  have s2 : Sep (P + 1) w' (rY Y n ts :: rX X n so :: rP ps n pl :: rows M) := s1.perm (((List.Perm.swap _ _ _).trans ((List.Perm.swap _ _ _).cons _)).trans (List.Perm.swap _ _ _))
  exact ⟨h.s.grow hb, s2.tail, h.ls, hl⟩
theorem OT.xlt (h : OT P T w0 w M X n so ps pl) : P < X ∧ X < w.heap.size := by
  have h1 := h.sep.head.lt (g := X) rfl
  exact ⟨by omega, h1.2⟩
theorem OT.xCell (h : OT P T w0 w M X n so ps pl) {g : MF} (hd : so[d]? = some g) (j : Nat) (hj : j < 9) : w.cell? ⟨X, d * 9 + j, none⟩ = (fc g)[j]? := by
  have hl := (List.getElem?_eq_some_iff.1 hd).1
  have := h.ls
  rw [h.sep.head.at (g := X) (cap := n) rfl (d * 9 + j) (by show _ < n * 9; omega)]
  exact flat_get fc_len hd j hj
theorem OT.xFr (h : OT P T w0 w M X n so ps pl) (j : Nat) : w.frozen? ⟨X, j, none⟩ = false := h.sep.head.fr (g := X) (cap := n) rfl j
theorem OT.pForm (h : OT P T w0 w M X n so ps pl) (hn : 0 < n) : ∃ g cap, ps = .slice (some ⟨g, 0, none⟩) n cap := h.sep.tail.head.form (r := rP ps n pl) hn
theorem OT.pCell (h : OT P T w0 w M X n so ps pl) {g cap : Nat} (hv : ps = .slice (some ⟨g, 0, none⟩) n cap) {p : Int × Int × Int × Bool} (hd : pl[d]? = some p) :
    ∀ j v, [Value.int .u8 p.1, .int .u16 p.2.1, .int .u8 p.2.2.1, .bool p.2.2.2][j]? = some v → w.cell? ((⟨g, d * 4, none⟩ : Addr).add j) = some v := by
  intro j v hj
  have hl := (List.getElem?_eq_some_iff.1 hd).1
  have := h.lp
  have hj4 : j < 4 := by have := (List.getElem?_eq_some_iff.1 hj).1; simpa using this
  rw [Addr.add_lit, h.sep.tail.head.at (g := g) (cap := cap) hv (d * 4 + j) (by show _ < n * 4; omega)]
  show (pl.flatMap plc)[d * 4 + j]? = _
  rw [flat_get plc_len hd j hj4]
  exact hj
theorem OT.put (h : OT P T w0 w M X n so ps pl) {f : MF} (hd : so[d]? = some f) (p : Int × Int × Int × Bool) : OT P T w0 (putP w X d p) M X n (so.set d (atP f p)) ps pl := by
  obtain ⟨h1, h2⟩ := h.xlt
  obtain ⟨p1, p2, p3, p4⟩ := p
  obtain ⟨b, k, e, r, ns, q1, q2, q3, q4⟩ := f
  have s1 := sep_put1 (f := ⟨b, k, e, r, ns, p1, q2, q3, q4⟩) h.sep hd 5 (by decide) (.int .u8 p1) rfl
  have d1 := getS (f := ⟨b, k, e, r, ns, p1, q2, q3, q4⟩) hd
  have s2 := sep_put1 (f := ⟨b, k, e, r, ns, p1, p2, q3, q4⟩) s1 d1 6 (by decide) (.int .u16 p2) rfl
  have d2 := getS (f := ⟨b, k, e, r, ns, p1, p2, q3, q4⟩) d1
  have s3 := sep_put1 (f := ⟨b, k, e, r, ns, p1, p2, p3, q4⟩) s2 d2 7 (by decide) (.int .u8 p3) rfl
  have d3 := getS (f := ⟨b, k, e, r, ns, p1, p2, p3, q4⟩) d2
  have s4 := sep_put1 (f := ⟨b, k, e, r, ns, p1, p2, p3, p4⟩) s3 d3 8 (by decide) (.bool p4) rfl
  simp only [List.set_set] at s4
  have hP : (putP w X d (p1, p2, p3, p4)).heap[P]? = w.heap[P]? :=
    ((Below.heap_setCell _ ⟨X, _, none⟩ _ P (by show P ≠ X; omega)).trans ((Below.heap_setCell _ ⟨X, _, none⟩ _ P (by show P ≠ X; omega)).trans ((Below.heap_setCell _ ⟨X, _, none⟩ _ P (by show P ≠ X; omega)).trans (Below.heap_setCell _ ⟨X, _, none⟩ _ P (by show P ≠ X; omega)))))
  have hsz : (putP w X d (p1, p2, p3, p4)).heap.size = w.heap.size := by simp [putP, World.setCell]
  have hX : P ≤ X := by omega
  exact ⟨⟨⟨h.s.m.p.same hP, by rw [hsz]; exact h.s.m.lt, s4.tail.tail⟩, h.s.wf, h.s.tx, Below.setCell (Below.setCell (Below.setCell (Below.setCell h.s.bel hX _) hX _) hX _) hX _⟩, s4, by rw [List.length_set]; exact h.ls, h.lp⟩

theorem setS_set (M : MM) (k : Nat) (a b : MS) : setS (setS M k a) k b = setS M k b := by
  unfold setS; simp only [List.set_set]
theorem setS_ss {pre : List MS} {m m' : MS} (hss : M.ss = pre ++ [m]) : (setS M pre.length m').ss = pre ++ [m'] := by
  show M.ss.set pre.length m' = _; rw [hss]; simp
theorem absM_setS {pre : List MS} {m m' : MS} (hss : M.ss = pre ++ [m]) (hb : m'.b = m.b) (fs : List (List Nat × Nat)) : absM (setS M pre.length m') fs = absM M fs := by
  unfold absM
  rw [setS_ss (m' := m') hss, hss]
  simp only [List.map_append, List.map_cons, hb]
  rfl
theorem std_setS {pre : List MS} {m m' : MS} (h : Std P T w0 w M) (hss : M.ss = pre ++ [m]) (hP : w'.heap[P]? = w.heap[P]?) (hlt : P < w'.heap.size) (hb : Below P w0 w') (hsep : Sep (P + 1) w' (rS (setS M pre.length m') :: rF m' :: rU M :: pre.map rF)) : Std P T w0 w' (setS M pre.length m') := by
  have hp := (rows_setS (M := M) (pre := pre) (post := []) (m := m) (m' := m') hss)
  rw [List.append_nil] at hp
  refine ⟨⟨h.m.p.same hP, hlt, (hsep.perm (List.Perm.swap _ _ _)).perm hp⟩, ⟨h.wf.ae, h.wf.en, h.wf.sz, h.wf.tok, h.wf.us, ?_, h.wf.num⟩, h.tx, hb⟩
  show (M.ss.set _ _).length ≤ _
  rw [List.length_set]; exact h.wf.ss
/-- The struct turned: three stores, or four. -/
theorem OT.finish {pre : List MS} {m : MS} {g cap nn : Nat} (h : OT P T w0 w M X n so ps pl) (hss : M.ss = pre ++ [m]) (hv : M.p.sv = .slice (some ⟨g, 0, none⟩) nn cap) (hn : nn = M.ss.length) (D Q : Int) :
    (n = 0 → Std P T w0 (((w.setCell ⟨g, pre.length * 4 + 2, none⟩ (.int .u8 D)).setCell ⟨g, pre.length * 4 + 3, none⟩ (.int .u8 Q)).setCell ⟨g, pre.length * 4 + 1, none⟩ (.slice none 0 0)) (setS M pre.length ⟨m.b, .slice none 0 0, D, Q, []⟩)) ∧
    Std P T w0 ((((w.setCell ⟨g, pre.length * 4 + 2, none⟩ (.int .u8 D)).setCell ⟨g, pre.length * 4 + 3, none⟩ (.int .u8 Q)).setCell ⟨g, pre.length * 4 + 1, none⟩ (.slice none 0 0)).setCell ⟨g, pre.length * 4 + 1, none⟩ (.slice (some ⟨X, 0, none⟩) n n)) (setS M pre.length ⟨m.b, .slice (some ⟨X, 0, none⟩) n n, D, Q, so⟩) := by
  have hg : P < g := by
    have := (h.s.m.rs.lt (g := g) (by show M.p.sv.ownBlock = _; rw [hv]; rfl)).1
    omega
  have hp0 : (rX X n so :: rP ps n pl :: rows M).Perm (rP ps n pl :: rF m :: rS M :: rX X n so :: rU M :: pre.map rF) := by
    have e := rows_at (M := M) (pre := pre) (post := []) (m := m) hss
    rw [List.append_nil] at e
    refine (List.Perm.swap _ _ _).trans (List.Perm.cons _ ?_)
    refine (e.cons _).trans ?_
    exact (List.Perm.swap _ _ _).trans ((List.Perm.swap _ _ _).cons _)
  have s0 := (h.sep.perm hp0).tail.tail
  have s1 := sep_storeS (m' := ⟨m.b, m.fv, D, m.p, m.fl⟩) (pre := pre) (post := []) hss s0 hv hn 2 (by decide) (.int .u8 D) rfl
  have e1 := setS_ss (m' := ⟨m.b, m.fv, D, m.p, m.fl⟩) hss
  have s2 := sep_storeS (m' := ⟨m.b, m.fv, D, Q, m.fl⟩) (pre := pre) (post := []) e1 s1 (g := g) (n := nn) (cap := cap) hv (by rw [e1, hn, hss]; simp) 3 (by decide) (.int .u8 Q) rfl
  rw [setS_set] at s2
  have e2 := setS_ss (m' := ⟨m.b, m.fv, D, Q, m.fl⟩) hss
  have s3 := sep_storeS (m' := ⟨m.b, .slice none 0 0, D, Q, []⟩) (pre := pre) (post := []) e2 s2 (g := g) (n := nn) (cap := cap) hv (by rw [e2, hn, hss]; simp) 1 (by decide) (.slice none 0 0) rfl
  rw [setS_set] at s3
  have e3 := setS_ss (m' := ⟨m.b, .slice none 0 0, D, Q, []⟩) hss
  have s4 := sep_storeS (m' := ⟨m.b, .slice (some ⟨X, 0, none⟩) n n, D, Q, so⟩) (pre := pre) (post := []) e3 s3 (g := g) (n := nn) (cap := cap) hv (by rw [e3, hn, hss]; simp) 1 (by decide) (.slice (some ⟨X, 0, none⟩) n n) rfl
  rw [setS_set] at s4
  have hgP : P ≤ g := by omega
  have hb3 : Below P w0 (((w.setCell ⟨g, pre.length * 4 + 2, none⟩ (.int .u8 D)).setCell ⟨g, pre.length * 4 + 3, none⟩ (.int .u8 Q)).setCell ⟨g, pre.length * 4 + 1, none⟩ (.slice none 0 0)) := Below.setCell (Below.setCell (Below.setCell h.s.bel hgP _) hgP _) hgP _
  have hP3 : (((w.setCell ⟨g, pre.length * 4 + 2, none⟩ (.int .u8 D)).setCell ⟨g, pre.length * 4 + 3, none⟩ (.int .u8 Q)).setCell ⟨g, pre.length * 4 + 1, none⟩ (.slice none 0 0)).heap[P]? = w.heap[P]? :=
    (Below.heap_setCell _ ⟨g, _, none⟩ _ P (by show P ≠ g; omega)).trans ((Below.heap_setCell _ ⟨g, _, none⟩ _ P (by show P ≠ g; omega)).trans (Below.heap_setCell _ ⟨g, _, none⟩ _ P (by show P ≠ g; omega)))
  refine ⟨fun h0 => ?_, ?_⟩
  · subst h0
    refine std_setS h.s hss hP3 (by simp [World.setCell]; exact h.s.m.lt) hb3 ?_
    exact ((s3.perm (List.Perm.swap _ _ _)).drop 198 9).perm (List.Perm.swap _ _ _)
  · refine std_setS h.s hss ((Below.heap_setCell _ ⟨g, _, none⟩ _ P (by show P ≠ g; omega)).trans hP3) (by simp [World.setCell]; exact h.s.m.lt) (Below.setCell hb3 hgP _) ?_
    have e : rF ⟨m.b, .slice (some ⟨X, 0, none⟩) n n, D, Q, so⟩ = rX X n so := by
      unfold rF rX; simp only [h.ls]
    rw [e]; exact s4
end
end Go.Proofs.Ygcfad
