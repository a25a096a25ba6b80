/-
  order's two arrays in memory: the fields sorted, their types.
-/
import Derived.Test.YgcfadField
namespace Go.Proofs.Ygcfad
open Go.RowKit Plain
set_option linter.unusedSimpArgs false
set_option linter.unusedVariables false

/-- A type, its four cells. -/
structure MT where
  k : Nat
  e : Int
  r : Int
  ns : Int
def tc (t : MT) : List Value := [.int .u8 (t.k : Int), .int .u8 t.e, .int .u8 t.r, .int .u8 t.ns]
theorem tc_len (x : MT) : (tc x).length = 4 := rfl
def tyOf (f : MF) : MT := ⟨f.k, f.e, f.r, f.ns⟩
def zeroF : MF := ⟨⟨#[]⟩, 0, 0, 0, 0, 0, 0, 0, false⟩

def rX (X n : Nat) (so : List MF) : Row := ⟨.slice (some ⟨X, 0, none⟩) n n, 198, 9, n, so.flatMap fc⟩
def rY (Y n : Nat) (ts : List MT) : Row := ⟨.slice (some ⟨Y, 0, none⟩) n n, 194, 4, n, ts.flatMap tc⟩

section
variable {B X n d : Nat} {w : World} {so : List MF} {f g : MF} {rs : List Row}
theorem sep_put1 (h : Sep B w (rX X n so :: rs)) (hd : so[d]? = some g) (j : Nat) (hj : j < 9) (v : Value) (hx : fc f = (fc g).set j v) : Sep B (w.setCell ⟨X, d * 9 + j, none⟩ v) (rX X n (so.set d f) :: rs) := by
  have := h.store (g := X) (cap := n) rfl (d * 9 + j) v
  have e : ({ rX X n so with xs := (rX X n so).xs.set (d * 9 + j) v } : Row) = rX X n (so.set d f) := by
    unfold rX; simp only; rw [flat_set fc_len hd j hj v hx]
  rw [e] at this; exact this
theorem getS (h : so[d]? = some g) : (so.set d f)[d]? = some f := by
  have hl := (List.getElem?_eq_some_iff.1 h).1
  rw [List.getElem?_set, if_pos rfl, if_pos hl]
/-- A field whole. -/
def putX (w : World) (X d : Nat) (f : MF) : World :=
  ((((((((w.setCell ⟨X, d * 9, none⟩ (.string f.b)).setCell ⟨X, d * 9 + 1, none⟩ (.int .u8 (f.k : Int))).setCell ⟨X, d * 9 + 2, none⟩ (.int .u8 f.e)).setCell ⟨X, d * 9 + 3, none⟩ (.int .u8 f.r)).setCell ⟨X, d * 9 + 4, none⟩ (.int .u8 f.ns)).setCell ⟨X, d * 9 + 5, none⟩ (.int .u8 f.q1)).setCell ⟨X, d * 9 + 6, none⟩ (.int .u16 f.q2)).setCell ⟨X, d * 9 + 7, none⟩ (.int .u8 f.q3)).setCell ⟨X, d * 9 + 8, none⟩ (.bool f.q4)
theorem sep_put9 (h : Sep B w (rX X n so :: rs)) (hd : so[d]? = some g) : Sep B (putX w X d f) (rX X n (so.set d f) :: rs) := by
  obtain ⟨b, k, e, r, ns, q1, q2, q3, q4⟩ := f
  obtain ⟨b', k', e', r', ns', q1', q2', q3', q4'⟩ := g
  have h0 := sep_put1 (f := ⟨b, k', e', r', ns', q1', q2', q3', q4'⟩) h hd 0 (by decide) (.string b) rfl
  have d0 := getS (f := ⟨b, k', e', r', ns', q1', q2', q3', q4'⟩) hd
  have h1 := sep_put1 (f := ⟨b, k, e', r', ns', q1', q2', q3', q4'⟩) h0 d0 1 (by decide) (.int .u8 (k : Int)) rfl
  have d1 := getS (f := ⟨b, k, e', r', ns', q1', q2', q3', q4'⟩) d0
  have h2 := sep_put1 (f := ⟨b, k, e, r', ns', q1', q2', q3', q4'⟩) h1 d1 2 (by decide) (.int .u8 e) rfl
  have d2 := getS (f := ⟨b, k, e, r', ns', q1', q2', q3', q4'⟩) d1
  have h3 := sep_put1 (f := ⟨b, k, e, r, ns', q1', q2', q3', q4'⟩) h2 d2 3 (by decide) (.int .u8 r) rfl
  have d3 := getS (f := ⟨b, k, e, r, ns', q1', q2', q3', q4'⟩) d2
  have h4 := sep_put1 (f := ⟨b, k, e, r, ns, q1', q2', q3', q4'⟩) h3 d3 4 (by decide) (.int .u8 ns) rfl
  have d4 := getS (f := ⟨b, k, e, r, ns, q1', q2', q3', q4'⟩) d3
  have h5 := sep_put1 (f := ⟨b, k, e, r, ns, q1, q2', q3', q4'⟩) h4 d4 5 (by decide) (.int .u8 q1) rfl
  have d5 := getS (f := ⟨b, k, e, r, ns, q1, q2', q3', q4'⟩) d4
  have h6 := sep_put1 (f := ⟨b, k, e, r, ns, q1, q2, q3', q4'⟩) h5 d5 6 (by decide) (.int .u16 q2) rfl
  have d6 := getS (f := ⟨b, k, e, r, ns, q1, q2, q3', q4'⟩) d5
  have h7 := sep_put1 (f := ⟨b, k, e, r, ns, q1, q2, q3, q4'⟩) h6 d6 7 (by decide) (.int .u8 q3) rfl
  have d7 := getS (f := ⟨b, k, e, r, ns, q1, q2, q3, q4'⟩) d6
  have h8 := sep_put1 (f := ⟨b, k, e, r, ns, q1, q2, q3, q4⟩) h7 d7 8 (by decide) (.bool q4) rfl
  simp only [List.set_set] at h8
  exact h8
end
section
variable {B Y n d : Nat} {w : World} {ts : List MT} {f g : MT} {rs : List Row}
theorem sep_puty1 (h : Sep B w (rY Y n ts :: rs)) (hd : ts[d]? = some g) (j : Nat) (hj : j < 4) (v : Value) (hx : tc f = (tc g).set j v) : Sep B (w.setCell ⟨Y, d * 4 + j, none⟩ v) (rY Y n (ts.set d f) :: rs) := by
  have := h.store (g := Y) (cap := n) rfl (d * 4 + j) v
  have e : ({ rY Y n ts with xs := (rY Y n ts).xs.set (d * 4 + j) v } : Row) = rY Y n (ts.set d f) := by
    unfold rY; simp only; rw [flat_set tc_len hd j hj v hx]
  rw [e] at this; exact this
theorem getT (h : ts[d]? = some g) : (ts.set d f)[d]? = some f := by
  have hl := (List.getElem?_eq_some_iff.1 h).1
  rw [List.getElem?_set, if_pos rfl, if_pos hl]
def putY (w : World) (Y d : Nat) (t : MT) : World :=
  (((w.setCell ⟨Y, d * 4, none⟩ (.int .u8 (t.k : Int))).setCell ⟨Y, d * 4 + 1, none⟩ (.int .u8 t.e)).setCell ⟨Y, d * 4 + 2, none⟩ (.int .u8 t.r)).setCell ⟨Y, d * 4 + 3, none⟩ (.int .u8 t.ns)
theorem sep_put4 (h : Sep B w (rY Y n ts :: rs)) (hd : ts[d]? = some g) : Sep B (putY w Y d f) (rY Y n (ts.set d f) :: rs) := by
  obtain ⟨k, e, r, ns⟩ := f
  obtain ⟨k', e', r', ns'⟩ := g
  have h0 := sep_puty1 (f := ⟨k, e', r', ns'⟩) h hd 0 (by decide) (.int .u8 (k : Int)) rfl
  have d0 := getT (f := ⟨k, e', r', ns'⟩) hd
  have h1 := sep_puty1 (f := ⟨k, e, r', ns'⟩) h0 d0 1 (by decide) (.int .u8 e) rfl
  have d1 := getT (f := ⟨k, e, r', ns'⟩) d0
  have h2 := sep_puty1 (f := ⟨k, e, r, ns'⟩) h1 d1 2 (by decide) (.int .u8 r) rfl
  have d2 := getT (f := ⟨k, e, r, ns'⟩) d1
  have h3 := sep_puty1 (f := ⟨k, e, r, ns⟩) h2 d2 3 (by decide) (.int .u8 ns) rfl
  simp only [List.set_set] at h3
  exact h3
end

theorem made_flat {α : Type} {f : α → List Value} {c : Nat} (hf : ∀ x, (f x).length = c) (hc : 0 < c) (x : α) (z : Array Value) (hz : z.toList = f x) (n : Nat) : (madeCells z (n * c)).toList = (List.replicate n x).flatMap f := by
  have hzs : z.size = c := by rw [← Array.length_toList, hz, hf]
  apply List.ext_getElem?
  intro j
  by_cases hj : j < n * c
  · have h1 : j / c < n := Nat.div_lt_of_lt_mul (by rw [Nat.mul_comm]; exact hj)
    have h2 : j % c < c := Nat.mod_lt _ hc
    have e := flat_get hf (L := List.replicate n x) (i := j / c) (x := x) (by simp [h1]) (j % c) h2
    have ej : j / c * c + j % c = j := by rw [Nat.mul_comm]; exact Nat.div_add_mod j c
    rw [ej] at e
    rw [e, ← hz]
    simp [madeCells, hj, hzs]
    rw [getElem!_pos z (j % c) (by rw [hzs]; exact h2)]
    simp [hzs, h2]
  · rw [List.getElem?_eq_none (by simp [madeCells]; omega), List.getElem?_eq_none (by rw [flat_length hf]; simp; omega)]

/-- order's arrays stand beside the parser. -/
structure OS (P : Nat) (T : List Nat) (w0 w : World) (M : MM) (X Y n : Nat) (so : List MF) (ts : List MT) : Prop where
  s : Std P T w0 w M
  sep : Sep (P + 1) w (rX X n so :: rY Y n ts :: rows M)
  ls : so.length = n
  lt : ts.length = n
section
variable {P X Y n d : Nat} {T : List Nat} {w0 w w' : World} {M M' : MM} {so : List MF} {ts : List MT}
theorem OS.grow (h : OS P T w0 w M X Y n so ts) (hb : Below w.heap.size w w') : OS P T w0 w' M X Y n so ts := ⟨h.s.grow hb, h.sep.below hb, h.ls, h.lt⟩
theorem OS.alloc (h : OS P T w0 w M X Y n so ts) (o : Obj) : OS P T w0 (w.alloc o) M X Y n so ts := h.grow ((Below.refl _ _).alloc (Nat.le_refl _) _)
theorem OS.drew (h : OS P T w0 w M X Y n so ts) (q : Nat) : OS P T w0 (w.drewN q) M X Y n so ts := ⟨h.s.drew q, h.sep.drew q, h.ls, h.lt⟩
theorem OS.only (h : OS P T w0 w M X Y n so ts) (hs : Std P T w0 w' M') (ho : Only P w w') (e : rows M' = rows M) : OS P T w0 w' M' X Y n so ts :=
  ⟨hs, by rw [e]; exact h.sep.only (Nat.lt_succ_self P) ho, h.ls, h.lt⟩
theorem OS.xlt (h : OS P T w0 w M X Y n so ts) : P < X ∧ X < w.heap.size ∧ P < Y ∧ Y < w.heap.size ∧ X ≠ Y := by
  have h1 := h.sep.head.lt (g := X) rfl
  have h2 := h.sep.tail.head.lt (g := Y) rfl
  have h3 := (List.pairwise_cons.1 h.sep.2).1 (rY Y n ts) (by simp) X rfl
  refine ⟨by omega, h1.2, by omega, h2.2, fun e => h3 (by rw [e]; rfl)⟩
theorem OS.xCell (h : OS P T w0 w M X Y n so ts) {g : MF} (hd : so[d]? = some g) (j : Nat) (hj : j < 9) : w.cell? ⟨X, d * 9 + j, none⟩ = (fc g)[j]? := by
  have hl := (List.getElem?_eq_some_iff.1 hd).1
  have := h.ls
  rw [h.sep.head.at (g := X) (cap := n) rfl (d * 9 + j) (by show _ < n * 9; omega)]
  exact flat_get fc_len hd j hj
theorem OS.xFr (h : OS P T w0 w M X Y n so ts) (j : Nat) : w.frozen? ⟨X, j, none⟩ = false := h.sep.head.fr (g := X) (cap := n) rfl j
theorem OS.yCell (h : OS P T w0 w M X Y n so ts) {g : MT} (hd : ts[d]? = some g) (j : Nat) (hj : j < 4) : w.cell? ⟨Y, d * 4 + j, none⟩ = (tc g)[j]? := by
  have hl := (List.getElem?_eq_some_iff.1 hd).1
  have := h.lt
  rw [h.sep.tail.head.at (g := Y) (cap := n) rfl (d * 4 + j) (by show _ < n * 4; omega)]
  exact flat_get tc_len hd j hj
theorem OS.yFr (h : OS P T w0 w M X Y n so ts) (j : Nat) : w.frozen? ⟨Y, j, none⟩ = false := h.sep.tail.head.fr (g := Y) (cap := n) rfl j
/-- What lies apart from X stays under putX. -/
theorem putX_block (w : World) (X d : Nat) (f : MF) (b : Nat) (hb : b ≠ X) : (putX w X d f).heap[b]? = w.heap[b]? := by
  exact ((Below.heap_setCell _ ⟨X, _, none⟩ _ b hb).trans ((Below.heap_setCell _ ⟨X, _, none⟩ _ b hb).trans ((Below.heap_setCell _ ⟨X, _, none⟩ _ b hb).trans ((Below.heap_setCell _ ⟨X, _, none⟩ _ b hb).trans ((Below.heap_setCell _ ⟨X, _, none⟩ _ b hb).trans ((Below.heap_setCell _ ⟨X, _, none⟩ _ b hb).trans ((Below.heap_setCell _ ⟨X, _, none⟩ _ b hb).trans ((Below.heap_setCell _ ⟨X, _, none⟩ _ b hb).trans (Below.heap_setCell _ ⟨X, _, none⟩ _ b hb)))))))))
theorem putY_block (w : World) (Y d : Nat) (t : MT) (b : Nat) (hb : b ≠ Y) : (putY w Y d t).heap[b]? = w.heap[b]? := by
  exact ((Below.heap_setCell _ ⟨Y, _, none⟩ _ b hb).trans ((Below.heap_setCell _ ⟨Y, _, none⟩ _ b hb).trans ((Below.heap_setCell _ ⟨Y, _, none⟩ _ b hb).trans (Below.heap_setCell _ ⟨Y, _, none⟩ _ b hb))))
theorem putX_size (w : World) (X d : Nat) (f : MF) : (putX w X d f).heap.size = w.heap.size := by simp [putX, World.setCell]
theorem putY_size (w : World) (Y d : Nat) (t : MT) : (putY w Y d t).heap.size = w.heap.size := by simp [putY, World.setCell]
theorem putX_below {B : Nat} (hb : Below B w0 w) (f : MF) (h : B ≤ X) : Below B w0 (putX w X d f) := by
  unfold putX
  exact Below.setCell (Below.setCell (Below.setCell (Below.setCell (Below.setCell (Below.setCell (Below.setCell (Below.setCell (Below.setCell hb h _) h _) h _) h _) h _) h _) h _) h _) h _
theorem putY_below {B : Nat} (hb : Below B w0 w) (t : MT) (h : B ≤ Y) : Below B w0 (putY w Y d t) := by
  unfold putY
  exact Below.setCell (Below.setCell (Below.setCell (Below.setCell hb h _) h _) h _) h _
theorem OS.put (h : OS P T w0 w M X Y n so ts) (f : MF) (hd : d < n) : OS P T w0 (putY (putX w X d f) Y d (tyOf f)) M X Y n (so.set d f) (ts.set d (tyOf f)) := by
  obtain ⟨h1, h2, h3, h4, h5⟩ := h.xlt
  obtain ⟨g1, hg1⟩ : ∃ g, so[d]? = some g := ⟨_, List.getElem?_eq_getElem (by rw [h.ls]; exact hd)⟩
  obtain ⟨g2, hg2⟩ : ∃ g, ts[d]? = some g := ⟨_, List.getElem?_eq_getElem (by rw [h.lt]; exact hd)⟩
  have s1 := sep_put9 (f := f) h.sep hg1
  have s2 := sep_put4 (f := tyOf f) (s1.perm (List.Perm.swap _ _ _)) hg2
  have s3 := s2.perm (List.Perm.swap _ _ _)
  have hP : (putY (putX w X d f) Y d (tyOf f)).heap[P]? = w.heap[P]? := by rw [putY_block _ _ _ _ _ (by omega), putX_block _ _ _ _ _ (by omega)]
  exact ⟨⟨⟨h.s.m.p.same hP, by rw [putY_size, putX_size]; exact h.s.m.lt, s3.tail.tail⟩, h.s.wf, h.s.tx, putY_below (putX_below h.s.bel f (by omega)) _ (by omega)⟩, s3, by simp [h.ls], by simp [h.lt]⟩
theorem OS.yCell_put (h : OS P T w0 w M X Y n so ts) {g : MT} (f : MF) (hd : ts[d]? = some g) (j : Nat) (hj : j < 4) : (putX w X d f).cell? ⟨Y, d * 4 + j, none⟩ = (tc g)[j]? := by
  have := h.xlt.2.2.2.2
  have hb := putX_block w X d f Y (Ne.symm this)
  generalize putX w X d f = w2 at hb
  rw [World.cell?_of_block (w := w) hb]
  exact h.yCell hd j hj
theorem OS.yFr_put (h : OS P T w0 w M X Y n so ts) (f : MF) (j : Nat) : (putX w X d f).frozen? ⟨Y, j, none⟩ = false := by
  have := h.xlt.2.2.2.2
  have hb := putX_block w X d f Y (Ne.symm this)
  generalize putX w X d f = w2 at hb
  rw [World.frozen?_of_block (w := w) hb]
  exact h.yFr j
end
end Go.Proofs.Ygcfad
