/-
  Rows that a call made, and what stands below; rec's Layout: what it needs beside its walk.
-/
import Derived.Test.YgcfadRecEntries
namespace Go.Proofs.Ygcfad
open Go.RowKit Plain
set_option linter.unusedSimpArgs false
set_option linter.unusedVariables false

/-- Rows in blocks from B on; no block below B has turned since w0. -/
structure GStd (B : Nat) (w0 w : World) (rs : List Row) : Prop where
  sep : Sep B w rs
  bel : Below B w0 w
  sz : B ≤ w.heap.size
section
variable {B : Nat} {w0 w w' : World} {rs rs' : List Row} {r r' : Row}
theorem GStd.start (w : World) : GStd w.heap.size w w [] := ⟨⟨fun r hr => (by cases hr), List.Pairwise.nil⟩, Below.refl _ _, Nat.le_refl _⟩
theorem GStd.drew (h : GStd B w0 w rs) (q : Nat) : GStd B w0 (w.drewN q) rs := ⟨h.sep.drew q, below_drewN h.bel q, h.sz⟩
theorem GStd.drew1 (h : GStd B w0 w rs) : GStd B w0 w.drew rs := h.drew 1
theorem GStd.grow (h : GStd B w0 w rs) (hb : Below w.heap.size w w') : GStd B w0 w' rs := ⟨h.sep.below hb, h.bel.trans (hb.mono h.sz), Nat.le_trans h.sz hb.size⟩
theorem GStd.alloc (h : GStd B w0 w rs) (o : Obj) : GStd B w0 (w.alloc o) rs := h.grow ((Below.refl _ _).alloc (Nat.le_refl _) o)
theorem GStd.perm (h : GStd B w0 w rs) (hp : rs.Perm rs') : GStd B w0 w rs' := ⟨h.sep.perm hp, h.bel, h.sz⟩
theorem GStd.less (h : GStd B w0 w (r :: rs)) : GStd B w0 w rs := ⟨h.sep.tail, h.bel, h.sz⟩
theorem GStd.head (h : GStd B w0 w (r :: rs)) : r.ok B w := h.sep.head
theorem GStd.ok (h : GStd B w0 w rs) (hr : r ∈ rs) : r.ok B w := h.sep.1 r hr
/-- A row more, of a call's own: in a block that was not. -/
theorem GStd.more (h : GStd B w0 w rs) (hb : Below w.heap.size w w') (ho : w'.ownsRow w.heap.size r.e r.size r.v r.n r.xs) : GStd B w0 w' (r :: rs) :=
  ⟨h.sep.more hb (owns_mono ho h.sz) (fun g hg => (World.ownsRow.lt ho g hg).1), h.bel.trans (hb.mono h.sz), Nat.le_trans h.sz hb.size⟩
theorem GStd.turn (h : GStd B w0 w (r :: rs)) (hg : w.grownBy w' r.v.ownBlock) (ho : r'.ok B w') (hn : r'.v.ownBlock = r.v.ownBlock ∨ ∀ g, r'.v.ownBlock = some g → w.heap.size ≤ g) : GStd B w0 w' (r' :: rs) :=
  ⟨h.sep.turn hg ho hn, h.bel.grown hg h.sz (fun q hq => (h.head.lt hq).1), Nat.le_trans h.sz hg.size⟩
theorem GStd.store (h : GStd B w0 w (r :: rs)) {g cap : Nat} (hv : r.v = .slice (some ⟨g, 0, none⟩) r.n cap) (j : Nat) (u : Value) : GStd B w0 (w.setCell ⟨g, j, none⟩ u) ({ r with xs := r.xs.set j u } :: rs) := by
  have hg : B ≤ g := (h.head.lt (g := g) (by rw [hv]; rfl)).1
  exact ⟨h.sep.store hv j u, h.bel.setCell (by show B ≤ g; exact hg) _, by simp [World.setCell]; exact h.sz⟩
end
/-- A place in a block of its own. -/
def lP (R : Nat) (p : Int × Int × Int × Bool) : Row := ⟨.slice (some ⟨R, 0, none⟩) 1 1, 196, 4, 1, plc p⟩
/-- Places, as schema.Layout gives them. -/
def lQ (ps : Value) (pl : List (Int × Int × Int × Bool)) (n : Nat) : Row := ⟨ps, 196, 4, n, pl.flatMap plc⟩
/-- The fields out. -/
def lO (v : Value) (fs : List RF) : Row := ⟨v, 212, 11, fs.length, fs.flatMap gc⟩
section
variable {B R : Nat} {w0 w w' : World} {rs : List Row} {p : Int × Int × Int × Bool}
theorem lP_cells (h : (lP R p).ok B w) : w.cell? ⟨R, 0, none⟩ = some (.int .u8 p.1) ∧ w.cell? ⟨R, 1, none⟩ = some (.int .u16 p.2.1) ∧ w.cell? ⟨R, 2, none⟩ = some (.int .u8 p.2.2.1) ∧ w.cell? ⟨R, 3, none⟩ = some (.bool p.2.2.2) ∧ ∀ j, w.frozen? ⟨R, j, none⟩ = false :=
  ⟨h.at (g := R) (cap := 1) rfl 0 (by show 0 < 1 * 4; decide), h.at (g := R) (cap := 1) rfl 1 (by show 1 < 1 * 4; decide), h.at (g := R) (cap := 1) rfl 2 (by show 2 < 1 * 4; decide), h.at (g := R) (cap := 1) rfl 3 (by show 3 < 1 * 4; decide), fun j => h.fr (g := R) (cap := 1) rfl j⟩
def putPl (w : World) (R o : Nat) (p : Int × Int × Int × Bool) : World :=
  (((w.setCell ⟨R, o, none⟩ (.int .u8 p.1)).setCell ⟨R, o + 1, none⟩ (.int .u16 p.2.1)).setCell ⟨R, o + 2, none⟩ (.int .u8 p.2.2.1)).setCell ⟨R, o + 3, none⟩ (.bool p.2.2.2)
theorem GStd.putP (h : GStd B w0 w (lP R p :: rs)) (p' : Int × Int × Int × Bool) : GStd B w0 (putPl w R 0 p') (lP R p' :: rs) := by
  have h1 := h.store (g := R) (cap := 1) rfl 0 (.int .u8 p'.1)
  have h2 := h1.store (g := R) (cap := 1) rfl 1 (.int .u16 p'.2.1)
  have h3 := h2.store (g := R) (cap := 1) rfl 2 (.int .u8 p'.2.2.1)
  exact h3.store (g := R) (cap := 1) rfl 3 (.bool p'.2.2.2)
def atPR (f : RF) (p : Int × Int × Int × Bool) : RF := { f with q1 := p.1, q2 := p.2.1, q3 := p.2.2.1, q4 := p.2.2.2 }
theorem GStd.putV {f : RF} (h : GStd B w0 w (qV R f :: rs)) (p' : Int × Int × Int × Bool) : GStd B w0 (putPl w R 5 p') (qV R (atPR f p') :: rs) := by
  have h1 := h.store (g := R) (cap := 1) rfl 5 (.int .u8 p'.1)
  have h2 := h1.store (g := R) (cap := 1) rfl 6 (.int .u16 p'.2.1)
  have h3 := h2.store (g := R) (cap := 1) rfl 7 (.int .u8 p'.2.2.1)
  exact h3.store (g := R) (cap := 1) rfl 8 (.bool p'.2.2.2)
theorem GStd.pushO {v : Value} {fs : List RF} {f : RF} {ao : Option Addr} {n' cap : Nat} (h : GStd B w0 w (lO v fs :: rs)) (hn : n' = fs.length + 1) (ho : w'.ownsRow B 212 11 (.slice ao n' cap) n' (fs.flatMap gc ++ gc f)) (hg : w.grownBy w' v.ownBlock) (hnew : (Value.slice ao n' cap).ownBlock = v.ownBlock ∨ ∀ g, (Value.slice ao n' cap).ownBlock = some g → w.heap.size ≤ g) :
    GStd B w0 w' (lO (.slice ao n' cap) (fs ++ [f]) :: rs) := by
  have e : lO (.slice ao n' cap) (fs ++ [f]) = ⟨.slice ao n' cap, 212, 11, n', fs.flatMap gc ++ gc f⟩ := by unfold lO; simp [hn]
  exact GStd.turn (r := lO v fs) (r' := lO (.slice ao n' cap) (fs ++ [f])) h hg (by rw [e]; exact ho) (by rw [e]; exact hnew)
end
/-- The same field, its place apart. -/
structure SameF (f f' : RF) : Prop where
  b : f'.b = f.b
  k : f'.k = f.k
  e : f'.e = f.e
  r : f'.r = f.r
  u : f'.u = f.u
/-- What rec's Layout leaves. -/
def LayRPost (w : World) (fs : List RF) (e : Ending) (w' : World) : Prop :=
  Below w.heap.size w w' ∧ match layR (fs.map gf) with
  | false => e = .returned (.tuple #[.slice none 0 0, .agg #[.int .u8 0, .int .u16 0, .int .u8 0, .bool false], .int .u8 0, .int .u8 0, .bool false])
  | true => ∃ (ov : Value) (fs' : List RF) (p : Int × Int × Int × Bool) (d q : Int), e = .returned (.tuple #[ov, .agg #[.int .u8 p.1, .int .u16 p.2.1, .int .u8 p.2.2.1, .bool p.2.2.2], .int .u8 d, .int .u8 q, .bool true]) ∧ w'.ownsRow w.heap.size 212 11 ov fs.length (fs'.flatMap gc) ∧ fs'.length = fs.length ∧ ∀ (i : Nat) (f' : RF), fs'[i]? = some f' → ∃ f, fs[i]? = some f ∧ SameF f f'
end Go.Proofs.Ygcfad
