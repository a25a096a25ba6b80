/-
  ROWS APART: several slices that the call itself made, no two in one block; append to one of them.
-/
import Derived.Test.YgcfadLex2
namespace Go.Proofs.Ygcfad
open Go.RowKit Plain
set_option linter.unusedSimpArgs false
set_option linter.unusedVariables false

structure Row where
  v : Value
  e : Nat
  size : Nat
  n : Nat
  xs : List Value

def Row.ok (B : Nat) (w : World) (r : Row) : Prop := w.ownsRow B r.e r.size r.v r.n r.xs
def Row.apart (a b : Row) : Prop := ∀ g, a.v.ownBlock = some g → b.v.ownBlock = some g → False
def Sep (B : Nat) (w : World) (rs : List Row) : Prop := (∀ r ∈ rs, r.ok B w) ∧ rs.Pairwise Row.apart

theorem Row.apart.symm {a b : Row} (h : Row.apart a b) : Row.apart b a := fun g h1 h2 => h g h2 h1
theorem Row.ok.lt {B : Nat} {w : World} {r : Row} (h : r.ok B w) {g : Nat} (hg : r.v.ownBlock = some g) : B ≤ g ∧ g < w.heap.size := World.ownsRow.lt h g hg

/-- A row stands where its block does. -/
theorem Row.ok.same {B : Nat} {w w' : World} {r : Row} (h : r.ok B w) (hs : ∀ g, r.v.ownBlock = some g → w'.heap[g]? = w.heap[g]?) : r.ok B w' := by
  obtain ⟨h1, h2⟩ := h
  refine ⟨h1, ?_⟩
  rcases h2 with h2 | ⟨g, cap, cur, hv, hg, hh, rest⟩
  · exact .inl h2
  · exact .inr ⟨g, cap, cur, hv, hg, by rw [hs g (by rw [hv]; rfl)]; exact hh, rest⟩

section
variable {B : Nat} {w w' : World} {rs : List Row}
theorem Sep.same (h : Sep B w rs) (hs : ∀ r ∈ rs, ∀ g, r.v.ownBlock = some g → w'.heap[g]? = w.heap[g]?) : Sep B w' rs :=
  ⟨fun r hr => (h.1 r hr).same (hs r hr), h.2⟩
theorem Sep.alloc (h : Sep B w rs) (o : Obj) : Sep B (w.alloc o) rs := h.same fun r hr g hg => Below.heap_alloc w o g ((h.1 r hr).lt hg).2
theorem Sep.drew (h : Sep B w rs) (q : Nat) : Sep B (w.drewN q) rs := h
theorem Sep.below (h : Sep B w rs) (hb : Below w.heap.size w w') : Sep B w' rs := h.same fun r hr g hg => hb.block g ((h.1 r hr).lt hg).2
theorem Sep.only {P : Nat} (h : Sep B w rs) (hP : P < B) (ho : Only P w w') : Sep B w' rs := h.same fun r hr g hg => ho.block g (by have := ((h.1 r hr).lt hg).1; omega)
theorem Sep.setCell {a : Addr} (h : Sep B w rs) (ha : a.block < B) (v : Value) : Sep B (w.setCell a v) rs := h.same fun r hr g hg => Below.heap_setCell w a v g (by have := ((h.1 r hr).lt hg).1; omega)
theorem Sep.perm {rs' : List Row} (h : Sep B w rs) (hp : rs.Perm rs') : Sep B w rs' :=
  ⟨fun r hr => h.1 r (hp.mem_iff.2 hr), (hp.pairwise_iff (fun h => Row.apart.symm h)).1 h.2⟩
theorem Sep.head {r : Row} (h : Sep B w (r :: rs)) : r.ok B w := h.1 r (by simp)
theorem Sep.tail {r : Row} (h : Sep B w (r :: rs)) : Sep B w rs := ⟨fun x hx => h.1 x (by simp [hx]), (List.pairwise_cons.1 h.2).2⟩
/-- The row at the head has turned: what is written is its own block; it stays there, or is new. -/
theorem Sep.turn {r r' : Row} (h : Sep B w (r :: rs)) (hg : w.grownBy w' r.v.ownBlock) (ho : r'.ok B w') (hn : r'.v.ownBlock = r.v.ownBlock ∨ ∀ g, r'.v.ownBlock = some g → w.heap.size ≤ g) : Sep B w' (r' :: rs) := by
  have hap := (List.pairwise_cons.1 h.2).1
  have ht : Sep B w' rs := h.tail.same fun x hx g hxg => hg.block g ((h.tail.1 x hx).lt hxg).2 (fun e => hap x hx g e.symm hxg)
  refine ⟨fun x hx => ?_, List.pairwise_cons.2 ⟨fun x hx g h1 h2 => ?_, ht.2⟩⟩
  · rcases List.mem_cons.1 hx with rfl | hx
    · exact ho
    · exact ht.1 x hx
  · rcases hn with hn | hn
    · exact hap x hx g (by rw [← hn]; exact h1) h2
    · have := hn g h1
      have := ((h.tail.1 x hx).lt h2).2
      omega
/-- A row more, in a new block or nil. -/
theorem Sep.more {r : Row} (h : Sep B w rs) (hb : Below w.heap.size w w') (ho : r.ok B w') (hn : ∀ g, r.v.ownBlock = some g → w.heap.size ≤ g) : Sep B w' (r :: rs) := by
  have ht := h.below hb
  refine ⟨fun x hx => ?_, List.pairwise_cons.2 ⟨fun x hx g h1 h2 => ?_, ht.2⟩⟩
  · rcases List.mem_cons.1 hx with rfl | hx
    · exact ho
    · exact ht.1 x hx
  · have := hn g h1
    have := ((h.1 x hx).lt h2).2
    omega
end

/-- Append to a row of the call's own: where the new value lies is told. -/
theorem wpList_append_sep {B : Nat} (w : World) {ops : Array Oper} {rest : List Oper} {o : Oper} {a : Act} {Q : Exit → Act → World → Prop} (hgd : o.guard = none) (s x : Operand) (t : TypeId)
    (ho : o.op = .call { callee := .builtin .append, args := #[s, x], argTypes := #[t, t] })
    (e : TypeId) (i : TypeInfo) (z : Value) (size bytes : Nat) (ht : Fadg.prog.underlying t = some (.slice e)) (hi : Fadg.prog.info? e = some i) (hz : i.zero = some z)
    (hsize : i.size = size) (hby : i.bytes = bytes) (hzs : z.cells.size = size) (hsz : 0 < size)
    (v : Value) (n : Nat) (xs : List Value) (hs : a.eval s = v) (hown : w.ownsRow B e size v n xs)
    (ad : Addr) (m c : Nat) (news : List Value) (hx : a.eval x = .slice (some ad) m c) (hl : news.length = m * size) (hnews : ∀ j u, news[j]? = some u → w.cell? (ad.add j) = some u) (h1 : ∀ u ∈ news, u.oneCell' = true)
    (h63 : n + m ≤ 1000000) (hb16 : bytes ≤ 1000) (hbase : B ≤ w.heap.size)
    (h : ∀ ao n' cap w', Hid (n' = n + m) → w'.ownsRow B e size (.slice ao n' cap) n' (xs ++ news) → w.grownBy w' v.ownBlock → ((Value.slice ao n' cap).ownBlock = v.ownBlock ∨ ∀ g, (Value.slice ao n' cap).ownBlock = some g → w.heap.size ≤ g) → wpList Fadg.prog ops Q rest (a.put o.dst (.slice ao n' cap)) w') :
    wpList Fadg.prog ops Q (o :: rest) a w := by
  have hbb : (n + m) * bytes ≤ 140737488355328 := Nat.le_trans (Nat.mul_le_mul h63 hb16) (by decide)
  have hmax : n + m ≤ maxLen := by unfold maxLen; omega
  rcases hown.2 with ⟨hv, hn0⟩ | ⟨g, cap, cur, hv, hbg, hh, hnc, hcm, hcs, htake⟩
  · have hx0 : xs = [] := List.eq_nil_of_length_eq_zero (by rw [hown.1, hn0]; simp)
    subst hv hn0 hx0
    by_cases hm : m = 0
    · refine wpList_append_own w hgd s x t ho B e i z size bytes ht hi hz hsize hby hzs hsz _ 0 [] hs hown ad m c news hx hl hnews h1 hmax hbb hbase fun v' w' o1 g1 hv' => ?_
      have : v' = .slice none 0 0 := hv'.2 ⟨rfl, hm⟩
      subst this
      subst hm
      exact h none 0 0 w' rfl o1 g1 (.inl rfl)
    · refine wpList_append_grows w hgd s x t ho e i z size bytes ht hi hz hsize hby hzs hsz none 0 0 [] hs (fun _ => ⟨rfl, rfl⟩) (by simp) (fun b hb => by cases hb) ad m c news hx hl hnews h1 (by omega) hmax hbb fun v' w' o1 g1 => ?_
      have hlt := fun q hq => (World.ownsRow.lt o1 q hq).1
      have o1' : w'.ownsRow B e size v' (0 + m) ([] ++ news) := ⟨o1.1, by
        rcases o1.2 with k | ⟨g', cap', cur', k1, k2, k3⟩
        · exact .inl k
        · exact .inr ⟨g', cap', cur', k1, by omega, k3⟩⟩
      obtain ⟨ao', cap', hv''⟩ : ∃ ao' cap', v' = .slice ao' (0 + m) cap' := by
        rcases o1.2 with ⟨k1, k2⟩ | ⟨g', cap', cur', k1, _⟩
        · omega
        · exact ⟨_, _, k1⟩
      subst hv''
      exact h ao' _ cap' w' rfl o1' ⟨g1.os, g1.tape, g1.output, g1.size, fun k hk _ => g1.block k hk (by simp)⟩ (.inr hlt)
  · subst hv
    by_cases hroom : n + m ≤ cap
    · refine wpList_append_fits w hgd s x t ho B e i size ht hi hsize g n cap xs hs hown ad m c news hx hl hnews h1 hroom fun w' o1 g1 => ?_
      exact h _ _ _ w' rfl o1 g1 (.inl rfl)
    · refine wpList_append_grows w hgd s x t ho e i z size bytes ht hi hz hsize hby hzs hsz (some ⟨g, 0, none⟩) n cap xs hs (fun k => by cases k) hown.1 (fun b hb => by cases hb; exact hown.cells (g := g) rfl) ad m c news hx hl hnews h1 (by omega) hmax hbb fun v' w' o1 g1 => ?_
      have hlt := fun q hq => (World.ownsRow.lt o1 q hq).1
      have o1' : w'.ownsRow B e size v' (n + m) (xs ++ news) := ⟨o1.1, by
        rcases o1.2 with k | ⟨g', cap', cur', k1, k2, k3⟩
        · exact .inl k
        · exact .inr ⟨g', cap', cur', k1, by omega, k3⟩⟩
      obtain ⟨ao', cap', hv''⟩ : ∃ ao' cap', v' = .slice ao' (n + m) cap' := by
        rcases o1.2 with ⟨k1, k2⟩ | ⟨g', cap', cur', k1, _⟩
        · exact ⟨none, 0, by rw [k1, k2]⟩
        · exact ⟨_, _, k1⟩
      subst hv''
      exact h ao' _ cap' w' rfl o1' ⟨g1.os, g1.tape, g1.output, g1.size, fun k hk _ => g1.block k hk (by simp)⟩ (.inr hlt)
end Go.Proofs.Ygcfad
