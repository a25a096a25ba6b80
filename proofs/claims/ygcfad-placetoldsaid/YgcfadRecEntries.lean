/-
  THE WALK of package rec: isPtr, entries.
-/
import Derived.Test.YgcfadRecUnion
namespace Go.Proofs.Ygcfad
open Go.RowKit Plain
set_option linter.unusedSimpArgs false
set_option linter.unusedVariables false

theorem isPtr_any (k : Nat) (w : World) : Calls Fadg.prog 171 #[.int .u8 (k : Int)] w fun e w' => e = .returned (.bool (ptrN k)) ∧ w' = w := by
  by_cases h1 : k = 11
  · subst h1
    go_enter Fadg.func171, Fadg.ntmps171
    go_wp2
    go_ret
    exact ⟨rfl, rfl⟩
  · have h1' : ((k : Int) == 11) = false := by simp; omega
    by_cases h2 : k = 12
    · subst h2
      go_enter Fadg.func171, Fadg.ntmps171
      go_wp2
      go_ret
      exact ⟨rfl, rfl⟩
    · have h2' : ((k : Int) == 12) = false := by simp; omega
      have e : ptrN k = ((k : Int) == 13) := by rw [Bool.eq_iff_iff]; simp [ptrN, h1, h2]; omega
      rw [e]
      go_enter Fadg.func171, Fadg.ntmps171
      go_wp2
      go_ret
      exact ⟨rfl, rfl⟩
theorem Fadg.info194' : (Fadg.prog.info? 194).map (fun i => (i.zero, i.size, i.bytes)) = some (some (.agg #[.int .u8 0, .int .u8 0, .int .u8 0, .int .u8 0]), 4, 4) := by kernel_rfl
/-- make, of length 0: a function on worlds. -/
theorem make_fn (t e : TypeId) (i : TypeInfo) (z : Value) (size : Nat) (h1 : Fadg.prog.underlying t = some (.slice e)) (h2 : Fadg.prog.info? e = some i) (h3 : i.zero = some z) (h4 : i.size = size) (C : Int) (n : Nat) (hC : C = (n : Int)) (b2 : i.bytes * n ≤ 281474976710656) (b3 : n ≤ maxLen) :
    ∃ f : World → World, (∀ W : World, (Instr.makeSlice t (.int .i64 0) (.int .i64 C)).run Fadg.prog W = .ok (.slice (some ⟨W.heap.size, 0, none⟩) 0 n) (f W)) ∧ (∀ W : World, (f W).ownsRow W.heap.size e size (.slice (some ⟨W.heap.size, 0, none⟩) 0 n) 0 [] ∧ W.grownBy (f W) none) := by
  subst hC
  have h : ∀ W : World, ∃ w', (Instr.makeSlice t (.int .i64 0) (.int .i64 (n : Int))).run Fadg.prog W = .ok (.slice (some ⟨W.heap.size, 0, none⟩) 0 n) w' ∧ w'.ownsRow W.heap.size e size (.slice (some ⟨W.heap.size, 0, none⟩) 0 n) 0 [] ∧ W.grownBy w' none := fun W => by
    obtain ⟨w', hrun, r1, r2⟩ := run_make_own (P := Fadg.prog) W W.heap.size t e i z size h1 h2 h3 h4 .i64 .i64 n b2 b3 (Nat.le_refl _)
    exact ⟨w', hrun, r1, r2⟩
  exact ⟨fun W => Classical.choose (h W), fun W => (Classical.choose_spec (h W)).1, fun W => (Classical.choose_spec (h W)).2⟩

def yk (k : Nat) : List Value := yc ⟨k, 0, 0, 0⟩
theorem yk_len (k : Nat) : (yk k).length = 4 := rfl
def ai (a : Int) : List Value := [.int .i64 a]
theorem ai_len (a : Int) : (ai a).length = 1 := rfl
/-- entries' arrays: the kinds, where each field lies, the union's rooms. -/
def eT (v : Value) (ks : List Nat) : Row := ⟨v, 194, 4, ks.length, ks.flatMap yk⟩
def eA (v : Value) (xs : List Int) : Row := ⟨v, 3, 1, xs.length, xs.flatMap ai⟩
def eR (R : Nat) (tg wd sl : Int) : Row := ⟨.slice (some ⟨R, 0, none⟩) 1 1, 267, 3, 1, [.int .i64 tg, .int .i64 wd, .int .i64 sl]⟩
structure EStd (B : Nat) (w0 w : World) (R : Nat) (tv av : Value) (ks : List Nat) (xs : List Int) (tg wd sl : Int) (rs : List Row) : Prop where
  sep : Sep B w (eT tv ks :: eA av xs :: eR R tg wd sl :: rs)
  bel : Below B w0 w
  sz : B ≤ w.heap.size
/-- An index, or none. -/
def Ix (n : Nat) (a : Int) : Prop := a = -1 ∨ (0 ≤ a ∧ a < (n : Int))
theorem Ix.mono {n n' : Nat} {a : Int} (h : Ix n a) (hn : n ≤ n') : Ix n' a := by rcases h with h | ⟨h1, h2⟩; exact .inl h; exact .inr ⟨h1, by omega⟩
/-- The fields of a slice in memory. -/
def FRow (w : World) (ao : Option Addr) (fs : List RF) : Prop := ∀ j f, fs[j]? = some f → ∃ g, ao = some ⟨g, 0, none⟩ ∧ ∀ t v, [Value.string f.b, .int .u8 (f.k : Int), .int .u8 (f.e : Int), .int .u8 (f.r : Int), .int .u8 f.ns, .int .u8 f.q1, .int .u16 f.q2, .int .u8 f.q3, .bool f.q4, .int .u64 f.d, .bool f.u][t]? = some v → w.cell? ((⟨g, j * 11, none⟩ : Addr).add t) = some v
def FBelow (B : Nat) (ao : Option Addr) : Prop := ∀ g, ao = some ⟨g, 0, none⟩ → g < B
theorem FRow.below {B : Nat} {w w' : World} {ao : Option Addr} {fs : List RF} (h : FRow w ao fs) (hb : Below B w w') (hg : FBelow B ao) : FRow w' ao fs := by
  intro j f hf
  obtain ⟨g, h1, h2⟩ := h j f hf
  refine ⟨g, h1, fun t v ht => ?_⟩
  have := h2 t v ht
  rw [Addr.add_lit] at this ⊢
  exact (hb.cell (p := ⟨g, _, none⟩) (hg g h1)).trans this
section
variable {B R : Nat} {w0 w w' : World} {tv av : Value} {ks : List Nat} {xs : List Int} {tg wd sl : Int} {rs : List Row}
theorem EStd.drew (h : EStd B w0 w R tv av ks xs tg wd sl rs) (q : Nat) : EStd B w0 (w.drewN q) R tv av ks xs tg wd sl rs := ⟨h.sep.drew q, below_drewN h.bel q, h.sz⟩
theorem EStd.alloc (h : EStd B w0 w R tv av ks xs tg wd sl rs) (o : Obj) : EStd B w0 (w.alloc o) R tv av ks xs tg wd sl rs :=
  ⟨h.sep.alloc o, h.bel.alloc h.sz o, by simp; have := h.sz; omega⟩
theorem EStd.r (h : EStd B w0 w R tv av ks xs tg wd sl rs) : (eR R tg wd sl).ok B w := h.sep.1 _ (by simp)
theorem EStd.cells (h : EStd B w0 w R tv av ks xs tg wd sl rs) : w.cell? ⟨R, 0, none⟩ = some (.int .i64 tg) ∧ w.cell? ⟨R, 1, none⟩ = some (.int .i64 wd) ∧ w.cell? ⟨R, 2, none⟩ = some (.int .i64 sl) ∧ ∀ j, w.frozen? ⟨R, j, none⟩ = false :=
  ⟨h.r.at (g := R) (cap := 1) rfl 0 (by show 0 < 1 * 3; decide), h.r.at (g := R) (cap := 1) rfl 1 (by show 1 < 1 * 3; decide), h.r.at (g := R) (cap := 1) rfl 2 (by show 2 < 1 * 3; decide), fun j => h.r.fr (g := R) (cap := 1) rfl j⟩
theorem eperm1 {a b c : Row} {rs : List Row} : (a :: b :: c :: rs).Perm (c :: a :: b :: rs) :=
  ((List.Perm.swap c b rs).cons a).trans (List.Perm.swap c a (b :: rs))
theorem eperm2 {a b : Row} {rs : List Row} : (a :: b :: rs).Perm (b :: a :: rs) := List.Perm.swap _ _ _
theorem eperm3 {a b c d : Row} {rs : List Row} : (a :: b :: c :: d :: rs).Perm (d :: a :: b :: c :: rs) :=
  ((eperm1 (a := b) (b := c) (c := d) (rs := rs)).cons a).trans (List.Perm.swap d a _)
theorem EStd.more (h : EStd B w0 w R tv av ks xs tg wd sl rs) {r : Row} {o : Obj} (ho : r.ok B (w.alloc o)) (hn : ∀ g, r.v.ownBlock = some g → w.heap.size ≤ g) : EStd B w0 (w.alloc o) R tv av ks xs tg wd sl (r :: rs) :=
  ⟨(h.sep.more ((Below.refl _ _).alloc (Nat.le_refl _) o) ho hn).perm eperm3.symm, h.bel.alloc h.sz o, by simp; have := h.sz; omega⟩
theorem EStd.less {r : Row} (h : EStd B w0 w R tv av ks xs tg wd sl (r :: rs)) : EStd B w0 w R tv av ks xs tg wd sl rs := ⟨(h.sep.perm eperm3).tail, h.bel, h.sz⟩
theorem EStd.headE {r : Row} (h : EStd B w0 w R tv av ks xs tg wd sl (r :: rs)) : r.ok B w := (h.sep.perm eperm3).head
theorem EStd.store (h : EStd B w0 w R tv av ks xs tg wd sl rs) (j : Nat) (v : Int) {tg' wd' sl' : Int} (hx : [Value.int .i64 tg, .int .i64 wd, .int .i64 sl].set j (.int .i64 v) = [.int .i64 tg', .int .i64 wd', .int .i64 sl']) : EStd B w0 (w.setCell ⟨R, j, none⟩ (.int .i64 v)) R tv av ks xs tg' wd' sl' rs := by
  have hR := (h.r.lt (g := R) rfl).1
  have h1 := (h.sep.perm eperm1).store (g := R) (cap := 1) rfl j (.int .i64 v)
  have e : ({ eR R tg wd sl with xs := (eR R tg wd sl).xs.set j (.int .i64 v) } : Row) = eR R tg' wd' sl' := by unfold eR; simp only [hx]
  rw [e] at h1
  exact ⟨h1.perm eperm1.symm, h.bel.setCell (by show B ≤ R; exact hR) _, by simp [World.setCell]; exact h.sz⟩
/-- A kind appended. -/
theorem EStd.pushT (h : EStd B w0 w R tv av ks xs tg wd sl rs) {ao : Option Addr} {n' cap k : Nat} (hn : n' = ks.length + 1) (ho : w'.ownsRow B 194 4 (.slice ao n' cap) n' (ks.flatMap yk ++ yk k)) (hg : w.grownBy w' tv.ownBlock) (hnew : (Value.slice ao n' cap).ownBlock = tv.ownBlock ∨ ∀ g, (Value.slice ao n' cap).ownBlock = some g → w.heap.size ≤ g) :
    EStd B w0 w' R (.slice ao n' cap) av (ks ++ [k]) xs tg wd sl rs := by
  have e : eT (.slice ao n' cap) (ks ++ [k]) = ⟨.slice ao n' cap, 194, 4, n', ks.flatMap yk ++ yk k⟩ := by unfold eT; simp [hn]
  refine ⟨Sep.turn (r := eT tv ks) (r' := eT (.slice ao n' cap) (ks ++ [k])) h.sep hg (by rw [e]; exact ho) (by rw [e]; exact hnew), h.bel.grown hg h.sz (fun q hq => ?_), Nat.le_trans h.sz hg.size⟩
  exact ((h.sep.head).lt (g := q) hq).1
/-- An index appended. -/
theorem EStd.pushA (h : EStd B w0 w R tv av ks xs tg wd sl rs) {ao : Option Addr} {n' cap : Nat} {a : Int} (hn : n' = xs.length + 1) (ho : w'.ownsRow B 3 1 (.slice ao n' cap) n' (xs.flatMap ai ++ ai a)) (hg : w.grownBy w' av.ownBlock) (hnew : (Value.slice ao n' cap).ownBlock = av.ownBlock ∨ ∀ g, (Value.slice ao n' cap).ownBlock = some g → w.heap.size ≤ g) :
    EStd B w0 w' R tv (.slice ao n' cap) ks (xs ++ [a]) tg wd sl rs := by
  have e : eA (.slice ao n' cap) (xs ++ [a]) = ⟨.slice ao n' cap, 3, 1, n', xs.flatMap ai ++ ai a⟩ := by unfold eA; simp [hn]
  have hs := Sep.turn (r := eA av xs) (r' := eA (.slice ao n' cap) (xs ++ [a])) (h.sep.perm eperm2) hg (by rw [e]; exact ho) (by rw [e]; exact hnew)
  refine ⟨hs.perm eperm2, h.bel.grown hg h.sz (fun q hq => ?_), Nat.le_trans h.sz hg.size⟩
  exact ((h.sep.perm eperm2).head.lt (g := q) hq).1
theorem EStd.ownT (h : EStd B w0 w R tv av ks xs tg wd sl rs) {n : Nat} (hn : n = ks.length) : w.ownsRow B 194 4 tv n (ks.flatMap yk) := by subst hn; exact h.sep.head
theorem EStd.ownA (h : EStd B w0 w R tv av ks xs tg wd sl rs) {n : Nat} (hn : n = xs.length) : w.ownsRow B 3 1 av n (xs.flatMap ai) := by subst hn; exact (h.sep.perm eperm2).head
end
theorem yk_one (k : Nat) : ∀ x ∈ yk k, x.oneCell' = true := by
  intro x hx
  simp [yk, yc] at hx
  rcases hx with rfl | rfl <;> rfl
theorem ai_one (a : Int) : ∀ x ∈ ai a, x.oneCell' = true := by intro x hx; simp [ai] at hx; subst hx; rfl
/-- What entries leaves. -/
def EntPost (B : Nat) (w0 : World) (fs : List RF) (e : Ending) (w' : World) : Prop :=
  ∃ (R : Nat) (tao aao : Option Addr) (tn tc an ac : Nat) (xs : List Int) (tg wd sl : Int),
    e = .returned (.tuple #[.slice tao tn tc, .slice aao an ac, .agg #[.int .i64 tg, .int .i64 wd, .int .i64 sl]]) ∧
    EStd B w0 w' R (.slice tao tn tc) (.slice aao an ac) (entN (fs.map gf) false false false) xs tg wd sl [] ∧ tn = (entN (fs.map gf) false false false).length ∧ an = xs.length ∧ xs.length = fs.length ∧ (∀ a ∈ xs, Ix (entN (fs.map gf) false false false).length a) ∧ Ix (entN (fs.map gf) false false false).length tg

def gb (a : Int) : Bool := decide (0 ≤ a)
/-- One field more, its four ways. -/
theorem ent_cons (f : FR) (l : List FR) (tg wd sl : Bool) : entN (f :: l) tg wd sl = (if (f.u && !tg) = true then [6] else []) ++
    (if f.k = 14 then entN l (tg || f.u) wd sl
     else if f.u = false then f.k :: entN l tg wd sl
     else if ptrN f.k = true then (if sl = true then [] else [11]) ++ entN l true wd true
     else (if wd = true then [] else [8]) ++ entN l true true sl) := rfl
theorem ent_void {f : FR} {l : List FR} {tg wd sl : Bool} (hk : f.k = 14) : entN (f :: l) tg wd sl = (if (f.u && !tg) = true then [6] else []) ++ entN l (tg || f.u) wd sl := by rw [ent_cons, if_pos hk]
theorem ent_plain {f : FR} {l : List FR} {tg wd sl : Bool} (hk : ¬ f.k = 14) (hu : f.u = false) : entN (f :: l) tg wd sl = f.k :: entN l tg wd sl := by
  rw [ent_cons, if_neg hk]; simp [hu]
theorem ent_ptr {f : FR} {l : List FR} {tg wd sl : Bool} (hk : ¬ f.k = 14) (hu : f.u = true) (hp : ptrN f.k = true) : entN (f :: l) tg wd sl = (if (f.u && !tg) = true then [6] else []) ++ ((if sl = true then [] else [11]) ++ entN l true wd true) := by
  rw [ent_cons, if_neg hk]; simp [hu, hp]
theorem ent_word {f : FR} {l : List FR} {tg wd sl : Bool} (hk : ¬ f.k = 14) (hu : f.u = true) (hp : ptrN f.k = false) : entN (f :: l) tg wd sl = (if (f.u && !tg) = true then [6] else []) ++ ((if wd = true then [] else [8]) ++ entN l true true sl) := by
  rw [ent_cons, if_neg hk]; simp [hu, hp]
theorem Fadg.info267 : (Fadg.prog.info? 267).map (fun i => (i.zero, i.size, i.bytes)) = some (some (.agg #[.int .i64 0, .int .i64 0, .int .i64 0]), 3, 24) := by kernel_rfl
theorem eR_new (w : World) (tg wd sl : Int) : (eR w.heap.size tg wd sl).ok w.heap.size (w.alloc (.cells #[.int .i64 tg, .int .i64 wd, .int .i64 sl] 267)) :=
  World.ownsRow_lit (base := w.heap.size) (e := 267) (size := 3) w #[.int .i64 tg, .int .i64 wd, .int .i64 sl] 1 (Nat.le_refl _) (by decide) rfl

theorem owns_mono {w : World} {b b' e size n : Nat} {v : Value} {xs : List Value} (h : w.ownsRow b e size v n xs) (hb : b' ≤ b) : w.ownsRow b' e size v n xs :=
  ⟨h.1, h.2.imp id (fun ⟨g, cap, cur, a, c, d⟩ => ⟨g, cap, cur, a, Nat.le_trans hb c, d⟩)⟩
theorem e_made1 {w wD w1 w2 : World} {a b tc ac : Nat} (hD : wD = (w.alloc (.cells #[.int .i64 (-1), .int .i64 (-1), .int .i64 (-1)] 267)).drew) (o1 : w1.ownsRow wD.heap.size 194 4 (.slice (some ⟨wD.heap.size, 0, none⟩) 0 tc) 0 []) (ha : a = wD.heap.size) (g1 : wD.grownBy w1 none)
    (o2 : w2.ownsRow w1.heap.size 3 1 (.slice (some ⟨w1.heap.size, 0, none⟩) 0 ac) 0 []) (hb : b = w1.heap.size) (g2 : w1.grownBy w2 none) : EStd w.heap.size w w2 w.heap.size (.slice (some ⟨a, 0, none⟩) 0 tc) (.slice (some ⟨b, 0, none⟩) 0 ac) [] [] (-1) (-1) (-1) [] := by
  subst hD ha hb
  have b0 : Below w.heap.size w (w.alloc (.cells #[.int .i64 (-1), .int .i64 (-1), .int .i64 (-1)] 267)).drew := below_drewN ((Below.refl _ _).alloc (Nat.le_refl _) _) 1
  have s0 : Sep w.heap.size (w.alloc (.cells #[.int .i64 (-1), .int .i64 (-1), .int .i64 (-1)] 267)).drew [eR w.heap.size (-1) (-1) (-1)] := ⟨fun r hr => by rw [List.mem_singleton.1 hr]; exact eR_new w _ _ _, by simp⟩
  have hb1 := (Below.refl (w.alloc (.cells #[.int .i64 (-1), .int .i64 (-1), .int .i64 (-1)] 267)).drew.heap.size _).grown g1 (Nat.le_refl _) (fun _ h => by cases h)
  have s1 := s0.more (r := eT _ []) hb1 (owns_mono o1 (by simp)) (fun g hg => by simp [eT, Value.ownBlock] at hg; rw [← hg]; simp)
  have hb2 := (Below.refl w1.heap.size w1).grown g2 (Nat.le_refl _) (fun _ h => by cases h)
  have s2 := s1.more (r := eA _ []) hb2 (owns_mono o2 (Nat.le_trans (by simp) g1.size)) (fun g hg => by simp [eA, Value.ownBlock] at hg; omega)
  refine ⟨s2.perm eperm2, (b0.trans (hb1.mono (by simp))).trans (hb2.mono (Nat.le_trans (by simp) g1.size)), Nat.le_trans (Nat.le_trans (by simp) g1.size) g2.size⟩
theorem e_made2 {w wD w1 w2 : World} {a b tc ac : Nat} (hD : wD = (w.alloc (.cells #[.int .i64 (-1), .int .i64 (-1), .int .i64 (-1)] 267)).drew) (o2 : w2.ownsRow wD.heap.size 3 1 (.slice (some ⟨wD.heap.size, 0, none⟩) 0 ac) 0 []) (hb : b = wD.heap.size) (g2 : wD.grownBy w2 none)
    (o1 : w1.ownsRow w2.heap.size 194 4 (.slice (some ⟨w2.heap.size, 0, none⟩) 0 tc) 0 []) (ha : a = w2.heap.size) (g1 : w2.grownBy w1 none) : EStd w.heap.size w w1 w.heap.size (.slice (some ⟨a, 0, none⟩) 0 tc) (.slice (some ⟨b, 0, none⟩) 0 ac) [] [] (-1) (-1) (-1) [] := by
  subst hD ha hb
  have b0 : Below w.heap.size w (w.alloc (.cells #[.int .i64 (-1), .int .i64 (-1), .int .i64 (-1)] 267)).drew := below_drewN ((Below.refl _ _).alloc (Nat.le_refl _) _) 1
  have s0 : Sep w.heap.size (w.alloc (.cells #[.int .i64 (-1), .int .i64 (-1), .int .i64 (-1)] 267)).drew [eR w.heap.size (-1) (-1) (-1)] := ⟨fun r hr => by rw [List.mem_singleton.1 hr]; exact eR_new w _ _ _, by simp⟩
  have hb1 := (Below.refl (w.alloc (.cells #[.int .i64 (-1), .int .i64 (-1), .int .i64 (-1)] 267)).drew.heap.size _).grown g2 (Nat.le_refl _) (fun _ h => by cases h)
  have s1 := s0.more (r := eA _ []) hb1 (owns_mono o2 (by simp)) (fun g hg => by simp [eA, Value.ownBlock] at hg; rw [← hg]; simp)
  have hb2 := (Below.refl w2.heap.size w2).grown g1 (Nat.le_refl _) (fun _ h => by cases h)
  have s2 := s1.more (r := eT _ []) hb2 (owns_mono o1 (Nat.le_trans (by simp) g2.size)) (fun g hg => by simp [eT, Value.ownBlock] at hg; omega)
  refine ⟨s2, (b0.trans (hb1.mono (by simp))).trans (hb2.mono (Nat.le_trans (by simp) g2.size)), Nat.le_trans (Nat.le_trans (by simp) g2.size) g1.size⟩

set_option maxRecDepth 100000 in
set_option maxHeartbeats 8000000 in
theorem entries_any (ao : Option Addr) (n c : Nat) (fs : List RF) (w : World) (hn : Hid (n = fs.length)) (hn16 : n ≤ 16) (hrow : Hid (FRow w ao fs)) (hbel : Hid (FBelow w.heap.size ao)) :
    Calls Fadg.prog 169 #[.slice ao n c] w (EntPost w.heap.size w fs) := by
  obtain ⟨i4, hi4, hz0, hz1, hz2⟩ := info_parts Fadg.info194'
  obtain ⟨i3, hi3, hy0, hy1, hy2⟩ := info_parts Fadg.info3
  obtain ⟨f4, hf4, hg4⟩ := make_fn 243 194 i4 _ 4 Fadg.underlying243 hi4 hz0 hz1 (IntKind.i64.wrap ((n : Int) + 3)) (n + 3) (by rw [IntKind.wrap_i64]; omega) (by rw [hz2]; omega) (by unfold maxLen; omega)
  obtain ⟨f3, hf3, hg3⟩ := make_fn 140 3 i3 _ 1 Fadg.underlying140 hi3 hy0 hy1 (n : Int) n rfl (by rw [hy2]; omega) (by unfold maxLen; omega)
  have HG4 := hid hg4
  have HG3 := hid hg3
  clear hg4 hg3
  go_enter Fadg.func169, Fadg.ntmps169
  go_upto_region 2 with fail
  go_cut [2, 3] (fun v2 v3 wx => ∃ (tao aao : Option Addr) (tc ac : Nat), v2 = .slice tao 0 tc ∧ v3 = .slice aao 0 ac ∧ Hid (EStd w.heap.size w wx w.heap.size (.slice tao 0 tc) (.slice aao 0 ac) [] [] (-1) (-1) (-1) []))
  case first =>
    go_region
    all_goals go_wp2_with fail
    all_goals go_meet
    all_goals first
      | exact ⟨_, _, _, _, rfl, rfl, e_made1 rfl (HG4.out _).1 (by first | rfl | simp) (HG4.out _).2 (HG3.out _).1 (by first | rfl | simp) (HG3.out _).2⟩
      | exact ⟨_, _, _, _, rfl, rfl, e_made2 rfl (HG3.out _).1 (by first | rfl | simp) (HG3.out _).2 (HG4.out _).1 (by first | rfl | simp) (HG4.out _).2⟩
  case rest =>
    obtain ⟨tao, aao, tc, ac, rfl, rfl, hE0⟩ := hcut
    clear hf4 hf3 HG4 HG3
    generalize w.heap.size = B at *
    go_upto_if 18 with fail
    go_loopg [2, 3, 17] n (fun gk v2 v3 j wr => ∃ (j' : Nat) (tao aao : Option Addr) (nt tc ac : Nat) (ks : List Nat) (xs : List Int) (tg wd sl : Int), j = .int .i64 (j' : Int) ∧ v2 = .slice tao nt tc ∧ v3 = .slice aao j' ac ∧ j' + gk = n ∧ nt ≤ 2 * j' ∧ Hid (nt = ks.length) ∧ Hid (j' = xs.length) ∧ Hid (EStd B w wr B (.slice tao nt tc) (.slice aao j' ac) ks xs tg wd sl []) ∧ Hid (ks ++ entN ((fs.map gf).drop j') (gb tg) (gb wd) (gb sl) = entN (fs.map gf) false false false) ∧ Hid (Ix nt tg ∧ Ix nt wd ∧ Ix nt sl ∧ ∀ a ∈ xs, Ix nt a))
    case atStart => exact ⟨0, tao, aao, 0, tc, ac, [], [], -1, -1, -1, rfl, rfl, rfl, by omega, by omega, rfl, rfl, hE0, rfl, ⟨.inl rfl, .inl rfl, .inl rfl, fun a ha => by cases ha⟩⟩
    case round =>
      clear hE0
      obtain ⟨j, tao, aao, nt, tc, ac, ks, xs, tg, wd, sl, rfl, rfl, rfl, hj, hnt, HNT, HXS, hE, hent, hix⟩ := hrel
      by_cases hlt : j < n
      · have hlt' : (j : Int) < (n : Int) := by omega
        have hjl : j < fs.length := by rw [← hn.out]; exact hlt
        obtain ⟨f, hf⟩ : ∃ f, fs[j]? = some f := ⟨_, List.getElem?_eq_getElem hjl⟩
        obtain ⟨g, hao, HC⟩ := (hrow.out.below hE.out.bel hbel.out) j f hf
        subst hao
        have HC := hid HC
        have hdrop : Hid ((fs.map gf).drop j = gf f :: (fs.map gf).drop (j + 1)) := by
          show _ = _
          have e : fs[j] = f := by rw [List.getElem?_eq_getElem hjl] at hf; simpa using hf
          rw [List.drop_eq_getElem_cons (by simpa using hjl)]; simp [e]
        clear hf
        have hV := hid (hE.out.more (r := qV wr.heap.size f) (o := .cells #[.string f.b, .int .u8 (f.k : Int), .int .u8 (f.e : Int), .int .u8 (f.r : Int), .int .u8 f.ns, .int .u8 f.q1, .int .u16 f.q2, .int .u8 f.q3, .bool f.q4, .int .u64 f.d, .bool f.u] 212) (World.ownsRow_lit (base := B) (e := 212) (size := 11) wr #[.string f.b, .int .u8 (f.k : Int), .int .u8 (f.e : Int), .int .u8 (f.r : Int), .int .u8 f.ns, .int .u8 f.q1, .int .u16 f.q2, .int .u8 f.q3, .bool f.q4, .int .u64 f.d, .bool f.u] 1 hE.out.sz (by decide) rfl) (fun g hg => by simp [qV, Value.ownBlock] at hg; omega))
        go_upto_region 6 with (refine wpList_load_cells' rfl 212 (.tmp 19) rfl ⟨g, j * 11, none⟩ rfl _ _ HC.out Fadg.underlying212 rfl Fadg.len212 ?_)
        generalize wr.alloc (.cells #[.string f.b, .int .u8 (f.k : Int), .int .u8 (f.e : Int), .int .u8 (f.r : Int), .int .u8 f.ns, .int .u8 f.q1, .int .u16 f.q2, .int .u8 f.q3, .bool f.q4, .int .u64 f.d, .bool f.u] 212) = w1 at *
        generalize wr.heap.size = V at *
        clear hE HC
        have hkc : Hid (∀ {wx : World} {tv av : Value} {ks : List Nat} {xs : List Int} {tg wd sl : Int}, EStd B w wx B tv av ks xs tg wd sl [qV V f] → wx.cell? ⟨V, 1, none⟩ = some (.int .u8 (f.k : Int)) ∧ wx.cell? ⟨V, 10, none⟩ = some (.bool f.u)) := fun hx => ⟨hx.headE.at (g := V) (cap := 1) rfl 1 (by show 1 < 1 * 11; decide), hx.headE.at (g := V) (cap := 1) rfl 10 (by show 10 < 1 * 11; decide)⟩
        obtain ⟨kV, uV⟩ := hkc.out hV.out
        obtain ⟨r0, -, -, rf⟩ := hV.out.cells
        go_cut [27] (fun v wx => v = .bool (f.u && decide (tg < 0)) ∧ wx = w1)
        case first =>
          cases hu : f.u with
          | true =>
            rw [hu] at uV
            go_wp2
            go_meet
            exact ⟨by rw [hu]; rfl, rfl⟩
          | false =>
            rw [hu] at uV
            go_wp2
            go_meet
            exact ⟨by rw [hu]; rfl, rfl⟩
        case rest =>
          obtain ⟨rfl, rfl⟩ := hcut
          go_upto_if 27 with fail
          go_cut [2, 27] (fun v2 v27 wx => ∃ (tao : Option Addr) (nt2 tc : Nat) (ks2 : List Nat) (tg2 : Int), v2 = .slice tao nt2 tc ∧ nt2 ≤ 2 * j + 1 ∧ nt ≤ nt2 ∧ Hid (nt2 = ks2.length) ∧ Hid (EStd B w wx B (.slice tao nt2 tc) (.slice aao j ac) ks2 xs tg2 wd sl [qV V f]) ∧ Hid (ks2 = ks ++ (if (f.u && !gb tg) = true then [6] else []) ∧ gb tg2 = (gb tg || f.u)) ∧ Hid (Ix nt2 tg2))
          case first =>
            cases hb : (f.u && decide (tg < 0)) with
            | true =>
              have hb' : f.u = true ∧ tg < 0 := by simpa using hb
              have hgb : Hid ((f.u && !gb tg) = true) := by show _ = _; simp [gb, hb'.1]; omega
              have HU := hid hb'.1
              have rf0 := rf 0
              have hs2 := hid (hV.out.store 0 (nt : Int) (tg' := (nt : Int)) (wd' := wd) (sl' := sl) rfl)
              have hs3 := hid (hs2.out.alloc (.cells #[.int .u8 6, .int .u8 0, .int .u8 0, .int .u8 0] 194))
              clear hb hb' rf
              go_wp2_with (at_builtin; go_must (refine wpList_append_sep (B := B) _ rfl (.tmp 31) (.tmp 33) 243 rfl 194 i4 _ 4 4 Fadg.underlying243 hi4 hz0 hz1 hz2 rfl (by decide) (.slice tao nt tc) nt (ks.flatMap yk) rfl (hs3.out.ownT HNT.out) ⟨_, 0, none⟩ 1 1 (yk 6) rfl rfl (four_new' _ _ _ _ _ _ _ (by simp)) (yk_one _) (by omega) (by decide) hs3.out.sz ?_); intro ao8 n8 cap8 w8 hn8 hown8 hg8 hnew8)
              go_meet
              refine ⟨ao8, n8, cap8, ks ++ [6], (nt : Int), rfl, by have := hn8.out; omega, by have := hn8.out; omega, ?_, hs3.out.pushT (hn8.out.trans (by rw [HNT.out])) hown8 hg8 hnew8, ⟨by rw [if_pos hgb.out], by rw [HU.out]; simp [gb]⟩, .inr ⟨by omega, by have := hn8.out; omega⟩⟩
              show n8 = _; rw [hn8.out, List.length_append, HNT.out]; rfl
            | false =>
              have hgb : Hid (¬ (f.u && !gb tg) = true ∧ gb tg = (gb tg || f.u)) := by
                refine ⟨?_, ?_⟩
                · intro h; simp [gb] at h; rw [h.1] at hb; simp at hb; omega
                · cases hu : f.u with
                  | false => simp
                  | true => rw [hu] at hb; have : ¬ tg < 0 := by simpa using hb
                            simp [gb]; omega
              clear hb rf
              go_wp2
              go_meet
              exact ⟨tao, nt, tc, ks, tg, rfl, by omega, Nat.le_refl _, HNT, hV, ⟨by rw [if_neg hgb.out.1, List.append_nil], hgb.out.2⟩, hix.out.1⟩
          case rest =>
            obtain ⟨tao2, nt2, tc2, ks2, tg2, rfl, hnt2, hntle, HNT2, hV2, hks2, htg2⟩ := hcut
            clear hV kV uV r0 rf
            obtain ⟨kV, uV⟩ := hkc.out hV2.out
            have hxs2 : Hid (∀ a ∈ xs, Ix nt2 a) := fun a ha => (hix.out.2.2.2 a ha).mono hntle
            have hwd2 : Hid (Ix nt2 wd) := hix.out.2.1.mono hntle
            have hsl2 : Hid (Ix nt2 sl) := hix.out.2.2.1.mono hntle
            have hend : Hid (∀ X, entN (gf f :: (fs.map gf).drop (j + 1)) (gb tg) (gb wd) (gb sl) = (if (f.u && !gb tg) = true then [6] else []) ++ X → ks2 ++ X = entN (fs.map gf) false false false) := fun X hX => by
              rw [← hent.out, hdrop.out, hX, hks2.out.1, List.append_assoc]
            by_cases hk : f.k = 14
            · have hk' : ((f.k : Int) == 14) = true := by simp [hk]
              have hs3 := hid (hV2.out.alloc (.cells #[.int .i64 (-1)] 3))
              have hX := hid (hend.out _ (ent_void (f := gf f) (l := (fs.map gf).drop (j + 1)) (tg := gb tg) (wd := gb wd) (sl := gb sl) hk))
              clear hk
              go_wp2_with (at_builtin; go_must (refine wpList_append_sep (B := B) _ rfl (.tmp 55) (.tmp 56) 140 rfl 3 i3 _ 1 8 Fadg.underlying140 hi3 hy0 hy1 hy2 rfl (by decide) (.slice aao j ac) j (xs.flatMap ai) rfl (hs3.out.ownA HXS.out) ⟨_, 0, none⟩ 1 1 (ai (-1)) rfl rfl (one_new _ _ _ _ (by simp)) (ai_one _) (by omega) (by decide) hs3.out.sz ?_); intro aoA nA capA wA hnA hownA hgA hnewA; obtain rfl : nA = j + 1 := hnA.out; have hsA := hid (hs3.out.pushA (by rw [← HXS.out]) hownA hgA hnewA))
              go_roundg (gk - 1)
              case measure => omega
              case rel =>
                refine ⟨j + 1, tao2, aoA, nt2, tc2, capA, ks2, xs ++ [-1], tg2, wd, sl, by go_num, rfl, rfl, by omega, by omega, HNT2, by show j + 1 = _; rw [List.length_append, ← HXS.out]; rfl, hsA.out.less, ?_, ⟨htg2.out, hwd2.out, hsl2.out, ?_⟩⟩
                · show _ = _; rw [hks2.out.2]; exact hX.out
                · intro a ha
                  rcases List.mem_append.1 ha with ha | ha
                  · exact hxs2.out a ha
                  · rw [List.mem_singleton.1 ha]; exact .inl rfl
            · have hk' : ((f.k : Int) == 14) = false := by simp; omega
              cases hu : f.u with
              | false =>
                rw [hu] at uV
                have hs3 := hid (hV2.out.alloc (.cells #[.int .i64 (nt2 : Int)] 3))
                have hX := hid (hend.out (f.k :: entN ((fs.map gf).drop (j + 1)) (gb tg) (gb wd) (gb sl)) (by rw [ent_plain (f := gf f) hk hu, hu]; rfl))
                have HU := hid hu
                clear hu
                go_wp2_with (first | (at_builtin; (refine wpList_append_sep (B := B) _ rfl (.tmp 67) (.tmp 72) 243 rfl 194 i4 _ 4 4 Fadg.underlying243 hi4 hz0 hz1 hz2 rfl (by decide) (.slice tao2 nt2 tc2) nt2 (ks2.flatMap yk) rfl (hsA2.out.ownT HNT2.out) ⟨_, 0, none⟩ 1 1 (yk f.k) rfl rfl (four_new' _ _ _ _ _ _ _ (by simp)) (yk_one _) (by omega) (by decide) hsA2.out.sz ?_); intro aoT nT capT wT hnT hownT hgT hnewT; obtain rfl : nT = nt2 + 1 := hnT.out; have hsT := hid (hsA2.out.pushT (by rw [← HNT2.out]) hownT hgT hnewT)) | (at_builtin; go_must (refine wpList_append_sep (B := B) _ rfl (.tmp 62) (.tmp 65) 140 rfl 3 i3 _ 1 8 Fadg.underlying140 hi3 hy0 hy1 hy2 rfl (by decide) (.slice aao j ac) j (xs.flatMap ai) rfl (hs3.out.ownA HXS.out) ⟨_, 0, none⟩ 1 1 (ai (nt2 : Int)) rfl rfl (one_new _ _ _ _ (by simp)) (ai_one _) (by omega) (by decide) hs3.out.sz ?_); intro aoA nA capA wA hnA hownA hgA hnewA; obtain rfl : nA = j + 1 := hnA.out; have hsA := hid (hs3.out.pushA (by rw [← HXS.out]) hownA hgA hnewA); have hkV2 := (hkc.out hsA.out).1; have hsA2 := hid (hsA.out.alloc (.cells #[.int .u8 (f.k : Int), .int .u8 0, .int .u8 0, .int .u8 0] 194))))
                go_roundg (gk - 1)
                case measure => omega
                case rel =>
                  refine ⟨j + 1, aoT, aoA, nt2 + 1, capT, capA, ks2 ++ [f.k], xs ++ [(nt2 : Int)], tg2, wd, sl, by go_num, rfl, rfl, by omega, by omega, by show nt2 + 1 = _; rw [List.length_append, ← HNT2.out]; rfl, by show j + 1 = _; rw [List.length_append, ← HXS.out]; rfl, hsT.out.less, ?_, ⟨htg2.out.mono (by omega), hwd2.out.mono (by omega), hsl2.out.mono (by omega), ?_⟩⟩
                  · show _ = _
                    rw [hks2.out.2, HU.out, Bool.or_false, List.append_assoc]; exact hX.out
                  · intro a ha
                    rcases List.mem_append.1 ha with ha | ha
                    · exact (hxs2.out a ha).mono (by omega)
                    · rw [List.mem_singleton.1 ha]; exact .inr ⟨by omega, by omega⟩
              | true =>
                rw [hu] at uV
                have htgt : Hid (gb tg2 = true) := by show _ = _; rw [hks2.out.2, hu]; simp
                cases hp : ptrN f.k with
                | true =>
                  have hsT0 := hid (hV2.out.store 2 (nt2 : Int) (tg' := tg2) (wd' := wd) (sl' := (nt2 : Int)) rfl)
                  obtain ⟨-, -, rS, rf⟩ := hV2.out.cells
                  have rfS := rf 2
                  clear rf
                  have HPT := hid (isPtr_any f.k)
                  rw [hp] at HPT
                  by_cases hs0 : sl < 0
                  · have hsg : Hid (gb sl = false) := by show _ = _; simp [gb]; omega
                    have hX := hid (hend.out ([11] ++ entN ((fs.map gf).drop (j + 1)) true (gb wd) true) (by rw [ent_ptr (f := gf f) hk hu hp, hsg.out]; rfl))
                    have hs3 := hid (hsT0.out.alloc (.cells #[.int .u8 11, .int .u8 0, .int .u8 0, .int .u8 0] 194))
                    clear hu hp
                    go_wp2_with (first | (go_at_call 171; go_must (refine (HPT.out _).mono ?_; rintro e w9 ⟨rfl, hw9⟩; subst hw9)) | (at_builtin; (refine wpList_append_sep (B := B) _ rfl (.tmp 89) (.tmp 92) 140 rfl 3 i3 _ 1 8 Fadg.underlying140 hi3 hy0 hy1 hy2 rfl (by decide) (.slice aao j ac) j (xs.flatMap ai) rfl (hsT2.out.ownA HXS.out) ⟨_, 0, none⟩ 1 1 (ai (nt2 : Int)) rfl rfl (one_new _ _ _ _ (by simp)) (ai_one _) (by omega) (by decide) hsT2.out.sz ?_); intro aoA nA capA wA hnA hownA hgA hnewA; obtain rfl : nA = j + 1 := hnA.out; have hsA := hid (hsT2.out.pushA (by rw [← HXS.out]) hownA hgA hnewA)) | (at_builtin; go_must (refine wpList_append_sep (B := B) _ rfl (.tmp 85) (.tmp 87) 243 rfl 194 i4 _ 4 4 Fadg.underlying243 hi4 hz0 hz1 hz2 rfl (by decide) (.slice tao2 nt2 tc2) nt2 (ks2.flatMap yk) rfl (hs3.out.ownT HNT2.out) ⟨_, 0, none⟩ 1 1 (yk 11) rfl rfl (four_new' _ _ _ _ _ _ _ (by simp)) (yk_one _) (by omega) (by decide) hs3.out.sz ?_); intro aoT nT capT wT hnT hownT hgT hnewT; obtain rfl : nT = nt2 + 1 := hnT.out; have hsT := hid (hs3.out.pushT (by rw [← HNT2.out]) hownT hgT hnewT); have rS2 := hsT.out.cells.2.2.1; have hsT2 := hid (hsT.out.alloc (.cells #[.int .i64 (nt2 : Int)] 3))))
                    go_roundg (gk - 1)
                    case measure => omega
                    case rel =>
                      refine ⟨j + 1, aoT, aoA, nt2 + 1, capT, capA, ks2 ++ [11], xs ++ [(nt2 : Int)], tg2, wd, (nt2 : Int), by go_num, rfl, rfl, by omega, by omega, by show nt2 + 1 = _; rw [List.length_append, ← HNT2.out]; rfl, by show j + 1 = _; rw [List.length_append, ← HXS.out]; rfl, hsA.out.less, ?_, ⟨htg2.out.mono (by omega), hwd2.out.mono (by omega), .inr ⟨by omega, by omega⟩, ?_⟩⟩
                      · show _ = _
                        rw [htgt.out, show gb ((nt2 : Nat) : Int) = true by simp [gb], List.append_assoc]; exact hX.out
                      · intro a ha
                        rcases List.mem_append.1 ha with ha | ha
                        · exact (hxs2.out a ha).mono (by omega)
                        · rw [List.mem_singleton.1 ha]; exact .inr ⟨by omega, by omega⟩
                  · have hsg : Hid (gb sl = true) := by show _ = _; simp [gb]; omega
                    have hX := hid (hend.out ([] ++ entN ((fs.map gf).drop (j + 1)) true (gb wd) true) (by rw [ent_ptr (f := gf f) hk hu hp, hsg.out]; rfl))
                    have hs3 := hid (hV2.out.alloc (.cells #[.int .i64 sl] 3))
                    clear hu hp
                    go_wp2_with (first | (go_at_call 171; go_must (refine (HPT.out _).mono ?_; rintro e w9 ⟨rfl, hw9⟩; subst hw9)) | (at_builtin; go_must (refine wpList_append_sep (B := B) _ rfl (.tmp 89) (.tmp 92) 140 rfl 3 i3 _ 1 8 Fadg.underlying140 hi3 hy0 hy1 hy2 rfl (by decide) (.slice aao j ac) j (xs.flatMap ai) rfl (hs3.out.ownA HXS.out) ⟨_, 0, none⟩ 1 1 (ai sl) rfl rfl (one_new _ _ _ _ (by simp)) (ai_one _) (by omega) (by decide) hs3.out.sz ?_); intro aoA nA capA wA hnA hownA hgA hnewA; obtain rfl : nA = j + 1 := hnA.out; have hsA := hid (hs3.out.pushA (by rw [← HXS.out]) hownA hgA hnewA)))
                    go_roundg (gk - 1)
                    case measure => omega
                    case rel =>
                      refine ⟨j + 1, tao2, aoA, nt2, tc2, capA, ks2, xs ++ [sl], tg2, wd, sl, by go_num, rfl, rfl, by omega, by omega, HNT2, by show j + 1 = _; rw [List.length_append, ← HXS.out]; rfl, hsA.out.less, ?_, ⟨htg2.out, hwd2.out, hsl2.out, ?_⟩⟩
                      · show _ = _
                        rw [htgt.out, hsg.out]; exact hX.out
                      · intro a ha
                        rcases List.mem_append.1 ha with ha | ha
                        · exact hxs2.out a ha
                        · rw [List.mem_singleton.1 ha]; exact hsl2.out
                | false =>
                  have hsT0 := hid (hV2.out.store 1 (nt2 : Int) (tg' := tg2) (wd' := (nt2 : Int)) (sl' := sl) rfl)
                  obtain ⟨-, rS, -, rf⟩ := hV2.out.cells
                  have rfS := rf 1
                  clear rf
                  have HPT := hid (isPtr_any f.k)
                  rw [hp] at HPT
                  by_cases hs0 : wd < 0
                  · have hsg : Hid (gb wd = false) := by show _ = _; simp [gb]; omega
                    have hX := hid (hend.out ([8] ++ entN ((fs.map gf).drop (j + 1)) true true (gb sl)) (by rw [ent_word (f := gf f) hk hu hp, hsg.out]; rfl))
                    have hs3 := hid (hsT0.out.alloc (.cells #[.int .u8 8, .int .u8 0, .int .u8 0, .int .u8 0] 194))
                    clear hu hp
                    go_wp2_with (first | (go_at_call 171; go_must (refine (HPT.out _).mono ?_; rintro e w9 ⟨rfl, hw9⟩; subst hw9)) | (at_builtin; (refine wpList_append_sep (B := B) _ rfl (.tmp 45) (.tmp 48) 140 rfl 3 i3 _ 1 8 Fadg.underlying140 hi3 hy0 hy1 hy2 rfl (by decide) (.slice aao j ac) j (xs.flatMap ai) rfl (hsT2.out.ownA HXS.out) ⟨_, 0, none⟩ 1 1 (ai (nt2 : Int)) rfl rfl (one_new _ _ _ _ (by simp)) (ai_one _) (by omega) (by decide) hsT2.out.sz ?_); intro aoA nA capA wA hnA hownA hgA hnewA; obtain rfl : nA = j + 1 := hnA.out; have hsA := hid (hsT2.out.pushA (by rw [← HXS.out]) hownA hgA hnewA)) | (at_builtin; go_must (refine wpList_append_sep (B := B) _ rfl (.tmp 41) (.tmp 43) 243 rfl 194 i4 _ 4 4 Fadg.underlying243 hi4 hz0 hz1 hz2 rfl (by decide) (.slice tao2 nt2 tc2) nt2 (ks2.flatMap yk) rfl (hs3.out.ownT HNT2.out) ⟨_, 0, none⟩ 1 1 (yk 8) rfl rfl (four_new' _ _ _ _ _ _ _ (by simp)) (yk_one _) (by omega) (by decide) hs3.out.sz ?_); intro aoT nT capT wT hnT hownT hgT hnewT; obtain rfl : nT = nt2 + 1 := hnT.out; have hsT := hid (hs3.out.pushT (by rw [← HNT2.out]) hownT hgT hnewT); have rS2 := hsT.out.cells.2.1; have hsT2 := hid (hsT.out.alloc (.cells #[.int .i64 (nt2 : Int)] 3))))
                    go_roundg (gk - 1)
                    case measure => omega
                    case rel =>
                      refine ⟨j + 1, aoT, aoA, nt2 + 1, capT, capA, ks2 ++ [8], xs ++ [(nt2 : Int)], tg2, (nt2 : Int), sl, by go_num, rfl, rfl, by omega, by omega, by show nt2 + 1 = _; rw [List.length_append, ← HNT2.out]; rfl, by show j + 1 = _; rw [List.length_append, ← HXS.out]; rfl, hsA.out.less, ?_, ⟨htg2.out.mono (by omega), .inr ⟨by omega, by omega⟩, hsl2.out.mono (by omega), ?_⟩⟩
                      · show _ = _
                        rw [htgt.out, show gb ((nt2 : Nat) : Int) = true by simp [gb], List.append_assoc]; exact hX.out
                      · intro a ha
                        rcases List.mem_append.1 ha with ha | ha
                        · exact (hxs2.out a ha).mono (by omega)
                        · rw [List.mem_singleton.1 ha]; exact .inr ⟨by omega, by omega⟩
                  · have hsg : Hid (gb wd = true) := by show _ = _; simp [gb]; omega
                    have hX := hid (hend.out ([] ++ entN ((fs.map gf).drop (j + 1)) true true (gb sl)) (by rw [ent_word (f := gf f) hk hu hp, hsg.out]; rfl))
                    have hs3 := hid (hV2.out.alloc (.cells #[.int .i64 wd] 3))
                    clear hu hp
                    go_wp2_with (first | (go_at_call 171; go_must (refine (HPT.out _).mono ?_; rintro e w9 ⟨rfl, hw9⟩; subst hw9)) | (at_builtin; go_must (refine wpList_append_sep (B := B) _ rfl (.tmp 45) (.tmp 48) 140 rfl 3 i3 _ 1 8 Fadg.underlying140 hi3 hy0 hy1 hy2 rfl (by decide) (.slice aao j ac) j (xs.flatMap ai) rfl (hs3.out.ownA HXS.out) ⟨_, 0, none⟩ 1 1 (ai wd) rfl rfl (one_new _ _ _ _ (by simp)) (ai_one _) (by omega) (by decide) hs3.out.sz ?_); intro aoA nA capA wA hnA hownA hgA hnewA; obtain rfl : nA = j + 1 := hnA.out; have hsA := hid (hs3.out.pushA (by rw [← HXS.out]) hownA hgA hnewA)))
                    go_roundg (gk - 1)
                    case measure => omega
                    case rel =>
                      refine ⟨j + 1, tao2, aoA, nt2, tc2, capA, ks2, xs ++ [wd], tg2, wd, sl, by go_num, rfl, rfl, by omega, by omega, HNT2, by show j + 1 = _; rw [List.length_append, ← HXS.out]; rfl, hsA.out.less, ?_, ⟨htg2.out, hwd2.out, hsl2.out, ?_⟩⟩
                      · show _ = _
                        rw [htgt.out, hsg.out]; exact hX.out
                      · intro a ha
                        rcases List.mem_append.1 ha with ha | ha
                        · exact hxs2.out a ha
                        · rw [List.mem_singleton.1 ha]; exact hwd2.out
      · have hlt' : ¬ (j : Int) < (n : Int) := by omega
        obtain rfl : j = n := by omega
        have hks : Hid (ks = entN (fs.map gf) false false false) := by
          show _ = _
          rw [← hent.out, List.drop_eq_nil_of_le (by rw [List.length_map, hn.out]; exact Nat.le_refl _)]
          show ks = ks ++ []
          rw [List.append_nil]
        obtain ⟨r0, r1, r2, rf⟩ := hE.out.cells
        have f0 := rf 0
        have f1 := rf 1
        have f2 := rf 2
        clear rf
        have hfin := hid ((((hE.out.store 0 tg (tg' := tg) (wd' := wd) (sl' := sl) rfl).store 1 wd (tg' := tg) (wd' := wd) (sl' := sl) rfl).store 2 sl (tg' := tg) (wd' := wd) (sl' := sl) rfl).drew 1)
        go_upto_region 24 with fail
        go_region
        all_goals go_wp2_with fail
        refine bodyPost_ret (v := .tuple #[.slice tao nt tc, .slice aao j ac, .agg #[.int .i64 tg, .int .i64 wd, .int .i64 sl]]) (by simp [results, Fadg.results169, go_sem, r0, r1, r2]) rfl ?_
        have HK := hks.out
        rw [HK] at hfin HNT
        exact ⟨B, tao, aao, nt, tc, j, ac, xs, tg, wd, sl, rfl, hfin.out, HNT.out, HXS.out, by rw [← HXS.out, hn.out], by rw [← HNT.out]; exact hix.out.2.2.2, by rw [← HNT.out]; exact hix.out.1⟩
end Go.Proofs.Ygcfad
