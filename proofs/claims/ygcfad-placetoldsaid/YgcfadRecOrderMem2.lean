/-
  order of package rec: the plain laws, and the stores into the struct.
-/
import Derived.Test.YgcfadRecOrderMem
import Derived.Test.YgcfadOrder
namespace Go.Proofs.Ygcfad
open Go.RowKit Plain
set_option linter.unusedSimpArgs false
set_option linter.unusedVariables false

def zeroFR : FR := ⟨[], 0, false⟩
def accR (so : List RF) : List (Option FR) := so.map (fun f => if f.b.size = 0 then none else some (gf f))
theorem sortR_bad {n : Nat} {f : FR} {fs : List FR} {nums : List Nat} {acc : List (Option FR)} (h : n ≤ nums.headD 0 ∨ (acc.getD (nums.headD 0) none).isSome = true) : sortR n (f :: fs) nums acc = none := by
  rw [sortR, if_pos h]
theorem sortR_ok {n : Nat} {f : FR} {fs : List FR} {nums : List Nat} {acc : List (Option FR)} (h : ¬ (n ≤ nums.headD 0 ∨ (acc.getD (nums.headD 0) none).isSome = true)) : sortR n (f :: fs) nums acc = sortR n fs nums.tail (acc.set (nums.headD 0) (some f)) := by
  rw [sortR, if_neg h]
theorem accR_set {so : List RF} {d : Nat} {f : RF} (hf : 0 < f.b.size) : accR (so.set d f) = (accR so).set d (some (gf f)) := by
  unfold accR; rw [List.map_set, if_neg (by omega)]
theorem accR_get {so : List RF} {d : Nat} {g : RF} (h : so[d]? = some g) : ((accR so).getD d none).isSome = decide (0 < g.b.size) := by
  unfold accR
  simp only [List.getD, List.getElem?_map, h, Option.map_some, Option.getD_some]
  by_cases e : g.b.size = 0
  · simp [e]
  · simp [e]; omega
theorem accR_gf {so : List RF} (h : ∀ f ∈ so, f.b.size = 0 → gf f = zeroFR) : (accR so).map (·.getD ⟨[], 0, false⟩) = so.map gf := by
  unfold accR
  rw [List.map_map]
  apply List.map_congr_left
  intro f hf
  show (if f.b.size = 0 then none else some (gf f)).getD ⟨[], 0, false⟩ = gf f
  split
  · rename_i e; rw [h f hf e]; rfl
  · rfl
/-- What order leaves. -/
def OrderRPost (P : Nat) (T : List Nat) (w0 : World) (M : RM) (k : Nat) (m : SR) (rs : List Row) (r : Except Err Unit) (e : Ending) (w' : World) : Prop :=
  match r with
  | .error x => e = .returned (.bool false) ∧ RFail P w0 x w'
  | .ok _ => e = .returned (.bool true) ∧ ∃ m', RStd P T w0 w' (setSR M k m') rs ∧ m'.b = m.b ∧ ∀ f ∈ m'.fl, f.k ≤ 14 ∧ RefF M.us.length f
theorem orderR_bad {nf : Nat} {M : RM} {fl : List RF} (hn : nf = fl.length) (h : sortR nf (fl.map gf) M.ns (List.replicate nf none) = none) : orderR (absR M fl) = .error (M.p.at_, 5) := by
  unfold orderR
  have e1 : (absR M fl).fs.length = nf := by show (fl.map gf).length = nf; rw [List.length_map, hn]
  rw [e1, show (absR M fl).fs = fl.map gf from rfl, show (absR M fl).num = M.ns from rfl, h]; rfl
theorem orderR_go {nf : Nat} {M : RM} {fl so : List RF} (hn : nf = fl.length) (h : sortR nf (fl.map gf) M.ns (List.replicate nf none) = some (accR so)) (hz : ∀ f ∈ so, f.b.size = 0 → gf f = zeroFR) :
    orderR (absR M fl) = if layR (so.map gf) = true then .ok () else .error (M.p.at_, 2) := by
  unfold orderR
  have e1 : (absR M fl).fs.length = nf := by show (fl.map gf).length = nf; rw [List.length_map, hn]
  rw [e1, show (absR M fl).fs = fl.map gf from rfl, show (absR M fl).num = M.ns from rfl, h]
  simp only [accR_gf hz]; rfl

/-! ### A struct's cells stored -/
def rowSS (g n cap : Nat) (ss : List SR) : Row := ⟨.slice (some ⟨g, 0, none⟩) n cap, 204, 8, n, ss.flatMap hc⟩
section
variable {B P k g n cap : Nat} {T : List Nat} {w0 w w' : World} {ss : List SR} {m m1 m' : SR} {rs : List Row} {M : RM} {pre : List SR}
theorem Sep.putS (h : Sep B w (rowSS g n cap ss :: rs)) (hk : ss[k]? = some m) (j : Nat) (hj : j < 8) (v : Value) (hx : hc m1 = (hc m).set j v) : Sep B (w.setCell ⟨g, k * 8 + j, none⟩ v) (rowSS g n cap (ss.set k m1) :: rs) := by
  have := h.store (g := g) (cap := cap) rfl (k * 8 + j) v
  have e : ({ rowSS g n cap ss with xs := (rowSS g n cap ss).xs.set (k * 8 + j) v } : Row) = rowSS g n cap (ss.set k m1) := by
    unfold rowSS; simp only; rw [flat_set hc_len hk j hj v hx]
  rw [e] at this; exact this
theorem getSR (h : ss[k]? = some m) : (ss.set k m1)[k]? = some m1 := by
  have hl := (List.getElem?_eq_some_iff.1 h).1
  rw [List.getElem?_set, if_pos rfl, if_pos hl]
def putS7 (w : World) (g k : Nat) (m : SR) : World :=
  ((((((w.setCell ⟨g, k * 8 + 1, none⟩ m.fv).setCell ⟨g, k * 8 + 2, none⟩ (.int .u8 m.g1)).setCell ⟨g, k * 8 + 3, none⟩ (.int .u16 m.g2)).setCell ⟨g, k * 8 + 4, none⟩ (.int .u8 m.g3)).setCell ⟨g, k * 8 + 5, none⟩ (.bool m.g4)).setCell ⟨g, k * 8 + 6, none⟩ (.int .u8 m.d)).setCell ⟨g, k * 8 + 7, none⟩ (.int .u8 m.p)
theorem Sep.putS7 (h : Sep B w (rowSS g n cap ss :: rs)) (hk : ss[k]? = some m) (hb : m'.b = m.b) : Sep B (putS7 w g k m') (rowSS g n cap (ss.set k m') :: rs) := by
  obtain ⟨b', fv', g1', g2', g3', g4', d', p', fl'⟩ := m'
  obtain ⟨b, fv, g1, g2, g3, g4, d, p, fl⟩ := m
  have hb' : b' = b := hb
  subst hb'
  have h1 := h.putS (m1 := ⟨b', fv', g1, g2, g3, g4, d, p, fl'⟩) hk 1 (by decide) fv' rfl
  have d1 := getSR (m1 := ⟨b', fv', g1, g2, g3, g4, d, p, fl'⟩) hk
  have h2 := h1.putS (m1 := ⟨b', fv', g1', g2, g3, g4, d, p, fl'⟩) d1 2 (by decide) (.int .u8 g1') rfl
  have d2 := getSR (m1 := ⟨b', fv', g1', g2, g3, g4, d, p, fl'⟩) d1
  have h3 := h2.putS (m1 := ⟨b', fv', g1', g2', g3, g4, d, p, fl'⟩) d2 3 (by decide) (.int .u16 g2') rfl
  have d3 := getSR (m1 := ⟨b', fv', g1', g2', g3, g4, d, p, fl'⟩) d2
  have h4 := h3.putS (m1 := ⟨b', fv', g1', g2', g3', g4, d, p, fl'⟩) d3 4 (by decide) (.int .u8 g3') rfl
  have d4 := getSR (m1 := ⟨b', fv', g1', g2', g3', g4, d, p, fl'⟩) d3
  have h5 := h4.putS (m1 := ⟨b', fv', g1', g2', g3', g4', d, p, fl'⟩) d4 5 (by decide) (.bool g4') rfl
  have d5 := getSR (m1 := ⟨b', fv', g1', g2', g3', g4', d, p, fl'⟩) d4
  have h6 := h5.putS (m1 := ⟨b', fv', g1', g2', g3', g4', d', p, fl'⟩) d5 6 (by decide) (.int .u8 d') rfl
  have d6 := getSR (m1 := ⟨b', fv', g1', g2', g3', g4', d', p, fl'⟩) d5
  have h7 := h6.putS (m1 := ⟨b', fv', g1', g2', g3', g4', d', p', fl'⟩) d6 7 (by decide) (.int .u8 p') rfl
  simp only [List.set_set] at h7
  exact h7
theorem putS7_heap (hg : P ≠ g) : (putS7 w g k m').heap[P]? = w.heap[P]? := by
  unfold Go.Proofs.Ygcfad.putS7
  rw [Below.heap_setCell _ ⟨g, _, none⟩ _ P hg, Below.heap_setCell _ ⟨g, _, none⟩ _ P hg, Below.heap_setCell _ ⟨g, _, none⟩ _ P hg, Below.heap_setCell _ ⟨g, _, none⟩ _ P hg, Below.heap_setCell _ ⟨g, _, none⟩ _ P hg, Below.heap_setCell _ ⟨g, _, none⟩ _ P hg, Below.heap_setCell _ ⟨g, _, none⟩ _ P hg]
theorem putS7_below (h : Below P w0 w) (hg : P ≤ g) : Below P w0 (putS7 w g k m') := by
  unfold Go.Proofs.Ygcfad.putS7
  exact ((((((h.setCell hg _).setCell hg _).setCell hg _).setCell hg _).setCell hg _).setCell hg _).setCell hg _
/-- The last struct turned: its fields lie in another row. -/
theorem RStd.setS (h : RStd P T w0 w M (qF m' :: rs)) (hss : M.ss = pre ++ [m]) (hk : k = pre.length) (hsv : M.p.sv = .slice (some ⟨g, 0, none⟩) n cap) (hn : n = M.ss.length) (hb : m'.b = m.b) : RStd P T w0 (Go.Proofs.Ygcfad.putS7 w g k m') (setSR M k m') rs := by
  have hPg : P < g := (h.okS.lt (g := g) (by show M.p.sv.ownBlock = _; rw [hsv]; rfl)).1
  have s1 := (h.sep.perm (qrows_last hss)).tail
  have eS : qS M = rowSS g n cap M.ss := by unfold qS rowSS; rw [hsv, hn]
  rw [eS] at s1
  have s2 := s1.putS7 (k := k) (m := m) (m' := m') (by rw [hss, hk]; simp) hb
  have e2 : rowSS g n cap (M.ss.set k m') = qS (setSR M k m') := by
    unfold qS rowSS setSR; simp only [List.length_set]; rw [hsv, hn]
  rw [e2] at s2
  have hq : qS (setSR M k m') :: qU M :: qN M :: (pre.map qF ++ qF m' :: rs) = qrows (setSR M k m') rs := by
    unfold qrows
    rw [hk, setSR_ss hss, List.map_append, List.append_assoc]; rfl
  rw [hq] at s2
  refine ⟨h.p.same (putS7_heap (by omega)), by unfold Go.Proofs.Ygcfad.putS7; simp [World.setCell]; exact h.lt, s2, ⟨h.wf.ae, h.wf.en, h.wf.sz, h.wf.us, by show (M.ss.set k m').length ≤ 4; rw [List.length_set]; exact h.wf.ss, h.wf.ns, h.wf.c0⟩, h.tx, putS7_below h.bel (by omega)⟩
theorem RStd.madeX {nf : Nat} (h : RStd P T w0 w M rs) (h1 : w'.ownsRow (P + 1) 212 11 (.slice (some ⟨w.heap.size, 0, none⟩) nf nf) nf (madeCells (Value.cells (.agg #[.string ⟨#[]⟩, .int .u8 0, .int .u8 0, .int .u8 0, .int .u8 0, .int .u8 0, .int .u16 0, .int .u8 0, .bool false, .int .u64 0, .bool false])) (nf * 11)).toList)
    (g1 : w.grownBy w' none) : RStd P T w0 w' M (qX w.heap.size nf (List.replicate nf zeroRF) :: rs) := by
  rw [made_flat gc_len (by decide) zeroRF (Value.cells (.agg #[.string ⟨#[]⟩, .int .u8 0, .int .u8 0, .int .u8 0, .int .u8 0, .int .u8 0, .int .u16 0, .int .u8 0, .bool false, .int .u64 0, .bool false])) rfl] at h1
  exact h.more ((Below.refl _ _).grown g1 (Nat.le_refl _) (fun _ h => by cases h)) (r := qX w.heap.size nf (List.replicate nf zeroRF)) h1 (fun g hg => by simp [qX, Value.ownBlock] at hg; omega)
theorem qX_row {X n : Nat} {so : List RF} (h : (qX X n so).ok (P + 1) w) (hl : so.length = n) : FRow w (some ⟨X, 0, none⟩) so := by
  intro j f hf
  refine ⟨X, rfl, fun t v ht => ?_⟩
  have ht11 : t < 11 := by have := (List.getElem?_eq_some_iff.1 ht).1; simpa using this
  rw [Addr.add_lit, qX_at h hl hf t ht11]
  exact ht
theorem zero_gf : ∀ {nf : Nat}, ∀ f ∈ List.replicate nf zeroRF, f.b.size = 0 → gf f = zeroFR := by
  intro nf f hf _
  rw [List.eq_of_mem_replicate hf]
  show gf zeroRF = zeroFR
  unfold gf zeroRF zeroFR
  congr 1
end
end Go.Proofs.Ygcfad
