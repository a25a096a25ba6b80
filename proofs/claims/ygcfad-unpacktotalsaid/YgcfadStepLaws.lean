/-
  LAWS for the walk of Cur.Step: a whole array loaded from the middle of a row; the loop that joins a word out of its bytes (plain).
-/
import Derived.Test.YgcfadUnpackLeaf
namespace Go.Proofs.Ygcfad
open Go.RowKit Plain
set_option linter.unusedSimpArgs false
set_option linter.unusedVariables false

/-- A whole struct or array loaded, from wherever. -/
theorem wpList_load_cells {ops : Array Oper} {rest : List Oper} {o : Oper} {a : Act} {w : World} {Q : Exit → Act → World → Prop} (hgd : o.guard = none) (ty : TypeId) (x : Operand) (ho : o.op = .load ty x)
    (ad : Addr) (hx : a.eval x = .pointer (some ad)) (cs : List Value) (d : TypeDesc) (hc : ∀ j v, cs[j]? = some v → w.cell? (ad.add j) = some v)
    (hu : Fadg.prog.underlying ty = some d) (hd : (match d with | .struct _ | .array _ _ => true | _ => false) = true) (hi : (Fadg.prog.info? ty).map (·.size) = some cs.length)
    (h : wpList Fadg.prog ops Q rest (a.put o.dst (.agg cs.toArray)) w) : wpList Fadg.prog ops Q (o :: rest) a w := by
  refine wpList_plain hgd fun _ hK => ?_
  have hl := run_loadCells_list (P := Fadg.prog) w ad cs hc
  have hrun : (loadVar ty ad).run Fadg.prog w = .ok (.agg cs.toArray) w := by
    cases hq : Fadg.prog.info? ty with
    | none => simp [hq] at hi
    | some i =>
      have hs : i.size = cs.length := by simpa [hq] using hi
      have hagg : (isAgg ty).run Fadg.prog w = .ok true w := by
        unfold isAgg
        rw [Sem.run_bind, run_underlying hu w]
        cases d <;> simp_all
      simp [loadVar, Sem.run_bind, hagg, sizeOf, typeInfo, hq, hs, hl]
  unfold Oper.wp execOp
  simp only [ho, hx, Instr.loadAt, Instr.sureAddr, Sem.run_bind, Sem.run_pure, Result.andThen_ok, hrun]
  exact hK _ _ h

/-- 's[l:h]' of bytes, h - l above nought. -/
theorem wpList_sliceLH (w : World) {ops : Array Oper} {rest : List Oper} {o : Oper} {a : Act} {Q : Exit → Act → World → Prop} (hgd : o.guard = none) (x lo hi : Operand)
    (hop : o.op = Op.slice 26 x (some lo) (some hi) none) (b off n cap l h : Nat)
    (hx : a.eval x = .slice (some ⟨b, off, none⟩) n cap) (L : Int) (hlo : a.eval lo = .int .i64 L) (hL : L = (l : Int)) (H : Int) (hhi : a.eval hi = .int .i64 H) (hH : H = (h : Int)) (hl : l < h) (hc : h ≤ cap)
    (hk : wpList Fadg.prog ops Q rest (a.put o.dst (.slice (some ⟨b, off + l, none⟩) (h - l) (cap - l))) w) : wpList Fadg.prog ops Q (o :: rest) a w := by
  refine wpList_plain hgd fun K hK => ?_
  subst hL hH
  have hrun := run_slice_lh (P := Fadg.prog) w 26 (some ⟨b, off, none⟩) n cap Fadg.elem26 .i64 .i64 (l : Int) (h : Int) (by omega) (by omega) (by omega)
  rw [Fadg.size26] at hrun
  have hat := run_sliceAt_slice (P := Fadg.prog) w 26 (.slice (some ⟨b, off, none⟩) n cap) (some (.int .i64 (l : Int))) (some (.int .i64 (h : Int))) none Fadg.elem26
  rw [hrun] at hat
  unfold Oper.wp
  simp [execOp, hop, hx, hlo, hhi, hat, Result.andThen]
  refine hK _ _ ?_
  simp only [sliced]
  rw [if_neg (by omega)]
  simpa [Addr.add_lit] using hk

theorem Fadg.arr127 : Fadg.prog.underlying 127 = some (.array 8 5) := by kernel_rfl
theorem Fadg.len127 : (Fadg.prog.info? 127).map (·.size) = some 8 := by kernel_rfl

/-- '[8]byte(s)', its first step: the pointer. -/
theorem wpList_toArr (w : World) {ops : Array Oper} {rest : List Oper} {o : Oper} {a : Act} {Q : Exit → Act → World → Prop} (hgd : o.guard = none) (x : Operand)
    (hop : o.op = Op.sliceToArrayPointer 127 x) (ad : Addr) (n cap : Nat) (hx : a.eval x = .slice (some ad) n cap) (hn : 8 ≤ n)
    (hk : wpList Fadg.prog ops Q rest (a.put o.dst (.pointer (some ad))) w) : wpList Fadg.prog ops Q (o :: rest) a w := by
  refine wpList_plain hgd fun K hK => ?_
  have hrun : (Instr.arrayAt 127 (.slice (some ad) n cap)).run Fadg.prog w = .ok (.pointer (some ad)) w := by
    unfold Instr.arrayAt
    rw [Sem.run_bind, run_underlying Fadg.arr127 w]
    simp [show ¬ n < 8 by omega]
  unfold Oper.wp
  simp [execOp, hop, hx, hrun, Result.andThen]
  exact hK _ _ hk

/-! ### Plain: the loop that joins a word out of its bytes -/
def L1 (u : List Nat) (W np y a r : Nat) : Prop := r < 256 ∧ a + (places r).length = 1 + np ∧ y + valL (places r) (u.drop a) = W ∧ (∀ p ∈ places r, y < 256 ^ p) ∧ y < 18446744073709551616 ∧ 1 ≤ a

theorem L1.start {u : List Nat} {t np : Nat} (ht : t < 256) (hnp : np = (places t).length) : L1 u (valL (places t) u.tail) np 0 1 t :=
  ⟨ht, by omega, by simp, fun p _ => Nat.pow_pos (by decide), by decide, by decide⟩

theorem places_step {r : Nat} (h : r < 256) (h0 : ¬ r = 0) : places r = (places r).headD 0 :: places (clearN r) ∧ clearN r < r ∧ (places r).headD 0 < 8 ∧ bits BinOp.and IntKind.u8 (r : Int) ((r : Int) - 1) = (clearN r : Int) := by
  rcases low_all ⟨r, h⟩ with h1 | h1
  · exact absurd h1 h0
  · exact h1.2
theorem places_zero_end {u : List Nat} {W np y a : Nat} (h : L1 u W np y a 0) : y = W ∧ a = 1 + np := by
  obtain ⟨_, h2, h3, _⟩ := h
  rw [places_zero] at h2 h3
  simp [valL] at h2 h3
  exact ⟨h3, by omega⟩

theorem L1.lt {u : List Nat} {W np y a r : Nat} (h : L1 u W np y a r) (h0 : ¬ r = 0) : a < 1 + np := by
  obtain ⟨h1, h2, _⟩ := h
  rw [(places_step h1 h0).1, List.length_cons] at h2
  omega

theorem valL_cons (u : List Nat) (a lo : Nat) (ps : List Nat) (ha : a < u.length) : valL (lo :: ps) (u.drop a) = u.getD a 0 * 256 ^ lo + valL ps (u.drop (a + 1)) := by
  rw [List.drop_eq_getElem_cons ha]
  simp [valL, List.getD, ha]

theorem or_joined (y x lo : Nat) (hy : y < 256 ^ lo) (hx : x < 256) (hlo : lo < 8) : y ||| x * 2 ^ (8 * lo) = y + x * 256 ^ lo ∧ y + x * 256 ^ lo < 256 ^ (lo + 1) ∧ x * 2 ^ (8 * lo) < 18446744073709551616 := by
  have e : (2 : Nat) ^ (8 * lo) = 256 ^ lo := by rw [Nat.pow_mul]
  have hy' : y < 2 ^ (8 * lo) := by rw [e]; exact hy
  have hle : 256 ^ (lo + 1) ≤ 256 ^ 8 := Nat.pow_le_pow_right (by decide) (by omega)
  have hs : x * 256 ^ lo + 256 ^ lo ≤ 256 ^ (lo + 1) := by
    rw [Nat.pow_succ, Nat.mul_comm (256 ^ lo) 256, ← Nat.succ_mul]
    exact Nat.mul_le_mul_right _ (by omega)
  refine ⟨?_, by omega, ?_⟩
  · rw [Nat.or_comm, nat_join (8 * lo) (x * 2 ^ (8 * lo)) y (Nat.mul_mod_left _ _) hy', e, Nat.add_comm]
  · rw [e]
    have : 256 ^ 8 = 18446744073709551616 := by decide
    have hp : 0 < 256 ^ lo := Nat.pow_pos (by decide)
    omega

/-- One round. -/
theorem L1.round {u : List Nat} {W np y a r x lo : Nat} (h : L1 u W np y a r) (h0 : ¬ r = 0) (ha : a < u.length) (hlo : lo = (places r).headD 0) (hx : x = u.getD a 0) (hx8 : x < 256) :
    bits BinOp.or IntKind.u64 (y : Int) (IntKind.u64.wrap ((x : Int) * 2 ^ (8 * lo))) = ((y + x * 256 ^ lo : Nat) : Int) ∧ L1 u W np (y + x * 256 ^ lo) (a + 1) (clearN r) := by
  obtain ⟨h1, h2, h3, h4, h5, h6⟩ := h
  obtain ⟨p1, p2, p3, _⟩ := places_step h1 h0
  rw [← hlo] at p1 p3
  have hy : y < 256 ^ lo := h4 lo (by rw [p1]; simp)
  obtain ⟨j1, j2, j3⟩ := or_joined y x lo hy hx8 p3
  have hW : IntKind.u64.wrap ((x : Int) * 2 ^ (8 * lo)) = ((x * 2 ^ (8 * lo) : Nat) : Int) := by
    rw [IntKind.wrap_u64]
    have e : ((x : Int) * 2 ^ (8 * lo)) = ((x * 2 ^ (8 * lo) : Nat) : Int) := by simp
    rw [e]; omega
  have h8 : y + x * 256 ^ lo < 18446744073709551616 := by
    have hle : 256 ^ (lo + 1) ≤ 256 ^ 8 := Nat.pow_le_pow_right (by decide) (by omega)
    have : 256 ^ 8 = 18446744073709551616 := by decide
    omega
  refine ⟨by rw [hW, u64_or_nat y _ h5 j3, j1], by omega, ?_, ?_, ?_, h8, by omega⟩
  · rw [p1, List.length_cons] at h2; omega
  · rw [p1, valL_cons u a lo _ ha, ← hx] at h3; omega
  · intro p hp
    have := places_lt_all ⟨r, h1⟩ p hp
    have hle : lo + 1 ≤ p := by rw [hlo]; exact this
    exact Nat.lt_of_lt_of_le j2 (Nat.pow_le_pow_right (by decide) hle)

theorem take8 (u : List Nat) (j : Nat) (h : j + 8 ≤ u.length) :
    ofB ((u.drop j).take 8) = ofB [u.getD j 0, u.getD (j + 1) 0, u.getD (j + 2) 0, u.getD (j + 3) 0, u.getD (j + 4) 0, u.getD (j + 5) 0, u.getD (j + 6) 0, u.getD (j + 7) 0] := by
  have : (u.drop j).take 8 = [u.getD j 0, u.getD (j + 1) 0, u.getD (j + 2) 0, u.getD (j + 3) 0, u.getD (j + 4) 0, u.getD (j + 5) 0, u.getD (j + 6) 0, u.getD (j + 7) 0] := by
    apply List.ext_getElem
    · simp; omega
    · intro i h1 h2
      simp at h2
      rw [List.getElem_take, List.getElem_drop]
      match i, h2 with
      | 0, _ => simp [List.getD, show j < u.length by omega]
      | 1, _ => simp [List.getD, show j + 1 < u.length by omega]
      | 2, _ => simp [List.getD, show j + 2 < u.length by omega]
      | 3, _ => simp [List.getD, show j + 3 < u.length by omega]
      | 4, _ => simp [List.getD, show j + 4 < u.length by omega]
      | 5, _ => simp [List.getD, show j + 5 < u.length by omega]
      | 6, _ => simp [List.getD, show j + 6 < u.length by omega]
      | 7, _ => simp [List.getD, show j + 7 < u.length by omega]
      | i + 8, h => omega
  rw [this]

/-- 'append(s, x)' of words, the new value's shape told, its length under a letter. -/
theorem wpList_push_word {B : Nat} {w0 : World} (w : World) {ops : Array Oper} {rest : List Oper} {o : Oper} {a : Act} {Q : Exit → Act → World → Prop} (hgd : o.guard = none) (s x : Operand)
    (ho : o.op = .call { callee := .builtin .append, args := #[s, x], argTypes := #[22, 22] })
    (v : Value) (l : List Nat) (hs : a.eval s = v) (hown : Own .u64 23 B w v l) (hb0 : Below B w0 w)
    (ad : Addr) (m c : Nat) (news : List Nat) (hx : a.eval x = .slice (some ad) m c) (hm : news.length = m)
    (hnews : ∀ j, j < news.length → w.cell? (ad.add j) = some (.int .u64 ((news.getD j 0 : Nat) : Int)))
    (h63 : l.length + m ≤ 1000000) (hbase : B ≤ w.heap.size)
    (h : ∀ oa n oc w', Hid (n = (l ++ news).length) → Own .u64 23 B w' (.slice oa n oc) (l ++ news) → Below B w0 w' → B ≤ w'.heap.size → wpList Fadg.prog ops Q rest (a.put o.dst (.slice oa n oc)) w') : wpList Fadg.prog ops Q (o :: rest) a w := by
  refine wpList_append_word w hgd s x ho v l hs hown hb0 ad m c news hx hm hnews h63 hbase fun v' w' h1 h2 h3 => ?_
  obtain ⟨oa, oc, rfl, _⟩ := h1.shape
  exact h oa _ oc w' rfl h1 h2 h3

theorem Own.told {k : IntKind} {e B : Nat} {w : World} {v : Value} {l : List Nat} (h : Own k e B w v l) : ∃ oa n oc, v = .slice oa n oc ∧ Hid (n = l.length) := by
  obtain ⟨oa, oc, rfl, _⟩ := h.shape
  exact ⟨oa, _, oc, rfl, rfl⟩

theorem cells8 {w : World} {b o k8 : Nat} {u : List Nat} (h : ∀ j, j < u.length → w.cell? ⟨b, o + j, none⟩ = some (.int .u8 ((u.getD j 0 : Nat) : Int))) (hk : k8 + 8 ≤ u.length) :
    ∀ j v, ([u.getD k8 0, u.getD (k8 + 1) 0, u.getD (k8 + 2) 0, u.getD (k8 + 3) 0, u.getD (k8 + 4) 0, u.getD (k8 + 5) 0, u.getD (k8 + 6) 0, u.getD (k8 + 7) 0].map fun b => Value.int .u8 ((b : Nat) : Int))[j]? = some v → w.cell? ((⟨b, o + k8, none⟩ : Addr).add j) = some v := by
  intro j v hj
  have hj8 : j < 8 := by have := (List.getElem?_eq_some_iff.1 hj).1; simpa using this
  rw [Addr.add_lit, Nat.add_assoc, h (k8 + j) (by omega)]
  match j, hj8, hj with
  | 0, _, hj => simpa using hj
  | 1, _, hj => simpa using hj
  | 2, _, hj => simpa using hj
  | 3, _, hj => simpa using hj
  | 4, _, hj => simpa using hj
  | 5, _, hj => simpa using hj
  | 6, _, hj => simpa using hj
  | 7, _, hj => simpa using hj

/-! ### The cursor in memory -/
def CurAt (P : Nat) (w : World) (sv : Value) (I : Nat) (out : List Nat) : Prop :=
  w.cell? ⟨P, 0, none⟩ = some sv ∧ w.cell? ⟨P, 1, none⟩ = some (.int .u16 (I : Int)) ∧ (∃ ov, w.cell? ⟨P, 2, none⟩ = some ov ∧ Own .u64 23 (P + 1) w ov out) ∧ w.frozen? ⟨P, 1, none⟩ = false ∧ w.frozen? ⟨P, 2, none⟩ = false ∧ P + 1 ≤ w.heap.size

theorem own_setCell {k : IntKind} {e B : Nat} {w : World} {v : Value} {l : List Nat} (h : Own k e B w v l) {a : Addr} (ha : a.block < B) (u : Value) : Own k e B (w.setCell a u) v l := ownsRow_setCell_below h ha u

/-- Behind 'c.Out = append(c.Out, x)'. -/
theorem cur_pushed {P I : Nat} {w0 w w1 : World} {sv v : Value} {out out' : List Nat} (hc : CurAt P w sv I out) (hb : Below (P + 1) w w1) (ho : Own .u64 23 (P + 1) w1 v out') (h0 : Below P w0 w) :
    CurAt P (w1.setCell ⟨P, 2, none⟩ v) sv I out' ∧ Below P w0 (w1.setCell ⟨P, 2, none⟩ v) := by
  obtain ⟨a0, a1, ⟨ov, a2, _⟩, f1, f2, hs⟩ := hc
  have g0 := (hb.cell (p := ⟨P, 0, none⟩) (Nat.lt_succ_self P)).trans a0
  have g1 := (hb.cell (p := ⟨P, 1, none⟩) (Nat.lt_succ_self P)).trans a1
  have g2 := (hb.cell (p := ⟨P, 2, none⟩) (Nat.lt_succ_self P)).trans a2
  have k1 := (hb.frozen (p := ⟨P, 1, none⟩) (Nat.lt_succ_self P)).trans f1
  have k2 := (hb.frozen (p := ⟨P, 2, none⟩) (Nat.lt_succ_self P)).trans f2
  refine ⟨⟨?_, ?_, ⟨v, ?_, own_setCell ho (Nat.lt_succ_self P) _⟩, ?_, ?_, ?_⟩, ?_⟩
  · rw [World.cell?_setCell_other]; exact g0; simp
  · rw [World.cell?_setCell_other]; exact g1; simp
  · exact World.cell?_setCell_same _ _ _ g2
  · rw [World.frozen?_setCell]; exact k1
  · rw [World.frozen?_setCell]; exact k2
  · have := hb.size; simp [World.setCell]; omega
  · exact (h0.trans (hb.mono (Nat.le_succ P))).setCell (Nat.le_refl P) _

/-- Behind 'c.I += n'. -/
theorem cur_moved {P I J : Nat} {w0 w : World} {sv : Value} {out : List Nat} (hc : CurAt P w sv I out) (h0 : Below P w0 w) :
    CurAt P (w.setCell ⟨P, 1, none⟩ (.int .u16 (J : Int))) sv J out ∧ Below P w0 (w.setCell ⟨P, 1, none⟩ (.int .u16 (J : Int))) := by
  obtain ⟨a0, a1, ⟨ov, a2, ho⟩, f1, f2, hs⟩ := hc
  refine ⟨⟨?_, ?_, ⟨ov, ?_, own_setCell ho (Nat.lt_succ_self P) _⟩, ?_, ?_, ?_⟩, ?_⟩
  · rw [World.cell?_setCell_other]; exact a0; simp
  · exact World.cell?_setCell_same _ _ _ a1
  · rw [World.cell?_setCell_other]; exact a2; simp
  · rw [World.frozen?_setCell]; exact f1
  · rw [World.frozen?_setCell]; exact f2
  · simp [World.setCell]; omega
  · exact h0.setCell (Nat.le_refl P) _
theorem cur_later {P I : Nat} {w w' : World} {sv : Value} {out : List Nat} (hc : CurAt P w sv I out) (hb : Below w.heap.size w w') : CurAt P w' sv I out := by
  obtain ⟨a0, a1, ⟨ov, a2, ho⟩, f1, f2, hs⟩ := hc
  exact ⟨(hb.cell (p := ⟨P, 0, none⟩) hs).trans a0, (hb.cell (p := ⟨P, 1, none⟩) hs).trans a1, ⟨ov, (hb.cell (p := ⟨P, 2, none⟩) hs).trans a2, ho.kept hb (Nat.le_refl _)⟩,
    (hb.frozen (p := ⟨P, 1, none⟩) hs).trans f1, (hb.frozen (p := ⟨P, 2, none⟩) hs).trans f2, Nat.le_trans hs hb.size⟩
theorem cur_drew {P I q : Nat} {w : World} {sv : Value} {out : List Nat} (hc : CurAt P w sv I out) : CurAt P (w.drewN q) sv I out := hc
end Go.Proofs.Ygcfad
