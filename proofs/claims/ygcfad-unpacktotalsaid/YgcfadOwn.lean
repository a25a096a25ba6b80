/-
  SLICES THAT THE CALL ITSELF MADE: bytes and words; one law a kind of append, in the form in which the walks below want it.
-/
import Derived.Test.YgcfadPackLeaf
namespace Go.Proofs.Ygcfad
open Go.RowKit Plain
set_option linter.unusedSimpArgs false
set_option linter.unusedVariables false

theorem Fadg.info5 : (Fadg.prog.info? 5).map (fun i => (i.zero, i.size, i.bytes)) = some (some (.int .u8 0), 1, 1) := by kernel_rfl
theorem Fadg.info23 : (Fadg.prog.info? 23).map (fun i => (i.zero, i.size, i.bytes)) = some (some (.int .u64 0), 1, 8) := by kernel_rfl

/-- The slice value v owns the numbers l, of kind k and type e, in a block from B on. -/
def Own (k : IntKind) (e : TypeId) (B : Nat) (w : World) (v : Value) (l : List Nat) : Prop := w.ownsRow B e 1 v l.length (l.map fun b => Value.int k ((b : Nat) : Int))

section
variable {k : IntKind} {e B : Nat} {w : World} {v : Value} {l : List Nat}

theorem Own.nil (k : IntKind) (e B : Nat) (w : World) : Own k e B w (.slice none 0 0) [] := World.ownsRow_nil _ _ _ _

/-- Its shape: the length is the list's. -/
theorem Own.shape (h : Own k e B w v l) : ∃ ao cap, v = .slice ao l.length cap ∧ l.length ≤ cap ∧ cap ≤ maxLen ∧ (ao = none → l = [] ∧ cap = 0) := by
  obtain ⟨_, h | ⟨g, cap, cur, hv, _, _, hc, hm, _⟩⟩ := h
  · exact ⟨none, 0, by rw [h.1, h.2], by omega, by simp [maxLen], fun _ => ⟨List.eq_nil_of_length_eq_zero h.2, rfl⟩⟩
  · exact ⟨_, cap, hv, hc, hm, fun e => by cases e⟩

/-- It reads as a row of its numbers. -/
theorem Own.row {ao : Option Addr} {n cap : Nat} (h : Own k e B w (.slice ao n cap) l) : n = l.length ∧ RowAt k w ao l := by
  obtain ⟨hl, h2⟩ := id h
  rcases h2 with h2 | ⟨g, cap', cur, hv, _, hh, hc, _, hs, ht⟩
  · have : l = [] := List.eq_nil_of_length_eq_zero h2.2
    subst this
    exact ⟨by have := h2.1; simp at this; simpa using this.2.1, .inl rfl⟩
  · simp only [Value.slice.injEq] at hv
    obtain ⟨rfl, rfl, rfl⟩ := hv
    refine ⟨rfl, .inr ⟨g, 0, rfl, fun i hi => ?_⟩⟩
    have := World.ownsRow.cellAt h i (by simpa using hi)
    rw [Nat.zero_add, this]
    simp [List.getD, hi]

theorem Own.kept {w' : World} {B' : Nat} (h : Own k e B w v l) (hb : Below B' w w') (hlt : w.heap.size ≤ B') : Own k e B w' v l := by
  refine World.ownsRow.kept (row := none) h ⟨hb.os, hb.tape, hb.output, hb.size, fun i hi _ => hb.block i (by omega)⟩ ?_
  cases hv : v.ownBlock with
  | none => exact .inl rfl
  | some _ => exact .inr (by simp)

theorem Own.alloc (h : Own k e B w v l) (o : Obj) : Own k e B (w.alloc o) v l := World.ownsRow.alloc h o
theorem Own.drew (h : Own k e B w v l) : Own k e B w.drew v l := h
end

theorem RowAt.below {k : IntKind} {w w' : World} {B : Nat} {ao : Option Addr} {zs : List Nat} (h : RowAt k w ao zs) (hb : Below B w w') (hlt : w.heap.size ≤ B) : RowAt k w' ao zs := by
  rcases h with h | ⟨b, off, rfl, hc⟩
  · exact .inl h
  · refine .inr ⟨b, off, rfl, fun i hi => ?_⟩
    have := hc i hi
    rw [hb.cell (p := ⟨b, off + i, none⟩) (Nat.lt_of_lt_of_le (World.block_lt_of_cell? _ _ this) hlt), this]

/-- A row in memory below B. -/
theorem RowAt.below' {k : IntKind} {w0 w w' : World} {ao : Option Addr} {zs : List Nat} (h : RowAt k w0 ao zs) (h0 : Below w0.heap.size w0 w) (hb : Below w0.heap.size w w') : RowAt k w' ao zs :=
  h.below (h0.trans hb) (Nat.le_refl _)

/-- 'append(s, b)', s bytes of the call's own. -/
theorem wpList_append_byte {B : Nat} {w0 : World} (w : World) {ops : Array Oper} {rest : List Oper} {o : Oper} {a : Act} {Q : Exit → Act → World → Prop} (hgd : o.guard = none) (s x : Operand)
    (ho : o.op = .call { callee := .builtin .append, args := #[s, x], argTypes := #[26, 26] })
    (v : Value) (l : List Nat) (hs : a.eval s = v) (hown : Own .u8 5 B w v l) (hb0 : Below B w0 w)
    (ad : Addr) (m c : Nat) (news : List Nat) (hx : a.eval x = .slice (some ad) m c) (hm : news.length = m)
    (hnews : ∀ j, j < news.length → w.cell? (ad.add j) = some (.int .u8 ((news.getD j 0 : Nat) : Int)))
    (h63 : l.length + m ≤ 1000000) (hbase : B ≤ w.heap.size)
    (h : ∀ v' w', Own .u8 5 B w' v' (l ++ news) → Below B w0 w' → B ≤ w'.heap.size → wpList Fadg.prog ops Q rest (a.put o.dst v') w') : wpList Fadg.prog ops Q (o :: rest) a w := by
  obtain ⟨i, hi, hz0, hz1, hz2⟩ := info_parts Fadg.info5
  refine wpList_append_own w hgd s x 26 ho B 5 i (.int .u8 0) 1 1 Fadg.underlying26 hi hz0 hz1 hz2 rfl (by decide) v l.length _ hs hown ad m c (news.map fun b => Value.int .u8 ((b : Nat) : Int)) hx (by simp [hm]) ?_ ?_ (by unfold maxLen; omega) (by omega) hbase ?_
  · intro j u hj
    have hlt : j < news.length := by have := (List.getElem?_eq_some_iff.1 hj).1; simpa using this
    rw [hnews j hlt]
    simp only [List.getElem?_map, Option.map_eq_some_iff] at hj
    obtain ⟨y, hy, rfl⟩ := hj
    simp [List.getD, hy]
  · intro u hu
    obtain ⟨y, _, rfl⟩ := List.mem_map.1 hu
    rfl
  · intro v' w' hown' hg _
    refine h v' w' ?_ (hb0.grown hg hbase (fun q hq => (World.ownsRow.lt hown q hq).1)) (Nat.le_trans hbase hg.size)
    unfold Own
    rw [List.map_append, List.length_append, hm]
    exact hown'

/-- 'append(s, x)', s words of the call's own. -/
theorem wpList_append_word {B : Nat} {w0 : World} (w : World) {ops : Array Oper} {rest : List Oper} {o : Oper} {a : Act} {Q : Exit → Act → World → Prop} (hgd : o.guard = none) (s x : Operand)
    (ho : o.op = .call { callee := .builtin .append, args := #[s, x], argTypes := #[22, 22] })
    (v : Value) (l : List Nat) (hs : a.eval s = v) (hown : Own .u64 23 B w v l) (hb0 : Below B w0 w)
    (ad : Addr) (m c : Nat) (news : List Nat) (hx : a.eval x = .slice (some ad) m c) (hm : news.length = m)
    (hnews : ∀ j, j < news.length → w.cell? (ad.add j) = some (.int .u64 ((news.getD j 0 : Nat) : Int)))
    (h63 : l.length + m ≤ 1000000) (hbase : B ≤ w.heap.size)
    (h : ∀ v' w', Own .u64 23 B w' v' (l ++ news) → Below B w0 w' → B ≤ w'.heap.size → wpList Fadg.prog ops Q rest (a.put o.dst v') w') : wpList Fadg.prog ops Q (o :: rest) a w := by
  obtain ⟨i, hi, hz0, hz1, hz2⟩ := info_parts Fadg.info23
  refine wpList_append_own w hgd s x 22 ho B 23 i (.int .u64 0) 1 8 Fadg.underlying22 hi hz0 hz1 hz2 rfl (by decide) v l.length _ hs hown ad m c (news.map fun b => Value.int .u64 ((b : Nat) : Int)) hx (by simp [hm]) ?_ ?_ (by unfold maxLen; omega) (by omega) hbase ?_
  · intro j u hj
    have hlt : j < news.length := by have := (List.getElem?_eq_some_iff.1 hj).1; simpa using this
    rw [hnews j hlt]
    simp only [List.getElem?_map, Option.map_eq_some_iff] at hj
    obtain ⟨y, hy, rfl⟩ := hj
    simp [List.getD, hy]
  · intro u hu
    obtain ⟨y, _, rfl⟩ := List.mem_map.1 hu
    rfl
  · intro v' w' hown' hg _
    refine h v' w' ?_ (hb0.grown hg hbase (fun q hq => (World.ownsRow.lt hown q hq).1)) (Nat.le_trans hbase hg.size)
    unfold Own
    rw [List.map_append, List.length_append, hm]
    exact hown'

theorem Fadg.size22 (w : World) : (sizeOf (Fadg.prog.elem 22)).run Fadg.prog w = .ok 1 w := by kernel_rfl
theorem Fadg.elem22 : Fadg.prog.underlying 22 = some (.slice (Fadg.prog.elem 22)) := by kernel_rfl
theorem Fadg.size26 (w : World) : (sizeOf (Fadg.prog.elem 26)).run Fadg.prog w = .ok 1 w := by kernel_rfl
theorem Fadg.elem26 : Fadg.prog.underlying 26 = some (.slice (Fadg.prog.elem 26)) := by kernel_rfl

theorem RowAt.drop {k : IntKind} {w : World} {b off : Nat} {zs : List Nat} (h : RowAt k w (some ⟨b, off, none⟩) zs) (l : Nat) (hl : l < zs.length) : RowAt k w (some ⟨b, off + l, none⟩) (zs.drop l) := by
  rcases h with h | ⟨b', off', he, hc⟩
  · subst h; simp at hl
  · simp only [Option.some.injEq, Addr.mk.injEq] at he
    obtain ⟨rfl, rfl, _⟩ := he
    refine .inr ⟨b, off + l, rfl, fun i hi => ?_⟩
    have := hc (l + i) (by simp at hi; omega)
    rw [Nat.add_assoc, this]
    simp [List.getD]

theorem RowAt.take {k : IntKind} {w : World} {ao : Option Addr} {zs : List Nat} (h : RowAt k w ao zs) (l : Nat) : RowAt k w ao (zs.take l) := by
  rcases h with h | ⟨b', off', rfl, hc⟩
  · exact .inl (by simp [h])
  · refine .inr ⟨b', off', rfl, fun i hi => ?_⟩
    rw [hc i (by simp at hi; omega)]
    have : i < l := by simp at hi; omega
    simp [List.getD, List.getElem?_take, this]

/-- 'a[l:n:n]' of n words. -/
theorem wpList_slice3 (w w0 : World) {ops : Array Oper} {rest : List Oper} {o : Oper} {a : Act} {Q : Exit → Act → World → Prop} (hgd : o.guard = none) (x lo hi mx : Operand)
    (hop : o.op = Op.slice 22 x (some lo) (some hi) (some mx)) (b off n cap l : Nat) (zs : List Nat) (hn : n = zs.length) (hr : RowAt .u64 w0 (some ⟨b, off, none⟩) zs)
    (hx : a.eval x = .slice (some ⟨b, off, none⟩) n cap) (L : Int) (hlo : a.eval lo = .int .i64 L) (hL : L = (l : Int)) (hhi : a.eval hi = .int .i64 (n : Int)) (hmx : a.eval mx = .int .i64 (n : Int)) (hl : l ≤ n) (hc : n ≤ cap)
    (h : ∀ ao, RowAt .u64 w0 ao (zs.drop l) → wpList Fadg.prog ops Q rest (a.put o.dst (.slice ao (n - l) (n - l))) w) : wpList Fadg.prog ops Q (o :: rest) a w := by
  refine wpList_plain hgd fun K hK => ?_
  subst hL
  have hrun := run_slice_lhm (P := Fadg.prog) w 22 (some ⟨b, off, none⟩) n cap Fadg.elem22 .i64 .i64 .i64 (l : Int) (n : Int) (n : Int) (by omega) (by omega) (by omega) (by omega)
  rw [Fadg.size22] at hrun
  have hat := run_sliceAt_slice (P := Fadg.prog) w 22 (.slice (some ⟨b, off, none⟩) n cap) (some (.int .i64 (l : Int))) (some (.int .i64 (n : Int))) (some (.int .i64 (n : Int))) Fadg.elem22
  rw [hrun] at hat
  unfold Oper.wp
  simp [execOp, hop, hx, hlo, hhi, hmx, hrun, hat, Result.andThen]
  refine hK _ _ ?_
  simp only [sliced]
  by_cases e : n = l
  · rw [if_pos e]; exact h _ (.inl (List.drop_eq_nil_of_le (by omega)))
  · rw [if_neg e]
    simp only [Option.map_some, Nat.mul_one, Addr.add_lit]
    exact h _ (hr.drop l (by omega))

/-- 'a[:h]' of words. -/
theorem wpList_sliceH (w : World) {ops : Array Oper} {rest : List Oper} {o : Oper} {a : Act} {Q : Exit → Act → World → Prop} (hgd : o.guard = none) (x hi : Operand)
    (hop : o.op = Op.slice 22 x none (some hi) none) (ao : Option Addr) (n cap l : Nat)
    (hx : a.eval x = .slice ao n cap) (L : Int) (hhi : a.eval hi = .int .i64 L) (hL : L = (l : Int)) (hl : l ≤ cap)
    (h : wpList Fadg.prog ops Q rest (a.put o.dst (.slice ao l cap)) w) : wpList Fadg.prog ops Q (o :: rest) a w := by
  refine wpList_plain hgd fun K hK => ?_
  subst hL
  have hrun := run_slice_h (P := Fadg.prog) w 22 ao n cap Fadg.elem22 .i64 (l : Int) (by omega) (by omega)
  rw [Fadg.size22] at hrun
  have hat := run_sliceAt_slice (P := Fadg.prog) w 22 (.slice ao n cap) none (some (.int .i64 (l : Int))) none Fadg.elem22
  rw [hrun] at hat
  unfold Oper.wp
  simp [execOp, hop, hx, hhi, hrun, hat, Result.andThen]
  refine hK _ _ ?_
  simp only [sliced]
  have e : (if cap = 0 then ao else Option.map (fun x : Addr => x.add (0 * 1)) ao) = ao := by
    split
    · rfl
    · cases ao <;> simp [Addr.add]
  rw [e]
  simpa using h

/-- The one cell that 'append(s, x)' lays first. -/
theorem one_new (w : World) (k : IntKind) (x e : Nat) : ∀ j, j < [x].length → (w.alloc (.cells #[Value.int k (x : Int)] e)).cell? ((⟨w.heap.size, 0, none⟩ : Addr).add j) = some (.int k (([x].getD j 0 : Nat) : Int)) := by
  intro j hj
  match j, hj with
  | 0, _ => simp [Addr.add]
/-- The same, the number spelt otherwise. -/
theorem one_new' (w : World) (k : IntKind) (z : Int) (x e : Nat) (h : z = (x : Int)) : ∀ j, j < [x].length → (w.alloc (.cells #[Value.int k z] e)).cell? ((⟨w.heap.size, 0, none⟩ : Addr).add j) = some (.int k (([x].getD j 0 : Nat) : Int)) := by
  subst h; exact one_new w k x e
theorem drop_cons {zs : List Nat} {k x : Nat} (hk : k < zs.length) (hx : x = zs.getD k 0) : zs.drop k = x :: zs.drop (k + 1) := by
  rw [hx, List.drop_eq_getElem_cons hk]; simp [List.getD, hk]
theorem zeros_row (ao : Option Addr) (cap n : Nat) (zs : List Nat) (m : Nat) (w : World) (hn : n = zs.length) (hr : RowAt .u64 w ao zs) (hl : n ≤ 65536) :
    Calls Fadg.prog 65 #[.slice ao n cap, .int .i64 (m : Int)] w fun e w' => e = .returned (.int .i64 ((runP (· == 0) zs m : Nat) : Int)) ∧ w' = w := by
  subst hn; exact zeros_any ao cap zs m w hr hl
theorem dense_row (ao : Option Addr) (cap n : Nat) (zs : List Nat) (m : Nat) (w : World) (hn : n = zs.length) (hr : RowAt .u64 w ao zs) (hz : ∀ x ∈ zs, x < 18446744073709551616) (hl : n ≤ 65536) :
    Calls Fadg.prog 66 #[.slice ao n cap, .int .i64 (m : Int)] w fun e w' => e = .returned (.int .i64 ((runP (fun x => dnB (tagN x)) zs m : Nat) : Int)) ∧ w' = w := by
  subst hn; exact dense_any ao cap zs m w hr hz hl
/-- The eight cells that 'v := bitsx.Bytes(x)' lays. -/
theorem eight_new (w : World) (x e : Nat) : ∀ j, j < (by8 x).length →
    (w.alloc (.cells #[Value.int IntKind.u8 ((x : Int) % 256), Value.int IntKind.u8 ((x : Int) / 256 % 256), Value.int IntKind.u8 ((x : Int) / 65536 % 256), Value.int IntKind.u8 ((x : Int) / 16777216 % 256),
      Value.int IntKind.u8 ((x : Int) / 4294967296 % 256), Value.int IntKind.u8 ((x : Int) / 1099511627776 % 256), Value.int IntKind.u8 ((x : Int) / 281474976710656 % 256), Value.int IntKind.u8 ((x : Int) / 72057594037927936 % 256)] e)).cell?
      ((⟨w.heap.size, 0, none⟩ : Addr).add j) = some (.int .u8 (((by8 x).getD j 0 : Nat) : Int)) := by
  intro j hj
  rw [Addr.add_lit, Nat.zero_add]
  match j, hj with
  | 0, _ => simp [by8]
  | 1, _ => simp [by8]
  | 2, _ => simp [by8]
  | 3, _ => simp [by8]
  | 4, _ => simp [by8]
  | 5, _ => simp [by8]
  | 6, _ => simp [by8]
  | 7, _ => simp [by8]
  | j + 8, h => simp [by8] at h; omega
theorem take_flat (zs : List Nat) (j : Nat) (hj : j < zs.length) : (zs.take (j + 1)).flatMap by8 = (zs.take j).flatMap by8 ++ by8 (zs.getD j 0) := by
  rw [List.take_succ_eq_append_getElem hj, List.flatMap_append]
  simp [List.getD, hj]
end Go.Proofs.Ygcfad
