/-
  THE WALKS of schema.fit, widthOf and Layout.
-/
import Derived.Test.YgcfadLex2
import Derived.Test.YgcfadLayoutPlain
namespace Go.Proofs.Ygcfad
open Go.RowKit Plain
set_option linter.unusedSimpArgs false
set_option linter.unusedVariables false

set_option maxHeartbeats 1000000 in
theorem fit_any (U n c s : Nat) (us : List Int) (w : World) (hs1 : 1 ≤ s) (hs : s ≤ 64) (hn : n ≤ 8) (hus : Hid (us.length = 8)) (hcell : ∀ i, i < 8 → w.cell? ⟨U, i, none⟩ = some (.int .u64 (us.getD i 0))) :
    Calls Fadg.prog 166 #[.slice (some ⟨U, 0, none⟩) n c, .int .u8 (s : Int)] w fun e w' => e = .returned (.tuple #[.int .u16 (((fitN s 0 (us.take n)).getD 0 : Nat) : Int), .bool (fitN s 0 (us.take n)).isSome]) ∧ w' = w := by
  have HC : Hid (∀ i, i < 8 → w.cell? ⟨U, i, none⟩ = some (.int .u64 (us.getD i 0))) := hcell
  clear hcell
  go_enter Fadg.func166, Fadg.ntmps166
  go_wp2
  go_loop [14] (fun i => ∃ i' : Nat, i = .int .i64 (i' : Int) ∧ i' ≤ n ∧ Hid (fitN s i' ((us.take n).drop i') = fitN s 0 (us.take n))) (fun i => n - (intOf i).toNat)
  case atStart => exact ⟨0, rfl, Nat.zero_le _, rfl⟩
  case round =>
    obtain ⟨i, rfl, hi, hf⟩ := hrel
    by_cases hlt : i < n
    · obtain ⟨x, hx⟩ : ∃ x, x = us.getD i 0 := ⟨_, rfl⟩
      have hc : w.cell? ⟨U, i, none⟩ = some (.int .u64 x) := by rw [hx]; exact HC.out i (by omega)
      have hcons : Hid ((us.take n).drop i = x :: (us.take n).drop (i + 1)) := by
        have hl : i < (us.take n).length := by have := hus.out; simp; omega
        show _ = _
        rw [List.drop_eq_getElem_cons hl, hx]
        have hil : i < us.length := by have := hus.out; omega
        simp [List.getD, hil]
      clear hx
      go_wp2
      go_loop [8] (fun a => ∃ (a' f : Nat), a = .int .u16 (a' : Int) ∧ a' ≤ 128 ∧ 64 < a' + f ∧ Hid (scanW x s f a' = scanW x s 65 0)) (fun a => 128 - (intOf a).toNat)
      case atStart => exact ⟨0, 65, rfl, Nat.zero_le _, by omega, rfl⟩
      case round =>
        obtain ⟨a, f, rfl, ha, haf, hsc⟩ := hrel
        by_cases ha6 : a < 64
        · obtain ⟨f, rfl⟩ : ∃ g, f = g + 1 := ⟨f - 1, by omega⟩
          cases hfr : freeB x s a with
          | true =>
            have hfr' : (bits BinOp.and IntKind.u64 (x / 2 ^ a) (18446744073709551615 / 2 ^ (64 - s)) == 0) = true := hfr
            have HF := hid hfr
            clear hfr
            go_wp2
            go_ret2
            have e1 : scanW x s 65 0 = some a := by rw [← hsc.out]; simp [scanW, ha6, HF.out]
            have e2 : fitN s 0 (us.take n) = some (i * 64 + a) := by rw [← hf.out, hcons.out]; simp [fitN, e1]
            rw [e2]
            refine ⟨?_, rfl⟩
            show Ending.returned (.tuple #[.int .u16 ((i : Int) * 64 + (a : Int)), .bool true]) = Ending.returned (.tuple #[.int .u16 ((i * 64 + a : Nat) : Int), .bool true])
            have e3 : ((i : Int) * 64 + (a : Int)) = ((i * 64 + a : Nat) : Int) := by omega
            rw [e3]
          | false =>
            have hfr' : (bits BinOp.and IntKind.u64 (x / 2 ^ a) (18446744073709551615 / 2 ^ (64 - s)) == 0) = false := hfr
            have HF := hid hfr
            clear hfr
            go_wp2
            go_round
            case rel => exact ⟨a + s, f, by go_num, by omega, by omega, by show scanW x s f (a + s) = _; rw [← hsc.out]; simp [scanW, ha6, HF.out]⟩
            case measure => simp [intOf]; omega
        · have e1 : Hid (scanW x s 65 0 = none) := by
            show _ = _; rw [← hsc.out]
            cases f with
            | zero => rfl
            | succ f => simp [scanW, ha6]
          go_wp2
          go_round
          case rel => exact ⟨i + 1, by go_num, by omega, by show fitN s (i + 1) ((us.take n).drop (i + 1)) = _; rw [← hf.out, hcons.out]; simp [fitN, e1.out]⟩
          case measure => simp [intOf]; omega
    · have e2 : Hid (fitN s 0 (us.take n) = none) := by
        show _ = _; rw [← hf.out, List.drop_eq_nil_of_le (by simp; omega)]; rfl
      go_wp2
      go_ret2
      rw [e2.out]
      exact ⟨rfl, rfl⟩

theorem wid_idx (wx : World) : ∀ k : Nat, k < 11 → (Instr.index 270 (.agg #[.int .u8 1, .int .u8 8, .int .u8 16, .int .u8 32, .int .u8 64, .int .u8 8, .int .u8 16, .int .u8 32, .int .u8 64, .int .u8 32, .int .u8 64]) (.int .u8 (k : Int))).run Fadg.prog wx = .ok (.int .u8 ((widthN k : Nat) : Int)) wx
  | 0, _ => by kernel_rfl
  | 1, _ => by kernel_rfl
  | 2, _ => by kernel_rfl
  | 3, _ => by kernel_rfl
  | 4, _ => by kernel_rfl
  | 5, _ => by kernel_rfl
  | 6, _ => by kernel_rfl
  | 7, _ => by kernel_rfl
  | 8, _ => by kernel_rfl
  | 9, _ => by kernel_rfl
  | 10, _ => by kernel_rfl
  | k + 11, h => absurd h (by omega)
theorem widthN_big {k : Nat} (h : 10 < k) : widthN k = 0 := by
  unfold widthN
  simp [List.getD, List.getElem?_eq_none (show [1, 8, 16, 32, 64, 8, 16, 32, 64, 32, 64].length ≤ k by simp; omega)]
set_option maxRecDepth 100000 in
theorem widthOf_any (k : Nat) (hk : k < 256) (w : World) : Calls Fadg.prog 165 #[.int .u8 (k : Int)] w fun e w' => e = .returned (.int .u8 ((widthN k : Nat) : Int)) ∧ w' = w := by
  by_cases h : k < 11
  · have hidx := fun wx => wid_idx wx k h
    have h' : ¬ (10 : Int) < (k : Int) := by omega
    go_enter Fadg.func165, Fadg.ntmps165
    go_wp2
    go_ret
    exact ⟨rfl, rfl⟩
  · rw [widthN_big (by omega)]
    have h' : (10 : Int) < (k : Int) := by omega
    go_enter Fadg.func165, Fadg.ntmps165
    go_wp2
    go_ret
    exact ⟨rfl, rfl⟩

/-! ### Layout -/
theorem Fadg.info196 : (Fadg.prog.info? 196).map (fun i => (i.zero, i.size, i.bytes)) = some (some (.agg #[.int .u8 0, .int .u16 0, .int .u8 0, .bool false]), 4, 6) := by kernel_rfl
theorem Fadg.struct194 : ∃ fs, Fadg.prog.underlying 194 = some (.struct fs) := ⟨_, Fadg.underlying194⟩
theorem Fadg.len194 : (Fadg.prog.info? 194).map (·.size) = some 4 := by kernel_rfl

/-- A place of a field, its four cells. -/
def plc (p : Int × Int × Int × Bool) : List Value := [.int .u8 p.1, .int .u16 p.2.1, .int .u8 p.2.2.1, .bool p.2.2.2]
theorem plc_length (l : List (Int × Int × Int × Bool)) : (l.flatMap plc).length = l.length * 4 := by
  induction l with
  | nil => rfl
  | cons x l ih => rw [List.flatMap_cons, List.length_append, ih]; simp [plc]; omega

/-- Types in a row: only their kinds are known. -/
def TyRow (w : World) (b off : Nat) (ks : List Nat) : Prop := ∀ i, i < ks.length → ∃ v1 v2 v3 : Int, w.cell? ⟨b, off + i * 4, none⟩ = some (.int .u8 ((ks.getD i 0 : Nat) : Int)) ∧ w.cell? ⟨b, off + i * 4 + 1, none⟩ = some (.int .u8 v1) ∧
  w.cell? ⟨b, off + i * 4 + 2, none⟩ = some (.int .u8 v2) ∧ w.cell? ⟨b, off + i * 4 + 3, none⟩ = some (.int .u8 v3)
theorem TyRow.below {w w' : World} {b off : Nat} {ks : List Nat} (h : TyRow w b off ks) {B : Nat} (hb : Below B w w') (hbB : b < B) : TyRow w' b off ks := by
  intro i hi
  obtain ⟨v1, v2, v3, h0, h1, h2, h3⟩ := h i hi
  exact ⟨v1, v2, v3, (hb.cell (p := ⟨b, _, none⟩) hbB).trans h0, (hb.cell (p := ⟨b, _, none⟩) hbB).trans h1, (hb.cell (p := ⟨b, _, none⟩) hbB).trans h2, (hb.cell (p := ⟨b, _, none⟩) hbB).trans h3⟩

theorem wpList_load_cells' {ops : Array Oper} {rest : List Oper} {o : Oper} {a : Act} {w : World} {Q : Exit → Act → World → Prop} (hgd : o.guard = none) (ty : TypeId) (x : Operand) (ho : o.op = .load ty x)
    (ad : Addr) (hx : a.eval x = .pointer (some ad)) (cs : List Value) (d : TypeDesc) (hc : ∀ j v, cs[j]? = some v → w.cell? (ad.add j) = some v)
    (hu : Fadg.prog.underlying ty = some d) (hd : (match d with | .struct _ | .array _ _ => true | _ => false) = true) (hi : (Fadg.prog.info? ty).map (·.size) = some cs.length)
    (h : wpList Fadg.prog ops Q rest (a.put o.dst (.agg cs.toArray)) w) : wpList Fadg.prog ops Q (o :: rest) a w := by
  refine wpList_plain hgd fun _ hK => ?_
  have hl := run_loadCells_list (P := Fadg.prog) w ad cs hc
  have hrun : (loadVar ty ad).run Fadg.prog w = .ok (.agg cs.toArray) w := by
    cases hq : Fadg.prog.info? ty with
    | none => simp [hq] at hi
    | some i =>
      have hs : i.size = cs.length := by simpa [hq] using hi
      have hagg : (isAgg ty).run Fadg.prog w = .ok true w := by
        unfold isAgg
        rw [Sem.run_bind, run_underlying hu w]
        cases d <;> simp_all
      simp [loadVar, Sem.run_bind, hagg, sizeOf, typeInfo, hq, hs, hl]
  unfold Oper.wp execOp
  simp only [ho, hx, Instr.loadAt, Instr.sureAddr, Sem.run_bind, Sem.run_pure, Result.andThen_ok, hrun]
  exact hK _ _ h

theorem cells4 {w : World} {b o : Nat} {v0 v1 v2 v3 : Value} (h0 : w.cell? ⟨b, o, none⟩ = some v0) (h1 : w.cell? ⟨b, o + 1, none⟩ = some v1) (h2 : w.cell? ⟨b, o + 2, none⟩ = some v2) (h3 : w.cell? ⟨b, o + 3, none⟩ = some v3) :
    ∀ j v, [v0, v1, v2, v3][j]? = some v → w.cell? ((⟨b, o, none⟩ : Addr).add j) = some v := by
  intro j v hj
  have hj4 : j < 4 := by have := (List.getElem?_eq_some_iff.1 hj).1; simpa using this
  rw [Addr.add_lit]
  match j, hj4, hj with
  | 0, _, hj => simp at hj; rw [← hj]; exact h0
  | 1, _, hj => simp at hj; rw [← hj]; exact h1
  | 2, _, hj => simp at hj; rw [← hj]; exact h2
  | 3, _, hj => simp at hj; rw [← hj]; exact h3
theorem four_new (w : World) (v0 v1 v2 v3 : Value) (e : Nat) : ∀ j u, [v0, v1, v2, v3][j]? = some u → (w.alloc (.cells #[v0, v1, v2, v3] e)).cell? ((⟨w.heap.size, 0, none⟩ : Addr).add j) = some u :=
  cells4 (by simp) (by simp) (by simp) (by simp)

theorem arr_slice (U : Nat) (wx : World) : ∀ d : Nat, d ≤ 8 → (Instr.sliceAt 263 (.pointer (some ⟨U, 0, none⟩)) none (some (.int .u8 (d : Int))) (some (.int .u8 (d : Int)))).run Fadg.prog wx = .ok (.slice (some ⟨U, 0, none⟩) d d) wx
  | 0, _ => by kernel_rfl
  | 1, _ => by kernel_rfl
  | 2, _ => by kernel_rfl
  | 3, _ => by kernel_rfl
  | 4, _ => by kernel_rfl
  | 5, _ => by kernel_rfl
  | 6, _ => by kernel_rfl
  | 7, _ => by kernel_rfl
  | 8, _ => by kernel_rfl
  | d + 9, h => absurd h (by omega)

/-- 'used[:d:d]'. -/
theorem wpList_sliceArr (w : World) {ops : Array Oper} {rest : List Oper} {o : Oper} {a : Act} {Q : Exit → Act → World → Prop} (hgd : o.guard = none) (x hi mx : Operand)
    (hop : o.op = Op.slice 263 x none (some hi) (some mx)) (U d : Nat) (hx : a.eval x = .pointer (some ⟨U, 0, none⟩)) (hhi : a.eval hi = .int .u8 (d : Int)) (hmx : a.eval mx = .int .u8 (d : Int)) (hd : d ≤ 8)
    (h : wpList Fadg.prog ops Q rest (a.put o.dst (.slice (some ⟨U, 0, none⟩) d d)) w) : wpList Fadg.prog ops Q (o :: rest) a w := by
  refine wpList_plain hgd fun K hK => ?_
  have hat := arr_slice U w d hd
  unfold Oper.wp
  simp [execOp, hop, hx, hhi, hmx, hat, Result.andThen]
  exact hK _ _ h

theorem layout_long (ao : Option Addr) (n c : Nat) (w : World) (hn : 16 < n) :
    Calls Fadg.prog 150 #[.slice ao n c] w fun e w' => e = .returned (.tuple #[.slice none 0 0, .int .u8 0, .int .u8 0, .bool false]) ∧ w' = w := by
  have hn' : (16 : Int) < (n : Int) := by omega
  go_enter Fadg.func150, Fadg.ntmps150
  go_wp2
  exact bodyPost_ret (v := .tuple #[.slice none 0 0, .int .u8 0, .int .u8 0, .bool false]) (by simp [results, Fadg.results150, go_sem]) rfl ⟨rfl, rfl⟩

end Go.Proofs.Ygcfad
