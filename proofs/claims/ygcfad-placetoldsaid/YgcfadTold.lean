/-
  THE WALK of law.marked.
-/
import Derived.Test.YgcfadRecParseAt
import Derived.Test.YgcfadToldPlain
namespace Go.Proofs.Ygcfad
open Go.RowKit Plain
set_option linter.unusedSimpArgs false
set_option linter.unusedVariables false

theorem Fadg.info9 : (Fadg.prog.info? 9).map (fun i => (i.zero, i.size, i.bytes)) = some (some (.string ⟨#[]⟩), 1, 16) := by kernel_rfl
def mkB (l : List Nat) : ByteArray := ⟨(l.map UInt8.ofNat).toArray⟩
def mkV (l : List Nat) : Value := .string (mkB l)
def M20 : List Value := (MARKED.take 20).map mkV
def M13 : List Value := (MARKED.drop 20).map mkV
theorem m33 : M20 ++ M13 = MARKED.map mkV := by unfold M20 M13; rw [← List.map_append, List.take_append_drop]
theorem lit_new (w : World) (b : Array Value) (e g : Nat) (xs : List Value) (hg : g = w.heap.size) (hx : b.toList = xs) (hm : b.size ≤ 1000) : ∀ j u, xs[j]? = some u → (w.alloc (.cells b e)).cell? ((⟨g, 0, none⟩ : Addr).add j) = some u := by
  subst hg hx
  intro j u hj
  have ho := World.ownsRow_lit (base := 0) (e := e) (size := 1) w b b.size (Nat.zero_le _) (by unfold maxLen; omega) (by omega)
  have hjl : j < b.size := by have := (List.getElem?_eq_some_iff.1 hj).1; simpa using this
  rw [Addr.add_lit, Nat.zero_add, ho.cellAt j (by omega)]
  exact hj
theorem own_lit (w : World) (a b : Array Value) (xs : List Value) (n : Nat) (hx : a.toList = xs) (hn : a.size = n) (hm : n ≤ 1000) : ((w.alloc (.cells a 9)).alloc (.cells b 9)).ownsRow w.heap.size 9 1 (.slice (some ⟨w.heap.size, 0, none⟩) n n) n xs := by
  subst hx
  have h1 := World.ownsRow_lit (base := w.heap.size) (e := 9) (size := 1) w a n (Nat.le_refl _) (by unfold maxLen; omega) (by omega)
  exact Row.ok.same (r := ⟨.slice (some ⟨w.heap.size, 0, none⟩) n n, 9, 1, n, a.toList⟩) h1 fun g hg => Below.heap_alloc _ _ g (World.ownsRow.lt h1 g hg).2
theorem alloc_size (w : World) (o : Obj) : w.heap.size + 1 = (w.alloc o).heap.size := by simp
theorem alloc2_below (w : World) (o o' : Obj) : Below w.heap.size w ((w.alloc o).alloc o') := ((Below.refl _ w).alloc (Nat.le_refl _) o).alloc (by rw [← alloc_size]; omega) o'
theorem mkV_one (l : List (List Nat)) : ∀ u ∈ l.map mkV, u.oneCell' = true := by
  intro u hu
  obtain ⟨t, _, rfl⟩ := List.mem_map.1 hu
  rfl

set_option maxRecDepth 100000 in
set_option maxHeartbeats 8000000 in
theorem marked_any (w : World) : Calls Fadg.prog 29 #[] w fun e w' => Below w.heap.size w w' ∧ ∃ ao cap, e = .returned (.tuple #[.slice ao 33 cap, .int .i64 20]) ∧ w'.ownsRow w.heap.size 9 1 (.slice ao 33 cap) 33 (MARKED.map mkV) := by
  obtain ⟨i9, hi9, hz0, hz1, hz2⟩ := info_parts Fadg.info9
  go_enter Fadg.func29, Fadg.ntmps29
  go_wp2_with (at_builtin; go_must (refine wpList_append_sep (B := w.heap.size) _ rfl (.tmp 3) (.tmp 4) 61 rfl 9 i9 _ 1 16 Fadg.underlying61 hi9 hz0 hz1 hz2 rfl (by decide) (.slice (some ⟨w.heap.size, 0, none⟩) 20 20) 20 M20 rfl (own_lit w _ _ M20 20 (by kernel_rfl) rfl (by decide)) ⟨_, 0, none⟩ 13 13 M13 rfl rfl (lit_new _ _ _ _ M13 (alloc_size _ _) (by kernel_rfl) (by decide)) (mkV_one _) (by decide) (by decide) (alloc2_below _ _ _).size ?_); intro ao n cap w3 hn hown3 hg3 hnew3; obtain rfl : n = 33 := hn.out)
  have hb3 := (alloc2_below w _ _).grown hg3 (alloc2_below w _ _).size (fun q hq => Nat.le_of_eq (Option.some.inj hq))
  clear hg3 hnew3
  rw [m33] at hown3
  refine bodyPost_ret (v := .tuple #[.slice ao 33 cap, .int .i64 20]) (by simp [results, Fadg.results29, go_sem]) rfl ?_
  exact ⟨hb3, ao, cap, rfl, hown3⟩

/-! ### The texts, each with its one mark -/
def oneMark (t : List Nat) : Bool := decide (spanN (· != 94) t < t.length) && (List.range t.length).all (fun i => (t.getD i 0 == 94) == (i == spanN (· != 94) t)) && (nats (mkB t) == t) && decide (t.length ≤ 200)
theorem marks_one : MARKED.all oneMark = true := by kernel_rfl
theorem mark_facts {t : List Nat} (h : t ∈ MARKED) : spanN (· != 94) t < t.length ∧ (∀ i, i < t.length → (t.getD i 0 = 94 ↔ i = spanN (· != 94) t)) ∧ nats (mkB t) = t ∧ t.length ≤ 200 := by
  have h1 := List.all_eq_true.1 marks_one t h
  unfold oneMark at h1
  simp only [Bool.and_eq_true, decide_eq_true_eq, List.all_eq_true, List.mem_range, beq_iff_eq] at h1
  refine ⟨h1.1.1.1, fun i hi => ?_, h1.1.2, h1.2⟩
  have := h1.1.1.2 i hi
  rw [Bool.eq_iff_iff] at this
  simpa using this
theorem told_facts {t : List Nat} (h : t ∈ MARKED) : (recN (stripN t).1).2 ≠ 0 ∧ (recN (stripN t).1).1 = (stripN t).2 := by
  have h1 := List.all_eq_true.1 told_rec t h
  unfold toldR at h1
  simpa using h1
theorem told_factsS {k : Nat} {t : List Nat} (h : MARKED[k]? = some t) (hk : k < 20) : (parseN (stripN t).1).2 ≠ 0 ∧ (parseN (stripN t).1).1 = (stripN t).2 := by
  have hm : t ∈ MARKED.take 20 := List.mem_of_getElem? (i := k) (by rw [List.getElem?_take_of_lt hk]; exact h)
  have h1 := List.all_eq_true.1 told_schema t hm
  unfold toldS at h1
  simpa using h1
theorem nats_app (a b : ByteArray) : nats (a ++ b) = nats a ++ nats b := by
  unfold nats; simp [ByteArray.data_append]
end Go.Proofs.Ygcfad
