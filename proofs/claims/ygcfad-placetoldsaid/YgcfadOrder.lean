/-
  THE WALK of (*parser).order.
-/
import Derived.Test.YgcfadOrderMem2
namespace Go.Proofs.Ygcfad
open Go.RowKit Plain
set_option linter.unusedSimpArgs false
set_option linter.unusedVariables false

theorem Fadg.info194 : (Fadg.prog.info? 194).map (fun i => (i.zero, i.size, i.bytes)) = some (some (.agg #[.int .u8 0, .int .u8 0, .int .u8 0, .int .u8 0]), 4, 4) := by kernel_rfl
theorem Fadg.len198 : (Fadg.prog.info? 198).map (·.size) = some 9 := by kernel_rfl
theorem Fadg.len196 : (Fadg.prog.info? 196).map (·.size) = some 4 := by kernel_rfl
def zeroT : MT := ⟨0, 0, 0, 0⟩
def accOf (so : List MF) : List (Option Nat) := so.map (fun f => if f.b.size = 0 then none else some f.k)
def updU (k : Nat) (num : List Nat) (u : MU) : MU := if u.st = k then { u with fd := num.getD u.fd 0 } else u

/-- What order leaves. -/
def OrderPost (P : Nat) (T : List Nat) (w0 : World) (pre : List MS) (m : MS) (k : Nat) (M : MM) (s' : St) (e : Ending) (w' : World) : Prop :=
  e = .returned (.tuple #[]) ∧ ∃ M', Std P T w0 w' M' ∧ absM M' (m.fl.map ff) = s' ∧ (∃ m', M'.ss = pre ++ [m'] ∧ m'.fl.length = m.fl.length) ∧
  ∀ u' ∈ M'.us, ∃ u ∈ M.us, u'.st = u.st ∧ (u'.fd = u.fd ∨ (u.st = k ∧ u'.fd < m.fl.length))

theorem cells9 {w : World} {b o : Nat} {v0 v1 v2 v3 v4 v5 v6 v7 v8 : Value} (h : ∀ t, t < 9 → w.cell? ⟨b, o + t, none⟩ = [v0, v1, v2, v3, v4, v5, v6, v7, v8][t]?) :
    ∀ j v, [v0, v1, v2, v3, v4, v5, v6, v7, v8][j]? = some v → w.cell? ((⟨b, o, none⟩ : Addr).add j) = some v := by
  intro j v hj
  have hj9 : j < 9 := by have := (List.getElem?_eq_some_iff.1 hj).1; simpa using this
  rw [Addr.add_lit]
  exact (h j hj9).trans hj

theorem sortN_bad {n k : Nat} {ks nums : List Nat} {acc : List (Option Nat)} (h : n ≤ nums.headD 0 ∨ (acc.getD (nums.headD 0) none).isSome = true) : sortN n (k :: ks) nums acc = none := by
  rw [sortN, if_pos h]
theorem sortN_ok {n k : Nat} {ks nums : List Nat} {acc : List (Option Nat)} (h : ¬ (n ≤ nums.headD 0 ∨ (acc.getD (nums.headD 0) none).isSome = true)) : sortN n (k :: ks) nums acc = sortN n ks nums.tail (acc.set (nums.headD 0) (some k)) := by
  rw [sortN, if_neg h]
theorem accOf_set {so : List MF} {d : Nat} {f : MF} (hf : 0 < f.b.size) : accOf (so.set d f) = (accOf so).set d (some f.k) := by
  unfold accOf; rw [List.map_set, if_neg (by omega)]
theorem accOf_get {so : List MF} {d : Nat} {g : MF} (h : so[d]? = some g) : ((accOf so).getD d none).isSome = decide (0 < g.b.size) := by
  unfold accOf
  simp only [List.getD, List.getElem?_map, h, Option.map_some, Option.getD_some]
  by_cases e : g.b.size = 0
  · simp [e]
  · simp [e]; omega
theorem headD_drop (l : List Nat) (i : Nat) : (l.drop i).headD 0 = l.getD i 0 := by
  simp [List.getD, List.headD_eq_head?_getD]
theorem empty_of_size {b : ByteArray} (h : b.size = 0) : (b.toList == []) = true := by
  have : nats b = [] := List.eq_nil_of_length_eq_zero (by rw [nats_length]; exact h)
  rw [str_lit]; simp [this]
theorem empty_ne {b : ByteArray} (h : 0 < b.size) : (b.toList == []) = false := by
  have : nats b ≠ [] := fun e => by have := nats_length b; rw [e] at this; simp at this; omega
  rw [str_lit]; simp [this]

theorem OS.made {P nf : Nat} {T : List Nat} {w0 w w1 w2 : World} {M : MM} (h : Std P T w0 w M) (h1 : w1.ownsRow (P + 1) 198 9 (.slice (some ⟨w.heap.size, 0, none⟩) nf nf) nf (madeCells (Value.cells (.agg #[.string ⟨#[]⟩, .int .u8 0, .int .u8 0, .int .u8 0, .int .u8 0, .int .u8 0, .int .u16 0, .int .u8 0, .bool false])) (nf * 9)).toList)
    (g1 : w.grownBy w1 none) (h2 : w2.ownsRow (P + 1) 194 4 (.slice (some ⟨w1.heap.size, 0, none⟩) nf nf) nf (madeCells (Value.cells (.agg #[.int .u8 0, .int .u8 0, .int .u8 0, .int .u8 0])) (nf * 4)).toList) (g2 : w1.grownBy w2 none) :
    OS P T w0 w2 M w.heap.size w1.heap.size nf (List.replicate nf zeroF) (List.replicate nf zeroT) := by
  rw [made_flat fc_len (by decide) zeroF (Value.cells (.agg #[.string ⟨#[]⟩, .int .u8 0, .int .u8 0, .int .u8 0, .int .u8 0, .int .u8 0, .int .u16 0, .int .u8 0, .bool false])) rfl] at h1
  rw [made_flat tc_len (by decide) zeroT (Value.cells (.agg #[.int .u8 0, .int .u8 0, .int .u8 0, .int .u8 0])) rfl] at h2
  have b1 : Below w.heap.size w w1 := (Below.refl _ _).grown g1 (Nat.le_refl _) (fun _ h => by cases h)
  have b2 : Below w1.heap.size w1 w2 := (Below.refl _ _).grown g2 (Nat.le_refl _) (fun _ h => by cases h)
  have s1 : Sep (P + 1) w1 (rX w.heap.size nf (List.replicate nf zeroF) :: rows M) := h.m.sep.more b1 (r := rX w.heap.size nf (List.replicate nf zeroF)) h1 (fun g hg => by simp [rX, Value.ownBlock] at hg; omega)
  have s2 : Sep (P + 1) w2 (rY w1.heap.size nf (List.replicate nf zeroT) :: rX w.heap.size nf (List.replicate nf zeroF) :: rows M) := s1.more b2 (r := rY w1.heap.size nf (List.replicate nf zeroT)) h2 (fun g hg => by simp [rY, Value.ownBlock] at hg; omega)
  exact ⟨(h.grow b1).grow b2, s2.perm (List.Perm.swap _ _ _), by simp, by simp⟩

theorem addr_ne {X V a b : Nat} (h : X ≠ V) : (⟨X, a, none⟩ : Addr) ≠ ⟨V, b, none⟩ := fun e => h (congrArg Addr.block e)
theorem cellV1 (w : World) (X d : Nat) (fb : ByteArray) (fk : Nat) (fe fr fn q1 q2 q3 : Int) (q4 : Bool) (h : X ≠ w.heap.size) : (((w.alloc (.cells #[.string fb, .int .u8 (fk : Int), .int .u8 fe, .int .u8 fr, .int .u8 fn, .int .u8 q1, .int .u16 q2, .int .u8 q3, .bool q4] 198)).setCell ⟨X, d * 9, none⟩ (.string fb)).setCell ⟨X, d * 9 + 1, none⟩ (.int .u8 (fk : Int))).cell? ⟨w.heap.size, 1, none⟩ = some (.int .u8 (fk : Int)) := by
  rw [World.cell?_setCell_other (h := addr_ne h)]
  rw [World.cell?_setCell_other (h := addr_ne h)]
  simp
theorem cellV2 (w : World) (X d : Nat) (fb : ByteArray) (fk : Nat) (fe fr fn q1 q2 q3 : Int) (q4 : Bool) (h : X ≠ w.heap.size) : ((((w.alloc (.cells #[.string fb, .int .u8 (fk : Int), .int .u8 fe, .int .u8 fr, .int .u8 fn, .int .u8 q1, .int .u16 q2, .int .u8 q3, .bool q4] 198)).setCell ⟨X, d * 9, none⟩ (.string fb)).setCell ⟨X, d * 9 + 1, none⟩ (.int .u8 (fk : Int))).setCell ⟨X, d * 9 + 2, none⟩ (.int .u8 fe)).cell? ⟨w.heap.size, 2, none⟩ = some (.int .u8 fe) := by
  rw [World.cell?_setCell_other (h := addr_ne h)]
  rw [World.cell?_setCell_other (h := addr_ne h)]
  rw [World.cell?_setCell_other (h := addr_ne h)]
  simp
theorem cellV3 (w : World) (X d : Nat) (fb : ByteArray) (fk : Nat) (fe fr fn q1 q2 q3 : Int) (q4 : Bool) (h : X ≠ w.heap.size) : (((((w.alloc (.cells #[.string fb, .int .u8 (fk : Int), .int .u8 fe, .int .u8 fr, .int .u8 fn, .int .u8 q1, .int .u16 q2, .int .u8 q3, .bool q4] 198)).setCell ⟨X, d * 9, none⟩ (.string fb)).setCell ⟨X, d * 9 + 1, none⟩ (.int .u8 (fk : Int))).setCell ⟨X, d * 9 + 2, none⟩ (.int .u8 fe)).setCell ⟨X, d * 9 + 3, none⟩ (.int .u8 fr)).cell? ⟨w.heap.size, 3, none⟩ = some (.int .u8 fr) := by
  rw [World.cell?_setCell_other (h := addr_ne h)]
  rw [World.cell?_setCell_other (h := addr_ne h)]
  rw [World.cell?_setCell_other (h := addr_ne h)]
  rw [World.cell?_setCell_other (h := addr_ne h)]
  simp
theorem cellV4 (w : World) (X d : Nat) (fb : ByteArray) (fk : Nat) (fe fr fn q1 q2 q3 : Int) (q4 : Bool) (h : X ≠ w.heap.size) : ((((((w.alloc (.cells #[.string fb, .int .u8 (fk : Int), .int .u8 fe, .int .u8 fr, .int .u8 fn, .int .u8 q1, .int .u16 q2, .int .u8 q3, .bool q4] 198)).setCell ⟨X, d * 9, none⟩ (.string fb)).setCell ⟨X, d * 9 + 1, none⟩ (.int .u8 (fk : Int))).setCell ⟨X, d * 9 + 2, none⟩ (.int .u8 fe)).setCell ⟨X, d * 9 + 3, none⟩ (.int .u8 fr)).setCell ⟨X, d * 9 + 4, none⟩ (.int .u8 fn)).cell? ⟨w.heap.size, 4, none⟩ = some (.int .u8 fn) := by
  rw [World.cell?_setCell_other (h := addr_ne h)]
  rw [World.cell?_setCell_other (h := addr_ne h)]
  rw [World.cell?_setCell_other (h := addr_ne h)]
  rw [World.cell?_setCell_other (h := addr_ne h)]
  rw [World.cell?_setCell_other (h := addr_ne h)]
  simp
theorem osDrew {P X Y n : Nat} {T : List Nat} {w0 w : World} {M : MM} {so : List MF} {ts : List MT} (h : OS P T w0 w M X Y n so ts) : OS P T w0 w.drew M X Y n so ts := h.drew 1
theorem rows_uses (M : MM) (a b : Row) : (a :: b :: rows M).Perm (rU M :: a :: b :: rS M :: M.ss.map rF) := by
  unfold rows
  exact (((List.Perm.swap _ _ _).cons b).cons a).trans (((List.Perm.swap _ _ _).cons a).trans (List.Perm.swap _ _ _))
/-- A use's field turned. -/
def useSet (M : MM) (i : Nat) (u : MU) (fd : Nat) : MM := { M with us := M.us.set i { u with fd := fd } }
theorem OS.useSet {P X Y n gu nu cap i : Nat} {T : List Nat} {w0 w : World} {M : MM} {so : List MF} {ts : List MT} {u : MU} (h : OS P T w0 w M X Y n so ts) (hv : M.p.uv = .slice (some ⟨gu, 0, none⟩) nu cap) (hn : nu = M.us.length) (hu : M.us[i]? = some u) (fd : Nat) :
    OS P T w0 (w.setCell ⟨gu, i * 4 + 2, none⟩ (.int .i64 (fd : Int))) (useSet M i u fd) X Y n so ts := by
  have s1 := (h.sep.perm (rows_uses M _ _)).store (g := gu) (cap := cap) (by show M.p.uv = _; rw [hv, hn]; rfl) (i * 4 + 2) (.int .i64 (fd : Int))
  have e : ({ rU M with xs := (rU M).xs.set (i * 4 + 2) (.int .i64 (fd : Int)) } : Row) = rU (Go.Proofs.Ygcfad.useSet M i u fd) := by
    unfold rU Go.Proofs.Ygcfad.useSet; simp only [List.length_set]; rw [flat_set uc_len hu 2 (by decide) _ (x' := { u with fd := fd }) rfl]
  rw [e] at s1
  have s2 : Sep (P + 1) (w.setCell ⟨gu, i * 4 + 2, none⟩ (.int .i64 (fd : Int))) (rX X n so :: rY Y n ts :: rows (Go.Proofs.Ygcfad.useSet M i u fd)) := s1.perm (rows_uses (Go.Proofs.Ygcfad.useSet M i u fd) _ _).symm
  have hgb : (rU M).v.ownBlock = some gu := by show M.p.uv.ownBlock = _; rw [hv]; rfl
  have hgP := (h.s.m.ru.lt hgb).1
  have hP : (w.setCell ⟨gu, i * 4 + 2, none⟩ (.int .i64 (fd : Int))).heap[P]? = w.heap[P]? := Below.heap_setCell w ⟨gu, _, none⟩ _ P (by show P ≠ gu; omega)
  refine ⟨⟨⟨h.s.m.p.same hP, by simp [World.setCell]; exact h.s.m.lt, s2.tail.tail⟩, ⟨h.s.wf.ae, h.s.wf.en, h.s.wf.sz, h.s.wf.tok, by show (M.us.set _ _).length ≤ _; rw [List.length_set]; exact h.s.wf.us, h.s.wf.ss, h.s.wf.num⟩, h.s.tx, h.s.bel.setCell (by show P ≤ gu; omega) _⟩, s2, h.ls, h.lt⟩
theorem upd_step {k i : Nat} {num : List Nat} {us : List MU} {u : MU} (hu : us[i]? = some u) : (((us.take i).map (updU k num) ++ us.drop i).set i (updU k num u)) = (us.take (i + 1)).map (updU k num) ++ us.drop (i + 1) ∧ ((us.take i).map (updU k num) ++ us.drop i)[i]? = some u := by
  have hl := (List.getElem?_eq_some_iff.1 hu).1
  have e : us[i] = u := by rw [List.getElem?_eq_getElem hl] at hu; simpa using hu
  have hlen : ((us.take i).map (updU k num)).length = i := by simp; omega
  rw [List.drop_eq_getElem_cons hl, e]
  refine ⟨?_, ?_⟩
  · rw [List.set_append_right _ _ (by omega), hlen, Nat.sub_self, List.set_cons_zero, List.take_succ_eq_append_getElem hl, List.map_append, e]; simp
  · rw [List.getElem?_append_right (by omega), hlen, Nat.sub_self]; rfl
theorem upd_same {k : Nat} {num : List Nat} {u : MU} (h : ¬ u.st = k) : updU k num u = u := by unfold updU; rw [if_neg h]
theorem upd_turn {k : Nat} {num : List Nat} {u : MU} (h : u.st = k) : updU k num u = { u with fd := num.getD u.fd 0 } := by unfold updU; rw [if_pos h]
theorem list_set_self {α : Type} {l : List α} {i : Nat} {x : α} (h : l[i]? = some x) : l.set i x = l := by
  apply List.ext_getElem?
  intro j
  rw [List.getElem?_set]
  by_cases e : i = j
  · subst e; rw [if_pos rfl, if_pos (List.getElem?_eq_some_iff.1 h).1, h]
  · rw [if_neg e]

theorem accOf_kinds {so : List MF} (h : ∀ f ∈ so, (f.b.size = 0 → f.k = 0) ∧ f.k < 256) : (accOf so).map (·.getD 0) = so.map (·.k) := by
  unfold accOf
  rw [List.map_map]
  apply List.map_congr_left
  intro f hf
  show (if f.b.size = 0 then none else some f.k).getD 0 = f.k
  split
  · rename_i e; rw [(h f hf).1 e]; rfl
  · rfl
theorem orderS_ok {k at_ nf : Nat} {M : MM} {m : MS} {num : List Nat} {so : List MF} (h16 : ¬ 16 < nf) (hn : nf = m.fl.length) (hm : num = M.p.num) (h : sortN nf (m.fl.map (·.k)) num (List.replicate nf none) = some (accOf so)) (hz : ∀ f ∈ so, (f.b.size = 0 → f.k = 0) ∧ f.k < 256) :
    orderS k at_ (absM M (m.fl.map ff)) = match layN (so.map (·.k)) with
      | none => absM { M with p := failP M.p at_ 2, us := M.us.map (updU k num) } (m.fl.map ff)
      | some _ => absM { M with us := M.us.map (updU k num) } (m.fl.map ff) := by
  have e1 : (absM M (m.fl.map ff)).fs.length = nf := by show (m.fl.map ff).length = nf; rw [List.length_map, hn]
  have e2 : (absM M (m.fl.map ff)).fs.map (·.2) = m.fl.map (·.k) := by show (m.fl.map ff).map (·.2) = _; rw [List.map_map]; rfl
  have e3 : (absM M (m.fl.map ff)).num = num := hm.symm
  have e4 : (absM M (m.fl.map ff)).uses.map (fun u => if u.2.1 = k then (u.1, u.2.1, num.getD u.2.2.1 0, u.2.2.2) else u) = (M.us.map (updU k num)).map uOf := by
    show (M.us.map uOf).map _ = _
    rw [List.map_map, List.map_map]
    apply List.map_congr_left
    intro u _
    show (if (uOf u).2.1 = k then ((uOf u).1, (uOf u).2.1, num.getD (uOf u).2.2.1 0, (uOf u).2.2.2) else uOf u) = uOf (updU k num u)
    unfold updU
    by_cases hu : u.st = k
    · rw [if_pos hu, if_pos (show (uOf u).2.1 = k from hu)]; rfl
    · rw [if_neg hu, if_neg (show ¬ (uOf u).2.1 = k from hu)]
  unfold orderS
  rw [e1, if_neg h16, e2, e3, h]
  simp only [accOf_kinds hz, e4]
  have e5 := absM_fail { M with us := M.us.map (updU k num) } (m.fl.map ff) at_ 2
  have e6 : ({ M with p := failP M.p at_ 2, us := M.us.map (updU k num) } : MM) = { ({ M with us := M.us.map (updU k num) } : MM) with p := failP ({ M with us := M.us.map (updU k num) } : MM).p at_ 2 } := rfl
  cases layN (so.map (·.k)) with
  | none =>
    show _ = absM { M with p := failP M.p at_ 2, us := M.us.map (updU k num) } _
    rw [e6, e5, hm]; rfl
  | some L => rw [hm]; rfl
theorem OS.tyRow {P X Y n : Nat} {T : List Nat} {w0 w : World} {M : MM} {so : List MF} (h : OS P T w0 w M X Y n so (so.map tyOf)) : TyRow w Y 0 (so.map (·.k)) := by
  intro i hi
  have hi' : i < so.length := by simpa using hi
  obtain ⟨f, hf⟩ : ∃ f, so[i]? = some f := ⟨_, List.getElem?_eq_getElem hi'⟩
  have ht : (so.map tyOf)[i]? = some (tyOf f) := by rw [List.getElem?_map, hf]; rfl
  have e : (so.map (·.k)).getD i 0 = f.k := by simp [List.getD, hf]
  have c := fun j hj => h.yCell ht j hj
  rw [e, Nat.zero_add]
  exact ⟨f.e, f.r, f.ns, c 0 (by decide), c 1 (by decide), c 2 (by decide), c 3 (by decide)⟩

theorem upd_mem {k nf : Nat} {num : List Nat} {M : MM} {m : MS} (hnf : nf = m.fl.length) (hus : ∀ u ∈ M.us, u.st = k → u.fd < m.fl.length) (hnl : ∀ j, j < nf → num.getD j 0 < nf) :
    ∀ u' ∈ M.us.map (updU k num), ∃ u ∈ M.us, u'.st = u.st ∧ (u'.fd = u.fd ∨ (u.st = k ∧ u'.fd < m.fl.length)) := by
  intro u' hu'
  obtain ⟨u, hu, rfl⟩ := List.mem_map.1 hu'
  refine ⟨u, hu, ?_⟩
  by_cases h : u.st = k
  · rw [upd_turn h]
    exact ⟨rfl, .inr ⟨h, by show num.getD u.fd 0 < _; rw [← hnf]; exact hnl _ (by rw [hnf]; exact hus u hu h)⟩⟩
  · rw [upd_same h]; exact ⟨rfl, .inl rfl⟩

theorem orderS_bad {k at_ nf : Nat} {M : MM} {m : MS} {num : List Nat} (h16 : ¬ 16 < nf) (hn : nf = m.fl.length) (hm : num = M.p.num) (h : sortN nf (m.fl.map (·.k)) num (List.replicate nf none) = none) :
    orderS k at_ (absM M (m.fl.map ff)) = absM { M with p := failP M.p at_ 5 } (m.fl.map ff) := by
  have e1 : (absM M (m.fl.map ff)).fs.length = nf := by show (m.fl.map ff).length = nf; rw [List.length_map, hn]
  have e2 : (absM M (m.fl.map ff)).fs.map (·.2) = m.fl.map (·.k) := by show (m.fl.map ff).map (·.2) = _; rw [List.map_map]; rfl
  have e3 : (absM M (m.fl.map ff)).num = num := hm.symm
  unfold orderS
  rw [e1, if_neg h16, e2, e3, h, absM_fail]
  simp only [← e3]

set_option maxRecDepth 100000 in
set_option maxHeartbeats 4000000 in
theorem order_any (P k at_ : Nat) (T : List Nat) (w0 w : World) (M : MM) (pre : List MS) (m : MS) (hS : Hid (Std P T w0 w M)) (hss : Hid (M.ss = pre ++ [m])) (hk : Hid (k = pre.length)) (hk2 : k ≤ 1024) (ha2 : at_ ≤ 1024)
    (hfl : Hid (∀ f ∈ m.fl, 0 < f.b.size ∧ f.k < 256)) (hl2 : Hid (m.fl.length ≤ 1024)) (hus : Hid (∀ u ∈ M.us, u.st = k → u.fd < m.fl.length)) :
    Calls Fadg.prog 116 #[.pointer (some ⟨P, 0, none⟩), .int .i64 (k : Int), .int .i64 (at_ : Int)] w (OrderPost P T w0 pre m k M (orderS k at_ (absM M (m.fl.map ff)))) := by
  have hwf := hid hS.out.wf
  obtain ⟨g, cap, hsv, hPg⟩ := hS.out.m.sForm (by rw [hss.out]; simp)
  obtain ⟨n, hn⟩ : ∃ n, n = M.ss.length := ⟨_, rfl⟩
  rw [← hn] at hsv
  have hkn2 : k < n := by rw [hn, hss.out, hk.out]; simp
  have hkn : (k : Int) < (n : Int) := by omega
  have hn2 : n ≤ 1024 := by rw [hn]; exact Nat.le_trans hwf.out.ss (Nat.le_trans hwf.out.ae (Nat.le_trans hwf.out.en hwf.out.sz))
  have HN := hid hn
  have HSV := hid hsv
  have hkm : Hid (M.ss[k]? = some m) := by show _ = _; rw [hss.out, hk.out]; simp
  have hmm : Hid (m ∈ M.ss) := by show m ∈ M.ss; rw [hss.out]; simp
  obtain ⟨ao, fcap, hfv, hform⟩ := hS.out.m.fForm hmm.out
  obtain ⟨nf, hnf⟩ : ∃ nf, nf = m.fl.length := ⟨_, rfl⟩
  rw [← hnf] at hfv hform
  have hnf2 : nf ≤ 1024 := by rw [hnf]; exact hl2.out
  have HNF := hid hnf
  have HFV := hid hfv
  have HFORM := hid hform
  have hread : Hid (∀ wx Mx, Std P T w0 wx Mx → Mx.ss = M.ss → Mx.p.sv = M.p.sv → wx.cell? ⟨g, k * 4 + 1, none⟩ = some (.slice ao nf fcap)) := fun wx Mx hx e1 e2 => by
    rw [(hx.m.sCells (e2.trans HSV.out) (HN.out.trans (by rw [e1])) (i := k) (m := m) (by rw [e1]; exact hkm.out)).2.1, HFV.out]
  have c6 := hS.out.m.p.cells.2.2.2.2.2.2.1
  rw [hsv] at c6
  have cF := hread.out _ _ hS.out rfl rfl
  clear hn hsv hnf hfv hform
  by_cases h16 : 16 < nf
  · have h16' : (16 : Int) < (nf : Int) := by omega
    have hp : Hid (orderS k at_ (absM M (m.fl.map ff)) = absM M (m.fl.map ff)) := by
      show _ = _
      unfold orderS
      rw [if_pos (by show 16 < (m.fl.map ff).length; rw [List.length_map, ← HNF.out]; exact h16)]
    go_enter Fadg.func116, Fadg.ntmps116
    go_wp2
    refine bodyPost_ret (results_none rfl _ _ _) rfl ?_
    rw [hp.out]
    exact ⟨rfl, M, hS.out, rfl, ⟨m, hss.out, rfl⟩, fun u hu => ⟨u, hu, rfl, .inl rfl⟩⟩
  · have h16' : ¬ (16 : Int) < (nf : Int) := by omega
    obtain ⟨i8, hi8, hz0, hz1, hz2⟩ := info_parts Fadg.info198
    obtain ⟨i4, hi4, hy0, hy1, hy2⟩ := info_parts Fadg.info194
    go_enter Fadg.func116, Fadg.ntmps116
    go_upto_region 5 with (at_make; go_must (first | (refine wpList_make_full _ rfl _ _ 187 rfl (P + 1) 198 i8 _ 9 Fadg.underlying187 hi8 hz0 hz1 _ _ _ _ nf rfl rfl rfl rfl (by rw [hz2]; omega) (by unfold maxLen; omega) (Nat.succ_le_of_lt hS.out.m.lt) ?_; intro w1 hown1 hg1) | (refine wpList_make_full _ rfl _ _ 243 rfl (P + 1) 194 i4 _ 4 Fadg.underlying243 hi4 hy0 hy1 _ _ _ _ nf rfl rfl rfl rfl (by rw [hy2]; omega) (by unfold maxLen; omega) (Nat.le_trans (Nat.succ_le_of_lt hS.out.m.lt) hg1.size) ?_; intro w2 hown2 hg2)))
    have hOS := hid (OS.made hS.out hown1 hg1 hown2 hg2)
    clear hown1 hg1 hown2 hg2
    generalize w.heap.size = X at *
    generalize w1.heap.size = Y at *
    have cF2 := hread.out _ _ hOS.out.s rfl rfl
    obtain ⟨num, hnum⟩ : ∃ num, num = M.p.num := ⟨_, rfl⟩
    have HNUM := hid hnum
    clear hnum
    go_wp2_with fail
    go_loopg [43] nf (fun gk i wr => ∃ (i' : Nat) (so : List MF), i = .int .i64 (i' : Int) ∧ i' + gk = nf ∧ Hid (OS P T w0 wr M X Y nf so (so.map tyOf)) ∧ Hid (sortN nf ((m.fl.drop i').map (·.k)) (num.drop i') (accOf so) = sortN nf (m.fl.map (·.k)) num (List.replicate nf none)) ∧ Hid (∀ f ∈ so, (f.b.size = 0 → f.k = 0) ∧ f.k < 256) ∧ Hid (∀ j, j < i' → num.getD j 0 < nf))
    case atStart =>
      refine ⟨0, List.replicate nf zeroF, rfl, by omega, ?_, ?_, ?_, fun j hj => by omega⟩
      · have e : (List.replicate nf zeroF).map tyOf = List.replicate nf zeroT := by rw [List.map_replicate]; rfl
        show OS _ _ _ _ _ _ _ _ _ _
        rw [e]; exact hOS.out
      · show _ = _
        have e : accOf (List.replicate nf zeroF) = List.replicate nf none := by unfold accOf; rw [List.map_replicate]; rfl
        rw [e]; rfl
      · intro f hf
        rw [List.eq_of_mem_replicate hf]
        exact ⟨fun _ => rfl, by decide⟩
    case round =>
      obtain ⟨i, so, rfl, hi, hO, hsrt, hz, hnl⟩ := hrel
      by_cases hlt : i < nf
      · have hlt' : (i : Int) < (nf : Int) := by omega
        obtain ⟨gf, hao⟩ : ∃ gf, ao = some ⟨gf, 0, none⟩ := HFORM.out.resolve_left (by omega)
        subst hao
        have hil : i < m.fl.length := by rw [← HNF.out]; exact hlt
        obtain ⟨f, hf⟩ : ∃ f, m.fl[i]? = some f := ⟨_, List.getElem?_eq_getElem hil⟩
        have hff := hid (hfl.out f (List.mem_of_getElem? hf))
        have hcs := hid (fun (t : Nat) (ht : t < 9) => hO.out.s.m.fCells (m := m) hmm.out HFV.out HNF.out hf t ht)
        have hdrop : Hid ((m.fl.drop i).map (·.k) = f.k :: (m.fl.drop (i + 1)).map (·.k)) := by
          show _ = _
          have e : m.fl[i] = f := by rw [List.getElem?_eq_getElem hil] at hf; simpa using hf
          rw [List.drop_eq_getElem_cons hil, e]; rfl
        have HF := hid hf
        clear hf
        obtain ⟨fb, fk, fe, fr, fn, q1, q2, q3, q4⟩ := f
        have HC9 := hid (cells9 hcs.out)
        obtain ⟨d, hd⟩ : ∃ d, d = num.getD i 0 := ⟨_, rfl⟩
        have hOa := hid (hO.out.alloc (.cells #[.string fb, .int .u8 (fk : Int), .int .u8 fe, .int .u8 fr, .int .u8 fn, .int .u8 q1, .int .u16 q2, .int .u8 q3, .bool q4] 198))
        have cnum := hOa.out.s.m.p.1 (7 + i) (by omega)
        have hcn : pcell M.p (7 + i) = .int .i64 (d : Int) := by
          unfold pcell
          rw [if_neg (by omega), if_neg (by omega), if_neg (by omega), if_neg (by omega), if_neg (by omega), if_neg (by omega), if_neg (by omega), if_neg (by omega), hd, HNUM.out, show 7 + i - 7 = i by omega]
        rw [hcn] at cnum
        have hhead : Hid ((num.drop i).headD 0 = d) := (headD_drop num i).trans hd.symm
        have HD := hid hd
        clear hd hcn
        go_upto_region 9 with (refine wpList_load_cells' rfl 198 (.tmp 46) rfl ⟨gf, i * 9, none⟩ rfl _ _ HC9.out Fadg.underlying198 rfl Fadg.len198 ?_)
        have HFA := hid (fail_std hOa.out.s at_ 5 (at_ : Int) 5 rfl rfl)
        by_cases hdn : nf ≤ d
        · have hdn' : (nf : Int) ≤ (d : Int) := by omega
          have hbad : Hid (sortN nf (m.fl.map (·.k)) num (List.replicate nf none) = none) := by
            show _ = _
            rw [← hsrt.out, hdrop.out]
            exact sortN_bad (.inl (by rw [hhead.out]; exact hdn))
          go_wp2_with (go_at_call 111; go_must (refine HFA.out.mono ?_; rintro e w4 ⟨rfl, hs4, ho4⟩))
          refine bodyPost_ret (results_none rfl _ _ _) rfl ?_
          rw [orderS_bad h16 HNF.out HNUM.out hbad.out]
          exact ⟨rfl, _, hs4, rfl, ⟨m, hss.out, rfl⟩, fun u hu => ⟨u, hu, rfl, .inl rfl⟩⟩
        · have hdn' : ¬ (nf : Int) ≤ (d : Int) := by omega
          have hdn2 : d < nf := by omega
          obtain ⟨gg, hgg⟩ : ∃ gg, so[d]? = some gg := ⟨_, List.getElem?_eq_getElem (by rw [hO.out.ls]; exact hdn2)⟩
          have hxc := hid (fun (j : Nat) (hj : j < 9) => hOa.out.xCell hgg j hj)
          have hty : Hid ((so.map tyOf)[d]? = some (tyOf gg)) := by show _ = _; rw [List.getElem?_map, hgg]; rfl
          have hacc := hid (accOf_get hgg)
          have HGG := hid hgg
          clear hgg
          obtain ⟨gb, gk', ge, gr, gn, g1, g2, g3, g4⟩ := gg
          have x0 := hxc.out 0 (by decide)
          simp only [fc, Nat.add_zero, List.getElem?_cons_zero] at x0
          by_cases hgb : gb.size = 0
          · have hq := empty_of_size hgb
            have HGB := hid hgb
            clear hgb
            have x1 := hxc.out 1 (by decide)
            have x2 := hxc.out 2 (by decide)
            have x3 := hxc.out 3 (by decide)
            have x4 := hxc.out 4 (by decide)
            have x5 := hxc.out 5 (by decide)
            have x6 := hxc.out 6 (by decide)
            have x7 := hxc.out 7 (by decide)
            have x8 := hxc.out 8 (by decide)
            simp only [fc, List.getElem?_cons_zero, List.getElem?_cons_succ] at x1 x2 x3 x4 x5 x6 x7 x8
            have z0 := hOa.out.xFr (d * 9)
            have z1 := hOa.out.xFr (d * 9 + 1)
            have z2 := hOa.out.xFr (d * 9 + 2)
            have z3 := hOa.out.xFr (d * 9 + 3)
            have z4 := hOa.out.xFr (d * 9 + 4)
            have z5 := hOa.out.xFr (d * 9 + 5)
            have z6 := hOa.out.xFr (d * 9 + 6)
            have z7 := hOa.out.xFr (d * 9 + 7)
            have z8 := hOa.out.xFr (d * 9 + 8)
            have y0 := hOa.out.yCell_put ⟨fb, fk, fe, fr, fn, q1, q2, q3, q4⟩ hty.out 0 (by decide)
            have y1 := hOa.out.yCell_put ⟨fb, fk, fe, fr, fn, q1, q2, q3, q4⟩ hty.out 1 (by decide)
            have y2 := hOa.out.yCell_put ⟨fb, fk, fe, fr, fn, q1, q2, q3, q4⟩ hty.out 2 (by decide)
            have y3 := hOa.out.yCell_put ⟨fb, fk, fe, fr, fn, q1, q2, q3, q4⟩ hty.out 3 (by decide)
            have v0 := hOa.out.yFr_put (d := d) ⟨fb, fk, fe, fr, fn, q1, q2, q3, q4⟩ (d * 4)
            have v1 := hOa.out.yFr_put (d := d) ⟨fb, fk, fe, fr, fn, q1, q2, q3, q4⟩ (d * 4 + 1)
            have v2 := hOa.out.yFr_put (d := d) ⟨fb, fk, fe, fr, fn, q1, q2, q3, q4⟩ (d * 4 + 2)
            have v3 := hOa.out.yFr_put (d := d) ⟨fb, fk, fe, fr, fn, q1, q2, q3, q4⟩ (d * 4 + 3)
            simp only [tc, tyOf, putX, Nat.add_zero, List.getElem?_cons_zero, List.getElem?_cons_succ] at y0 y1 y2 y3 v0 v1 v2 v3
            have hVX : X ≠ wr.heap.size := by have := hO.out.xlt.2.1; omega
            have t1 := cellV1 wr X d fb fk fe fr fn q1 q2 q3 q4 hVX
            have t2 := cellV2 wr X d fb fk fe fr fn q1 q2 q3 q4 hVX
            have t3 := cellV3 wr X d fb fk fe fr fn q1 q2 q3 q4 hVX
            have t4 := cellV4 wr X d fb fk fe fr fn q1 q2 q3 q4 hVX
            clear hVX
            go_upto_region 11 with fail
            go_region
            clear x0 x1 x2 x3 x4 x5 x6 x7 x8 z0 z1 z2 z3 z4 z5 z6 z7 z8 y0 y1 y2 y3 v0 v1 v2 v3 t1 t2 t3 t4
            have hO2 := hid (osDrew (hOa.out.put ⟨fb, fk, fe, fr, fn, q1, q2, q3, q4⟩ hdn2))
            go_wp2_with fail
            go_roundg (gk - 1)
            case measure => omega
            case rel =>
              refine ⟨i + 1, so.set d ⟨fb, fk, fe, fr, fn, q1, q2, q3, q4⟩, by go_num, by omega, ?_, ?_, ?_, ?_⟩
              · show OS _ _ _ _ _ _ _ _ _ _
                rw [List.map_set]; exact hO2.out
              · show _ = _
                rw [← hsrt.out, hdrop.out, sortN_ok (by rw [hhead.out, hacc.out, HGB.out]; simp; omega), hhead.out, accOf_set hff.out.1, List.tail_drop]
              · intro x hx
                rcases List.mem_or_eq_of_mem_set hx with hx | rfl
                · exact hz.out x hx
                · exact ⟨fun h => by have h1 : fb.size = 0 := h; have h2 : 0 < fb.size := hff.out.1; omega, hff.out.2⟩
              · intro j hj
                rcases Nat.lt_succ_iff_lt_or_eq.1 hj with hj | rfl
                · exact hnl.out j hj
                · rw [← HD.out]; exact hdn2
          · have hq := empty_ne (b := gb) (by omega)
            have hbad : Hid (sortN nf (m.fl.map (·.k)) num (List.replicate nf none) = none) := by
              show _ = _
              rw [← hsrt.out, hdrop.out]
              exact sortN_bad (.inr (by rw [hhead.out, hacc.out]; simp; omega))
            clear hgb
            go_wp2_with (go_at_call 111; go_must (refine HFA.out.mono ?_; rintro e w4 ⟨rfl, hs4, ho4⟩))
            refine bodyPost_ret (results_none rfl _ _ _) rfl ?_
            rw [orderS_bad h16 HNF.out HNUM.out hbad.out]
            exact ⟨rfl, _, hs4, rfl, ⟨m, hss.out, rfl⟩, fun u hu => ⟨u, hu, rfl, .inl rfl⟩⟩
      · have hlt' : ¬ (i : Int) < (nf : Int) := by omega
        obtain rfl : i = nf := by omega
        have hsort : Hid (sortN i (m.fl.map (·.k)) num (List.replicate i none) = some (accOf so)) := by
          show _ = _
          rw [← hsrt.out, List.drop_eq_nil_of_le (by rw [← HNF.out]; exact Nat.le_refl _)]; rfl
        obtain ⟨uao, ucap, huv, huform⟩ := hO.out.s.m.ru.form'
        obtain ⟨nu, hnu⟩ : ∃ nu, nu = M.us.length := ⟨_, rfl⟩
        have huv' : M.p.uv = .slice uao nu ucap := by rw [hnu]; exact huv
        have huform' : Hid (nu = 0 ∨ ∃ g, uao = some ⟨g, 0, none⟩) := by rw [hnu]; exact huform
        have hnu2 : nu ≤ 1024 := by rw [hnu]; exact Nat.le_trans hwf.out.us (Nat.le_trans hwf.out.ae (Nat.le_trans hwf.out.en hwf.out.sz))
        have HNU := hid hnu
        have HUV := hid huv'
        have c23 := hO.out.s.m.p.cells.2.2.2.2.2.2.2
        rw [huv'] at c23
        clear huv huform hnu huv' cF2
        go_wp2_with fail
        go_loopg [83] nu (fun gk j wr => ∃ (j' : Nat) (us2 : List MU), j = .int .i64 (j' : Int) ∧ j' + gk = nu ∧ Hid (OS P T w0 wr { M with us := us2 } X Y i so (so.map tyOf)) ∧ Hid (us2 = (M.us.take j').map (updU k num) ++ M.us.drop j'))
        case atStart => exact ⟨0, M.us, rfl, by omega, hO, rfl⟩
        case round =>
          obtain ⟨j, us2, rfl, hj, hO2, hu2⟩ := hrel
          have d23 := hO2.out.s.m.p.cells.2.2.2.2.2.2.2
          have hul : Hid (nu = us2.length) := by show nu = us2.length; rw [hu2.out, HNU.out]; simp; omega
          rw [show ({ M with us := us2 } : MM).p.uv = M.p.uv from rfl, HUV.out] at d23
          by_cases hjn : j < nu
          · have hjn' : (j : Int) < (nu : Int) := by omega
            obtain ⟨gu, huao⟩ : ∃ gu, uao = some ⟨gu, 0, none⟩ := huform'.out.resolve_left (by omega)
            subst huao
            obtain ⟨u, hu⟩ : ∃ u, M.us[j]? = some u := ⟨_, List.getElem?_eq_getElem (by rw [← HNU.out]; exact hjn)⟩
            have hst := hid (upd_step (k := k) (num := num) hu)
            have hu2j : Hid (us2[j]? = some u) := by show _ = _; rw [hu2.out]; exact hst.out.2
            have hucell := hid (fun (t : Nat) (ht : t < 4) => hO2.out.s.m.uCells (u := u) HUV.out hul.out hu2j.out t ht)
            have hum := hid (List.mem_of_getElem? hu)
            have HU := hid hu
            clear hu
            obtain ⟨ua, ust, ufd, ub⟩ := u
            have u1 := hucell.out 1 (by decide)
            simp only [uc, List.getElem?_cons_zero, List.getElem?_cons_succ] at u1
            by_cases hst2 : ust = k
            · have hst' : ((ust : Int) == (k : Int)) = true := by simp [hst2]
              have hfd : ufd < m.fl.length := hus.out _ hum.out hst2
              have hfd2 : ufd < 16 := by rw [← HNF.out] at hfd; omega
              have HST := hid hst2
              clear hst2
              have u2 := hucell.out 2 (by decide)
              simp only [uc, List.getElem?_cons_zero, List.getElem?_cons_succ] at u2
              have cnum := hO2.out.s.m.p.1 (7 + ufd) (by omega)
              obtain ⟨d, hd⟩ : ∃ d, d = num.getD ufd 0 := ⟨_, rfl⟩
              have hcn : pcell M.p (7 + ufd) = .int .i64 (d : Int) := by
                unfold pcell
                rw [if_neg (by omega), if_neg (by omega), if_neg (by omega), if_neg (by omega), if_neg (by omega), if_neg (by omega), if_neg (by omega), if_neg (by omega), hd, HNUM.out, show 7 + ufd - 7 = ufd by omega]
              rw [show ({ M with us := us2 } : MM).p = M.p from rfl, hcn] at cnum
              have HD := hid hd
              clear hd hcn hfd
              have fz := hO2.out.s.m.ru.fr (g := gu) (cap := ucap) (by show M.p.uv = _; rw [HUV.out, hul.out]; rfl) (j * 4 + 2)
              have hO3 := hid (osDrew (hO2.out.useSet HUV.out hul.out hu2j.out d))
              go_upto_region 18 with fail
              go_region
              go_wp2_with fail
              go_roundg (gk - 1)
              case measure => omega
              case rel =>
                refine ⟨j + 1, us2.set j ⟨ua, ust, d, ub⟩, by go_num, by omega, hO3, ?_⟩
                show _ = _
                rw [← hst.out.1, ← hu2.out, upd_turn HST.out, HD.out]
            · have hst' : ((ust : Int) == (k : Int)) = false := by simp; omega
              have HST := hid hst2
              clear hst2
              go_wp2
              go_roundg (gk - 1)
              case measure => omega
              case rel =>
                refine ⟨j + 1, us2, by go_num, by omega, hO2, ?_⟩
                show _ = _
                rw [← hst.out.1, ← hu2.out, upd_same HST.out, list_set_self hu2j.out]
          · have hjn' : ¬ (j : Int) < (nu : Int) := by omega
            obtain rfl : j = nu := by omega
            have hu3 : Hid (us2 = M.us.map (updU k num)) := by
              show _ = _
              rw [hu2.out, List.take_of_length_le (by rw [← HNU.out]; exact Nat.le_refl _), List.drop_eq_nil_of_le (by rw [← HNU.out]; exact Nat.le_refl _)]; simp
            have hord := hid (orderS_ok (k := k) (at_ := at_) (M := M) (m := m) h16 HNF.out HNUM.out hsort.out hz.out)
            obtain ⟨M2, hM2⟩ : ∃ M2 : MM, M2 = { M with us := us2 } := ⟨_, rfl⟩
            rw [← hM2] at hO2
            have HM2 := hid hM2
            clear hM2 d23 c23
            have hks : Hid (i = (so.map (·.k)).length) := by show i = _; rw [List.length_map]; exact hO2.out.ls.symm
            have HL := hid (layout_any (some ⟨Y, 0, none⟩) i i (so.map (·.k)) wr hks.out (.inr ⟨Y, 0, rfl, hO2.out.xlt.2.2.2.1, hO2.out.tyRow⟩) (fun x hx => by obtain ⟨f, hf, rfl⟩ := List.mem_map.1 hx; exact (hz.out f hf).2))
            cases hlay : layN (so.map (·.k)) with
            | none =>
              rw [hlay] at HL
              have hord2 := hord
              rw [hlay] at hord2
              have HFA := hid (fun (wx : World) (hx : Std P T w0 wx M2) => fail_std hx at_ 2 (at_ : Int) 2 rfl rfl)
              go_wp2_with (first | (go_at_call 150; go_must (refine HL.out.mono ?_; rintro e w4 ⟨hb4, rfl⟩; have hO4 := hid (hO2.out.grow hb4))) | (go_at_call 111; go_must (refine (HFA.out _ hO4.out.s).mono ?_; rintro e w5 ⟨rfl, hs5, ho5⟩)))
              refine bodyPost_ret (results_none rfl _ _ _) rfl ?_
              rw [hord2.out]
              refine ⟨rfl, _, hs5, ?_, ⟨m, ?_, rfl⟩, ?_⟩
              · rw [HM2.out, hu3.out]
              · show M2.ss = _; rw [HM2.out]; exact hss.out
              · have e : ({ M2 with p := failP M2.p at_ 2 } : MM).us = M.us.map (updU k num) := by rw [HM2.out]; exact hu3.out
                rw [e]; exact upd_mem HNF.out hus.out hnl.out
            | some L =>
              rw [hlay] at HL
              have hord2 := hord
              rw [hlay] at hord2
              go_upto_region 23 with (go_at_call 150; go_must (refine HL.out.mono ?_; rintro e w4 ⟨hb4, ps, pl, rfl, hpl, hps⟩; have hO4 := hid (OT.of hO2.out hb4 hps hpl)))
              clear hb4 hpl hps
              go_upto_if 126 with fail
              go_loopg [125] i (fun gk j wr => ∃ (j' : Nat) (so3 : List MF), j = .int .i64 (j' : Int) ∧ j' + gk = i ∧ Hid (OT P T w0 wr M2 X i so3 ps pl))
              case atStart => exact ⟨0, so, rfl, by omega, hO4⟩
              case round =>
                obtain ⟨j, so3, rfl, hj, hO5⟩ := hrel
                by_cases hji : j < i
                · have hji' : (j : Int) < (i : Int) := by omega
                  obtain ⟨gp, cp, hpv⟩ := hO5.out.pForm (by omega)
                  obtain ⟨f, hf⟩ : ∃ f, so3[j]? = some f := ⟨_, List.getElem?_eq_getElem (by rw [hO5.out.ls]; exact hji)⟩
                  obtain ⟨⟨p1, p2, p3, p4⟩, hp⟩ : ∃ p, pl[j]? = some p := ⟨_, List.getElem?_eq_getElem (by rw [hO5.out.lp]; exact hji)⟩
                  have HP := hid (hO5.out.pCell hpv hp)
                  have HF := hid hf
                  have hxc := hid (fun (t : Nat) (ht : t < 9) => hO5.out.xCell hf t ht)
                  have hO6 := hid (hO5.out.put hf (p1, p2, p3, p4))
                  clear hp hf
                  subst hpv
                  obtain ⟨fb, fk, fe, fr, fn, q1, q2, q3, q4⟩ := f
                  have x5 := hxc.out 5 (by decide)
                  have x6 := hxc.out 6 (by decide)
                  have x7 := hxc.out 7 (by decide)
                  have x8 := hxc.out 8 (by decide)
                  simp only [fc, List.getElem?_cons_zero, List.getElem?_cons_succ] at x5 x6 x7 x8
                  have z5 := hO5.out.xFr (j * 9 + 5)
                  have z6 := hO5.out.xFr (j * 9 + 6)
                  have z7 := hO5.out.xFr (j * 9 + 7)
                  have z8 := hO5.out.xFr (j * 9 + 8)
                  go_wp2_with (refine wpList_load_cells' rfl 196 (.tmp 132) rfl ⟨gp, j * 4, none⟩ rfl _ _ HP.out Fadg.underlying196 rfl Fadg.len196 ?_)
                  go_roundg (gk - 1)
                  case measure => omega
                  case rel => exact ⟨j + 1, _, by go_num, by omega, hO6⟩
                · have hji' : ¬ (j : Int) < (i : Int) := by omega
                  obtain rfl : j = i := by omega
                  have hss2 : Hid (M2.ss = pre ++ [m]) := by rw [HM2.out]; exact hss.out
                  have hsv2 : Hid (M2.p.sv = .slice (some ⟨g, 0, none⟩) n cap) := by rw [HM2.out]; exact HSV.out
                  have hn2 : Hid (n = M2.ss.length) := by rw [HM2.out]; exact HN.out
                  have hfin := hid (hO5.out.finish hss2.out hsv2.out hn2.out (L.data : Int) (L.ptrs : Int))
                  have sc4 := hO5.out.s.m.sCells hsv2.out hn2.out (i := k) (m := m) (by rw [hss2.out, hk.out]; simp)
                  obtain ⟨-, s1, s2, s3⟩ := sc4
                  have f1 := hO5.out.s.m.sFr hsv2.out hn2.out (k * 4 + 1)
                  have f2 := hO5.out.s.m.sFr hsv2.out hn2.out (k * 4 + 2)
                  have f3 := hO5.out.s.m.sFr hsv2.out hn2.out (k * 4 + 3)
                  have hmem : Hid (∀ u' ∈ M2.us, ∃ u ∈ M.us, u'.st = u.st ∧ (u'.fd = u.fd ∨ (u.st = k ∧ u'.fd < m.fl.length))) := by
                    rw [HM2.out, hu3.out]; exact upd_mem HNF.out hus.out hnl.out
                  have hab : Hid (absM M2 (m.fl.map ff) = orderS k at_ (absM M (m.fl.map ff))) := by
                    show _ = _; rw [hord2.out, HM2.out, hu3.out]
                  rw [← hk.out] at hfin
                  by_cases hj0 : j = 0
                  · have hj0' : ¬ (0 : Int) < (j : Int) := by omega
                    go_wp2_with fail
                    refine bodyPost_ret (results_none rfl _ _ _) rfl ?_
                    refine ⟨rfl, _, hfin.out.1 hj0, ?_, ?_, hmem.out⟩
                    · refine Eq.trans ?_ hab.out; rw [hk.out]; exact absM_setS (m' := ⟨m.b, .slice none 0 0, (L.data : Int), (L.ptrs : Int), []⟩) hss2.out rfl _
                    · rw [hk.out, setS_ss hss2.out]; exact ⟨_, rfl, by rw [← HNF.out, hj0]; rfl⟩
                  · have hj0' : (0 : Int) < (j : Int) := by omega
                    go_wp2_with fail
                    refine bodyPost_ret (results_none rfl _ _ _) rfl ?_
                    refine ⟨rfl, _, hfin.out.2, ?_, ?_, hmem.out⟩
                    · refine Eq.trans ?_ hab.out; rw [hk.out]; exact absM_setS (m' := ⟨m.b, .slice (some ⟨X, 0, none⟩) j j, (L.data : Int), (L.ptrs : Int), so3⟩) hss2.out rfl _
                    · rw [hk.out, setS_ss hss2.out]; exact ⟨_, rfl, by rw [← HNF.out]; exact hO5.out.ls⟩
end Go.Proofs.Ygcfad
