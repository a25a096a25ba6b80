/-
  THE WALK of (*parser).field.
-/
import Derived.Test.YgcfadSchemaMem2
namespace Go.Proofs.Ygcfad
open Go.RowKit Plain
set_option linter.unusedSimpArgs false
set_option linter.unusedVariables false

def ff (f : MF) : List Nat × Nat := (nats f.b, f.k)
def limM (i a : Nat) (M : MM) : MM := if 16 ≤ i then { M with p := failP M.p a 2 } else M
def dupM (d : Bool) (a : Nat) (M : MM) : MM := if d = true then { M with p := failP M.p a 3 } else M
theorem limM_same (i a : Nat) (M : MM) : (limM i a M).ss = M.ss ∧ (limM i a M).us = M.us ∧ (limM i a M).p.sv = M.p.sv ∧ (limM i a M).p.uv = M.p.uv := by
  unfold limM; split
  · exact ⟨rfl, rfl, (failP_sv _ _ _).1, (failP_sv _ _ _).2.1⟩
  · exact ⟨rfl, rfl, rfl, rfl⟩
theorem dupM_same (d : Bool) (a : Nat) (M : MM) : (dupM d a M).ss = M.ss ∧ (dupM d a M).us = M.us ∧ (dupM d a M).p.sv = M.p.sv ∧ (dupM d a M).p.uv = M.p.uv := by
  unfold dupM; split
  · exact ⟨rfl, rfl, (failP_sv _ _ _).1, (failP_sv _ _ _).2.1⟩
  · exact ⟨rfl, rfl, rfl, rfl⟩
theorem nameM_uv (M : MM) : (nameM M).p.uv = M.p.uv := by
  unfold nameM nameP; simp only; split
  · rw [(failP_sv (nextP M.p) M.p.at_ 2).2.1]; rfl
  · rfl
theorem nameM_same (M : MM) : (nameM M).ss = M.ss ∧ (nameM M).us = M.us ∧ (nameM M).p.sv = M.p.sv ∧ (nameM M).p.uv = M.p.uv := ⟨rfl, rfl, nameM_sv M, nameM_uv M⟩
theorem failP_twice (p : PS) (a c : Nat) (hc : c ≠ 0) : failP (failP p a c) a c = failP p a c := by
  by_cases h : p.code = 0 ∨ a < p.whr ∨ (a = p.whr ∧ c < p.code)
  · have e : failP p a c = { p with code := c, whr := a } := by unfold failP; rw [if_pos h]
    rw [e]
    unfold failP
    rw [if_neg (by simp; exact hc)]
  · have e : failP p a c = p := by unfold failP; rw [if_neg h]
    rw [e, e]
theorem dupM_fail (d : Bool) (a : Nat) (M : MM) : { dupM d a M with p := failP (dupM d a M).p a 3 } = dupM true a M := by
  cases d with
  | false => rfl
  | true => unfold dupM; simp only [if_true]; rw [failP_twice _ _ _ (by decide)]

/-- field, behind its '@'. -/
def fcont (T : List Nat) (k i : Nat) (nm : List Nat) (s2 : St) : Option Unit × St :=
  bnd (onQ (expectQ T 48)) (fun _ => bnd (onQ (expectQ T 58)) (fun _ => bnd (typS T k i) (fun kd s5 =>
    onQ (expectQ T 59) { s5 with fs := s5.fs ++ [(nm, kd)], num := if i < 16 then s5.num.set i (valN 0 (wordQ T s2.q)) else s5.num }))) s2
theorem fieldS_no {T : List Nat} {k i : Nat} {s : St} {q' : Q} (h : nameQ T false s.q = (none, q')) : fieldS T k i s = (none, { s with q := q' }) := by unfold fieldS; rw [h]
theorem fieldS_yes {T : List Nat} {k i a : Nat} {s : St} {q1 : Q} {nm : List Nat} (h : nameQ T false s.q = (some (nm, a), q1)) :
    fieldS T k i s = bnd (onQ (expectQ T 64)) (fun _ => fcont T k i nm) { s with q := if s.fs.any (fun f => f.1 == nm) then failQ (if 16 ≤ i then failQ q1 a 2 else q1) a 3 else (if 16 ≤ i then failQ q1 a 2 else q1) } := by
  unfold fieldS; rw [h]; rfl
theorem abs_lim (i a : Nat) (M : MM) (fs : List (List Nat × Nat)) : absM (limM i a M) fs = { absM M fs with q := if 16 ≤ i then failQ (absM M fs).q a 2 else (absM M fs).q } := by
  unfold limM; split
  · exact absM_fail M fs a 2
  · rfl
theorem abs_dup (d : Bool) (a : Nat) (M : MM) (fs : List (List Nat × Nat)) : absM (dupM d a M) fs = { absM M fs with q := if d = true then failQ (absM M fs).q a 3 else (absM M fs).q } := by
  unfold dupM; split
  · exact absM_fail M fs a 3
  · rfl
/-- expect, its answer known. -/
theorem expect_std_yes {P : Nat} {T : List Nat} {w0 w : World} {M : MM} (h : Std P T w0 w M) (k : Nat) (K : Int) (hK : K = (k : Int)) (ht : M.p.tok = k) : Calls Fadg.prog 112 #[.pointer (some ⟨P, 0, none⟩), .int .u8 K] w fun e w' => e = .returned (.bool true) ∧ Std P T w0 w' (expM k M) ∧ Only P w w' :=
  (expect_std h k K hK).mono fun e w' ⟨he, h1, h2⟩ => ⟨by rw [he]; simp [ht], h1, h2⟩
theorem expect_std_no {P : Nat} {T : List Nat} {w0 w : World} {M : MM} (h : Std P T w0 w M) (k : Nat) (K : Int) (hK : K = (k : Int)) (ht : ¬ M.p.tok = k) : Calls Fadg.prog 112 #[.pointer (some ⟨P, 0, none⟩), .int .u8 K] w fun e w' => e = .returned (.bool false) ∧ Std P T w0 w' (expM k M) ∧ Only P w w' :=
  (expect_std h k K hK).mono fun e w' ⟨he, h1, h2⟩ => ⟨by rw [he]; simp [ht], h1, h2⟩
theorem bnd_exp_no {β : Type} {P : Nat} {T : List Nat} {w0 w : World} {M : MM} (h : Std P T w0 w M) {k : Nat} {fs : List (List Nat × Nat)} (ht : ¬ M.p.tok = k) (f : Unit → St → Option β × St) : bnd (onQ (expectQ T k)) f (absM M fs) = (none, absM (expM k M) fs) := by
  unfold bnd; rw [abs_exp h, if_neg ht]
theorem bnd_exp_yes {β : Type} {P : Nat} {T : List Nat} {w0 w : World} {M : MM} (h : Std P T w0 w M) {k : Nat} {fs : List (List Nat × Nat)} (ht : M.p.tok = k) (f : Unit → St → Option β × St) : bnd (onQ (expectQ T k)) f (absM M fs) = f () (absM (expM k M) fs) := by
  unfold bnd; rw [abs_exp h, if_pos ht]
theorem any_ff (l : List MF) (nm : List Nat) : (l.map ff).any (fun f => f.1 == nm) = l.any (fun f => nats f.b == nm) := by rw [List.any_map]; rfl

theorem Fadg.info198 : (Fadg.prog.info? 198).map (fun i => (i.zero, i.size, i.bytes)) = some (some (.agg #[.string ⟨#[]⟩, .int .u8 0, .int .u8 0, .int .u8 0, .int .u8 0, .int .u8 0, .int .u16 0, .int .u8 0, .bool false]), 9, 32) := by kernel_rfl
def newF (b : ByteArray) (kd : Nat) (x y z : Int) : MF := ⟨b, kd, x, y, z, 0, 0, 0, false⟩
theorem fc_one (f : MF) : ∀ x ∈ fc f, x.oneCell' = true := by
  intro x hx
  simp [fc] at hx
  rcases hx with rfl | rfl | rfl | rfl | rfl | rfl | rfl | rfl | rfl <;> rfl
theorem nine_new (w : World) (b : ByteArray) (kd : Nat) (x y z : Int) (g : Nat) (hg : g = w.heap.size) : ∀ j u, (fc (newF b kd x y z))[j]? = some u → (w.alloc (.cells #[.string b, .int .u8 (kd : Int), .int .u8 x, .int .u8 y, .int .u8 z, .int .u8 0, .int .u16 0, .int .u8 0, .bool false] 198)).cell? ((⟨g, 0, none⟩ : Addr).add j) = some u := by
  subst hg
  intro j u hj
  have hj9 : j < 9 := by have := (List.getElem?_eq_some_iff.1 hj).1; simpa [fc, newF] using this
  rw [Addr.add_lit]
  match j, hj9, hj with
  | 0, _, hj => simp [fc, newF] at hj; rw [← hj]; simp
  | 1, _, hj => simp [fc, newF] at hj; rw [← hj]; simp
  | 2, _, hj => simp [fc, newF] at hj; rw [← hj]; simp
  | 3, _, hj => simp [fc, newF] at hj; rw [← hj]; simp
  | 4, _, hj => simp [fc, newF] at hj; rw [← hj]; simp
  | 5, _, hj => simp [fc, newF] at hj; rw [← hj]; simp
  | 6, _, hj => simp [fc, newF] at hj; rw [← hj]; simp
  | 7, _, hj => simp [fc, newF] at hj; rw [← hj]; simp
  | 8, _, hj => simp [fc, newF] at hj; rw [← hj]; simp
/-- The cell of a struct that holds its fields, behind an append to them. -/
theorem fieldCell {P : Nat} {T : List Nat} {w0 w w' : World} {M : MM} {k g n cap : Nat} {m : MS} (h : Std P T w0 w M) (hv : M.p.sv = .slice (some ⟨g, 0, none⟩) n cap) (hn : n = M.ss.length) (hm : M.ss[k]? = some m) (hg : w.grownBy w' m.fv.ownBlock) :
    w'.cell? ⟨g, k * 4 + 1, none⟩ = some m.fv ∧ w'.frozen? ⟨g, k * 4 + 1, none⟩ = false := by
  have hmem : m ∈ M.ss := List.mem_of_getElem? hm
  have hgb : (rS M).v.ownBlock = some g := by show M.p.sv.ownBlock = _; rw [hv]; rfl
  have hne : m.fv.ownBlock ≠ some g := by
    obtain ⟨s, t, hst⟩ := List.append_of_mem hmem
    have hp := (List.pairwise_cons.1 (h.m.sep.perm (rows_at hst)).2).1
    exact fun e => hp (rS M) (by simp) g e hgb
  have hb : w'.heap[g]? = w.heap[g]? := hg.block g ((h.m.rs.lt hgb).2) (fun e => hne e.symm)
  rw [World.cell?_of_block (w := w) hb, World.frozen?_of_block (w := w) hb]
  exact ⟨(h.m.sCells hv hn hm).2.1, h.m.sFr hv hn _⟩
theorem ownF {B : Nat} {w : World} {m : MS} {v : Value} {nf : Nat} (h : (rF m).ok B w) (hv : m.fv = v) (hn : nf = m.fl.length) : w.ownsRow B 198 9 v nf (m.fl.flatMap fc) := by
  subst hv hn; exact h
theorem stdDrew {P : Nat} {T : List Nat} {w0 w : World} {M : MM} (h : Std P T w0 w M) : Std P T w0 w.drew M := h.drew 1
def numM (i n : Nat) (M : MM) : MM := if i < 16 then { M with p := { M.p with num := M.p.num.set i n } } else M
theorem Std.fielded {P : Nat} {T : List Nat} {w0 w w' : World} {M : MM} {k g n cap nf : Nat} {m : MS} {pre post : List MS} {ao : Option Addr} {n8 cap8 : Nat} {f : MF} {v : Value} (h : Std P T w0 w M) (hss : M.ss = pre ++ m :: post) (hk : k = pre.length)
    (hv : M.p.sv = .slice (some ⟨g, 0, none⟩) n cap) (hn : n = M.ss.length) (hfv : m.fv = v) (hnf : nf = m.fl.length) (hn8 : n8 = nf + 1) (ho : w'.ownsRow (P + 1) 198 9 (.slice ao n8 cap8) n8 (m.fl.flatMap fc ++ fc f))
    (hg : w.grownBy w' v.ownBlock) (hnew : (Value.slice ao n8 cap8).ownBlock = v.ownBlock ∨ ∀ g, (Value.slice ao n8 cap8).ownBlock = some g → w.heap.size ≤ g) :
    Std P T w0 (w'.setCell ⟨g, k * 4 + 1, none⟩ (.slice ao n8 cap8)) (setS M k { m with fv := .slice ao n8 cap8, fl := m.fl ++ [f] }) := by
  subst hk hfv hnf hn8
  have hmem : m ∈ M.ss := by rw [hss]; simp
  have e : rF { m with fv := .slice ao (m.fl.length + 1) cap8, fl := m.fl ++ [f] } = ⟨.slice ao (m.fl.length + 1) cap8, 198, 9, m.fl.length + 1, m.fl.flatMap fc ++ fc f⟩ := by
    unfold rF; simp
  have hs1 : Sep (P + 1) w' (rF { m with fv := .slice ao (m.fl.length + 1) cap8, fl := m.fl ++ [f] } :: rS M :: rU M :: (pre ++ post).map rF) :=
    (h.m.sep.perm (rows_at hss)).turn (r' := rF { m with fv := .slice ao (m.fl.length + 1) cap8, fl := m.fl ++ [f] }) hg (by rw [e]; exact ho) (by rw [e]; exact hnew)
  have hs2 := sep_storeS (m' := { m with fv := .slice ao (m.fl.length + 1) cap8, fl := m.fl ++ [f] }) hss (hs1.perm (List.Perm.swap _ _ _)) hv hn 1 (by decide) (.slice ao (m.fl.length + 1) cap8) rfl
  have hs3 := (hs2.perm (List.Perm.swap _ _ _)).perm (rows_setS hss)
  have hgb : (rS M).v.ownBlock = some g := by show M.p.sv.ownBlock = _; rw [hv]; rfl
  have hgP := (h.m.rs.lt hgb).1
  have hP : (w'.setCell ⟨g, pre.length * 4 + 1, none⟩ (.slice ao (m.fl.length + 1) cap8)).heap[P]? = w.heap[P]? := by
    rw [Below.heap_setCell w' ⟨g, _, none⟩ _ P (by show P ≠ g; omega)]
    exact hg.block P h.m.lt (fun e => by have := ((h.m.rf hmem).lt e.symm).1; omega)
  refine ⟨⟨h.m.p.same hP, by simp [World.setCell]; exact Nat.lt_of_lt_of_le h.m.lt hg.size, hs3⟩, ⟨h.wf.ae, h.wf.en, h.wf.sz, h.wf.tok, h.wf.us, by show (M.ss.set _ _).length ≤ _; rw [List.length_set]; exact h.wf.ss, h.wf.num⟩, h.tx, ?_⟩
  refine (h.bel.grown hg (Nat.le_of_lt h.m.lt) (fun q hq => ?_)).setCell (by show P ≤ g; omega) _
  have := ((h.m.rf hmem).lt hq).1
  omega
theorem set_num (p : PS) (i n : Nat) (hi : i < 16) (hl : p.num.length = 16) : ∀ j, j < 24 → pcell { p with num := p.num.set i n } j = if j = 7 + i then .int .i64 (n : Int) else pcell p j := by
  intro j hj
  unfold pcell
  simp only
  by_cases e : j = 7 + i
  · subst e
    rw [if_neg (by omega), if_neg (by omega), if_neg (by omega), if_neg (by omega), if_neg (by omega), if_neg (by omega), if_neg (by omega), if_neg (by omega), if_pos rfl]
    congr 1
    rw [show 7 + i - 7 = i by omega]
    simp [List.getD, hl, hi]
  · rw [if_neg e]
    have e2 : ∀ j, j < 24 → ¬ j = 7 + i → 7 ≤ j → (p.num.set i n).getD (j - 7) 0 = p.num.getD (j - 7) 0 := by
      intro j _ hne h7
      simp only [List.getD, List.getElem?_set]
      rw [if_neg (by omega)]
    by_cases h7 : 7 ≤ j
    · rw [e2 j hj e h7]
    · match j, hj, h7 with
      | 0, _, _ => rfl
      | 1, _, _ => rfl
      | 2, _, _ => rfl
      | 3, _, _ => rfl
      | 4, _, _ => rfl
      | 5, _, _ => rfl
      | 6, _, _ => rfl
      | j + 7, _, h => omega
theorem Std.numbered {P : Nat} {T : List Nat} {w0 w : World} {M : MM} {i n : Nat} (h : Std P T w0 w M) (hi : i < 16) : Std P T w0 (w.setCell ⟨P, 7 + i, none⟩ (.int .i64 (n : Int))) { M with p := { M.p with num := M.p.num.set i n } } := by
  refine ⟨⟨h.m.p.set (by omega) (set_num M.p i n hi h.wf.num), by simp [World.setCell]; exact h.m.lt, h.m.sep.setCell (by show P < P + 1; omega) _⟩, ⟨h.wf.ae, h.wf.en, h.wf.sz, h.wf.tok, h.wf.us, h.wf.ss, by simp [h.wf.num]⟩, h.tx, h.bel.setCell (Nat.le_refl P) _⟩
theorem typS_lt {T : List Nat} {k i kd : Nat} {s s' : St} (h : typS T k i s = (some kd, s')) : kd < 256 := by
  unfold typS bnd at h
  cases h1 : listsS T (T.length + 1) 0 s with
  | mk o s1 =>
    rw [h1] at h
    cases o with
    | none => simp at h
    | some nest =>
      simp only at h
      cases h2 : kindS T k i s1 with
      | mk o2 s2 =>
        rw [h2] at h
        cases o2 with
        | none => simp at h
        | some k2 =>
          have hk2 : k2 ≤ 13 := by
            unfold kindS at h2
            split at h2
            · cases h2; exact kindOfN_le _
            · split at h2
              · cases h2
              · cases h2; exact Nat.le_refl _
          simp only at h
          split at h
          · cases h
          · cases h
            split <;> omega
theorem abs_num {M7 M8 : MM} {k i vn kd : Nat} {m : MS} {v : Value} {b : ByteArray} {x y z : Int} {T : List Nat} {s2 : St} (hm : M7.ss[k]? = some m) (h8 : M8 = setS M7 k { m with fv := v, fl := m.fl ++ [newF b kd x y z] }) (hv : vn = valN 0 (wordQ T s2.q)) :
    ({ absM M7 (m.fl.map ff) with fs := (absM M7 (m.fl.map ff)).fs ++ [(nats b, kd)], num := if i < 16 then (absM M7 (m.fl.map ff)).num.set i (valN 0 (wordQ T s2.q)) else (absM M7 (m.fl.map ff)).num } : St) = absM (numM i vn M8) ((m.fl ++ [newF b kd x y z]).map ff) := by
  subst h8 hv
  have hn : (M7.ss.set k { m with fv := v, fl := m.fl ++ [newF b kd x y z] }).map (fun m => nats m.b) = M7.ss.map (fun m => nats m.b) := by
    apply List.ext_getElem?
    intro j
    rw [List.getElem?_map, List.getElem?_map, List.getElem?_set]
    by_cases e : k = j
    · subst e
      have hl := (List.getElem?_eq_some_iff.1 hm).1
      rw [if_pos rfl, if_pos hl, hm]; rfl
    · rw [if_neg e]
  by_cases h16 : i < 16
  · simp only [numM, if_pos h16, absM, setS, hn, List.map_append]; rfl
  · simp only [numM, if_neg h16, absM, setS, hn, List.map_append]; rfl
/-- What field leaves. -/
def FieldPost (P : Nat) (T : List Nat) (w0 : World) (pre : List MS) (m : MS) (r : Option Unit × St) (e : Ending) (w' : World) : Prop :=
  ∃ M' fs', Std P T w0 w' M' ∧ absM M' fs' = r.2 ∧
  match r.1 with
  | none => M'.p.code ≠ 0 ∧ e = .returned (.bool false)
  | some _ => e = .returned (.bool true) ∧ ∃ v f, M'.ss = pre ++ [{ m with fv := v, fl := m.fl ++ [f] }] ∧ fs' = (m.fl ++ [f]).map ff ∧ 0 < f.b.size ∧ f.k < 256

set_option maxRecDepth 100000 in
set_option maxHeartbeats 4000000 in
theorem field_any (P k i : Nat) (T : List Nat) (w0 w : World) (M : MM) (pre : List MS) (m : MS) (hS : Hid (Std P T w0 w M)) (hss : Hid (M.ss = pre ++ [m])) (hk : Hid (k = pre.length)) (hk2 : k ≤ 1024) (hi : Hid (i = m.fl.length)) (hi2 : i ≤ 1024) :
    Calls Fadg.prog 115 #[.pointer (some ⟨P, 0, none⟩), .int .i64 (k : Int), .int .i64 (i : Int)] w (FieldPost P T w0 pre m (fieldS T k i (absM M (m.fl.map ff)))) := by
  have hwf := hid hS.out.wf
  obtain ⟨g, cap, hsv, hPg⟩ := hS.out.m.sForm (by rw [hss.out]; simp)
  obtain ⟨n, hn⟩ : ∃ n, n = M.ss.length := ⟨_, rfl⟩
  rw [← hn] at hsv
  have hkn2 : k < n := by rw [hn, hss.out, hk.out]; simp
  have hkn : (k : Int) < (n : Int) := by omega
  have hn2 : n ≤ 1024 := by rw [hn]; exact Nat.le_trans hwf.out.ss (Nat.le_trans hwf.out.ae (Nat.le_trans hwf.out.en hwf.out.sz))
  have HN := hid hn
  have HSV := hid hsv
  have hkm : Hid (M.ss[k]? = some m) := by show _ = _; rw [hss.out, hk.out]; simp
  clear hn hsv
  cases hno : nameOk M.p false with
  | false =>
    have HM := hid (name_std_no hS.out false hno)
    have hp := hid (fieldS_no (k := k) (i := i) (abs_name_no hS.out false (m.fl.map ff) hno))
    clear hno
    go_enter Fadg.func115, Fadg.ntmps115
    go_wp2_with (first | (go_at_call 113; go_must (refine HM.out.mono ?_; rintro e w1 ⟨rfl, hs1, ho1⟩)))
    go_ret
    rw [hp.out]
    exact ⟨_, _, hs1, by rw [absM_fail], failP_code _ _ _ (by decide), rfl⟩
  | true =>
    have HM := hid (name_std_yes hS.out false hno)
    have hp := hid (fieldS_yes (k := k) (i := i) (abs_name_yes hS.out false (m.fl.map ff) hno))
    have htok : Hid (M.p.at_ < M.p.en) := hwf.out.tok (by simp [nameOk] at hno; omega)
    obtain ⟨b, hb⟩ : ∃ b, b = M.p.tx.extract M.p.at_ M.p.en := ⟨_, rfl⟩
    rw [← hb] at HM hp
    have hbs : Hid (0 < b.size) := by show 0 < b.size; rw [hb, ByteArray.size_extract]; have := htok.out; have := hwf.out.en; omega
    clear hno hb
    have hsv1 : Hid ((nameM M).p.sv = .slice (some ⟨g, 0, none⟩) n cap) := (nameM_sv M).trans HSV.out
    go_enter Fadg.func115, Fadg.ntmps115
    go_upto_if 30 with (first | (go_at_call 113; go_must (refine HM.out.mono ?_; rintro e w1 ⟨rfl, hs1, ho1⟩); have c6 := hs1.m.p.cells.2.2.2.2.2.2.1; rw [hsv1.out] at c6))
    go_cut [] (fun wx => Hid (Std P T w0 wx (limM i M.p.at_ (nameM M))))
    case first =>
      by_cases h16 : 16 ≤ i
      · have h16' : (16 : Int) ≤ (i : Int) := by omega
        have HF := hid (fail_std hs1 M.p.at_ 2 (M.p.at_ : Int) 2 rfl rfl)
        go_wp2_with (first | (go_at_call 111; go_must (refine HF.out.mono ?_; rintro e w2 ⟨rfl, hs2, ho2⟩)))
        go_meet
        show Std _ _ _ _ _
        unfold limM; rw [if_pos h16]; exact hs2
      · have h16' : ¬ (16 : Int) ≤ (i : Int) := by omega
        go_wp2
        go_meet
        show Std _ _ _ _ _
        unfold limM; rw [if_neg h16]; exact hs1
    case rest =>
      have hs2 := hcut
      clear hcut HM c6
      obtain ⟨M2, hM2⟩ : ∃ M2, M2 = limM i M.p.at_ (nameM M) := ⟨_, rfl⟩
      rw [← hM2] at hs2
      have e2 : Hid (M2.ss = M.ss ∧ M2.us = M.us ∧ M2.p.sv = M.p.sv ∧ M2.p.uv = M.p.uv) := by rw [hM2]; exact limM_same i M.p.at_ (nameM M) |>.imp id (·.imp id (·.imp (·.trans (nameM_sv M)) (·.trans (nameM_uv M))))
      have HM2 := hid hM2
      clear hM2
      have hmm : Hid (m ∈ M2.ss) := by show m ∈ M2.ss; rw [e2.out.1, hss.out]; simp
      obtain ⟨ao, fcap, hfv, hform⟩ := hs2.out.m.fForm hmm.out
      obtain ⟨nf, hnf⟩ : ∃ nf, nf = m.fl.length := ⟨_, rfl⟩
      rw [← hnf] at hfv hform
      have hnf2 : nf ≤ 1024 := by rw [hnf, ← hi.out]; exact hi2
      have HNF := hid hnf
      have HFV := hid hfv
      have hform := hid hform
      have hread : Hid (∀ wx Mx, Std P T w0 wx Mx → Mx.ss = M.ss → Mx.p.sv = M.p.sv → wx.cell? ⟨g, k * 4 + 1, none⟩ = some (.slice ao nf fcap)) := fun wx Mx hx e1 e2 => by
        rw [(hx.m.sCells (e2.trans HSV.out) (HN.out.trans (by rw [e1])) (i := k) (m := m) (by rw [e1]; exact hkm.out)).2.1, HFV.out]
      clear hnf hfv
      have cF := hread.out _ _ hs2.out e2.out.1 e2.out.2.2.1
      go_wp2_with fail
      go_loopg [39] nf (fun gk j wr => ∃ j' : Nat, j = .int .i64 (j' : Int) ∧ j' + gk = nf ∧ Hid (Std P T w0 wr (dupM ((m.fl.take j').any (fun f => nats f.b == nats b)) M.p.at_ M2)))
      case atStart => exact ⟨0, rfl, by omega, hs2⟩
      case round =>
        obtain ⟨j, rfl, hj, hs3⟩ := hrel
        have e3 := hid (dupM_same ((m.fl.take j).any (fun f => nats f.b == nats b)) M.p.at_ M2)
        have cF3 := hread.out _ _ hs3.out (e3.out.1.trans e2.out.1) (e3.out.2.2.1.trans e2.out.2.2.1)
        clear cF
        by_cases hlt : j < nf
        · have hlt' : (j : Int) < (nf : Int) := by omega
          obtain ⟨gf, hao⟩ : ∃ gf, ao = some ⟨gf, 0, none⟩ := hform.out.resolve_left (by omega)
          subst hao
          have hjl : j < m.fl.length := by rw [← HNF.out]; exact hlt
          obtain ⟨f, hf⟩ : ∃ f, m.fl[j]? = some f := ⟨_, List.getElem?_eq_getElem hjl⟩
          have cN := hs3.out.m.fCells (m := m) (by rw [e3.out.1]; exact hmm.out) HFV.out HNF.out hf 0 (by decide)
          simp only [fc, Nat.add_zero, List.getElem?_cons_zero] at cN
          have htk : Hid ((m.fl.take (j + 1)).any (fun f => nats f.b == nats b) = ((m.fl.take j).any (fun f => nats f.b == nats b) || (nats f.b == nats b))) := by
            show _ = _
            have e : m.fl[j] = f := by rw [List.getElem?_eq_getElem hjl] at hf; simpa using hf
            rw [List.take_succ_eq_append_getElem hjl, List.any_append, e]; simp
          have HF := hid hf
          clear hf
          by_cases heq : nats f.b = nats b
          · have hq := str_eq_of heq
            have HQ := hid heq
            clear heq
            have HFA := hid (fail_std hs3.out M.p.at_ 3 (M.p.at_ : Int) 3 rfl rfl)
            go_wp2_with (first | (go_at_call 111; go_must (refine HFA.out.mono ?_; rintro e w4 ⟨rfl, hs4, ho4⟩)))
            go_roundg (gk - 1)
            case measure => omega
            case rel => exact ⟨j + 1, by go_num, by omega, by show Std _ _ _ _ _; rw [htk.out, HQ.out]; rw [dupM_fail] at hs4; simpa using hs4⟩
          · have hq := str_ne_of heq
            have HQ := hid heq
            clear heq
            go_wp2
            go_roundg (gk - 1)
            case measure => omega
            case rel => exact ⟨j + 1, by go_num, by omega, by rw [htk.out, show (nats f.b == nats b) = false from by simpa using HQ.out, Bool.or_false]; exact hs3⟩
        · have hlt' : ¬ (j : Int) < (nf : Int) := by omega
          obtain ⟨M3, hM3⟩ : ∃ M3, M3 = dupM ((m.fl.take j).any (fun f => nats f.b == nats b)) M.p.at_ M2 := ⟨_, rfl⟩
          rw [← hM3] at hs3 e3
          have habs : Hid (fieldS T k i (absM M (m.fl.map ff)) = bnd (onQ (expectQ T 64)) (fun _ => fcont T k i (nats b)) (absM M3 (m.fl.map ff))) := by
            show _ = _
            rw [hp.out, hM3, List.take_of_length_le (by rw [← HNF.out]; omega), abs_dup, HM2.out, abs_lim, abs_nameM M]
            congr 1
            rw [← any_ff]
            rfl
          have HM3 := hid hM3
          clear hM3
          by_cases h64 : M3.p.tok = 64
          · have HE64 := hid (expect_std_yes hs3.out 64 64 rfl h64)
            have hp64 := hid (habs.out.trans (bnd_exp_yes hs3.out h64 _))
            have e4 := hid (expM_ss 64 M3)
            clear h64
            obtain ⟨M4, hM4⟩ : ∃ M4, M4 = expM 64 M3 := ⟨_, rfl⟩
            rw [← hM4] at HE64 hp64 e4
            have HM4 := hid hM4
            clear hM4
            have HV : Hid (∀ wx, Std P T w0 wx M4 → Calls Fadg.prog 148 #[.pointer (some ⟨P, 0, none⟩)] wx fun e w' => e = .returned (.int .i64 ((valN 0 (wordL M4.p) : Nat) : Int)) ∧ w' = wx) := fun wx hx => value_any P M4.p wx hx.m.p (by have := hx.wf.sz; omega) hx.wf.ae hx.wf.en
            obtain ⟨vn, hvn⟩ : ∃ vn, vn = valN 0 (wordL M4.p) := ⟨_, rfl⟩
            rw [← hvn] at HV
            have HVN := hid hvn
            clear hvn
            go_upto_if 58 with (go_at_call 112; go_must (refine HE64.out.mono ?_; rintro e w4 ⟨rfl, hs4, ho4⟩))
            have HV4 := hid (HV.out _ hs4)
            clear HE64
            go_upto_region 16 with (go_at_call 148; go_must (refine HV4.out.mono ?_; rintro e w' ⟨rfl, hw'⟩; subst hw'))
            by_cases h48 : M4.p.tok = 48
            · have HE48 := hid (expect_std_yes hs4 48 48 rfl h48)
              have hp48 := hid (hp64.out.trans (bnd_exp_yes hs4 h48 _))
              clear h48
              by_cases h58 : (expM 48 M4).p.tok = 58
              · have HE58 := hid (fun wx (hx : Std P T w0 wx (expM 48 M4)) => expect_std_yes hx 58 58 rfl h58)
                go_upto_if 68 with (go_at_call 112; first | (refine (HE58.out _ hs5).mono ?_; rintro e w6 ⟨rfl, hs6, ho6⟩) | (refine HE48.out.mono ?_; rintro e w5 ⟨rfl, hs5, ho5⟩))
                have hp58 := hid (hp48.out.trans (bnd_exp_yes hs5 h58 _))
                clear h58
                have e6 : Hid ((expM 58 (expM 48 M4)).ss = M.ss ∧ (expM 58 (expM 48 M4)).p.sv = M.p.sv) := ⟨(expM_ss 58 _).1.trans ((expM_ss 48 _).1.trans (e4.out.1.trans (e3.out.1.trans e2.out.1))), (expM_ss 58 _).2.1.trans ((expM_ss 48 _).2.1.trans (e4.out.2.1.trans (e3.out.2.2.1.trans e2.out.2.2.1)))⟩
                obtain ⟨M6, hM6⟩ : ∃ M6, M6 = expM 58 (expM 48 M4) := ⟨_, rfl⟩
                rw [← hM6] at hs6 hp58 e6
                have HM6 := hid hM6
                clear hM6 HE48 HE58 HV HV4
                have HT := hid (typ_any P k i T w0 w6 M6 (m.fl.map ff) hs6 (by omega) (by omega))
                cases htyp : typS T k i (absM M6 (m.fl.map ff)) with
                | mk o s5 =>
                  rw [htyp] at HT
                  cases o with
                  | none =>
                    go_wp2_with (go_at_call 149; go_must (refine HT.out.mono ?_; rintro e w7 ⟨M7, hs7, ha7, hss7, hsv7, hc7, rfl⟩))
                    go_ret
                    have hpn : fieldS T k i (absM M (m.fl.map ff)) = (none, s5) := by rw [hp58.out, bnd, htyp]
                    rw [hpn]
                    exact ⟨M7, _, hs7.grow ((Below.refl _ _).alloc (Nat.le_refl _) _), ha7, hc7, rfl⟩
                  | some kd =>
                    go_upto_region 21 with (go_at_call 149; go_must (refine HT.out.mono ?_; rintro e w7 ⟨M7, hs7, ha7, hss7, hsv7, x1, x2, x3, rfl⟩))
                    obtain ⟨i8, hi8, hz0, hz1, hz2⟩ := info_parts Fadg.info198
                    have hsA := hid (hs7.grow ((Below.refl w7.heap.size w7).alloc (Nat.le_refl _) (.cells #[.int .u8 (kd : Int), .int .u8 x1, .int .u8 x2, .int .u8 x3] 194)))
                    have cF7 := hread.out _ _ hsA.out (hss7.trans e6.out.1) (hsv7.trans e6.out.2)
                    go_cut [] (fun wx => ∃ v, Hid (Std P T w0 wx (setS M7 k { m with fv := v, fl := m.fl ++ [newF b kd x1 x2 x3] })))
                    case first =>
                      have hsB := hid (hsA.out.grow ((Below.refl _ _).alloc (Nat.le_refl _) (.cells #[.string b, .int .u8 (kd : Int), .int .u8 x1, .int .u8 x2, .int .u8 x3, .int .u8 0, .int .u16 0, .int .u8 0, .bool false] 198)))
                      have cFB := hread.out _ _ hsB.out (hss7.trans e6.out.1) (hsv7.trans e6.out.2)
                      have hm7 : Hid (m ∈ M7.ss) := by show m ∈ M7.ss; rw [hss7, e6.out.1, hss.out]; simp
                      have hown := hid (hsB.out.m.rf hm7.out)
                      have hown2 := hid (ownF hown.out HFV.out HNF.out)
                      have hsD := hid (stdDrew hsB.out)
                      go_region_law (refine step_append_sep (B := P + 1) _ rfl (.tmp 82) (.tmp 86) 187 rfl 198 i8 _ 9 32 Fadg.underlying187 hi8 hz0 hz1 hz2 rfl (by decide) (.slice ao nf fcap) nf (m.fl.flatMap fc) rfl hown2.out ⟨_, 0, none⟩ 1 1 (fc (newF b kd x1 x2 x3)) rfl rfl (nine_new _ _ _ _ _ _ _ (by simp)) (fc_one _) (by decide) (by omega) (by decide) ?_ (Nat.succ_le_of_lt hsB.out.m.lt); intro ao8 n8 cap8 w8 hn8 hown8 hg8 hnew8; have hc8 := fieldCell (m := m) hsD.out (hsv7.trans (e6.out.2.trans HSV.out)) (HN.out.trans (by rw [hss7, e6.out.1])) (by rw [hss7, e6.out.1]; exact hkm.out) (by rw [HFV.out]; exact hg8); have hc9 := hc8.1; have hc10 := hc8.2)
                      all_goals go_wp2_with fail
                      all_goals go_meet
                      all_goals exact ⟨_, hsD.out.fielded (m := m) (pre := pre) (post := []) (by rw [hss7, e6.out.1]; exact hss.out) hk.out (hsv7.trans (e6.out.2.trans HSV.out)) (HN.out.trans (by rw [hss7, e6.out.1])) HFV.out HNF.out hn8.out hown8 hg8 hnew8⟩
                    case rest =>
                      obtain ⟨v8, hs8⟩ := hcut
                      clear cF7 hsA
                      obtain ⟨M8, hM8⟩ : ∃ M8, M8 = setS M7 k { m with fv := v8, fl := m.fl ++ [newF b kd x1 x2 x3] } := ⟨_, rfl⟩
                      rw [← hM8] at hs8
                      have HM8 := hid hM8
                      clear hM8
                      have cn := fun (hlt : i < 16) => hs8.out.m.p.1 (7 + i) (by omega)
                      have cf := hs8.out.m.p.2 (7 + i)
                      go_upto_if 91 with fail
                      go_cut [] (fun wx => Hid (Std P T w0 wx (numM i vn M8)))
                      case first =>
                        by_cases h16 : i < 16
                        · have h16' : (i : Int) < 16 := by omega
                          have cn' := cn h16
                          go_wp2
                          go_meet
                          show Std _ _ _ _ _
                          unfold numM; rw [if_pos h16]; exact hs8.out.numbered h16
                        · have h16' : ¬ (i : Int) < 16 := by omega
                          go_wp2
                          go_meet
                          show Std _ _ _ _ _
                          unfold numM; rw [if_neg h16]; exact hs8.out
                      case rest =>
                        have hs9 := hcut
                        clear hcut cn cf
                        have hfin : Hid (fieldS T k i (absM M (m.fl.map ff)) = onQ (expectQ T 59) (absM (numM i vn M8) ((m.fl ++ [newF b kd x1 x2 x3]).map ff))) := by
                          show _ = _
                          have e1 := hp58.out
                          rw [e1, bnd, htyp]
                          show onQ (expectQ T 59) _ = _
                          rw [← ha7]
                          congr 1
                          exact abs_num (by rw [hss7, e6.out.1]; exact hkm.out) HM8.out (by rw [HVN.out, abs_word hs4, nats_word])
                        have hss9 : Hid ((numM i vn M8).ss = pre ++ [{ m with fv := v8, fl := m.fl ++ [newF b kd x1 x2 x3] }]) := by
                          show _ = _
                          have e : (numM i vn M8).ss = M8.ss := by unfold numM; split <;> rfl
                          rw [e, HM8.out]
                          show M7.ss.set k _ = _
                          rw [hss7, e6.out.1, hss.out, hk.out]; simp
                        have hkd : Hid (kd < 256) := typS_lt htyp
                        obtain ⟨M9, hM9⟩ : ∃ M9, M9 = numM i vn M8 := ⟨_, rfl⟩
                        rw [← hM9] at hs9 hfin hss9
                        clear hM9
                        by_cases h59 : M9.p.tok = 59
                        · have HE59 := hid (expect_std_yes hs9.out 59 59 rfl h59)
                          have hr := hid (hfin.out.trans (abs_exp hs9.out 59 _))
                          rw [if_pos h59] at hr
                          clear h59
                          go_wp2_with (go_at_call 112; go_must (refine HE59.out.mono ?_; rintro e w10 ⟨rfl, hs10, ho10⟩))
                          go_ret
                          rw [hr.out]
                          exact ⟨_, _, hs10, rfl, rfl, v8, _, (expM_ss 59 _).1.trans hss9.out, rfl, hbs.out, hkd.out⟩
                        · have HE59 := hid (expect_std_no hs9.out 59 59 rfl h59)
                          have hr := hid (hfin.out.trans (abs_exp hs9.out 59 _))
                          rw [if_neg h59] at hr
                          have H59 := hid h59
                          clear h59
                          go_wp2_with (go_at_call 112; go_must (refine HE59.out.mono ?_; rintro e w10 ⟨rfl, hs10, ho10⟩))
                          go_ret
                          rw [hr.out]
                          exact ⟨_, _, hs10, rfl, expM_no H59.out, rfl⟩
              · have HE58 := hid (fun wx (hx : Std P T w0 wx (expM 48 M4)) => expect_std_no hx 58 58 rfl h58)
                have H58 := hid h58
                clear h58
                go_wp2_with (go_at_call 112; first | (refine (HE58.out _ hs5).mono ?_; rintro e w6 ⟨rfl, hs6, ho6⟩) | (refine HE48.out.mono ?_; rintro e w5 ⟨rfl, hs5, ho5⟩))
                go_ret
                rw [hp48.out.trans (bnd_exp_no hs5 H58.out _)]
                exact ⟨_, _, hs6, rfl, expM_no H58.out, rfl⟩
            · have HE48 := hid (expect_std_no hs4 48 48 rfl h48)
              have H48 := hid h48
              clear h48
              go_wp2_with (go_at_call 112; go_must (refine HE48.out.mono ?_; rintro e w5 ⟨rfl, hs5, ho5⟩))
              go_ret
              rw [hp64.out.trans (bnd_exp_no hs4 H48.out _)]
              exact ⟨_, _, hs5, rfl, expM_no H48.out, rfl⟩
          · have HE64 := hid (expect_std_no hs3.out 64 64 rfl h64)
            have H64 := hid h64
            clear h64
            go_wp2_with (first | (go_at_call 112; go_must (refine HE64.out.mono ?_; rintro e w4 ⟨rfl, hs4, ho4⟩)))
            go_ret
            rw [habs.out.trans (bnd_exp_no hs3.out H64.out _)]
            exact ⟨_, _, hs4, rfl, expM_no H64.out, rfl⟩
end Go.Proofs.Ygcfad
