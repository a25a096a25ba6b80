/-
  THE WALK of (*parser).typ.
-/
import Derived.Test.YgcfadSchemaMem
import Derived.Deep.Cut
import Derived.Deep.CutRange
import Derived.Deep.DeepCutAuto
import Derived.Deep.LoopGhost
namespace Go.Proofs.Ygcfad
open Go.RowKit Plain
set_option linter.unusedSimpArgs false
set_option linter.unusedVariables false

/-- The parser stands, and the cells of a result of type Type do. -/
structure TStd (P : Nat) (T : List Nat) (w0 : World) (R : Nat) (w : World) (M : MM) : Prop where
  s : Std P T w0 w M
  pr : P < R
  rl : R < w.heap.size
  cell : ∀ j, j < 4 → ∃ v : Int, w.cell? ⟨R, j, none⟩ = some (.int .u8 v)
  fr : ∀ j, w.frozen? ⟨R, j, none⟩ = false
  ap : ∀ r ∈ rows M, r.v.ownBlock ≠ some R

section
variable {P R : Nat} {T : List Nat} {w0 w w' : World} {M M' : MM}
theorem TStd.only (h : TStd P T w0 R w M) (hs : Std P T w0 w' M') (ho : Only P w w') (e : rows M' = rows M) : TStd P T w0 R w' M' := by
  have hb : w'.heap[R]? = w.heap[R]? := ho.block R (by have := h.pr; omega)
  exact ⟨hs, h.pr, by rw [ho.size]; exact h.rl, fun j hj => by rw [World.cell?_of_block (w := w) hb]; exact h.cell j hj, fun j => by rw [World.frozen?_of_block (w := w) hb]; exact h.fr j, by rw [e]; exact h.ap⟩
theorem TStd.drew (h : TStd P T w0 R w M) (q : Nat) : TStd P T w0 R (w.drewN q) M := ⟨h.s.drew q, h.pr, h.rl, h.cell, h.fr, h.ap⟩
theorem TStd.alloc (h : TStd P T w0 R w M) (o : Obj) : TStd P T w0 R (w.alloc o) M := by
  have hb := Below.heap_alloc w o R h.rl
  exact ⟨h.s.grow ((Below.refl _ _).alloc (Nat.le_refl _) _), h.pr, Nat.lt_of_lt_of_le h.rl (by simp), fun j hj => by rw [World.cell?_of_block (w := w) hb]; exact h.cell j hj, fun j => by rw [World.frozen?_of_block (w := w) hb]; exact h.fr j, h.ap⟩
theorem TStd.put (h : TStd P T w0 R w M) (j : Nat) (x : Int) (hj : j < 4) : TStd P T w0 R (w.setCell ⟨R, j, none⟩ (.int .u8 x)) M := by
  have hP : (w.setCell ⟨R, j, none⟩ (.int .u8 x)).heap[P]? = w.heap[P]? := Below.heap_setCell w ⟨R, j, none⟩ _ P (by have := h.pr; show P ≠ R; omega)
  refine ⟨⟨⟨h.s.m.p.same hP, by simp [World.setCell]; exact h.s.m.lt, h.s.m.sep.same fun r hr g hg => Below.heap_setCell w ⟨R, j, none⟩ _ g (fun e => h.ap r hr (by rw [hg, e]))⟩, h.s.wf, h.s.tx, h.s.bel.setCell (by have := h.pr; show P ≤ R; omega) _⟩, h.pr, by simp [World.setCell]; exact h.rl, fun i hi => ?_, fun i => by rw [World.frozen?_setCell]; exact h.fr i, h.ap⟩
  by_cases e : i = j
  · subst e
    obtain ⟨v, hv⟩ := h.cell i hi
    exact ⟨x, World.cell?_setCell_same _ _ _ hv⟩
  · rw [World.cell?_setCell_other (h := fun q => e (by simpa using congrArg Addr.off q.symm))]
    exact h.cell i hi
end
theorem rows_fail (M : MM) (a c : Nat) : rows { M with p := failP M.p a c } = rows M := by
  unfold rows rS rU; simp only [(failP_sv M.p a c).1, (failP_sv M.p a c).2.1]
theorem rows_next (M : MM) : rows { M with p := nextP M.p } = rows M := rfl
theorem rows_name (M : MM) : rows (nameM M) = rows M := by
  unfold nameM nameP; split
  · exact rows_fail { M with p := nextP M.p } M.p.at_ 2
  · rfl
theorem rows_exp (k : Nat) (M : MM) : rows (expM k M) = rows M := by
  unfold expM; split
  · rfl
  · exact rows_fail _ _ _

theorem Fadg.info192 : (Fadg.prog.info? 192).map (fun i => (i.zero, i.size, i.bytes)) = some (some (.agg #[.int .i64 0, .int .i64 0, .int .i64 0, .string ⟨#[]⟩]), 4, 40) := by kernel_rfl
theorem set_uv' (p : PS) (v : Value) {P : Nat} {w : World} (h : PAt P w p) : PAt P (w.setCell ⟨P, 23, none⟩ v) { p with uv := v } := h.set (by decide) (set_uv p v)
theorem set_sv' (p : PS) (v : Value) {P : Nat} {w : World} (h : PAt P w p) : PAt P (w.setCell ⟨P, 6, none⟩ v) { p with sv := v } := h.set (by decide) (set_sv p v)
theorem four_new' (w : World) (v0 v1 v2 v3 : Value) (e g : Nat) (hg : g = w.heap.size) : ∀ j u, [v0, v1, v2, v3][j]? = some u → (w.alloc (.cells #[v0, v1, v2, v3] e)).cell? ((⟨g, 0, none⟩ : Addr).add j) = some u := by
  subst hg; exact four_new w _ _ _ _ e
theorem uc_one (u : MU) : ∀ x ∈ uc u, x.oneCell' = true := by
  intro x hx
  simp [uc] at hx
  rcases hx with rfl | rfl | rfl | rfl <;> rfl

theorem nameM_sv (M : MM) : (nameM M).p.sv = M.p.sv := by
  unfold nameM nameP; simp only; split
  · rw [(failP_sv (nextP M.p) M.p.at_ 2).1]; rfl
  · rfl

/-- A use more. -/
def useM (M : MM) (v : Value) (u : MU) : MM := { M with p := { M.p with uv := v }, us := M.us ++ [u] }

theorem TStd.used {P R : Nat} {T : List Nat} {w0 w w' : World} {M : MM} (h : TStd P T w0 R w M) {ao : Option Addr} {n' cap : Nat} {u : MU} (hn : n' = M.us.length + 1) (ho : w'.ownsRow (P + 1) 192 4 (.slice ao n' cap) n' (M.us.flatMap uc ++ uc u))
    (hg : w.grownBy w' M.p.uv.ownBlock) (hnew : (Value.slice ao n' cap).ownBlock = M.p.uv.ownBlock ∨ ∀ g, (Value.slice ao n' cap).ownBlock = some g → w.heap.size ≤ g) (hu : M.us.length + 1 ≤ M.p.at_) :
    TStd P T w0 R (w'.setCell ⟨P, 23, none⟩ (.slice ao n' cap)) (useM M (.slice ao n' cap) u) := by
  have hsep : Sep (P + 1) w (rU M :: rS M :: M.ss.map rF) := h.s.m.sep.perm (List.Perm.swap _ _ _)
  have hru : (rU M).v.ownBlock ≠ some P := fun e => by have := ((h.s.m.sep.1 (rU M) (by simp [rows])).lt e).1; omega
  have hP : w'.heap[P]? = w.heap[P]? := hg.block P h.s.m.lt (fun e => hru e.symm)
  have hRr : w'.heap[R]? = w.heap[R]? := hg.block R h.rl (fun e => h.ap (rU M) (by simp [rows]) e.symm)
  have hR : (w'.setCell ⟨P, 23, none⟩ (.slice ao n' cap)).heap[R]? = w.heap[R]? := by rw [Below.heap_setCell w' ⟨P, 23, none⟩ _ R (by have := h.pr; show R ≠ P; omega)]; exact hRr
  have e' : (rU (useM M (.slice ao n' cap) u)) = ⟨.slice ao n' cap, 192, 4, n', M.us.flatMap uc ++ uc u⟩ := by
    unfold rU useM; simp only [List.flatMap_append, List.length_append, List.length_singleton, hn]; simp
  have hs2 : Sep (P + 1) w' (rU (useM M (.slice ao n' cap) u) :: rS M :: M.ss.map rF) := hsep.turn (r' := rU (useM M (.slice ao n' cap) u)) hg (by rw [e']; exact ho) (by rw [e']; exact hnew)
  refine ⟨⟨⟨set_uv' _ _ (h.s.m.p.same hP), by simp [World.setCell]; exact Nat.lt_of_lt_of_le h.s.m.lt hg.size, ?_⟩, ⟨h.s.wf.ae, h.s.wf.en, h.s.wf.sz, h.s.wf.tok, by show (M.us ++ [u]).length ≤ M.p.at_; simp; exact hu, h.s.wf.ss, h.s.wf.num⟩, h.s.tx, ?_⟩, h.pr, by simp [World.setCell]; exact Nat.lt_of_lt_of_le h.rl hg.size, fun j hj => by rw [World.cell?_of_block (w := w) hR]; exact h.cell j hj, fun j => by rw [World.frozen?_of_block (w := w) hR]; exact h.fr j, ?_⟩
  · exact (hs2.perm (List.Perm.swap _ _ _)).setCell (by show P < P + 1; omega) _
  · refine (h.s.bel.grown hg (Nat.le_of_lt h.s.m.lt) (fun q hq => ?_)).setCell (Nat.le_refl P) _
    have := ((h.s.m.sep.1 (rU M) (by simp [rows])).lt hq).1
    omega
  · intro r hr
    rcases List.mem_cons.1 hr with rfl | hr
    · exact h.ap (rS M) (by simp [rows])
    · rcases List.mem_cons.1 hr with rfl | hr
      · rw [e']
        intro e
        rcases hnew with k | k
        · exact h.ap (rU M) (by simp [rows]) (by show M.p.uv.ownBlock = _; rw [← k]; exact e)
        · have := k R e
          have := h.rl
          omega
      · exact h.ap r (by simp [rows]; exact .inr (.inr (by have hr' : r ∈ M.ss.map rF := hr; simpa using hr')))

theorem Std.grownU {P : Nat} {T : List Nat} {w0 w w' : World} {M : MM} (h : Std P T w0 w M) (hg : w.grownBy w' M.p.uv.ownBlock) : PAt P w' M.p :=
  h.m.p.same (hg.block P h.m.lt (fun e => by have := ((h.m.sep.1 (rU M) (by simp [rows])).lt e.symm).1; omega))

/-- What typ leaves. -/
def TypPost (P : Nat) (T : List Nat) (w0 : World) (M : MM) (fs : List (List Nat × Nat)) (r : Option Nat × St) (e : Ending) (w' : World) : Prop :=
  ∃ M', Std P T w0 w' M' ∧ absM M' fs = r.2 ∧ M'.ss = M.ss ∧ M'.p.sv = M.p.sv ∧
  match r.1 with
  | none => M'.p.code ≠ 0 ∧ e = .returned (.tuple #[.agg #[.int .u8 0, .int .u8 0, .int .u8 0, .int .u8 0], .bool false])
  | some kd => ∃ a b c : Int, e = .returned (.tuple #[.agg #[.int .u8 (kd : Int), .int .u8 a, .int .u8 b, .int .u8 c], .bool true])

section
variable {T : List Nat} {k i m kd : Nat} {σ s1 s2 : St}
/-- Behind the kind. -/
def tailS (T : List Nat) (m kd a : Nat) (s : St) : Option Nat × St := bnd (closeS T m) (fun _ s'' => (some (if m = 0 then kd else 12), s'')) (badS m kd a s)
theorem typS_stop (h : listsS T (T.length + 1) 0 σ = (none, s1)) : typS T k i σ = (none, s1) := by unfold typS bnd; rw [h]
theorem typS_stop2 (h : listsS T (T.length + 1) 0 σ = (some m, s1)) (h2 : kindS T k i s1 = (none, s2)) : typS T k i σ = (none, s2) := by unfold typS bnd; simp only [h, h2]
theorem typS_tail (h : listsS T (T.length + 1) 0 σ = (some m, s1)) (h2 : kindS T k i s1 = (some kd, s2)) : typS T k i σ = tailS T m kd σ.q.a s2 := by unfold typS tailS bnd; simp only [h, h2]
theorem listsS_yes {f : Nat} (ht : σ.q.t = 97) (hw : wordQ T σ.q = LIST) : listsS T (f + 1) m σ = bnd (onQ (expectQ T 40)) (fun _ => listsS T f (m + 1)) { σ with q := nextQ T σ.q } := by rw [listsS, if_pos ⟨ht, hw⟩]
theorem listsS_no {f : Nat} (h : ¬ (σ.q.t = 97 ∧ wordQ T σ.q = LIST)) : listsS T (f + 1) m σ = (some m, σ) := by rw [listsS, if_neg h]
end
theorem expM_no {k : Nat} {M : MM} (h : ¬ M.p.tok = k) : (expM k M).p.code ≠ 0 := by
  unfold expM; simp only [if_neg h]; unfold failP; split
  · simp
  · rename_i h2; omega
theorem failP_code (p : PS) (a c : Nat) (hc : c ≠ 0) : (failP p a c).code ≠ 0 := by
  unfold failP; split
  · exact hc
  · rename_i h2; omega
theorem expM_ss (k : Nat) (M : MM) : (expM k M).ss = M.ss ∧ (expM k M).p.sv = M.p.sv ∧ (expM k M).us = M.us := by
  refine ⟨rfl, ?_, rfl⟩; unfold expM; split
  · rfl
  · exact (failP_sv M.p M.p.at_ 1).1
theorem Std.len {P : Nat} {T : List Nat} {w0 w : World} {M : MM} (h : Std P T w0 w M) : T.length = M.p.tx.size := by rw [← h.tx, nats_length]

theorem kindFrom_le {k n : Nat} {ns : List (List Nat)} {s : List Nat} (h : kindFrom k ns s = some n) : n < k + ns.length := by
  induction ns generalizing k with
  | nil => simp [kindFrom] at h
  | cons x ns ih =>
    rw [kindFrom] at h
    split at h
    · cases h; simp
    · have := ih h; simp; omega
theorem kindOfN_le (s : List Nat) : (kindOfN s).getD 0 ≤ 13 := by
  cases h : kindOfN s with
  | none => simp
  | some k => have := kindFrom_le h; simp [kindNames] at this; simp; omega
theorem kindS_named {T : List Nat} {k i : Nat} {M : MM} {fs : List (List Nat × Nat)} {b : ByteArray} {a : Nat} {v : Value} (h1 : ¬ ((absM M fs).q.t = 97 ∧ (kindOfN (wordQ T (absM M fs).q)).isSome = true))
    (h2 : nameQ T true (absM M fs).q = (some (nats b, a), (absM (nameM M) fs).q)) : kindS T k i (absM M fs) = (some 13, absM (useM (nameM M) v ⟨a, k, i, b⟩) fs) := by
  unfold kindS
  rw [if_neg h1, h2]
  simp only
  have e : absM (useM (nameM M) v ⟨a, k, i, b⟩) fs = { absM (nameM M) fs with uses := (absM (nameM M) fs).uses ++ [(a, k, i, nats b)] } := by
    simp [absM, useM, uOf, qOf]
  rw [e, abs_nameM]

set_option maxRecDepth 100000 in
set_option maxHeartbeats 4000000 in
theorem typ_any (P k i : Nat) (T : List Nat) (w0 w : World) (M : MM) (fs : List (List Nat × Nat)) (hS : Hid (Std P T w0 w M)) (hk : k ≤ 2000) (hi : i ≤ 2000) :
    Calls Fadg.prog 149 #[.pointer (some ⟨P, 0, none⟩), .int .i64 (k : Int), .int .i64 (i : Int)] w (TypPost P T w0 M fs (typS T k i (absM M fs))) := by
  have c1 := hS.out.m.p.cells.2.1
  have hS1 := hid (hS.out.grow ((Below.refl w.heap.size w).alloc (Nat.le_refl _) (.cells #[.int .u8 0, .int .u8 0, .int .u8 0, .int .u8 0] 194)))
  have d1 := hS1.out.m.p.cells.2.1
  have hT1 : Hid (TStd P T w0 w.heap.size (w.alloc (.cells #[.int .u8 0, .int .u8 0, .int .u8 0, .int .u8 0] 194)) M) := by
    refine ⟨hS1.out, hS.out.m.lt, by simp, fun j hj => ?_, fun j => by simp, fun r hr e => ?_⟩
    · match j, hj with
      | 0, _ => exact ⟨0, by simp⟩
      | 1, _ => exact ⟨0, by simp⟩
      | 2, _ => exact ⟨0, by simp⟩
      | 3, _ => exact ⟨0, by simp⟩
      | j + 4, h => omega
    · have := (Row.ok.lt (hS.out.m.sep.1 r hr) e).2
      omega
  go_enter Fadg.func149, Fadg.ntmps149
  go_wp2
  generalize w.heap.size = R at *
  clear d1 hS1
  go_loopg [9] (1025 - M.p.at_) (fun gk n wr => ∃ (m f : Nat) (M1 : MM), n = .int .i64 (m : Int) ∧ m ≤ 1024 ∧ Hid (m ≤ M1.p.at_ ∧ T.length < M1.p.at_ + f ∧ gk = 1025 - M1.p.at_) ∧ Hid (TStd P T w0 R wr M1) ∧ Hid (listsS T f m (absM M1 fs) = listsS T (T.length + 1) 0 (absM M fs)) ∧ Hid (M1.ss = M.ss ∧ M1.p.sv = M.p.sv))
  case atStart => exact ⟨0, T.length + 1, M, rfl, Nat.zero_le _, ⟨Nat.zero_le _, by omega, rfl⟩, hT1, rfl, rfl, rfl⟩
  case round =>
    obtain ⟨m, f, M1, rfl, hm, hfu, hT, hli, hsame⟩ := hrel
    obtain ⟨b, hb⟩ : ∃ b, b = M1.p.tx.extract M1.p.at_ M1.p.en := ⟨_, rfl⟩
    have HW : Hid (∀ wx, Std P T w0 wx M1 → Calls Fadg.prog 70 #[.pointer (some ⟨P, 0, none⟩)] wx fun e w' => e = .returned (.string b) ∧ ∃ q, w' = wx.drewN q) := fun wx hx => by rw [hb]; exact word_std hx
    have HB : Hid (wordQ T (absM M1 fs).q = nats b) := by rw [hb]; exact abs_word hT.out.s fs
    have hlit := hid (str_lit b [76, 105, 115, 116])
    have hwf := hid hT.out.s.wf
    have hlen := hid hT.out.s.len
    have c3 := hT.out.s.m.p.cells.2.2.2.1
    clear hb
    obtain ⟨f, rfl⟩ : ∃ g, f = g + 1 := ⟨f - 1, by have := hfu.out; have := hwf.out.ae; have := hwf.out.en; have := hlen.out; omega⟩
    by_cases hA : M1.p.tok = 97 ∧ (b.toList == [76, 105, 115, 116]) = true
    · obtain ⟨ht, hq⟩ := hA
      have ht' : ((M1.p.tok : Int) == 97) = true := by simp [ht]
      have hst : Hid (listsS T (f + 1) m (absM M1 fs) = bnd (onQ (expectQ T 40)) (fun _ => listsS T f (m + 1)) (absM { M1 with p := nextP M1.p } fs)) := by
        have hw : wordQ T (absM M1 fs).q = LIST := by
          rw [HB.out]; have h := hlit.out; rw [hq] at h; exact beq_iff_eq.1 h.symm
        show _ = _
        rw [listsS_yes (σ := absM M1 fs) ht hw, absM_next, hT.out.s.tx]
      have hadv := hid (hwf.out.tok (by omega))
      clear ht
      have HN := hid (fun q => next_std (hT.out.s.drew q))
      by_cases h40 : (nextP M1.p).tok = 40
      · have HE : Hid (∀ wx, Std P T w0 wx { M1 with p := nextP M1.p } → Calls Fadg.prog 112 #[.pointer (some ⟨P, 0, none⟩), .int .u8 40] wx fun e w' => e = .returned (.bool true) ∧ Std P T w0 w' (expM 40 { M1 with p := nextP M1.p }) ∧ Only P wx w') := fun wx hx => (expect_std hx 40 40 rfl).mono fun e w' ⟨he, h1, h2⟩ => ⟨by rw [he]; simp [h40], h1, h2⟩
        go_wp2_with (first | (go_at_call 70; go_must (refine (HW.out _ hT.out.s).mono ?_; rintro e w' ⟨rfl, q, hq'⟩; subst hq')) | (go_at_call 69; go_must (refine (HN.out _).mono ?_; rintro e w1 ⟨rfl, hs1, ho1⟩)) | (go_at_call 112; go_must (refine (HE.out _ hs1).mono ?_; rintro e w2 ⟨rfl, hs2, ho2⟩)))
        have hT2 := hid (((hT.out.drew _).only hs1 ho1 rfl).only hs2 ho2 (rows_exp _ _))
        have hat : Hid (M1.p.at_ + 1 ≤ (nextP M1.p).at_ ∧ (nextP M1.p).at_ + 1 ≤ (expM 40 { M1 with p := nextP M1.p }).p.at_) := by
          have h1 := (nextP_le hwf.out.en).2.2
          have h2 := hs1.wf.tok (by show (nextP M1.p).tok ≠ 0; omega)
          have h3 := (nextP_le hs1.wf.en).2.2
          have h4 := hadv.out
          have e : (expM 40 { M1 with p := nextP M1.p }).p = nextP (nextP M1.p) := by unfold expM; simp only [if_pos h40]
          rw [e]
          exact ⟨by omega, Nat.lt_of_lt_of_le h2 h3⟩
        have hle : Hid ((expM 40 { M1 with p := nextP M1.p }).p.at_ ≤ 1024) := Nat.le_trans hs2.wf.ae (Nat.le_trans hs2.wf.en hs2.wf.sz)
        go_roundg (1025 - (expM 40 { M1 with p := nextP M1.p }).p.at_)
        case measure => have := hfu.out; have := hat.out; have := hle.out; omega
        case rel =>
          refine ⟨m + 1, f, _, by go_num, by have := hfu.out; have := hat.out; have := hle.out; omega, ⟨by have := hfu.out; have := hat.out; omega, by have := hfu.out; have := hat.out; omega, rfl⟩, hT2, ?_, ?_⟩
          · show _ = _
            rw [← hli.out, hst.out, bnd, abs_exp hs1, if_pos h40]
          · exact ⟨(expM_ss 40 _).1.trans hsame.out.1, (expM_ss 40 _).2.1.trans hsame.out.2⟩
      · have HE : Hid (∀ wx, Std P T w0 wx { M1 with p := nextP M1.p } → Calls Fadg.prog 112 #[.pointer (some ⟨P, 0, none⟩), .int .u8 40] wx fun e w' => e = .returned (.bool false) ∧ Std P T w0 w' (expM 40 { M1 with p := nextP M1.p }) ∧ Only P wx w') := fun wx hx => (expect_std hx 40 40 rfl).mono fun e w' ⟨he, h1, h2⟩ => ⟨by rw [he]; simp [h40], h1, h2⟩
        go_wp2_with (first | (go_at_call 70; go_must (refine (HW.out _ hT.out.s).mono ?_; rintro e w' ⟨rfl, q, hq'⟩; subst hq')) | (go_at_call 69; go_must (refine (HN.out _).mono ?_; rintro e w1 ⟨rfl, hs1, ho1⟩)) | (go_at_call 112; go_must (refine (HE.out _ hs1).mono ?_; rintro e w2 ⟨rfl, hs2, ho2⟩); have hT2 := hid (((hT.out.drew _).only hs1 ho1 rfl).only hs2 ho2 (rows_exp _ _)); obtain ⟨v0, k0⟩ := hT2.out.cell 0 (by decide); obtain ⟨v1, k1⟩ := hT2.out.cell 1 (by decide); obtain ⟨v2, k2⟩ := hT2.out.cell 2 (by decide); obtain ⟨v3, k3⟩ := hT2.out.cell 3 (by decide); have f0 := hT2.out.fr 0; have f1 := hT2.out.fr 1; have f2 := hT2.out.fr 2; have f3 := hT2.out.fr 3))
        refine bodyPost_ret (v := .tuple #[.agg #[.int .u8 0, .int .u8 0, .int .u8 0, .int .u8 0], .bool false]) (by simp [results, Fadg.results149, go_sem, k0, k1, k2, k3]) rfl ?_
        have hT3 := (((hT2.out.put 0 0 (by decide)).put 1 0 (by decide)).put 2 0 (by decide)).put 3 0 (by decide)
        have hp : listsS T (T.length + 1) 0 (absM M fs) = (none, absM (expM 40 { M1 with p := nextP M1.p }) fs) := by
          rw [← hli.out, hst.out, bnd, abs_exp hs1, if_neg h40]
        rw [typS_stop hp]
        exact ⟨_, hT3.s, rfl, (expM_ss 40 _).1.trans hsame.out.1, (expM_ss 40 _).2.1.trans hsame.out.2, expM_no h40, rfl⟩
    · have hexit : Hid (listsS T (T.length + 1) 0 (absM M fs) = (some m, absM M1 fs)) := by
        show _ = _
        rw [← hli.out]
        refine listsS_no fun h => hA ⟨h.1, ?_⟩
        rw [hlit.out, ← HB.out, h.2]; rfl
      have hK := hid (kindOf_any b)
      by_cases ht : M1.p.tok = 97
      · have hq : (b.toList == [76, 105, 115, 116]) = false := by
          cases h : (b.toList == [76, 105, 115, 116]) with
          | true => exact absurd ⟨ht, h⟩ hA
          | false => rfl
        have ht' : ((M1.p.tok : Int) == 97) = true := by simp [ht]
        have HT97 := hid ht
        clear hA ht
        go_upto_region 9 with (first | (go_at_call 70; go_must (refine (HW.out _ (by first | exact hT.out.s | exact hT.out.s.drew _)).mono ?_; rintro e w' ⟨rfl, q, hq'⟩; subst hq')) | (go_at_call 147; go_must (refine (hK.out _).mono ?_; rintro e w' ⟨rfl, hq'⟩; subst hq')))
        go_cut [11, 12, 51] (fun k11 c12 c wx => k11 = .int .u8 (((kindOfN (nats b)).getD 0 : Nat) : Int) ∧ c12 = .bool (kindOfN (nats b)).isSome ∧ c = .bool (kindOfN (nats b)).isSome ∧ Hid (TStd P T w0 R wx M1))
        case first =>
          cases hko : (kindOfN (nats b)).isSome <;> (go_wp2; go_meet; exact ⟨rfl, by rw [hko], by rw [hko], hT.out.drew _⟩)
        case rest =>
          obtain ⟨rfl, rfl, rfl, hTc⟩ := hcut
          go_upto_if 51 with fail
          go_cut [10, 12] (fun k10 c12 wx => ∃ (kd : Nat) (M2 : MM), k10 = .int .u8 (kd : Int) ∧ kd ≤ 13 ∧ Hid (TStd P T w0 R wx M2) ∧ Hid (kindS T k i (absM M1 fs) = (some kd, absM M2 fs)) ∧ Hid (M2.ss = M.ss ∧ M2.p.sv = M.p.sv))
          case first =>
            cases hko : (kindOfN (nats b)).isSome with
            | true =>
              have HN := hid (next_std hTc.out.s)
              have hks : Hid (kindS T k i (absM M1 fs) = (some ((kindOfN (nats b)).getD 0), absM { M1 with p := nextP M1.p } fs)) := by
                show _ = _
                unfold kindS
                rw [HB.out, if_pos ⟨HT97.out, hko⟩, absM_next, hT.out.s.tx]
              go_wp2_with (first | (go_at_call 69; go_must (refine HN.out.mono ?_; rintro e w1 ⟨rfl, hs1, ho1⟩)))
              go_meet
              exact ⟨_, _, rfl, kindOfN_le _, hTc.out.only hs1 ho1 rfl, hks, hsame⟩
            | false =>
              cases hno : nameOk M1.p true with
              | false =>
                have HM := hid (name_std_no hTc.out.s true hno)
                have hks : Hid (kindS T k i (absM M1 fs) = (none, absM { M1 with p := failP M1.p M1.p.at_ 1 } fs)) := by
                  show _ = _
                  unfold kindS
                  rw [HB.out, if_neg (by rw [hko]; simp), abs_name_no hT.out.s true fs hno]
                  rw [absM_fail]
                clear hno
                go_wp2_with (first | (go_at_call 113; go_must (refine HM.out.mono ?_; rintro e w1 ⟨rfl, hs1, ho1⟩); have hT2 := hid (hTc.out.only hs1 ho1 (rows_fail _ _ _)); obtain ⟨v0, k0⟩ := hT2.out.cell 0 (by decide); obtain ⟨v1, k1⟩ := hT2.out.cell 1 (by decide); obtain ⟨v2, k2⟩ := hT2.out.cell 2 (by decide); obtain ⟨v3, k3⟩ := hT2.out.cell 3 (by decide); have f0 := hT2.out.fr 0; have f1 := hT2.out.fr 1; have f2 := hT2.out.fr 2; have f3 := hT2.out.fr 3))
                refine bodyPost_ret (v := .tuple #[.agg #[.int .u8 0, .int .u8 0, .int .u8 0, .int .u8 0], .bool false]) (by simp [results, Fadg.results149, go_sem, k0, k1, k2, k3]) rfl ?_
                have hT3 := (((hT2.out.put 0 0 (by decide)).put 1 0 (by decide)).put 2 0 (by decide)).put 3 0 (by decide)
                rw [typS_stop2 hexit.out hks.out]
                exact ⟨_, hT3.s, rfl, hsame.out.1, ((failP_sv _ _ _).1).trans hsame.out.2, failP_code _ _ _ (by decide), rfl⟩
              | true =>
                have HM := hid (name_std_yes hTc.out.s true hno)
                obtain ⟨i6, hi6, hz0, hz1, hz2⟩ := info_parts Fadg.info192
                have hks := hid (fun v => kindS_named (T := T) (k := k) (i := i) (M := M1) (fs := fs) (b := M1.p.tx.extract M1.p.at_ M1.p.en) (a := M1.p.at_) (v := v) (by rw [HB.out, hko]; simp) (abs_name_yes hT.out.s true fs hno))
                have hub : Hid ((nameM M1).us.length + 1 ≤ (nameM M1).p.at_ ∧ (nameM M1).us.length ≤ 1024) := by
                  have h1 := hwf.out.tok (by rw [HT97.out]; decide)
                  have h2 := hwf.out.us
                  have h3 := (nextP_le hwf.out.en).2.2
                  have h4 := hwf.out.en
                  have h5 := hwf.out.sz
                  have e : (nameM M1).p.at_ = (nextP M1.p).at_ := by
                    unfold nameM nameP; simp only; split
                    · rw [(failP_sv (nextP M1.p) M1.p.at_ 2).2.2.2.1]
                    · rfl
                  rw [e]
                  exact ⟨by show M1.us.length + 1 ≤ _; omega, by show M1.us.length ≤ _; omega⟩
                clear hno
                go_wp2_with (first | (go_at_call 113; go_must (refine HM.out.mono ?_; rintro e w1 ⟨rfl, hs1, ho1⟩); have hT2 := hid (hTc.out.only hs1 ho1 (rows_name _)); have k23 := hT2.out.s.m.p.cells.2.2.2.2.2.2.2; have g23 := hT2.out.s.m.p.2 23; have hT4 := hid (hT2.out.alloc (.cells #[.int .i64 (M1.p.at_ : Int), .int .i64 (k : Int), .int .i64 (i : Int), .string (M1.p.tx.extract M1.p.at_ M1.p.en)] 192)); have k23' := hT4.out.s.m.p.cells.2.2.2.2.2.2.2) | (at_builtin; go_must (refine wpList_append_sep (B := P + 1) _ rfl (.tmp 68) (.tmp 74) 135 rfl 192 i6 _ 4 40 Fadg.underlying135 hi6 hz0 hz1 hz2 rfl (by decide) (nameM M1).p.uv (nameM M1).us.length ((nameM M1).us.flatMap uc) rfl (hT4.out.s.m.sep.1 (rU (nameM M1)) (by simp [rows])) ⟨_, 0, none⟩ 1 1 (uc ⟨M1.p.at_, k, i, M1.p.tx.extract M1.p.at_ M1.p.en⟩) rfl rfl (four_new' _ _ _ _ _ _ _ (by simp)) (uc_one _) (by have := hub.out.2; omega) (by decide) (Nat.succ_le_of_lt hT4.out.s.m.lt) ?_); intro ao n' cap w3 hn' hown3 hg3 hnew3; have hT5 := hid (hT4.out.used hn'.out hown3 hg3 hnew3 hub.out.1); have hpp := hid (hT4.out.s.grownU hg3); have k23'' := hpp.out.cells.2.2.2.2.2.2.2; have g23'' := hpp.out.2 23))
                go_meet
                exact ⟨13, _, rfl, by decide, hT5, hks.out _, hsame.out.1, (nameM_sv _).trans hsame.out.2⟩
          case rest =>
            obtain ⟨kd, M2, rfl, hkd, hT2, hks, hsame2⟩ := hcut
            have htl := hid (typS_tail hexit.out hks.out)
            have ha0 : (absM M fs).q.a = M.p.at_ := rfl
            have HA0 := hid ha0
            clear ha0
            go_upto_region 16 with fail
            go_cut [87] (fun c wx => c = .bool (decide (2 < m ∨ (0 < m ∧ kd = 0))) ∧ Hid (TStd P T w0 R wx M2))
            case first =>
              by_cases h2 : 2 < m
              · have h2' : (2 : Int) < (m : Int) := by omega
                go_wp2
                go_meet
                exact ⟨by simp [h2], hT2⟩
              · have h2' : ¬ (2 : Int) < (m : Int) := by omega
                by_cases h0 : 0 < m
                · have h0' : (0 : Int) < (m : Int) := by omega
                  by_cases hk0 : kd = 0
                  · have hk0' : ((kd : Int) == 0) = true := by simp [hk0]
                    have HK0 := hid hk0
                    clear hk0
                    go_wp2
                    go_meet
                    exact ⟨by simp [HK0.out, h0], hT2⟩
                  · have hk0' : ((kd : Int) == 0) = false := by simp; omega
                    go_wp2
                    go_meet
                    exact ⟨by simp [h2, hk0], hT2⟩
                · have h0' : ¬ (0 : Int) < (m : Int) := by omega
                  go_wp2
                  go_meet
                  exact ⟨by simp [h2, h0], hT2⟩
            case rest =>
              clear hT2
              obtain ⟨rfl, hT2⟩ := hcut
              go_upto_if 87 with fail
              go_cut [] (fun wx => ∃ M3, Hid (TStd P T w0 R wx M3) ∧ Hid (badS m kd M.p.at_ (absM M2 fs) = absM M3 fs) ∧ Hid (M3.ss = M.ss ∧ M3.p.sv = M.p.sv))
              case first =>
                by_cases hbad : 2 < m ∨ (0 < m ∧ kd = 0)
                · have hb' : decide (2 < m ∨ (0 < m ∧ kd = 0)) = true := by simpa using hbad
                  have HF := hid (fail_std hT2.out.s M.p.at_ 6 (M.p.at_ : Int) 6 rfl rfl)
                  have HBD := hid hbad
                  clear hbad
                  go_wp2_with (first | (go_at_call 111; go_must (refine HF.out.mono ?_; rintro e w1 ⟨rfl, hs1, ho1⟩)))
                  go_meet
                  exact ⟨_, hT2.out.only hs1 ho1 (rows_fail _ _ _), by show _ = _; rw [badS, if_pos HBD.out, absM_fail], hsame2.out.1, ((failP_sv _ _ _).1).trans hsame2.out.2⟩
                · have hb' : decide (2 < m ∨ (0 < m ∧ kd = 0)) = false := by simpa using hbad
                  have HBD := hid hbad
                  clear hbad
                  go_wp2
                  go_meet
                  exact ⟨_, hT2, by show _ = _; rw [badS, if_neg HBD.out], hsame2⟩
              case rest =>
                obtain ⟨M3, hT3, hbd, hsame3⟩ := hcut
                go_wp2_with fail
                go_loopg [92] m (fun gk j wr => ∃ (j' : Nat) (M4 : MM), j = .int .i64 (j' : Int) ∧ j' + gk = m ∧ Hid (TStd P T w0 R wr M4) ∧ Hid (closeS T gk (absM M4 fs) = closeS T m (absM M3 fs)) ∧ Hid (M4.ss = M.ss ∧ M4.p.sv = M.p.sv))
                case atStart => exact ⟨0, M3, rfl, by omega, hT3, rfl, hsame3⟩
                case round =>
                  obtain ⟨j, M4, rfl, hj, hT4, hcl, hsame4⟩ := hrel
                  by_cases hlt : j < m
                  · have hlt' : (j : Int) < (m : Int) := by omega
                    obtain ⟨g, rfl⟩ : ∃ g, gk = g + 1 := ⟨gk - 1, by omega⟩
                    by_cases h41 : M4.p.tok = 41
                    · have HE : Hid (∀ wx, Std P T w0 wx M4 → Calls Fadg.prog 112 #[.pointer (some ⟨P, 0, none⟩), .int .u8 41] wx fun e w' => e = .returned (.bool true) ∧ Std P T w0 w' (expM 41 M4) ∧ Only P wx w') := fun wx hx => (expect_std hx 41 41 rfl).mono fun e w' ⟨he, h1, h2⟩ => ⟨by rw [he]; simp [h41], h1, h2⟩
                      go_wp2_with (first | (go_at_call 112; go_must (refine (HE.out _ hT4.out.s).mono ?_; rintro e w2 ⟨rfl, hs2, ho2⟩)))
                      go_roundg g
                      case measure => omega
                      case rel =>
                        refine ⟨j + 1, expM 41 M4, by go_num, by omega, hT4.out.only hs2 ho2 (rows_exp _ _), ?_, (expM_ss 41 _).1.trans hsame4.out.1, (expM_ss 41 _).2.1.trans hsame4.out.2⟩
                        show _ = _
                        rw [← hcl.out, closeS, bnd, abs_exp hT4.out.s, if_pos h41]
                    · have HE : Hid (∀ wx, Std P T w0 wx M4 → Calls Fadg.prog 112 #[.pointer (some ⟨P, 0, none⟩), .int .u8 41] wx fun e w' => e = .returned (.bool false) ∧ Std P T w0 w' (expM 41 M4) ∧ Only P wx w') := fun wx hx => (expect_std hx 41 41 rfl).mono fun e w' ⟨he, h1, h2⟩ => ⟨by rw [he]; simp [h41], h1, h2⟩
                      go_wp2_with (first | (go_at_call 112; go_must (refine (HE.out _ hT4.out.s).mono ?_; rintro e w2 ⟨rfl, hs2, ho2⟩); have hT5 := hid (hT4.out.only hs2 ho2 (rows_exp _ _)); obtain ⟨v0, k0⟩ := hT5.out.cell 0 (by decide); obtain ⟨v1, k1⟩ := hT5.out.cell 1 (by decide); obtain ⟨v2, k2⟩ := hT5.out.cell 2 (by decide); obtain ⟨v3, k3⟩ := hT5.out.cell 3 (by decide); have f0 := hT5.out.fr 0; have f1 := hT5.out.fr 1; have f2 := hT5.out.fr 2; have f3 := hT5.out.fr 3))
                      refine bodyPost_ret (v := .tuple #[.agg #[.int .u8 0, .int .u8 0, .int .u8 0, .int .u8 0], .bool false]) (by simp [results, Fadg.results149, go_sem, k0, k1, k2, k3]) rfl ?_
                      have hT6 := (((hT5.out.put 0 0 (by decide)).put 1 0 (by decide)).put 2 0 (by decide)).put 3 0 (by decide)
                      have hp : typS T k i (absM M fs) = (none, absM (expM 41 M4) fs) := by
                        rw [htl.out, tailS, HA0.out, hbd.out, bnd, ← hcl.out, closeS, bnd, abs_exp hT4.out.s, if_neg h41]
                      rw [hp]
                      exact ⟨_, hT6.s, rfl, (expM_ss 41 _).1.trans hsame4.out.1, (expM_ss 41 _).2.1.trans hsame4.out.2, expM_no h41, rfl⟩
                  · have hlt' : ¬ (j : Int) < (m : Int) := by omega
                    obtain rfl : gk = 0 := by omega
                    obtain ⟨v0, k0⟩ := hT4.out.cell 0 (by decide)
                    obtain ⟨v1, k1⟩ := hT4.out.cell 1 (by decide)
                    obtain ⟨v2, k2⟩ := hT4.out.cell 2 (by decide)
                    obtain ⟨v3, k3⟩ := hT4.out.cell 3 (by decide)
                    have f0 := hT4.out.fr 0
                    have f1 := hT4.out.fr 1
                    have f2 := hT4.out.fr 2
                    have f3 := hT4.out.fr 3
                    have hp : Hid (typS T k i (absM M fs) = (some (if m = 0 then kd else 12), absM M4 fs)) := by
                      show _ = _
                      rw [htl.out, tailS, HA0.out, hbd.out, bnd, ← hcl.out, closeS]
                    by_cases hm0 : m = 0
                    · have hm0' : ((m : Int) == 0) = true := by simp [hm0]
                      have HM0 := hid hm0
                      clear hm0
                      go_wp2
                      refine bodyPost_ret (v := .tuple #[.agg #[.int .u8 (kd : Int), .int .u8 0, .int .u8 0, .int .u8 0], .bool true]) (by simp [results, Fadg.results149, go_sem, k0, k1, k2, k3]) rfl ?_
                      have hT6 := (((hT4.out.put 0 (kd : Int) (by decide)).put 1 0 (by decide)).put 2 0 (by decide)).put 3 0 (by decide)
                      rw [hp.out, if_pos HM0.out]
                      exact ⟨_, hT6.s, rfl, hsame4.out.1, hsame4.out.2, _, _, _, rfl⟩
                    · have hm0' : ((m : Int) == 0) = false := by simp; omega
                      have HM0 := hid hm0
                      clear hm0
                      by_cases hm2 : (m : Int) ≤ 2
                      · go_wp2
                        refine bodyPost_ret (v := .tuple #[.agg #[.int .u8 12, .int .u8 (kd : Int), .int .u8 0, .int .u8 (m : Int)], .bool true]) (by simp [results, Fadg.results149, go_sem, k0, k1, k2, k3]) rfl ?_
                        have hT6 := (((hT4.out.put 0 12 (by decide)).put 1 (kd : Int) (by decide)).put 2 0 (by decide)).put 3 (m : Int) (by decide)
                        rw [hp.out, if_neg HM0.out]
                        exact ⟨_, hT6.s, rfl, hsame4.out.1, hsame4.out.2, _, _, _, rfl⟩
                      · go_wp2
                        refine bodyPost_ret (v := .tuple #[.agg #[.int .u8 12, .int .u8 (kd : Int), .int .u8 0, .int .u8 2], .bool true]) (by simp [results, Fadg.results149, go_sem, k0, k1, k2, k3]) rfl ?_
                        have hT6 := (((hT4.out.put 0 12 (by decide)).put 1 (kd : Int) (by decide)).put 2 0 (by decide)).put 3 2 (by decide)
                        rw [hp.out, if_neg HM0.out]
                        exact ⟨_, hT6.s, rfl, hsame4.out.1, hsame4.out.2, _, _, _, rfl⟩
      · have ht' : ((M1.p.tok : Int) == 97) = false := by simp; omega
        have hno : nameOk M1.p true = false := by simp [nameOk, ht]
        have HM := hid (fun q => name_std_no (hT.out.s.drew q) true hno)
        have hks : Hid (kindS T k i (absM M1 fs) = (none, absM { M1 with p := failP M1.p M1.p.at_ 1 } fs)) := by
          show _ = _
          unfold kindS
          rw [if_neg (fun h => ht h.1), abs_name_no hT.out.s true fs hno]
          rw [absM_fail]
        clear hno ht hA
        go_upto_region 9 with (first | (go_at_call 70; go_must (refine (HW.out _ (by first | exact hT.out.s | exact hT.out.s.drew _)).mono ?_; rintro e w' ⟨rfl, q, hq'⟩; subst hq')) | (go_at_call 147; go_must (refine (hK.out _).mono ?_; rintro e w' ⟨rfl, hq'⟩; subst hq')))
        go_cut [11, 12, 51] (fun k11 c12 c wx => c = .bool false ∧ Hid (∃ q, wx = wr.drewN q))
        case first =>
          cases hko : (kindOfN (nats b)).isSome <;> (go_wp2; go_meet; exact ⟨rfl, _, rfl⟩)
        case rest =>
          obtain ⟨rfl, hq⟩ := hcut
          obtain ⟨q, rfl⟩ := hq.out
          go_wp2_with (first | (go_at_call 113; go_must (refine (HM.out _).mono ?_; rintro e w1 ⟨rfl, hs1, ho1⟩); have hT2 := hid ((hT.out.drew _).only hs1 ho1 (rows_fail _ _ _)); obtain ⟨v0, k0⟩ := hT2.out.cell 0 (by decide); obtain ⟨v1, k1⟩ := hT2.out.cell 1 (by decide); obtain ⟨v2, k2⟩ := hT2.out.cell 2 (by decide); obtain ⟨v3, k3⟩ := hT2.out.cell 3 (by decide); have f0 := hT2.out.fr 0; have f1 := hT2.out.fr 1; have f2 := hT2.out.fr 2; have f3 := hT2.out.fr 3))
          refine bodyPost_ret (v := .tuple #[.agg #[.int .u8 0, .int .u8 0, .int .u8 0, .int .u8 0], .bool false]) (by simp [results, Fadg.results149, go_sem, k0, k1, k2, k3]) rfl ?_
          have hT3 := (((hT2.out.put 0 0 (by decide)).put 1 0 (by decide)).put 2 0 (by decide)).put 3 0 (by decide)
          rw [typS_stop2 hexit.out hks.out]
          exact ⟨_, hT3.s, rfl, hsame.out.1, ((failP_sv _ _ _).1).trans hsame.out.2, failP_code _ _ _ (by decide), rfl⟩
end Go.Proofs.Ygcfad
