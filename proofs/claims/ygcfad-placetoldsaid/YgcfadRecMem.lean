/-
  PACKAGE rec's PARSER IN MEMORY: its block, the arrays of structs, uses, numbers and fields; other rows beside them.
-/
import Derived.Test.YgcfadRecNames
import Derived.Test.YgcfadSep
import Derived.Test.YgcfadSchemaMem2
namespace Go.Proofs.Ygcfad
open Go.RowKit Plain
set_option linter.unusedSimpArgs false
set_option linter.unusedVariables false

/-- A field: its name, its type's four numbers, its place's, its default, is it the union's. -/
structure RF where
  b : ByteArray
  k : Nat
  e : Nat
  r : Nat
  ns : Int
  q1 : Int
  q2 : Int
  q3 : Int
  q4 : Bool
  d : Int
  u : Bool
def gc (f : RF) : List Value := [.string f.b, .int .u8 (f.k : Int), .int .u8 (f.e : Int), .int .u8 (f.r : Int), .int .u8 f.ns, .int .u8 f.q1, .int .u16 f.q2, .int .u8 f.q3, .bool f.q4, .int .u64 f.d, .bool f.u]
theorem gc_len (x : RF) : (gc x).length = 11 := rfl
/-- A struct: its name, its fields' slice, the place of its tag, two counts. -/
structure SR where
  b : ByteArray
  fv : Value
  g1 : Int
  g2 : Int
  g3 : Int
  g4 : Bool
  d : Int
  p : Int
  fl : List RF
def hc (s : SR) : List Value := [.string s.b, s.fv, .int .u8 s.g1, .int .u16 s.g2, .int .u8 s.g3, .bool s.g4, .int .u8 s.d, .int .u8 s.p]
theorem hc_len (x : SR) : (hc x).length = 8 := rfl
structure UR where
  a : Nat
  b : ByteArray
def vc (u : UR) : List Value := [.int .i64 (u.a : Int), .string u.b]
theorem vc_len (x : UR) : (vc x).length = 2 := rfl
def nc (n : Nat) : List Value := [.int .i64 (n : Int)]
theorem nc_len (x : Nat) : (nc x).length = 1 := rfl
structure RM where
  p : RS
  ss : List SR
  us : List UR
  ns : List Nat

def qS (M : RM) : Row := ⟨M.p.sv, 204, 8, M.ss.length, M.ss.flatMap hc⟩
def qU (M : RM) : Row := ⟨M.p.uv, 209, 2, M.us.length, M.us.flatMap vc⟩
def qN (M : RM) : Row := ⟨M.p.nv, 3, 1, M.ns.length, M.ns.flatMap nc⟩
def qF (m : SR) : Row := ⟨m.fv, 212, 11, m.fl.length, m.fl.flatMap gc⟩
def qrows (M : RM) (rs : List Row) : List Row := qS M :: qU M :: qN M :: (M.ss.map qF ++ rs)
structure RWF (M : RM) : Prop where
  ae : M.p.at_ ≤ M.p.en
  en : M.p.en ≤ M.p.tx.size
  sz : M.p.tx.size ≤ 4096
  us : M.us.length ≤ M.p.at_
  ss : M.ss.length ≤ 4
  ns : M.ns.length ≤ 16
  c0 : M.p.code = 0
/-- The parser stands, no error noted; its text is T; no block below it has turned since w0; rs: rows of others. -/
structure RStd (P : Nat) (T : List Nat) (w0 w : World) (M : RM) (rs : List Row) : Prop where
  p : RAt P w M.p
  lt : P < w.heap.size
  sep : Sep (P + 1) w (qrows M rs)
  wf : RWF M
  tx : nats M.p.tx = T
  bel : Below P w0 w
/-- An error is noted. -/
def RFail (P : Nat) (w0 : World) (x : Nat × Nat) (w' : World) : Prop := ∃ p' : RS, RAt P w' p' ∧ p'.code = x.2 ∧ p'.whr = x.1 ∧ Below P w0 w'

def vOf (u : UR) : Nat × List Nat := (u.a, nats u.b)
def gf (f : RF) : FR := ⟨nats f.b, f.k, f.u⟩
def absR (M : RM) (fs : List RF) : RSt := ⟨M.p.at_, M.p.en, M.ss.map (fun m => nats m.b), M.us.map vOf, M.ns, fs.map gf⟩
def nextM (M : RM) : RM := { M with p := nextRP M.p }
theorem nextR_le {T : List Nat} {en : Nat} (h : en ≤ T.length) : en ≤ (nextR T en).1 ∧ (nextR T en).1 ≤ (nextR T en).2 ∧ (nextR T en).2 ≤ T.length := by
  have h1 := atN_le h
  have h2 := spanN_le alnumN (T.drop (atN T en + 1))
  simp only [List.length_drop] at h2
  unfold nextR
  split
  · exact ⟨h1.1, Nat.le_refl _, h1.2⟩
  · split <;> (dsimp only; omega)
theorem RWF.next {M : RM} (h : RWF M) : RWF (nextM M) := by
  have := nextR_le (T := nats M.p.tx) (en := M.p.en) (by rw [nats_length]; exact h.en)
  rw [nats_length] at this
  exact ⟨this.2.1, this.2.2, h.sz, Nat.le_trans h.us (Nat.le_trans h.ae this.1), h.ss, h.ns, h.c0⟩

section
variable {P : Nat} {T : List Nat} {w0 w w' : World} {M : RM} {rs : List Row}
theorem RStd.next (h : RStd P T w0 w M rs) (hp : RAt P w' (nextRP M.p)) (ho : Only P w w') : RStd P T w0 w' (nextM M) rs :=
  ⟨hp, by rw [ho.size]; exact h.lt, h.sep.only (Nat.lt_succ_self P) ho, h.wf.next, h.tx, h.bel.trans ho.below⟩
theorem RStd.drew (h : RStd P T w0 w M rs) (q : Nat) : RStd P T w0 (w.drewN q) M rs := ⟨h.p.drew, h.lt, h.sep.drew q, h.wf, h.tx, below_drewN h.bel q⟩
theorem RStd.drew1 (h : RStd P T w0 w M rs) : RStd P T w0 w.drew M rs := h.drew 1
theorem RStd.grow (h : RStd P T w0 w M rs) (hb : Below w.heap.size w w') : RStd P T w0 w' M rs :=
  ⟨h.p.same (hb.block P h.lt), Nat.lt_of_lt_of_le h.lt hb.size, h.sep.below hb, h.wf, h.tx, h.bel.trans (hb.mono (Nat.le_of_lt h.lt))⟩
theorem RStd.alloc (h : RStd P T w0 w M rs) (o : Obj) : RStd P T w0 (w.alloc o) M rs := h.grow ((Below.refl _ _).alloc (Nat.le_refl _) _)
theorem RStd.len (h : RStd P T w0 w M rs) : T.length = M.p.tx.size := by rw [← h.tx, nats_length]
/-- Other rows in their place. -/
theorem RStd.swap {rs' : List Row} (h : RStd P T w0 w M rs) (hs : Sep (P + 1) w (qrows M rs')) : RStd P T w0 w M rs' := ⟨h.p, h.lt, hs, h.wf, h.tx, h.bel⟩
theorem qrows_perm {rs rs' : List Row} (hp : rs.Perm rs') : (qrows M rs).Perm (qrows M rs') := (((hp.append_left _).cons _).cons _).cons _
theorem RStd.perm {rs' : List Row} (h : RStd P T w0 w M rs) (hp : rs.Perm rs') : RStd P T w0 w M rs' := h.swap (h.sep.perm (qrows_perm hp))
theorem qrows_cons (M : RM) (r : Row) (rs : List Row) : (qrows M (r :: rs)).Perm (r :: qrows M rs) := by
  unfold qrows
  have h1 : (M.ss.map qF ++ r :: rs).Perm (r :: (M.ss.map qF ++ rs)) := List.perm_middle
  exact (((h1.cons _).cons _).cons _).trans ((((List.Perm.swap _ _ _).cons _).cons _).trans (((List.Perm.swap _ _ _).cons _).trans (List.Perm.swap _ _ _)))
/-- A row less. -/
theorem RStd.less {r : Row} (h : RStd P T w0 w M (r :: rs)) : RStd P T w0 w M rs := h.swap (h.sep.perm (qrows_cons M r rs)).tail
theorem RStd.headR {r : Row} (h : RStd P T w0 w M (r :: rs)) : r.ok (P + 1) w := (h.sep.perm (qrows_cons M r rs)).head
/-- A row more, in a new block or nil. -/
theorem RStd.more {r : Row} (h : RStd P T w0 w M rs) (hb : Below w.heap.size w w') (ho : r.ok (P + 1) w') (hn : ∀ g, r.v.ownBlock = some g → w.heap.size ≤ g) : RStd P T w0 w' M (r :: rs) :=
  (h.grow hb).swap ((h.sep.more hb ho hn).perm (qrows_cons M r rs).symm)
/-- The row at the head has turned; what is written is its own block. -/
theorem RStd.turn {r r' : Row} (h : RStd P T w0 w M (r :: rs)) (hg : w.grownBy w' r.v.ownBlock) (ho : r'.ok (P + 1) w') (hn : r'.v.ownBlock = r.v.ownBlock ∨ ∀ g, r'.v.ownBlock = some g → w.heap.size ≤ g) : RStd P T w0 w' M (r' :: rs) := by
  have hs := (h.sep.perm (qrows_cons M r rs)).turn hg ho hn
  have hP : w'.heap[P]? = w.heap[P]? := hg.block P h.lt (fun e => by have := (h.headR.lt e.symm).1; omega)
  refine ⟨h.p.same hP, Nat.lt_of_lt_of_le h.lt hg.size, hs.perm (qrows_cons M r' rs).symm, h.wf, h.tx, h.bel.grown hg (Nat.le_of_lt h.lt) (fun q hq => ?_)⟩
  have := (h.headR.lt hq).1
  omega
/-- A store into the row at the head. -/
theorem RStd.store {r : Row} (h : RStd P T w0 w M (r :: rs)) {g cap : Nat} (hv : r.v = .slice (some ⟨g, 0, none⟩) r.n cap) (j : Nat) (u : Value) : RStd P T w0 (w.setCell ⟨g, j, none⟩ u) M ({ r with xs := r.xs.set j u } :: rs) := by
  have ho := h.headR
  unfold Row.ok at ho; rw [hv] at ho
  have hs := ho.stored j u
  refine h.turn (r' := { r with xs := r.xs.set j u }) ?_ ?_ (.inl rfl)
  · rw [hv]; exact hs.2
  · show World.ownsRow _ _ _ _ r.v _ _
    rw [hv]; exact hs.1
theorem RStd.okS (h : RStd P T w0 w M rs) : (qS M).ok (P + 1) w := h.sep.1 _ (by simp [qrows])
theorem RStd.okU (h : RStd P T w0 w M rs) : (qU M).ok (P + 1) w := h.sep.1 _ (by simp [qrows])
theorem RStd.okN (h : RStd P T w0 w M rs) : (qN M).ok (P + 1) w := h.sep.1 _ (by simp [qrows])
theorem RStd.okF (h : RStd P T w0 w M rs) {m : SR} (hm : m ∈ M.ss) : (qF m).ok (P + 1) w := h.sep.1 _ (by
  unfold qrows
  exact List.mem_cons_of_mem _ (List.mem_cons_of_mem _ (List.mem_cons_of_mem _ (List.mem_append_left _ (List.mem_map_of_mem hm)))))
theorem Row.ok.only {r : Row} (h : r.ok (P + 1) w) (ho : Only P w w') : r.ok (P + 1) w' := h.same fun g hg => ho.block g (by have := (h.lt hg).1; omega)
theorem RStd.failed (h : RStd P T w0 w M rs) {x c : Nat} (hp : RAt P w' { M.p with code := c, whr := x }) (ho : Only P w w') : RFail P w0 (x, c) w' := ⟨_, hp, rfl, rfl, h.bel.trans ho.below⟩
end

/-! ### The small methods, said of all that stands -/
section
variable {P : Nat} {T : List Nat} {w0 w : World} {M : RM} {rs : List Row}
theorem rnext_std (h : RStd P T w0 w M rs) : Calls Fadg.prog 73 #[.pointer (some ⟨P, 0, none⟩)] w fun e w' => e = .returned (.tuple #[]) ∧ RStd P T w0 w' (nextM M) rs ∧ Only P w w' :=
  (nextR_any P M.p w h.p (by have := h.wf.sz; omega) h.wf.en).mono fun e w' ⟨he, hp, ho⟩ => ⟨he, h.next hp ho, ho⟩
def tokM (M : RM) : ByteArray := M.p.tx.extract M.p.at_ M.p.en
theorem tok_std (h : RStd P T w0 w M rs) : Calls Fadg.prog 74 #[.pointer (some ⟨P, 0, none⟩)] w fun e w' => e = .returned (.string (tokM M)) ∧ ∃ q, w' = w.drewN q :=
  rtok_any P M.p w h.p h.wf.ae h.wf.en
theorem failAt_std (h : RStd P T w0 w M rs) (a c : Nat) (A C : Int) (hA : A = (a : Int)) (hC : C = (c : Int)) : Calls Fadg.prog 121 #[.pointer (some ⟨P, 0, none⟩), .int .i64 A, .int .u8 C] w fun e w' => e = .returned (.bool false) ∧ RFail P w0 (a, c) w' ∧ Only P w w' :=
  (failAt_any P M.p w a c A C hA hC h.p h.wf.c0).mono fun e w' ⟨he, hp, ho⟩ => ⟨he, h.failed hp ho, ho⟩
theorem rfail_std (h : RStd P T w0 w M rs) (c : Nat) (C : Int) (hC : C = (c : Int)) : Calls Fadg.prog 151 #[.pointer (some ⟨P, 0, none⟩), .int .u8 C] w fun e w' => e = .returned (.bool false) ∧ RFail P w0 (M.p.at_, c) w' ∧ Only P w w' :=
  (rfail_any P M.p w c C hC h.p h.wf.c0).mono fun e w' ⟨he, hp, ho⟩ => ⟨he, h.failed hp ho, ho⟩
theorem abs_tok (h : RStd P T w0 w M rs) (fs : List RF) : tokR T (absR M fs) = nats (tokM M) := by
  unfold tokR tokM absR; rw [nats_extract, h.tx]
theorem abs_next (h : RStd P T w0 w M rs) (fs : List RF) : absR (nextM M) fs = nextS T (absR M fs) := by
  unfold absR nextM nextS nextRP; simp only [h.tx]
theorem tokM_size (h : RStd P T w0 w M rs) : (tokM M).size ≤ 4096 := by
  unfold tokM; rw [ByteArray.size_extract]; have := h.wf.sz; omega
/-- A token that is there ends behind its beginning. -/
theorem tok_lt (h : RStd P T w0 w M rs) (ht : nats (tokM M) ≠ []) : M.p.at_ < M.p.en := by
  rcases Nat.lt_or_ge M.p.at_ M.p.en with hl | hl
  · exact hl
  · refine absurd ?_ ht
    unfold tokM; rw [nats_extract, Nat.sub_eq_zero_of_le hl]; simp
theorem next_at (h : RStd P T w0 w M rs) : M.p.en ≤ (nextM M).p.at_ := by
  have := nextR_le (T := nats M.p.tx) (en := M.p.en) (by rw [nats_length]; exact h.wf.en)
  exact this.1
end

set_option maxRecDepth 100000 in
theorem expectR_yes {P : Nat} {T : List Nat} {w0 w : World} {M : RM} {rs : List Row} (h : RStd P T w0 w M rs) (s : ByteArray) (ht : nats (tokM M) = nats s) :
    Calls Fadg.prog 119 #[.pointer (some ⟨P, 0, none⟩), .string s] w fun e w' => e = .returned (.bool true) ∧ RStd P T w0 w' (nextM M) rs ∧ ∃ q, Only P (w.drewN q) w' := by
  have hq := str_eq_of ht
  have HT := hid (tok_std h)
  have HN := hid (fun q => rnext_std (h.drew q))
  generalize tokM M = tk at *
  clear ht h
  go_enter Fadg.func119, Fadg.ntmps119
  go_wp2_with (first | (go_at_call 74; go_must (refine HT.out.mono ?_; rintro e w1 ⟨rfl, q, hw1⟩; subst hw1)) | (go_at_call 73; go_must (refine (HN.out _).mono ?_; rintro e w2 ⟨rfl, hs2, ho2⟩)))
  go_ret
  exact ⟨rfl, hs2, _, ho2⟩
set_option maxRecDepth 100000 in
theorem expectR_no {P : Nat} {T : List Nat} {w0 w : World} {M : RM} {rs : List Row} (h : RStd P T w0 w M rs) (s : ByteArray) (ht : ¬ nats (tokM M) = nats s) :
    Calls Fadg.prog 119 #[.pointer (some ⟨P, 0, none⟩), .string s] w fun e w' => e = .returned (.bool false) ∧ RFail P w0 (M.p.at_, 1) w' ∧ ∃ q, Only P (w.drewN q) w' := by
  have hq := str_ne_of ht
  have HT := hid (tok_std h)
  have HN := hid (fun q => rfail_std (h.drew q) 1 1 rfl)
  generalize tokM M = tk at *
  clear ht h
  go_enter Fadg.func119, Fadg.ntmps119
  go_wp2_with (first | (go_at_call 74; go_must (refine HT.out.mono ?_; rintro e w1 ⟨rfl, q, hw1⟩; subst hw1)) | (go_at_call 151; go_must (refine (HN.out _).mono ?_; rintro e w2 ⟨rfl, hs2, ho2⟩)))
  go_ret
  exact ⟨rfl, hs2, _, ho2⟩
/-- expect, its answer in the plain. -/
theorem abs_exp_yes {P : Nat} {T : List Nat} {w0 w : World} {M : RM} {rs : List Row} (h : RStd P T w0 w M rs) {s : List Nat} (ht : nats (tokM M) = s) (fs : List RF) : expR T s (absR M fs) = .ok ((), absR (nextM M) fs) := by
  unfold expR; rw [abs_tok h, if_pos ht, abs_next h]
theorem abs_exp_no {P : Nat} {T : List Nat} {w0 w : World} {M : RM} {rs : List Row} (h : RStd P T w0 w M rs) {s : List Nat} (ht : ¬ nats (tokM M) = s) (fs : List RF) : expR T s (absR M fs) = .error (M.p.at_, 1) := by
  unfold expR; rw [abs_tok h, if_neg ht]; rfl

/-! ### name -/
def bigName (t : List Nat) (cap : Bool) : Bool := decide (8 < t.length) && isNameN (t.take 8) cap
section
variable {P : Nat} {T : List Nat} {w0 w : World} {M : RM} {rs : List Row}
theorem abs_name_big (h : RStd P T w0 w M rs) (cap : Bool) (fs : List RF) (hb : bigName (nats (tokM M)) cap = true) : nameR T cap (absR M fs) = .error (M.p.at_, 2) := by
  unfold nameR; rw [abs_tok h, if_pos (by simpa [bigName] using hb)]; rfl
theorem abs_nameR_yes (h : RStd P T w0 w M rs) (cap : Bool) (fs : List RF) (hb : bigName (nats (tokM M)) cap = false) (hn : isNameN (nats (tokM M)) cap = true) : nameR T cap (absR M fs) = .ok (nats (tokM M), absR (nextM M) fs) := by
  unfold nameR; rw [abs_tok h, if_neg (by intro k; rw [bigName, decide_eq_true k.1, k.2] at hb; exact absurd hb (by decide)), if_pos hn, abs_next h]
theorem abs_nameR_no (h : RStd P T w0 w M rs) (cap : Bool) (fs : List RF) (hb : bigName (nats (tokM M)) cap = false) (hn : isNameN (nats (tokM M)) cap = false) : nameR T cap (absR M fs) = .error (M.p.at_, 1) := by
  unfold nameR; rw [abs_tok h, if_neg (by intro k; rw [bigName, decide_eq_true k.1, k.2] at hb; exact absurd hb (by decide)), if_neg (by rw [hn]; decide)]; rfl
end

set_option maxRecDepth 100000 in
set_option maxHeartbeats 1000000 in
theorem nameR_big {P : Nat} {T : List Nat} {w0 w : World} {M : RM} {rs : List Row} (h : RStd P T w0 w M rs) (cap : Bool) (hb : bigName (nats (tokM M)) cap = true) :
    Calls Fadg.prog 120 #[.pointer (some ⟨P, 0, none⟩), .bool cap] w fun e w' => e = .returned (.tuple #[.string ⟨#[]⟩, .bool false]) ∧ RFail P w0 (M.p.at_, 2) w' ∧ ∃ q, Only P (w.drewN q) w' := by
  have HT := hid (tok_std h)
  have HF := hid (fun q => rfail_std (h.drew q) 2 2 rfl)
  have hb' : 8 < (tokM M).size ∧ isNameN ((nats (tokM M)).take 8) cap = true := by rw [← nats_length]; simpa [bigName] using hb
  have hq : ((tokM M).toList == []) = false := nats_cons (fun e => by have := nats_length (tokM M); rw [e] at this; simp at this; omega)
  have h8 : (8 : Int) < ((tokM M).size : Int) := by omega
  have h8' : (8 : Int) ≤ ((tokM M).size : Int) := by omega
  have HI := hid (isName_any ((tokM M).extract 0 8) cap)
  rw [show nats ((tokM M).extract 0 8) = (nats (tokM M)).take 8 by rw [nats_extract]; simp, hb'.2] at HI
  generalize tokM M = tk at *
  clear hb hb' h
  go_enter Fadg.func120, Fadg.ntmps120
  go_wp2_with (first | (go_at_call 74; go_must (refine HT.out.mono ?_; rintro e w1 ⟨rfl, q, hw1⟩; subst hw1)) | (go_at_call 152; go_must (refine (HI.out _).mono ?_; rintro e w2 ⟨rfl, hw2⟩; subst hw2)) | (go_at_call 151; go_must (refine (HF.out _).mono ?_; rintro e w3 ⟨rfl, hf3, ho3⟩)))
  go_ret2
  exact ⟨rfl, hf3, _, ho3⟩
/-- The first test of name. -/
theorem nameR_test {P : Nat} {T : List Nat} {w0 w : World} {M : RM} {rs : List Row} (cap : Bool) (hb : bigName (nats (tokM M)) cap = false) : (tokM M).size ≤ 8 ∨ ((8 : Int) < ((tokM M).size : Int) ∧ isNameN ((nats (tokM M)).take 8) cap = false) := by
  rcases Nat.lt_or_ge 8 (tokM M).size with h8 | h8
  · refine .inr ⟨by omega, ?_⟩
    unfold bigName at hb
    rw [nats_length, decide_eq_true h8] at hb
    simpa using hb
  · exact .inl h8
set_option maxRecDepth 100000 in
set_option maxHeartbeats 1000000 in
theorem nameR_go {P : Nat} {T : List Nat} {w0 w : World} {M : RM} {rs : List Row} (h : RStd P T w0 w M rs) (cap : Bool) (hb : bigName (nats (tokM M)) cap = false) :
    Calls Fadg.prog 120 #[.pointer (some ⟨P, 0, none⟩), .bool cap] w fun e w' => (isNameN (nats (tokM M)) cap = true → e = .returned (.tuple #[.string (tokM M), .bool true]) ∧ RStd P T w0 w' (nextM M) rs ∧ ∃ q, Only P (w.drewN q) w') ∧ (isNameN (nats (tokM M)) cap = false → e = .returned (.tuple #[.string ⟨#[]⟩, .bool false]) ∧ RFail P w0 (M.p.at_, 1) w' ∧ ∃ q, Only P (w.drewN q) w') := by
  have HT := hid (tok_std h)
  have HF := hid (fun q => rfail_std (h.drew q) 1 1 rfl)
  have HN := hid (fun q => rnext_std (h.drew q))
  have ht := nameR_test (P := P) (T := T) (w0 := w0) (w := w) (rs := rs) cap hb
  have HI := hid (isName_any (tokM M) cap)
  have HI8 := hid (isName_any ((tokM M).extract 0 8) cap)
  rw [show nats ((tokM M).extract 0 8) = (nats (tokM M)).take 8 by rw [nats_extract]; simp] at HI8
  obtain ⟨tk, htk⟩ : ∃ tk, tk = tokM M := ⟨_, rfl⟩
  rw [← htk] at ht HI HI8 HT ⊢
  clear hb h htk
  go_enter Fadg.func120, Fadg.ntmps120
  go_upto_region 2 with (go_at_call 74; go_must (refine HT.out.mono ?_; rintro e w1 ⟨rfl, q, hw1⟩; subst hw1))
  go_cut [21] (fun v wx => v = .bool false ∧ wx = w.drewN q)
  case first =>
    rcases ht with h8 | ⟨h8, hn⟩
    · have h8' : ¬ (8 : Int) < (tk.size : Int) := by omega
      by_cases h0 : nats tk = []
      · have hq := nats_nil h0
        clear h0
        go_wp2
        go_meet
        exact ⟨rfl, rfl⟩
      · have hq := nats_cons h0
        clear h0
        go_wp2
        go_meet
        exact ⟨rfl, rfl⟩
    · have hq : (tk.toList == []) = false := nats_cons (fun e => by have := nats_length tk; rw [e] at this; simp at this; omega)
      have h8' : (8 : Int) ≤ (tk.size : Int) := by omega
      rw [hn] at HI8
      clear hn
      go_wp2_with (go_at_call 152; go_must (refine (HI8.out _).mono ?_; rintro e w2 ⟨rfl, hw2⟩; subst hw2))
      go_meet
      exact ⟨rfl, rfl⟩
  case rest =>
    obtain ⟨rfl, rfl⟩ := hcut
    cases hn : isNameN (nats tk) cap with
    | true =>
      rw [hn] at HI
      go_wp2_with (first | (go_at_call 152; go_must (refine (HI.out _).mono ?_; rintro e w2 ⟨rfl, hw2⟩; subst hw2)) | (go_at_call 73; go_must (refine (HN.out _).mono ?_; rintro e w3 ⟨rfl, hs3, ho3⟩)))
      go_ret2
      exact ⟨fun _ => ⟨rfl, hs3, _, ho3⟩, fun h => absurd (hn.symm.trans h) (by decide)⟩
    | false =>
      rw [hn] at HI
      go_wp2_with (first | (go_at_call 152; go_must (refine (HI.out _).mono ?_; rintro e w2 ⟨rfl, hw2⟩; subst hw2)) | (go_at_call 151; go_must (refine (HF.out _).mono ?_; rintro e w3 ⟨rfl, hf3, ho3⟩)))
      go_ret2
      exact ⟨fun h => absurd (hn.symm.trans h) (by decide), fun _ => ⟨rfl, hf3, _, ho3⟩⟩
end Go.Proofs.Ygcfad
