/-
  THE SCHEMA IN MEMORY: the parser's block and the arrays of structs, uses and fields.
-/
import Derived.Test.YgcfadSep
import Derived.Test.YgcfadSchemaPlain
import Derived.Test.YgcfadLayout2
namespace Go.Proofs.Ygcfad
open Go.RowKit Plain
set_option linter.unusedSimpArgs false
set_option linter.unusedVariables false

/-- A field: its name, its type's four numbers, its place's. -/
structure MF where
  b : ByteArray
  k : Nat
  e : Int
  r : Int
  ns : Int
  q1 : Int
  q2 : Int
  q3 : Int
  q4 : Bool
def fc (f : MF) : List Value := [.string f.b, .int .u8 (f.k : Int), .int .u8 f.e, .int .u8 f.r, .int .u8 f.ns, .int .u8 f.q1, .int .u16 f.q2, .int .u8 f.q3, .bool f.q4]
/-- A struct: its name, its fields' slice, two counts. -/
structure MS where
  b : ByteArray
  fv : Value
  d : Int
  p : Int
  fl : List MF
def sc (s : MS) : List Value := [.string s.b, s.fv, .int .u8 s.d, .int .u8 s.p]
structure MU where
  a : Nat
  st : Nat
  fd : Nat
  b : ByteArray
def uc (u : MU) : List Value := [.int .i64 (u.a : Int), .int .i64 (u.st : Int), .int .i64 (u.fd : Int), .string u.b]
structure MM where
  p : PS
  ss : List MS
  us : List MU

def rS (M : MM) : Row := ⟨M.p.sv, 189, 4, M.ss.length, M.ss.flatMap sc⟩
def rU (M : MM) : Row := ⟨M.p.uv, 192, 4, M.us.length, M.us.flatMap uc⟩
def rF (m : MS) : Row := ⟨m.fv, 198, 9, m.fl.length, m.fl.flatMap fc⟩
def rows (M : MM) : List Row := rS M :: rU M :: M.ss.map rF
structure MAt (P : Nat) (w : World) (M : MM) : Prop where
  p : PAt P w M.p
  lt : P < w.heap.size
  sep : Sep (P + 1) w (rows M)

def qOf (p : PS) : Q := ⟨p.at_, p.en, p.tok, p.code, p.whr⟩
def uOf (u : MU) : Nat × Nat × Nat × List Nat := (u.a, u.st, u.fd, nats u.b)
def absM (M : MM) (fs : List (List Nat × Nat)) : St := ⟨qOf M.p, M.ss.map (fun m => nats m.b), M.us.map uOf, M.p.num, fs⟩
structure WF (M : MM) : Prop where
  ae : M.p.at_ ≤ M.p.en
  en : M.p.en ≤ M.p.tx.size
  sz : M.p.tx.size ≤ 1024
  tok : M.p.tok ≠ 0 → M.p.at_ < M.p.en
  us : M.us.length ≤ M.p.at_
  ss : M.ss.length ≤ M.p.at_
  num : M.p.num.length = 16

theorem qOf_next (p : PS) : qOf (nextP p) = nextQ (nats p.tx) (qOf p) := rfl
theorem qOf_fail (p : PS) (a c : Nat) : qOf (failP p a c) = failQ (qOf p) a c := by
  unfold failP failQ qOf; simp only; split <;> rfl
theorem wordL_q (p : PS) : wordL p = wordQ (nats p.tx) (qOf p) := rfl

section
variable {P : Nat} {w w' : World} {p : PS}
theorem PAt.same (h : PAt P w p) (e : w'.heap[P]? = w.heap[P]?) : PAt P w' p :=
  ⟨fun j hj => by rw [World.cell?_of_block (w := w) e]; exact h.1 j hj, fun j => by rw [World.frozen?_of_block (w := w) e]; exact h.2 j⟩
theorem MAt.only {M : MM} {p' : PS} (h : MAt P w M) (ho : Only P w w') (hp : PAt P w' p') (e1 : p'.sv = M.p.sv) (e2 : p'.uv = M.p.uv) : MAt P w' { M with p := p' } := by
  refine ⟨hp, by rw [ho.size]; exact h.lt, ?_⟩
  have := h.sep.only (Nat.lt_succ_self P) ho
  unfold rows rS rU at this ⊢
  simp only [e1, e2]
  exact this
theorem MAt.below {M : MM} (h : MAt P w M) (hb : Below w.heap.size w w') : MAt P w' M :=
  ⟨h.p.same (hb.block P h.lt), Nat.lt_of_lt_of_le h.lt hb.size, h.sep.below hb⟩
theorem MAt.alloc {M : MM} (h : MAt P w M) (o : Obj) : MAt P (w.alloc o) M := h.below ((Below.refl _ _).alloc (Nat.le_refl _) _)
theorem MAt.drew {M : MM} (h : MAt P w M) (q : Nat) : MAt P (w.drewN q) M := ⟨h.p.drew, h.lt, h.sep.drew q⟩
end
theorem failP_sv (p : PS) (a c : Nat) : (failP p a c).sv = p.sv ∧ (failP p a c).uv = p.uv ∧ (failP p a c).tx = p.tx ∧ (failP p a c).at_ = p.at_ ∧ (failP p a c).en = p.en ∧ (failP p a c).tok = p.tok ∧ (failP p a c).num = p.num := by
  unfold failP; split <;> simp

theorem nextN_tok {T : List Nat} {en : Nat} : (nextN T en).2.2 ≠ 0 → (nextN T en).1 < (nextN T en).2.1 := by
  unfold nextN; split
  · simp
  · split
    · intro _; simp only; omega
    · split
      · intro _; simp only; omega
      · split
        · intro _; simp only; omega
        · intro _; simp only; omega

section
variable {M : MM}
theorem WF.next (h : WF M) : WF { M with p := nextP M.p } := by
  have := nextP_le h.en
  exact ⟨this.1, this.2.1, h.sz, nextN_tok, Nat.le_trans h.us (Nat.le_trans h.ae this.2.2), Nat.le_trans h.ss (Nat.le_trans h.ae this.2.2), h.num⟩
theorem WF.fail (h : WF M) (a c : Nat) : WF { M with p := failP M.p a c } := by
  obtain ⟨e1, e2, e3, e4, e5, e6, e7⟩ := failP_sv M.p a c
  exact ⟨by simp only [e4, e5]; exact h.ae, by simp only [e5, e3]; exact h.en, by simp only [e3]; exact h.sz, by simp only [e4, e5, e6]; exact h.tok, by simp only [e4]; exact h.us, by simp only [e4]; exact h.ss, by simp only [e7]; exact h.num⟩
end
theorem absM_next (M : MM) (fs : List (List Nat × Nat)) : absM { M with p := nextP M.p } fs = { absM M fs with q := nextQ (nats M.p.tx) (absM M fs).q } := rfl
theorem absM_fail (M : MM) (fs : List (List Nat × Nat)) (a c : Nat) : absM { M with p := failP M.p a c } fs = { absM M fs with q := failQ (absM M fs).q a c } := by
  unfold absM
  rw [qOf_fail]
  simp only [(failP_sv M.p a c).2.2.2.2.2.2]

/-- The parser stands in memory; its text is T; no block below it has turned since w0. -/
structure Std (P : Nat) (T : List Nat) (w0 w : World) (M : MM) : Prop where
  m : MAt P w M
  wf : WF M
  tx : nats M.p.tx = T
  bel : Below P w0 w
section
variable {P : Nat} {T : List Nat} {w0 w w' : World} {M : MM}
theorem Std.next (h : Std P T w0 w M) (hp : PAt P w' (nextP M.p)) (ho : Only P w w') : Std P T w0 w' { M with p := nextP M.p } :=
  ⟨h.m.only ho hp rfl rfl, h.wf.next, h.tx, h.bel.trans ho.below⟩
theorem Std.fail (h : Std P T w0 w M) {a c : Nat} (hp : PAt P w' (failP M.p a c)) (ho : Only P w w') : Std P T w0 w' { M with p := failP M.p a c } :=
  ⟨h.m.only ho hp (failP_sv M.p a c).1 (failP_sv M.p a c).2.1, h.wf.fail a c, by simp only [(failP_sv M.p a c).2.2.1]; exact h.tx, h.bel.trans ho.below⟩
theorem Std.drew (h : Std P T w0 w M) (q : Nat) : Std P T w0 (w.drewN q) M := ⟨h.m.drew q, h.wf, h.tx, below_drewN h.bel q⟩
theorem Std.grow (h : Std P T w0 w M) (hb : Below w.heap.size w w') : Std P T w0 w' M := ⟨h.m.below hb, h.wf, h.tx, h.bel.trans (hb.mono (Nat.le_of_lt h.m.lt))⟩
end

/-! ### The small methods, said of all that stands -/
section
variable {P : Nat} {T : List Nat} {w0 w : World} {M : MM}
theorem next_std (h : Std P T w0 w M) : Calls Fadg.prog 69 #[.pointer (some ⟨P, 0, none⟩)] w fun e w' => e = .returned (.tuple #[]) ∧ Std P T w0 w' { M with p := nextP M.p } ∧ Only P w w' :=
  (next_any P M.p w h.m.p (by have := h.wf.sz; omega) h.wf.en).mono fun e w' ⟨he, hp, ho⟩ => ⟨he, h.next hp ho, ho⟩
theorem fail_std (h : Std P T w0 w M) (a c : Nat) (A C : Int) (hA : A = (a : Int)) (hC : C = (c : Int)) : Calls Fadg.prog 111 #[.pointer (some ⟨P, 0, none⟩), .int .i64 A, .int .u8 C] w fun e w' => e = .returned (.tuple #[]) ∧ Std P T w0 w' { M with p := failP M.p a c } ∧ Only P w w' :=
  (fail_lit P M.p w a c A C hA hC h.m.p).mono fun e w' ⟨he, hp, ho⟩ => ⟨he, h.fail hp ho, ho⟩
def expM (k : Nat) (M : MM) : MM := { M with p := if M.p.tok = k then nextP M.p else failP M.p M.p.at_ 1 }
theorem expect_std (h : Std P T w0 w M) (k : Nat) (K : Int) (hK : K = (k : Int)) : Calls Fadg.prog 112 #[.pointer (some ⟨P, 0, none⟩), .int .u8 K] w fun e w' => e = .returned (.bool (decide (M.p.tok = k))) ∧ Std P T w0 w' (expM k M) ∧ Only P w w' :=
  (expect_lit P M.p w k K hK h.m.p (by have := h.wf.sz; omega) h.wf.en).mono fun e w' ⟨he, hp, ho⟩ => ⟨he, by
    unfold expM
    by_cases ht : M.p.tok = k
    · rw [if_pos ht] at hp ⊢; exact h.next hp ho
    · rw [if_neg ht] at hp ⊢; exact h.fail hp ho, ho⟩
theorem word_std (h : Std P T w0 w M) : Calls Fadg.prog 70 #[.pointer (some ⟨P, 0, none⟩)] w fun e w' => e = .returned (.string (M.p.tx.extract M.p.at_ M.p.en)) ∧ ∃ q, w' = w.drewN q :=
  pword_any P M.p w h.m.p h.wf.ae h.wf.en
def nameM (M : MM) : MM := { M with p := nameP M.p }
theorem name_std_yes (h : Std P T w0 w M) (cap : Bool) (hy : nameOk M.p cap = true) : Calls Fadg.prog 113 #[.pointer (some ⟨P, 0, none⟩), .bool cap] w fun e w' => e = .returned (.tuple #[.string (M.p.tx.extract M.p.at_ M.p.en), .int .i64 (M.p.at_ : Int), .bool true]) ∧ Std P T w0 w' (nameM M) ∧ Only P w w' :=
  (name_yes P M.p w cap h.m.p (by have := h.wf.sz; omega) h.wf.ae h.wf.en hy).mono fun e w' ⟨he, hp, ho⟩ => ⟨he, by
    have hb := h.bel.trans ho.below
    unfold nameM nameP at *
    by_cases h8 : 8 < (wordL M.p).length
    · rw [if_pos h8] at hp ⊢
      have hs := failP_sv (nextP M.p) M.p.at_ 2
      exact ⟨h.m.only ho hp hs.1 hs.2.1, (h.wf.next).fail _ _, by simp only [hs.2.2.1]; exact h.tx, hb⟩
    · rw [if_neg h8] at hp ⊢; exact h.next hp ho, ho⟩
theorem name_std_no (h : Std P T w0 w M) (cap : Bool) (hn : nameOk M.p cap = false) : Calls Fadg.prog 113 #[.pointer (some ⟨P, 0, none⟩), .bool cap] w fun e w' => e = .returned (.tuple #[.string ⟨#[]⟩, .int .i64 (M.p.at_ : Int), .bool false]) ∧ Std P T w0 w' { M with p := failP M.p M.p.at_ 1 } ∧ Only P w w' :=
  (name_no P M.p w cap h.m.p (by have := h.wf.sz; omega) h.wf.ae h.wf.en hn).mono fun e w' ⟨he, hp, ho⟩ => ⟨he, h.fail hp ho, ho⟩
end

/-! ### The same steps on the plain state -/
section
variable {P : Nat} {T : List Nat} {w0 w : World} {M : MM}
theorem abs_exp (h : Std P T w0 w M) (k : Nat) (fs : List (List Nat × Nat)) : onQ (expectQ T k) (absM M fs) = (if M.p.tok = k then some () else none, absM (expM k M) fs) := by
  unfold onQ expectQ expM
  by_cases ht : M.p.tok = k
  · have : (absM M fs).q.t = k := ht
    rw [if_pos this, if_pos ht]
    simp only [if_pos ht, absM_next, h.tx]
  · have : ¬ (absM M fs).q.t = k := ht
    rw [if_neg this, if_neg ht]
    simp only [if_neg ht, absM_fail]
    rfl
theorem abs_word (h : Std P T w0 w M) (fs : List (List Nat × Nat)) : wordQ T (absM M fs).q = nats (M.p.tx.extract M.p.at_ M.p.en) := by
  rw [nats_word, wordL_q, h.tx]; rfl
theorem abs_nameOk (h : Std P T w0 w M) (cap : Bool) (fs : List (List Nat × Nat)) : (decide ((absM M fs).q.t = 97) && (!cap || capN (wordQ T (absM M fs).q))) = nameOk M.p cap := by
  unfold nameOk; rw [abs_word h, nats_word]; rfl
theorem abs_name_yes (h : Std P T w0 w M) (cap : Bool) (fs : List (List Nat × Nat)) (hy : nameOk M.p cap = true) : nameQ T cap (absM M fs).q = (some (nats (M.p.tx.extract M.p.at_ M.p.en), M.p.at_), (absM (nameM M) fs).q) := by
  unfold nameQ
  rw [abs_nameOk h cap fs, if_pos hy, abs_word h]
  refine Prod.ext rfl ?_
  show _ = qOf (nameP M.p)
  unfold nameP
  rw [nats_word]
  by_cases h8 : 8 < (wordL M.p).length
  · rw [if_pos h8]; simp only [if_pos h8]; rw [qOf_fail, qOf_next, h.tx]; rfl
  · rw [if_neg h8]; simp only [if_neg h8]; rw [qOf_next, h.tx]; rfl
theorem abs_name_no (h : Std P T w0 w M) (cap : Bool) (fs : List (List Nat × Nat)) (hn : nameOk M.p cap = false) : nameQ T cap (absM M fs).q = (none, (absM { M with p := failP M.p M.p.at_ 1 } fs).q) := by
  unfold nameQ
  rw [abs_nameOk h cap fs, if_neg (by rw [hn]; decide)]
  refine Prod.ext rfl ?_
  show _ = qOf (failP M.p M.p.at_ 1)
  rw [qOf_fail]; rfl
theorem abs_nameM (M : MM) (fs : List (List Nat × Nat)) : absM (nameM M) fs = { absM M fs with q := (absM (nameM M) fs).q } := by
  unfold nameM nameP absM
  split
  · simp only [(failP_sv (nextP M.p) M.p.at_ 2).2.2.2.2.2.2]; rfl
  · rfl
end
end Go.Proofs.Ygcfad
