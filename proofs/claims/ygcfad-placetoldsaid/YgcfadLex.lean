/-
  THE WALKS of the lexer of package schema: isLetter, isDigit, (*parser).next.
-/
import Derived.Test.YgcfadProg
import Derived.WalkKit
import Derived.WalkSpells
import Derived.WalkLawsBesides
import Derived.Test.YgcfadLexPlain
import Derived.Deep.QuietTactic
import Derived.BigQuiet
namespace Go.Proofs.Ygcfad
open Go.RowKit Plain
set_option linter.unusedSimpArgs false
set_option linter.unusedVariables false

/-- A string's bytes as numbers. -/
def nats (b : ByteArray) : List Nat := b.data.toList.map UInt8.toNat
theorem nats_length (b : ByteArray) : (nats b).length = b.size := by simp [nats]
theorem nats_lt (b : ByteArray) : ∀ x ∈ nats b, x < 256 := by
  intro x hx
  obtain ⟨u, _, rfl⟩ := List.mem_map.1 hx
  exact u.toNat_lt
theorem nats_getD (b : ByteArray) (i : Nat) (h : i < b.size) : (nats b).getD i 0 = b[i].toNat := by
  unfold nats
  have h' : i < b.data.toList.length := by simpa using h
  simp only [List.getD, List.getElem?_map, List.getElem?_eq_getElem h', Option.map_some, Option.getD_some]
  rfl
theorem nats_getD_lt (b : ByteArray) (i : Nat) : (nats b).getD i 0 < 256 := by
  by_cases h : i < (nats b).length
  · have : (nats b).getD i 0 = (nats b)[i] := by simp [List.getD, h]
    rw [this]; exact nats_lt b _ (List.getElem_mem _)
  · simp [List.getD, List.getElem?_eq_none (by omega : (nats b).length ≤ i)]

theorem Fadg.string9 : Fadg.prog.underlying 9 = some .string := by kernel_rfl
theorem idx_run (b : ByteArray) (i : Nat) (h : i < b.size) (wx : World) : (Instr.index 9 (.string b) (.int .i64 (i : Int))).run Fadg.prog wx = .ok (.int .u8 (((nats b).getD i 0 : Nat) : Int)) wx := by
  rw [run_index_string (P := Fadg.prog) wx 9 b .i64 (i : Int) Fadg.string9, nats_getD b i h]
  simp [h]

theorem bneI (c k : Nat) : ((c : Int) != (k : Int)) = (c != k) := by
  by_cases h : c = k
  · subst h; simp
  · have : (c : Int) ≠ (k : Int) := by omega
    rw [bne_iff_ne.2 this, bne_iff_ne.2 h]
theorem hid {p : Prop} (h : p) : Hid p := h

theorem retB {a b : Bool} (h : a = b) : Ending.returned (.bool a) = .returned (.bool b) := by rw [h]
theorem isLetter_any (c : Nat) (w : World) : Calls Fadg.prog 109 #[.int .u8 (c : Int)] w fun e w' => e = .returned (.bool (letterN c)) ∧ w' = w := by
  by_cases h1 : c < 65
  · have e : letterN c = false := by simp [letterN]; omega
    rw [e]
    go_enter Fadg.func109, Fadg.ntmps109
    go_wp2
    go_ret
    first | exact ⟨rfl, rfl⟩ | exact ⟨retB (by simp; omega), rfl⟩
  by_cases h2 : c ≤ 90
  · have e : letterN c = true := by simp [letterN]; omega
    rw [e]
    go_enter Fadg.func109, Fadg.ntmps109
    go_wp2
    go_ret
    first | exact ⟨rfl, rfl⟩ | exact ⟨retB (by simp; omega), rfl⟩
  by_cases h3 : c < 97
  · have e : letterN c = false := by simp [letterN]; omega
    rw [e]
    go_enter Fadg.func109, Fadg.ntmps109
    go_wp2
    go_ret
    first | exact ⟨rfl, rfl⟩ | exact ⟨retB (by simp; omega), rfl⟩
  by_cases h4 : c ≤ 122
  · have e : letterN c = true := by simp [letterN]; omega
    rw [e]
    go_enter Fadg.func109, Fadg.ntmps109
    go_wp2
    go_ret
    first | exact ⟨rfl, rfl⟩ | exact ⟨retB (by simp; omega), rfl⟩
  · have e : letterN c = false := by simp [letterN]; omega
    rw [e]
    go_enter Fadg.func109, Fadg.ntmps109
    go_wp2
    go_ret
    first | exact ⟨rfl, rfl⟩ | exact ⟨retB (by simp; omega), rfl⟩
theorem isDigit_any (c : Nat) (w : World) : Calls Fadg.prog 110 #[.int .u8 (c : Int)] w fun e w' => e = .returned (.bool (digitN c)) ∧ w' = w := by
  by_cases h1 : c < 48
  · have e : digitN c = false := by simp [digitN]; omega
    rw [e]
    go_enter Fadg.func110, Fadg.ntmps110
    go_wp2
    go_ret
    first | exact ⟨rfl, rfl⟩ | exact ⟨retB (by simp; omega), rfl⟩
  by_cases h2 : c ≤ 57
  · have e : digitN c = true := by simp [digitN]; omega
    rw [e]
    go_enter Fadg.func110, Fadg.ntmps110
    go_wp2
    go_ret
    first | exact ⟨rfl, rfl⟩ | exact ⟨retB (by simp; omega), rfl⟩
  · have e : digitN c = false := by simp [digitN]; omega
    rw [e]
    go_enter Fadg.func110, Fadg.ntmps110
    go_wp2
    go_ret
    first | exact ⟨rfl, rfl⟩ | exact ⟨retB (by simp; omega), rfl⟩

/-! ### The parser in memory: its 24 cells -/
structure PS where
  tx : ByteArray
  at_ : Nat
  en : Nat
  tok : Nat
  code : Nat
  whr : Nat
  sv : Value
  uv : Value
  num : List Nat

def pcell (p : PS) (j : Nat) : Value :=
  if j = 0 then .string p.tx else if j = 1 then .int .i64 (p.at_ : Int) else if j = 2 then .int .i64 (p.en : Int) else if j = 3 then .int .u8 (p.tok : Int) else if j = 4 then .int .u8 (p.code : Int)
  else if j = 5 then .int .i64 (p.whr : Int) else if j = 6 then p.sv else if j = 23 then p.uv else .int .i64 ((p.num.getD (j - 7) 0 : Nat) : Int)

def PAt (P : Nat) (w : World) (p : PS) : Prop := (∀ j, j < 24 → w.cell? ⟨P, j, none⟩ = some (pcell p j)) ∧ (∀ j, w.frozen? ⟨P, j, none⟩ = false)

/-- Of all blocks at most P has turned; no block is new. -/
structure Only (P : Nat) (w w' : World) : Prop where
  os : w'.os = w.os
  tape : w'.tape = w.tape
  output : w'.output = w.output
  size : w'.heap.size = w.heap.size
  block : ∀ k, k ≠ P → w'.heap[k]? = w.heap[k]?

theorem Only.refl (P : Nat) (w : World) : Only P w w := ⟨rfl, rfl, rfl, rfl, fun _ _ => rfl⟩
theorem Only.trans {P : Nat} {a b c : World} (h : Only P a b) (k : Only P b c) : Only P a c :=
  ⟨k.os.trans h.os, k.tape.trans h.tape, k.output.trans h.output, k.size.trans h.size, fun i hi => (k.block i hi).trans (h.block i hi)⟩
theorem Only.set (P j : Nat) (w : World) (v : Value) : Only P w (w.setCell ⟨P, j, none⟩ v) := ⟨rfl, rfl, rfl, by simp [World.setCell], fun k hk => Below.heap_setCell w ⟨P, j, none⟩ v k hk⟩
theorem Only.drew (P q : Nat) (w : World) : Only P w (w.drewN q) := by
  have := below_drewN (B := w.heap.size) (Below.refl w.heap.size w) q
  exact ⟨this.os, this.tape, this.output, rfl, fun _ _ => rfl⟩
theorem Only.below {P : Nat} {w w' : World} (h : Only P w w') : Below P w w' := ⟨h.os, h.tape, h.output, by rw [h.size]; exact Nat.le_refl _, fun k hk => h.block k (by omega)⟩

theorem PAt.set {P j : Nat} {w : World} {p p' : PS} {v : Value} (h : PAt P w p) (hj : j < 24) (hp : ∀ i, i < 24 → pcell p' i = if i = j then v else pcell p i) : PAt P (w.setCell ⟨P, j, none⟩ v) p' := by
  refine ⟨fun i hi => ?_, fun i => by rw [World.frozen?_setCell]; exact h.2 i⟩
  rw [hp i hi]
  by_cases e : i = j
  · subst e; rw [if_pos rfl]; exact World.cell?_setCell_same _ _ _ (h.1 i hi)
  · rw [if_neg e, World.cell?_setCell_other (h := fun k => e (by simpa using congrArg Addr.off k.symm))]
    exact h.1 i hi
theorem PAt.drew {P q : Nat} {w : World} {p : PS} (h : PAt P w p) : PAt P (w.drewN q) p := h

theorem set_at (p : PS) (a : Nat) : ∀ i, i < 24 → pcell { p with at_ := a } i = if i = 1 then .int .i64 (a : Int) else pcell p i := by
  intro i _; unfold pcell; by_cases h : i = 1 <;> simp [h]
theorem set_en (p : PS) (a : Nat) : ∀ i, i < 24 → pcell { p with en := a } i = if i = 2 then .int .i64 (a : Int) else pcell p i := by
  intro i _; unfold pcell; by_cases h : i = 2 <;> simp [h]
theorem set_tok (p : PS) (a : Nat) : ∀ i, i < 24 → pcell { p with tok := a } i = if i = 3 then .int .u8 (a : Int) else pcell p i := by
  intro i _; unfold pcell; by_cases h : i = 3 <;> simp [h]
theorem set_code (p : PS) (a : Nat) : ∀ i, i < 24 → pcell { p with code := a } i = if i = 4 then .int .u8 (a : Int) else pcell p i := by
  intro i _; unfold pcell; by_cases h : i = 4 <;> simp [h]
theorem set_whr (p : PS) (a : Nat) : ∀ i, i < 24 → pcell { p with whr := a } i = if i = 5 then .int .i64 (a : Int) else pcell p i := by
  intro i _; unfold pcell; by_cases h : i = 5 <;> simp [h]
theorem set_sv (p : PS) (v : Value) : ∀ i, i < 24 → pcell { p with sv := v } i = if i = 6 then v else pcell p i := by
  intro i _; unfold pcell; by_cases h : i = 6 <;> simp [h]
theorem set_uv (p : PS) (v : Value) : ∀ i, i < 24 → pcell { p with uv := v } i = if i = 23 then v else pcell p i := by
  intro i _; unfold pcell; by_cases h : i = 23 <;> simp [h]

section
variable {P : Nat} {w : World} {tx : ByteArray} {a e t c x : Nat} {sv uv : Value} {num : List Nat}
theorem PAt.at' (h : PAt P w ⟨tx, a, e, t, c, x, sv, uv, num⟩) (n : Nat) {N : Int} (hN : N = (n : Int)) : PAt P (w.setCell ⟨P, 1, none⟩ (.int .i64 N)) ⟨tx, n, e, t, c, x, sv, uv, num⟩ := by subst hN; exact h.set (by decide) (set_at ⟨tx, a, e, t, c, x, sv, uv, num⟩ n)
theorem PAt.en' (h : PAt P w ⟨tx, a, e, t, c, x, sv, uv, num⟩) (n : Nat) {N : Int} (hN : N = (n : Int)) : PAt P (w.setCell ⟨P, 2, none⟩ (.int .i64 N)) ⟨tx, a, n, t, c, x, sv, uv, num⟩ := by subst hN; exact h.set (by decide) (set_en ⟨tx, a, e, t, c, x, sv, uv, num⟩ n)
theorem PAt.tok' (h : PAt P w ⟨tx, a, e, t, c, x, sv, uv, num⟩) (n : Nat) {N : Int} (hN : N = (n : Int)) : PAt P (w.setCell ⟨P, 3, none⟩ (.int .u8 N)) ⟨tx, a, e, n, c, x, sv, uv, num⟩ := by subst hN; exact h.set (by decide) (set_tok ⟨tx, a, e, t, c, x, sv, uv, num⟩ n)
theorem PAt.code' (h : PAt P w ⟨tx, a, e, t, c, x, sv, uv, num⟩) (n : Nat) {N : Int} (hN : N = (n : Int)) : PAt P (w.setCell ⟨P, 4, none⟩ (.int .u8 N)) ⟨tx, a, e, t, n, x, sv, uv, num⟩ := by subst hN; exact h.set (by decide) (set_code ⟨tx, a, e, t, c, x, sv, uv, num⟩ n)
theorem PAt.whr' (h : PAt P w ⟨tx, a, e, t, c, x, sv, uv, num⟩) (n : Nat) {N : Int} (hN : N = (n : Int)) : PAt P (w.setCell ⟨P, 5, none⟩ (.int .i64 N)) ⟨tx, a, e, t, c, n, sv, uv, num⟩ := by subst hN; exact h.set (by decide) (set_whr ⟨tx, a, e, t, c, x, sv, uv, num⟩ n)
theorem PAt.sv' (h : PAt P w ⟨tx, a, e, t, c, x, sv, uv, num⟩) (v : Value) : PAt P (w.setCell ⟨P, 6, none⟩ v) ⟨tx, a, e, t, c, x, v, uv, num⟩ := h.set (by decide) (set_sv ⟨tx, a, e, t, c, x, sv, uv, num⟩ v)
theorem PAt.uv' (h : PAt P w ⟨tx, a, e, t, c, x, sv, uv, num⟩) (v : Value) : PAt P (w.setCell ⟨P, 23, none⟩ v) ⟨tx, a, e, t, c, x, sv, v, num⟩ := h.set (by decide) (set_uv ⟨tx, a, e, t, c, x, sv, uv, num⟩ v)
end

/-- What next leaves. -/
def nextP (p : PS) : PS := { p with at_ := (nextN (nats p.tx) p.en).1, en := (nextN (nats p.tx) p.en).2.1, tok := (nextN (nats p.tx) p.en).2.2 }

theorem nextP_end {p : PS} (h : (nats p.tx).length ≤ atN (nats p.tx) p.en) : nextP p = { p with at_ := atN (nats p.tx) p.en, en := atN (nats p.tx) p.en, tok := 0 } := by
  unfold nextP nextN; rw [if_pos h]
theorem nextP_letter {p : PS} (h : ¬ (nats p.tx).length ≤ atN (nats p.tx) p.en) (hl : letterN ((nats p.tx).getD (atN (nats p.tx) p.en) 0) = true) :
    nextP p = { p with at_ := atN (nats p.tx) p.en, en := atN (nats p.tx) p.en + 1 + spanN alnumN ((nats p.tx).drop (atN (nats p.tx) p.en + 1)), tok := 97 } := by
  unfold nextP nextN; rw [if_neg h, if_pos hl]
theorem nextP_digit {p : PS} (h : ¬ (nats p.tx).length ≤ atN (nats p.tx) p.en) (hl : letterN ((nats p.tx).getD (atN (nats p.tx) p.en) 0) = false) (hd : digitN ((nats p.tx).getD (atN (nats p.tx) p.en) 0) = true) :
    nextP p = { p with at_ := atN (nats p.tx) p.en, en := atN (nats p.tx) p.en + 1 + spanN digitN ((nats p.tx).drop (atN (nats p.tx) p.en + 1)), tok := 48 } := by
  unfold nextP nextN; rw [if_neg h, if_neg (by rw [hl]; decide), if_pos hd]
theorem nextP_sign {p : PS} (h : ¬ (nats p.tx).length ≤ atN (nats p.tx) p.en) (hl : letterN ((nats p.tx).getD (atN (nats p.tx) p.en) 0) = false) (hd : digitN ((nats p.tx).getD (atN (nats p.tx) p.en) 0) = false) (hs : signN ((nats p.tx).getD (atN (nats p.tx) p.en) 0) = true) :
    nextP p = { p with at_ := atN (nats p.tx) p.en, en := atN (nats p.tx) p.en + 1, tok := (nats p.tx).getD (atN (nats p.tx) p.en) 0 } := by
  unfold nextP nextN; rw [if_neg h, if_neg (by rw [hl]; decide), if_neg (by rw [hd]; decide), if_pos hs]
theorem nextP_bad {p : PS} (h : ¬ (nats p.tx).length ≤ atN (nats p.tx) p.en) (hl : letterN ((nats p.tx).getD (atN (nats p.tx) p.en) 0) = false) (hd : digitN ((nats p.tx).getD (atN (nats p.tx) p.en) 0) = false) (hs : signN ((nats p.tx).getD (atN (nats p.tx) p.en) 0) = false) :
    nextP p = { p with at_ := atN (nats p.tx) p.en, en := atN (nats p.tx) p.en + 1, tok := 33 } := by
  unfold nextP nextN; rw [if_neg h, if_neg (by rw [hl]; decide), if_neg (by rw [hd]; decide), if_neg (by rw [hs]; decide)]

/-- Where the token in hand ends, read off memory: a loop's measure. -/
def curE (P : Nat) (w : World) : Nat := (intOf ((w.cell? ⟨P, 2, none⟩).getD undef)).toNat
theorem PAt.curE {P : Nat} {w : World} {p : PS} (h : PAt P w p) : curE P w = p.en := by
  unfold Go.Proofs.Ygcfad.curE; rw [h.1 2 (by decide)]; simp [intOf, pcell]

theorem curE_set {P : Nat} {w : World} {tx : ByteArray} {a e t c x : Nat} {sv uv : Value} {num : List Nat} (h : PAt P w ⟨tx, a, e, t, c, x, sv, uv, num⟩) : curE P w = e := h.curE

/-- The cells of a parser, one by one, as the walk wants them. -/
theorem PAt.cells {P : Nat} {w : World} {p : PS} (h : PAt P w p) :
    w.cell? ⟨P, 0, none⟩ = some (.string p.tx) ∧ w.cell? ⟨P, 1, none⟩ = some (.int .i64 (p.at_ : Int)) ∧ w.cell? ⟨P, 2, none⟩ = some (.int .i64 (p.en : Int)) ∧ w.cell? ⟨P, 3, none⟩ = some (.int .u8 (p.tok : Int)) ∧
    w.cell? ⟨P, 4, none⟩ = some (.int .u8 (p.code : Int)) ∧ w.cell? ⟨P, 5, none⟩ = some (.int .i64 (p.whr : Int)) ∧ w.cell? ⟨P, 6, none⟩ = some p.sv ∧ w.cell? ⟨P, 23, none⟩ = some p.uv :=
  ⟨h.1 0 (by decide), h.1 1 (by decide), h.1 2 (by decide), h.1 3 (by decide), h.1 4 (by decide), h.1 5 (by decide), h.1 6 (by decide), h.1 23 (by decide)⟩

set_option maxRecDepth 100000 in
set_option maxHeartbeats 4000000 in
theorem next_any (P : Nat) (p : PS) (w : World) (hp : Hid (PAt P w p)) (hsz : p.tx.size ≤ 1000000) (hen : p.en ≤ p.tx.size) :
    Calls Fadg.prog 69 #[.pointer (some ⟨P, 0, none⟩)] w fun e w' => e = .returned (.tuple #[]) ∧ PAt P w' (nextP p) ∧ Only P w w' := by
  obtain ⟨c0, c1, c2, c3, -, -, -, -⟩ := hp.out.cells
  have f1 := hp.out.2 1
  have f2 := hp.out.2 2
  have f3 := hp.out.2 3
  have hat := hid (atN_le (T := nats p.tx) (en := p.en) (by rw [nats_length]; exact hen))
  rw [nats_length] at hat
  obtain ⟨tx, a0, en, tk, cd, wh, sv, uv, num⟩ := p
  simp only at *
  go_enter Fadg.func69, Fadg.ntmps69
  go_wp2
  go_loop [2, 3] (fun i cm => ∃ (i' : Nat) (b : Bool), i = .int .i64 (i' : Int) ∧ cm = .bool b ∧ i' ≤ tx.size ∧ Hid (en ≤ i' ∧ i' + skipN b ((nats tx).drop i') = atN (nats tx) en)) (fun i _ => tx.size - (intOf i).toNat)
  case atStart => exact ⟨en, false, rfl, rfl, hen, Nat.le_refl _, rfl⟩
  case round =>
    obtain ⟨i, b, rfl, rfl, hi, hsk⟩ := hrel
    by_cases hlt : i < tx.size
    · have hil : Hid (i < (nats tx).length) := by rw [nats_length]; exact hlt
      have hidx := fun wx => idx_run tx i hlt wx
      obtain ⟨c, hc⟩ : ∃ c, c = (nats tx).getD i 0 := ⟨_, rfl⟩
      rw [← hc] at hidx
      have HC := hid hc
      clear hc
      cases b with
      | true =>
        have hin := hid (skipN_in (cm := true) hil.out rfl)
        rw [← HC.out] at hin
        go_wp2
        go_round
        case rel => exact ⟨i + 1, c != 10, by go_num, congrArg Value.bool (bneI c 10), by omega, by have := hsk.out; omega, by have h1 := hsk.out; rw [hin.out] at h1; omega⟩
        case measure => simp [intOf]; omega
      | false =>
        by_cases h35 : c = 35
        · have h35' : ((c : Int) == 35) = true := by simp [h35]
          have hin := hid (skipN_in (T := nats tx) (i := i) (cm := false) hil.out (by rw [← HC.out, h35]; rfl))
          rw [← HC.out] at hin
          clear h35
          go_wp2
          go_round
          case rel => exact ⟨i + 1, c != 10, by go_num, congrArg Value.bool (bneI c 10), by omega, by have := hsk.out; omega, by have h1 := hsk.out; rw [hin.out] at h1; omega⟩
          case measure => simp [intOf]; omega
        · have h35' : ((c : Int) == 35) = false := by simp; omega
          have HN35 := hid h35
          clear h35
          cases hbl : blankN c with
          | true =>
            have hin := hid (skipN_blank (T := nats tx) (i := i) hil.out (by rw [← HC.out]; simpa using HN35.out) (by rw [← HC.out]; exact hbl))
            have h4 : c = 32 ∨ c = 9 ∨ c = 10 ∨ c = 13 := by simpa [blankN, or_assoc] using hbl
            clear hbl h35'
            rcases h4 with rfl | rfl | rfl | rfl
            all_goals
              go_wp2
              go_round
              case rel => exact ⟨i + 1, false, by go_num, rfl, by omega, by have := hsk.out; omega, by have h1 := hsk.out; rw [hin.out] at h1; omega⟩
              case measure => simp [intOf]; omega
          | false =>
            have hst := hid (skipN_stop (T := nats tx) (i := i) hil.out (by rw [← HC.out]; simpa using HN35.out) (by rw [← HC.out]; exact hbl))
            have hia : i = atN (nats tx) en := by have h1 := hsk.out.2; rw [hst.out] at h1; exact h1
            have HIA := hid hia
            have hne : Hid (¬ (nats tx).length ≤ atN (nats tx) en) := by rw [← hia]; have := hil.out; show ¬ _; omega
            have n1 : ((c : Int) != 32) = true := by simp [blankN] at hbl; simp; omega
            have n2 : ((c : Int) != 9) = true := by simp [blankN] at hbl; simp; omega
            have n3 : ((c : Int) != 10) = true := by simp [blankN] at hbl; simp; omega
            have n4 : ((c : Int) != 13) = true := by simp [blankN] at hbl; simp; omega
            have hi0 : ((i : Int) == (tx.size : Int)) = false := by simp; omega
            clear hbl hst hia hsk
            cases hlet : letterN c with
            | true =>
              have hnx := hid (nextP_letter (p := ⟨tx, a0, en, tk, cd, wh, sv, uv, num⟩) hne.out (by simp only; rw [← HIA.out, ← HC.out]; exact hlet))
              go_wp2_with (first | (go_at_call 109; go_must (refine (isLetter_any c _).mono ?_); rintro e w' ⟨rfl, hw'⟩; subst hw'))
              have hp1 := hid (((((hp.out.at' i rfl).en' i rfl).tok' 0 rfl).en' (N := (i : Int) + 1) (i + 1) (by omega)).tok' 97 rfl)
              have ho1 := hid (((((Only.set P 1 w (.int .i64 (i : Int))).trans (Only.set P 2 _ (.int .i64 (i : Int)))).trans (Only.set P 3 _ (.int .u8 (0 : Int)))).trans (Only.set P 2 _ (.int .i64 ((i : Int) + 1)))).trans (Only.set P 3 _ (.int .u8 97)))
              go_loopw [86] (fun _ wr => ∃ e : Nat, e ≤ tx.size ∧ Hid (i + 1 ≤ e ∧ e + spanN alnumN ((nats tx).drop e) = i + 1 + spanN alnumN ((nats tx).drop (i + 1))) ∧ Hid (PAt P wr ⟨tx, i, e, 97, cd, wh, sv, uv, num⟩) ∧ Hid (Only P w wr)) (fun _ wr => tx.size - curE P wr)
              case atStart => exact ⟨i + 1, by omega, ⟨Nat.le_refl _, rfl⟩, hp1, ho1⟩
              case round =>
                obtain ⟨e, he, hsp, hpe, hoe⟩ := hrel
                clear hp1 ho1 hidx
                obtain ⟨d0, -, d2, -, -, -, -, -⟩ := hpe.out.cells
                have g2 := hpe.out.2 2
                have hce : Hid (curE P wr = e) := hpe.out.curE
                by_cases hee : e < tx.size
                · have hel : Hid (e < (nats tx).length) := by rw [nats_length]; exact hee
                  have hidx := fun wx => idx_run tx e hee wx
                  obtain ⟨x, hx⟩ : ∃ x, x = (nats tx).getD e 0 := ⟨_, rfl⟩
                  rw [← hx] at hidx
                  have HX := hid hx
                  clear hx
                  have hee' : (e : Int) < (tx.size : Int) := by omega
                  cases hxl : letterN x with
                  | true =>
                    have HL := hid hxl
                    have HD : Hid (digitN x = digitN x) := rfl
                    clear hxl
                    have hsp2 := hid (spanN_yes (p := alnumN) hel.out (by rw [← HX.out]; exact by simp [alnumN, HL.out]))
                    go_wp2
                    go_quiet ((first | (go_at_call 109; exact Calls.quiet_of_same ((isLetter_any x _).mono fun e w' h => by rw [HL.out] at h; exact h)) | (go_at_call 110; exact Calls.quiet_of_same ((isDigit_any x _).mono fun e w' h => by rw [HD.out] at h; exact h))))
                    go_wp2
                    go_roundw
                    case rel => exact ⟨e + 1, by omega, by have h1 := hsp.out; rw [hsp2.out] at h1; exact ⟨by omega, by omega⟩, hpe.out.drew.en' (e + 1) (by omega), (hoe.out.trans (Only.drew _ _ _)).trans (Only.set _ _ _ _)⟩
                    case measure => rw [hce.out, curE_set (hpe.out.drew.en' (N := (e : Int) + 1) (e + 1) (by omega))]; omega
                  | false =>
                    have HL := hid hxl
                    clear hxl
                    cases hxd : digitN x with
                    | true =>
                      have HD := hid hxd
                      clear hxd
                      have hsp2 := hid (spanN_yes (p := alnumN) hel.out (by rw [← HX.out]; exact by simp [alnumN, HL.out, HD.out]))
                      go_wp2
                      go_quiet ((first | (go_at_call 109; exact Calls.quiet_of_same ((isLetter_any x _).mono fun e w' h => by rw [HL.out] at h; exact h)) | (go_at_call 110; exact Calls.quiet_of_same ((isDigit_any x _).mono fun e w' h => by rw [HD.out] at h; exact h))))
                      go_wp2
                      go_roundw
                      case rel => exact ⟨e + 1, by omega, by have h1 := hsp.out; rw [hsp2.out] at h1; exact ⟨by omega, by omega⟩, hpe.out.drew.en' (e + 1) (by omega), (hoe.out.trans (Only.drew _ _ _)).trans (Only.set _ _ _ _)⟩
                      case measure => rw [hce.out, curE_set (hpe.out.drew.en' (N := (e : Int) + 1) (e + 1) (by omega))]; omega
                    | false =>
                      have HD := hid hxd
                      clear hxd
                      have hend : Hid (e = i + 1 + spanN alnumN ((nats tx).drop (i + 1))) := by have h1 := hsp.out.2; rw [spanN_no hel.out (by rw [← HX.out]; exact by simp [alnumN, HL.out, HD.out])] at h1; exact h1
                      go_wp2
                      go_quiet ((first | (go_at_call 109; exact Calls.quiet_of_same ((isLetter_any x _).mono fun e w' h => by rw [HL.out] at h; exact h)) | (go_at_call 110; exact Calls.quiet_of_same ((isDigit_any x _).mono fun e w' h => by rw [HD.out] at h; exact h))))
                      go_wp2
                      go_end0
                      refine ⟨rfl, ?_, hoe.out.trans (Only.drew _ _ _)⟩
                      rw [hnx.out, ← HIA.out, ← hend.out]
                      exact hpe.out
                · have hee' : decide ((e : Int) < (tx.size : Int)) = false := by simp; omega
                  have hend : Hid (e = i + 1 + spanN alnumN ((nats tx).drop (i + 1))) := by have h1 := hsp.out.2; rw [spanN_end (by rw [nats_length]; omega)] at h1; exact h1
                  go_wp2
                  go_quiet (fail)
                  go_wp2
                  go_end0
                  refine ⟨rfl, ?_, hoe.out.trans (Only.drew _ _ _)⟩
                  rw [hnx.out, ← HIA.out, ← hend.out]
                  exact hpe.out
            | false =>
              cases hdig : digitN c with
              | true =>
                have hnx := hid (nextP_digit (p := ⟨tx, a0, en, tk, cd, wh, sv, uv, num⟩) hne.out (by simp only; rw [← HIA.out, ← HC.out]; exact hlet) (by simp only; rw [← HIA.out, ← HC.out]; exact hdig))
                go_wp2_with (first | (go_at_call 109; go_must (refine (isLetter_any c _).mono ?_); rintro e w' ⟨rfl, hw'⟩; subst hw') | (go_at_call 110; go_must (refine (isDigit_any c _).mono ?_); rintro e w' ⟨rfl, hw'⟩; subst hw'))
                have hp1 := hid (((((hp.out.at' i rfl).en' i rfl).tok' 0 rfl).en' (N := (i : Int) + 1) (i + 1) (by omega)).tok' 48 rfl)
                have ho1 := hid (((((Only.set P 1 w (.int .i64 (i : Int))).trans (Only.set P 2 _ (.int .i64 (i : Int)))).trans (Only.set P 3 _ (.int .u8 (0 : Int)))).trans (Only.set P 2 _ (.int .i64 ((i : Int) + 1)))).trans (Only.set P 3 _ (.int .u8 48)))
                go_loopw [133] (fun _ wr => ∃ e : Nat, e ≤ tx.size ∧ Hid (i + 1 ≤ e ∧ e + spanN digitN ((nats tx).drop e) = i + 1 + spanN digitN ((nats tx).drop (i + 1))) ∧ Hid (PAt P wr ⟨tx, i, e, 48, cd, wh, sv, uv, num⟩) ∧ Hid (Only P w wr)) (fun _ wr => tx.size - curE P wr)
                case atStart => exact ⟨i + 1, by omega, ⟨Nat.le_refl _, rfl⟩, hp1, ho1⟩
                case round =>
                  obtain ⟨e, he, hsp, hpe, hoe⟩ := hrel
                  clear hp1 ho1 hidx
                  obtain ⟨d0, -, d2, -, -, -, -, -⟩ := hpe.out.cells
                  have g2 := hpe.out.2 2
                  have hce : Hid (curE P wr = e) := hpe.out.curE
                  by_cases hee : e < tx.size
                  · have hel : Hid (e < (nats tx).length) := by rw [nats_length]; exact hee
                    have hidx := fun wx => idx_run tx e hee wx
                    obtain ⟨x, hx⟩ : ∃ x, x = (nats tx).getD e 0 := ⟨_, rfl⟩
                    rw [← hx] at hidx
                    have HX := hid hx
                    clear hx
                    have hee' : (e : Int) < (tx.size : Int) := by omega
                    cases hxd : digitN x with
                    | true =>
                      have HD := hid hxd
                      clear hxd
                      have hsp2 := hid (spanN_yes (p := digitN) hel.out (by rw [← HX.out]; exact HD.out))
                      go_wp2
                      go_quiet ((go_at_call 110; exact Calls.quiet_of_same ((isDigit_any x _).mono fun e w' h => by rw [HD.out] at h; exact h)))
                      go_wp2
                      go_roundw
                      case rel => exact ⟨e + 1, by omega, by have h1 := hsp.out; rw [hsp2.out] at h1; exact ⟨by omega, by omega⟩, hpe.out.drew.en' (e + 1) (by omega), (hoe.out.trans (Only.drew _ _ _)).trans (Only.set _ _ _ _)⟩
                      case measure => rw [hce.out, curE_set (hpe.out.drew.en' (N := (e : Int) + 1) (e + 1) (by omega))]; omega
                    | false =>
                      have HD := hid hxd
                      clear hxd
                      have hend : Hid (e = i + 1 + spanN digitN ((nats tx).drop (i + 1))) := by have h1 := hsp.out.2; rw [spanN_no hel.out (by rw [← HX.out]; exact HD.out)] at h1; exact h1
                      go_wp2
                      go_quiet ((go_at_call 110; exact Calls.quiet_of_same ((isDigit_any x _).mono fun e w' h => by rw [HD.out] at h; exact h)))
                      go_wp2
                      go_end0
                      refine ⟨rfl, ?_, hoe.out.trans (Only.drew _ _ _)⟩
                      rw [hnx.out, ← HIA.out, ← hend.out]
                      exact hpe.out
                  · have hee' : decide ((e : Int) < (tx.size : Int)) = false := by simp; omega
                    have hend : Hid (e = i + 1 + spanN digitN ((nats tx).drop (i + 1))) := by have h1 := hsp.out.2; rw [spanN_end (by rw [nats_length]; omega)] at h1; exact h1
                    go_wp2
                    go_quiet (fail)
                    go_wp2
                    go_end0
                    refine ⟨rfl, ?_, hoe.out.trans (Only.drew _ _ _)⟩
                    rw [hnx.out, ← HIA.out, ← hend.out]
                    exact hpe.out
              | false =>
                cases hsg : signN c with
                | true =>
                  have hnx := hid (nextP_sign (p := ⟨tx, a0, en, tk, cd, wh, sv, uv, num⟩) hne.out (by simp only; rw [← HIA.out, ← HC.out]; exact hlet) (by simp only; rw [← HIA.out, ← HC.out]; exact hdig) (by simp only; rw [← HIA.out, ← HC.out]; exact hsg))
                  have h7 : c = 123 ∨ c = 125 ∨ c = 40 ∨ c = 41 ∨ c = 64 ∨ c = 58 ∨ c = 59 := by simpa [signN, or_assoc] using hsg
                  clear hsg n1 n2 n3 n4 h35'
                  rcases h7 with rfl | rfl | rfl | rfl | rfl | rfl | rfl
                  all_goals
                    go_wp2_with (first | (go_at_call 109; go_must (refine (isLetter_any _ _).mono ?_); rintro e w' ⟨rfl, hw'⟩; subst hw') | (go_at_call 110; go_must (refine (isDigit_any _ _).mono ?_); rintro e w' ⟨rfl, hw'⟩; subst hw'))
                    go_end0
                    refine ⟨rfl, ?_, ((((Only.set _ _ _ _).trans (Only.set _ _ _ _)).trans (Only.set _ _ _ _)).trans (Only.set _ _ _ _)).trans (Only.set _ _ _ _)⟩
                    rw [hnx.out, ← HIA.out, ← HC.out]
                    exact ((((hp.out.at' i rfl).en' i rfl).tok' 0 rfl).en' (i + 1) (by omega)).tok' _ rfl
                | false =>
                  have hnx := hid (nextP_bad (p := ⟨tx, a0, en, tk, cd, wh, sv, uv, num⟩) hne.out (by simp only; rw [← HIA.out, ← HC.out]; exact hlet) (by simp only; rw [← HIA.out, ← HC.out]; exact hdig) (by simp only; rw [← HIA.out, ← HC.out]; exact hsg))
                  have m1 : ((c : Int) == 123) = false := by simp [signN] at hsg; simp; omega
                  have m2 : ((c : Int) == 125) = false := by simp [signN] at hsg; simp; omega
                  have m3 : ((c : Int) == 40) = false := by simp [signN] at hsg; simp; omega
                  have m4 : ((c : Int) == 41) = false := by simp [signN] at hsg; simp; omega
                  have m5 : ((c : Int) == 64) = false := by simp [signN] at hsg; simp; omega
                  have m6 : ((c : Int) == 58) = false := by simp [signN] at hsg; simp; omega
                  have m7 : ((c : Int) == 59) = false := by simp [signN] at hsg; simp; omega
                  clear hsg
                  go_wp2_with (first | (go_at_call 109; go_must (refine (isLetter_any c _).mono ?_); rintro e w' ⟨rfl, hw'⟩; subst hw') | (go_at_call 110; go_must (refine (isDigit_any c _).mono ?_); rintro e w' ⟨rfl, hw'⟩; subst hw'))
                  go_end0
                  refine ⟨rfl, ?_, ((((Only.set _ _ _ _).trans (Only.set _ _ _ _)).trans (Only.set _ _ _ _)).trans (Only.set _ _ _ _)).trans (Only.set _ _ _ _)⟩
                  rw [hnx.out, ← HIA.out]
                  exact ((((hp.out.at' i rfl).en' i rfl).tok' 0 rfl).en' (i + 1) (by omega)).tok' 33 rfl
    · have hia : i = atN (nats tx) en := by have h1 := hsk.out.2; rw [skipN_end (by rw [nats_length]; omega)] at h1; exact h1
      have hnx := hid (nextP_end (p := ⟨tx, a0, en, tk, cd, wh, sv, uv, num⟩) (by simp only; rw [← hia, nats_length]; omega))
      simp only at hnx
      rw [← hia] at hnx
      have hi0 : ((i : Int) == (tx.size : Int)) = true := by simp; omega
      clear hia hsk
      go_wp2
      (try simp only [Exit.inBlock, Exit.then])
      refine bodyPost_ret (results_none rfl _ _ _) rfl ?_
      refine ⟨rfl, ?_, ((Only.set _ _ _ _).trans (Only.set _ _ _ _)).trans (Only.set _ _ _ _)⟩
      rw [hnx.out]
      exact ((hp.out.at' i rfl).en' i rfl).tok' 0 rfl
end Go.Proofs.Ygcfad
