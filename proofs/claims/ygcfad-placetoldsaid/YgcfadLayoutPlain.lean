/-
  PLAIN: the layout of a struct's fields, as the Go text reckons it.
-/
import Derived.WalkKit
namespace Go.Proofs.Ygcfad.Plain

def maskI (s : Nat) : Int := 18446744073709551615 / 2 ^ (64 - s)
/-- The bits from a on that s bits take are free in x. -/
def freeB (x : Int) (s a : Nat) : Bool := bits BinOp.and IntKind.u64 (x / 2 ^ a) (maskI s) == 0
def scanW (x : Int) (s : Nat) : Nat → Nat → Option Nat
  | 0, _ => none
  | f + 1, a => if a < 64 then (if freeB x s a then some a else scanW x s f (a + s)) else none
def fitN (s : Nat) : Nat → List Int → Option Nat
  | _, [] => none
  | i, x :: l => match scanW x s 65 0 with
    | some a => some (i * 64 + a)
    | none => fitN s (i + 1) l
theorem scanW_lt {x : Int} {s f a r : Nat} (h : scanW x s f a = some r) : r < 64 := by
  induction f generalizing a with
  | zero => simp [scanW] at h
  | succ f ih =>
    simp only [scanW] at h
    split at h
    · split at h
      · cases h; assumption
      · exact ih h
    · cases h
theorem fitN_lt {s i r : Nat} {l : List Int} (h : fitN s i l = some r) : r < (i + l.length) * 64 := by
  induction l generalizing i with
  | nil => simp [fitN] at h
  | cons x l ih =>
    simp only [fitN] at h
    cases hs : scanW x s 65 0 with
    | some a => rw [hs] at h; cases h; have := scanW_lt hs; simp only [List.length_cons]; omega
    | none => rw [hs] at h; have := ih h; simp only [List.length_cons]; omega

/-- The bits of a scalar kind. -/
def widthN (k : Nat) : Nat := [1, 8, 16, 32, 64, 8, 16, 32, 64, 32, 64].getD k 0
theorem widthN_le (k : Nat) : widthN k ≤ 64 := by
  unfold widthN
  by_cases h : k < 11
  · match k, h with
    | 0, _ => decide
    | 1, _ => decide
    | 2, _ => decide
    | 3, _ => decide
    | 4, _ => decide
    | 5, _ => decide
    | 6, _ => decide
    | 7, _ => decide
    | 8, _ => decide
    | 9, _ => decide
    | 10, _ => decide
    | k + 11, h => omega
  · simp [List.getD, List.getElem?_eq_none (show [1, 8, 16, 32, 64, 8, 16, 32, 64, 32, 64].length ≤ k by simp; omega)]

/-- A word with s bits from a on taken. -/
def takeI (x : Int) (s a : Nat) : Int := bits BinOp.or IntKind.u64 x (IntKind.u64.wrap (maskI s * 2 ^ a))

structure Lay where
  used : List Int
  data : Nat
  ptrs : Nat

/-- One field more. -/
def layStep (L : Lay) (k : Nat) : Option Lay :=
  if 13 < k then none
  else if widthN k = 0 then (if L.ptrs = 8 then none else some { L with ptrs := L.ptrs + 1 })
  else match fitN (widthN k) 0 (L.used.take L.data) with
    | some a => some { L with used := L.used.set (a / 64) (takeI (L.used.getD (a / 64) 0) (widthN k) (a % 64)) }
    | none => if L.data = 8 then none else some { L with used := L.used.set L.data (takeI (L.used.getD L.data 0) (widthN k) 0), data := L.data + 1 }
def layFrom : Lay → List Nat → Option Lay
  | L, [] => some L
  | L, k :: l => match layStep L k with
    | none => none
    | some L' => layFrom L' l
def layN (ks : List Nat) : Option Lay := if 16 < ks.length then none else layFrom ⟨[0, 0, 0, 0, 0, 0, 0, 0], 0, 0⟩ ks

theorem layStep_ok {L L' : Lay} {k : Nat} (h : layStep L k = some L') (hu : L.used.length = 8) (hd : L.data ≤ 8) (hp : L.ptrs ≤ 8) : L'.used.length = 8 ∧ L'.data ≤ 8 ∧ L'.ptrs ≤ 8 := by
  unfold layStep at h
  split at h
  · cases h
  · split at h
    · split at h
      · cases h
      · cases h; exact ⟨hu, hd, by dsimp only; omega⟩
    · split at h
      · cases h; exact ⟨by simp [hu], hd, hp⟩
      · split at h
        · cases h
        · cases h; exact ⟨by simp [hu], by dsimp only; omega, hp⟩

theorem layFrom_step {L : Lay} {ks : List Nat} {i : Nat} (h : i < ks.length) : layFrom L (ks.drop i) = match layStep L (ks.getD i 0) with | none => none | some L' => layFrom L' (ks.drop (i + 1)) := by
  rw [List.drop_eq_getElem_cons h]
  have e : ks.getD i 0 = ks[i] := by simp [List.getD, h]
  rw [e]; rfl
theorem layFrom_end {L : Lay} {ks : List Nat} {i : Nat} (h : ks.length ≤ i) : layFrom L (ks.drop i) = some L := by rw [List.drop_eq_nil_of_le h]; rfl
end Go.Proofs.Ygcfad.Plain
