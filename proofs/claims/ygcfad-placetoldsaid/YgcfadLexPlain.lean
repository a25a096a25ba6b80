/-
  PLAIN: the characters and tokens of a schema text. No Go in sight.
-/
import Derived.WalkKit
namespace Go.Proofs.Ygcfad.Plain

def letterN (c : Nat) : Bool := (decide (65 ≤ c) && decide (c ≤ 90)) || (decide (97 ≤ c) && decide (c ≤ 122))
def digitN (c : Nat) : Bool := decide (48 ≤ c) && decide (c ≤ 57)
def alnumN (c : Nat) : Bool := letterN c || digitN c
def blankN (c : Nat) : Bool := c == 32 || c == 9 || c == 10 || c == 13
def signN (c : Nat) : Bool := c == 123 || c == 125 || c == 40 || c == 41 || c == 64 || c == 58 || c == 59

/-- How many characters of blanks and comments a text begins with; 'cm': it begins inside a comment. -/
def skipN : Bool → List Nat → Nat
  | _, [] => 0
  | cm, c :: l => if cm || c == 35 then 1 + skipN (c != 10) l else if blankN c then 1 + skipN false l else 0
/-- How many characters that p takes a text begins with. -/
def spanN (p : Nat → Bool) : List Nat → Nat
  | [] => 0
  | c :: l => if p c then 1 + spanN p l else 0

theorem skipN_le (cm : Bool) (l : List Nat) : skipN cm l ≤ l.length := by
  induction l generalizing cm with
  | nil => simp [skipN]
  | cons c l ih =>
    simp only [skipN, List.length_cons]
    split
    · have := ih (c != 10); omega
    · split
      · have := ih false; omega
      · omega
theorem spanN_le (p : Nat → Bool) (l : List Nat) : spanN p l ≤ l.length := by
  induction l with
  | nil => simp [spanN]
  | cons c l ih => simp only [spanN, List.length_cons]; split <;> omega

theorem skipN_in {cm : Bool} {T : List Nat} {i : Nat} (h : i < T.length) (hc : (cm || T.getD i 0 == 35) = true) : skipN cm (T.drop i) = 1 + skipN (T.getD i 0 != 10) (T.drop (i + 1)) := by
  rw [List.drop_eq_getElem_cons h]
  have e : T.getD i 0 = T[i] := by simp [List.getD, h]
  rw [e] at hc ⊢
  rw [skipN, if_pos hc]
theorem skipN_blank {T : List Nat} {i : Nat} (h : i < T.length) (hc : (T.getD i 0 == 35) = false) (hb : blankN (T.getD i 0) = true) : skipN false (T.drop i) = 1 + skipN false (T.drop (i + 1)) := by
  rw [List.drop_eq_getElem_cons h]
  have e : T.getD i 0 = T[i] := by simp [List.getD, h]
  rw [e] at hc hb
  rw [skipN, if_neg (by simp [hc]), if_pos hb]
theorem skipN_stop {T : List Nat} {i : Nat} (h : i < T.length) (hc : (T.getD i 0 == 35) = false) (hb : blankN (T.getD i 0) = false) : skipN false (T.drop i) = 0 := by
  rw [List.drop_eq_getElem_cons h]
  have e : T.getD i 0 = T[i] := by simp [List.getD, h]
  rw [e] at hc hb
  rw [skipN, if_neg (by simp [hc]), if_neg (by simp [hb])]
theorem skipN_end {cm : Bool} {T : List Nat} {i : Nat} (h : T.length ≤ i) : skipN cm (T.drop i) = 0 := by rw [List.drop_eq_nil_of_le h]; rfl
theorem spanN_yes {p : Nat → Bool} {T : List Nat} {i : Nat} (h : i < T.length) (hp : p (T.getD i 0) = true) : spanN p (T.drop i) = 1 + spanN p (T.drop (i + 1)) := by
  rw [List.drop_eq_getElem_cons h]
  have e : T.getD i 0 = T[i] := by simp [List.getD, h]
  rw [e] at hp
  rw [spanN, if_pos hp]
theorem spanN_no {p : Nat → Bool} {T : List Nat} {i : Nat} (h : i < T.length) (hp : p (T.getD i 0) = false) : spanN p (T.drop i) = 0 := by
  rw [List.drop_eq_getElem_cons h]
  have e : T.getD i 0 = T[i] := by simp [List.getD, h]
  rw [e] at hp
  rw [spanN, if_neg (by simp [hp])]
theorem spanN_end {p : Nat → Bool} {T : List Nat} {i : Nat} (h : T.length ≤ i) : spanN p (T.drop i) = 0 := by rw [List.drop_eq_nil_of_le h]; rfl

/-- The token behind place 'en': where it begins, where it ends, its kind. -/
def atN (T : List Nat) (en : Nat) : Nat := en + skipN false (T.drop en)
def nextN (T : List Nat) (en : Nat) : Nat × Nat × Nat :=
  if T.length ≤ atN T en then (atN T en, atN T en, 0)
  else if letterN (T.getD (atN T en) 0) then (atN T en, atN T en + 1 + spanN alnumN (T.drop (atN T en + 1)), 97)
  else if digitN (T.getD (atN T en) 0) then (atN T en, atN T en + 1 + spanN digitN (T.drop (atN T en + 1)), 48)
  else if signN (T.getD (atN T en) 0) then (atN T en, atN T en + 1, T.getD (atN T en) 0)
  else (atN T en, atN T en + 1, 33)

theorem atN_le {T : List Nat} {en : Nat} (h : en ≤ T.length) : en ≤ atN T en ∧ atN T en ≤ T.length := by
  have := skipN_le false (T.drop en)
  unfold atN; simp at this; omega
theorem nextN_le {T : List Nat} {en : Nat} (h : en ≤ T.length) : en ≤ (nextN T en).1 ∧ (nextN T en).1 ≤ (nextN T en).2.1 ∧ (nextN T en).2.1 ≤ T.length := by
  have h1 := atN_le h
  have h2 := spanN_le alnumN (T.drop (atN T en + 1))
  have h3 := spanN_le digitN (T.drop (atN T en + 1))
  simp only [List.length_drop] at h2 h3
  unfold nextN
  split
  · exact ⟨h1.1, Nat.le_refl _, h1.2⟩
  · split
    · dsimp only; omega
    · split
      · dsimp only; omega
      · split <;> (dsimp only; omega)
end Go.Proofs.Ygcfad.Plain
