/-
  PLAIN: the names of the built-in types, capitals, numbers.
-/
import Derived.Test.YgcfadLexPlain
namespace Go.Proofs.Ygcfad.Plain

/-- The names of the built-in types, by their kinds. -/
def kindNames : List (List Nat) := [[66, 111, 111, 108], [73, 110, 116, 56], [73, 110, 116, 49, 54], [73, 110, 116, 51, 50], [73, 110, 116, 54, 52], [85, 73, 110, 116, 56], [85, 73, 110, 116, 49, 54], [85, 73, 110, 116, 51, 50], [85, 73, 110, 116, 54, 52], [70, 108, 111, 97, 116, 51, 50], [70, 108, 111, 97, 116, 54, 52], [84, 101, 120, 116]]
def kindFrom : Nat → List (List Nat) → List Nat → Option Nat
  | _, [], _ => none
  | k, n :: ns, s => if n == s then some k else kindFrom (k + 1) ns s
def kindOfN (s : List Nat) : Option Nat := kindFrom 0 kindNames s
def capN (s : List Nat) : Bool := match s with | [] => false | c :: _ => decide (65 ≤ c) && decide (c ≤ 90)
def builtN (s : List Nat) : Bool := (kindOfN s).isSome || s == [76, 105, 115, 116]
/-- The number that digits write, cut to 16. -/
def valN : Nat → List Nat → Nat
  | n, [] => n
  | n, c :: l => valN (min (n * 10 + (c + 208) % 256) 16) l
theorem valN_le (n : Nat) (l : List Nat) (h : n ≤ 16) : valN n l ≤ 16 := by
  induction l generalizing n with
  | nil => exact h
  | cons c l ih => exact ih _ (Nat.min_le_right _ _)
theorem kindFrom_yes {k : Nat} {ns : List (List Nat)} {s : List Nat} {i : Nat} (h : i < ns.length) (he : ns.getD i [] = s) : kindFrom k (ns.drop i) s = some k := by
  rw [List.drop_eq_getElem_cons h]
  have e : ns.getD i [] = ns[i] := by simp [List.getD, h]
  rw [e] at he
  rw [kindFrom, if_pos (by simpa using he)]
theorem kindFrom_no {k : Nat} {ns : List (List Nat)} {s : List Nat} {i : Nat} (h : i < ns.length) (he : ¬ ns.getD i [] = s) : kindFrom k (ns.drop i) s = kindFrom (k + 1) (ns.drop (i + 1)) s := by
  rw [List.drop_eq_getElem_cons h]
  have e : ns.getD i [] = ns[i] := by simp [List.getD, h]
  rw [e] at he
  rw [kindFrom, if_neg (by simpa using he)]
end Go.Proofs.Ygcfad.Plain
