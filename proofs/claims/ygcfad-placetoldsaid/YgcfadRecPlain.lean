/-
  PLAIN: the parser of package rec, on lists of numbers. An error ends the reading: its place, its code.
-/
import Derived.Test.YgcfadSchemaPlain
namespace Go.Proofs.Ygcfad.Plain

/-- The token behind place 'en': where it begins, where it ends. -/
def nextR (T : List Nat) (en : Nat) : Nat × Nat :=
  if T.length ≤ atN T en then (atN T en, atN T en)
  else if alnumN (T.getD (atN T en) 0) then (atN T en, atN T en + 1 + spanN alnumN (T.drop (atN T en + 1)))
  else (atN T en, atN T en + 1)

/-- A field: name, kind, is it the union's. -/
structure FR where
  n : List Nat
  k : Nat
  u : Bool
structure RSt where
  a : Nat
  e : Nat
  /-- The structs so far: their names. -/
  names : List (List Nat)
  /-- The structs named as types: place, name. -/
  uses : List (Nat × List Nat)
  num : List Nat
  fs : List FR
abbrev Err := Nat × Nat
abbrev RR (α : Type) := Except Err (α × RSt)

def rbnd {α β : Type} (m : RSt → RR α) (f : α → RSt → RR β) : RSt → RR β := fun s =>
  match m s with
  | .error x => .error x
  | .ok (a, s') => f a s'
def tokR (T : List Nat) (s : RSt) : List Nat := (T.drop s.a).take (s.e - s.a)
def nextS (T : List Nat) (s : RSt) : RSt := { s with a := (nextR T s.e).1, e := (nextR T s.e).2 }
def expR (T w : List Nat) (s : RSt) : RR Unit := if tokR T s = w then .ok ((), nextS T s) else .error (s.a, 1)

def UNION : List Nat := [117, 110, 105, 111, 110]
def VOID : List Nat := [86, 111, 105, 100]
def isNameN (w : List Nat) (cap : Bool) : Bool :=
  !w.isEmpty && decide (w.length ≤ 8) && letterN (w.headD 0) && !(cap && decide (90 < w.headD 0)) && !(w == UNION) && w.tail.all alnumN
def nameR (T : List Nat) (cap : Bool) (s : RSt) : RR (List Nat) :=
  if 8 < (tokR T s).length ∧ isNameN ((tokR T s).take 8) cap = true then .error (s.a, 2)
  else if isNameN (tokR T s) cap = true then .ok (tokR T s, nextS T s) else .error (s.a, 1)
def kindR (w : List Nat) : Option Nat := if w = [] then none else match kindOfN w with
  | some k => some k
  | none => if w = VOID then some 14 else none
def builtR (w : List Nat) : Bool := (kindR w).isSome || w == LIST
def ordR (w : List Nat) : Option Nat := if w ≠ [] ∧ w.all digitN = true then some (valN 0 w) else none

/-- The Lists of a type: how many; more than two break it. -/
def listsR (T : List Nat) (first : Nat) : Nat → Nat → RSt → RR Nat
  | 0, n, s => .ok (n, s)
  | f + 1, n, s => if tokR T s = LIST then (if 2 < n + 1 then .error (first, 6) else rbnd (expR T [40]) (fun _ => listsR T first f (n + 1)) (nextS T s)) else .ok (n, s)
def baseR (T : List Nat) (s : RSt) : RR Nat :=
  match kindR (tokR T s) with
  | some k => .ok (k, nextS T s)
  | none => rbnd (nameR T true) (fun nm s' => .ok (13, { s' with uses := s'.uses ++ [(s.a, nm)] })) s
def closeR (T : List Nat) : Nat → RSt → RR Unit
  | 0, s => .ok ((), s)
  | n + 1, s => rbnd (expR T [41]) (fun _ => closeR T n) s
def typR (T : List Nat) (un : Bool) (s : RSt) : RR Nat :=
  rbnd (listsR T s.a 3 0) (fun nest => rbnd (baseR T) (fun kd s' =>
    if (kd = 14 ∧ (0 < nest ∨ un = false)) ∨ (0 < nest ∧ kd = 0) then .error (s.a, 6)
    else rbnd (closeR T nest) (fun _ s'' => .ok (if nest = 0 then kd else 12, s'')) s')) s

def hexdN (c : Nat) : Option Nat :=
  if (65 ≤ c ∧ c ≤ 70) ∨ (97 ≤ c ∧ c ≤ 102) then some ((c ||| 32) - 97 + 10) else if digitN c = true then some (c - 48) else none
def digitsN (base : Nat) : Nat → List Nat → Option Nat
  | v, [] => some v
  | v, c :: l => match hexdN c with
    | none => none
    | some d => if base ≤ d ∨ (18446744073709551615 - d) / base < v then none else digitsN base (v * base + d) l
def isHex (w : List Nat) : Bool := w.take 2 == [48, 120]
/-- The number that w writes. -/
def numberN (w : List Nat) : Option Nat :=
  if 2 < w.length ∧ isHex w = true then digitsN 16 0 (w.drop 2) else if w = [] then none else digitsN 10 0 w
def TRUE : List Nat := [116, 114, 117, 101]
def FALSE : List Nat := [102, 97, 108, 115, 101]
def mostN (k : Nat) : Nat := 2 ^ widthN k - 1
/-- Whether w, behind a minus or not, is a value of kind k. -/
def fitsN (k : Nat) (neg : Bool) (w : List Nat) : Bool :=
  match numberN w with
  | none => false
  | some v =>
    if ((k = 9 ∨ k = 10) ∧ isHex w = false) ∨ (k = 0 ∧ isHex w = false) ∨ (isHex w = true ∧ neg = true) ∨ (neg = true ∧ ¬ (1 ≤ k ∧ k ≤ 4)) then false
    else if neg = true then decide (v ≤ mostN k / 2 + 1)
    else if (1 ≤ k ∧ k ≤ 4) ∧ isHex w = false then decide (v ≤ mostN k / 2)
    else decide (v ≤ mostN k)
def valueR (T : List Nat) (k : Nat) (s : RSt) : RR Unit :=
  if widthN k = 0 then .error (s.a, 7)
  else if tokR T s = [45] then
    (if tokR T (nextS T s) = [] ∨ digitN ((tokR T (nextS T s)).headD 0) = false then .error ((nextS T s).a, 1)
     else if fitsN k true (tokR T (nextS T s)) = true then .ok ((), nextS T (nextS T s)) else .error (s.a, 7))
  else if k = 0 ∧ (tokR T s = TRUE ∨ tokR T s = FALSE) then .ok ((), nextS T s)
  else if tokR T s = [] ∨ digitN ((tokR T s).headD 0) = false then .error (s.a, 1)
  else if fitsN k false (tokR T s) = true then .ok ((), nextS T s) else .error (s.a, 7)

def dfltR (T : List Nat) (k : Nat) (s : RSt) : RR Unit := if tokR T s = [61] then valueR T k (nextS T s) else .ok ((), s)
def fieldR (T : List Nat) (un : Bool) (s : RSt) : RR Unit :=
  rbnd (nameR T false) (fun nm s1 =>
    if s1.fs.any (fun f => f.n == nm) = true then .error (s.a, 3)
    else if 16 ≤ s1.fs.length then .error (s.a, 2)
    else rbnd (expR T [64]) (fun _ s2 =>
      match ordR (tokR T s2) with
      | none => .error (s2.a, 1)
      | some n => rbnd (expR T [58]) (fun _ => rbnd (typR T un) (fun k => rbnd (dfltR T k) (fun _ s5 =>
          expR T [59] { s5 with fs := s5.fs ++ [⟨nm, k, un⟩], num := s5.num ++ [n] }))) (nextS T s2)) s1) s
def ufieldsR (T : List Nat) : Nat → RSt → RR Unit
  | 0, s => .ok ((), s)
  | f + 1, s => if tokR T s = [125] then .ok ((), s) else rbnd (fieldR T true) (fun _ => ufieldsR T f) s
def unionR (T : List Nat) (s : RSt) : RR Unit :=
  rbnd (expR T [123]) (fun _ s1 =>
    if (decide (tokR T s1 = [125]) || s1.fs.any (fun f => f.u)) = true then .error (s.a, 8)
    else rbnd (ufieldsR T (T.length + 1)) (fun _ s2 => .ok ((), nextS T s2)) s1) (nextS T s)
def bodyR (T : List Nat) : Nat → RSt → RR Unit
  | 0, s => .ok ((), s)
  | f + 1, s => if tokR T s = [125] then .ok ((), s) else rbnd (if tokR T s = UNION then unionR T else fieldR T false) (fun _ => bodyR T f) s

/-- The fields put in the order of the numbers. -/
def sortR (n : Nat) : List FR → List Nat → List (Option FR) → Option (List (Option FR))
  | [], _, acc => some acc
  | f :: fs, nums, acc => if n ≤ nums.headD 0 ∨ (acc.getD (nums.headD 0) none).isSome then none else sortR n fs nums.tail (acc.set (nums.headD 0) (some f))
def ptrN (k : Nat) : Bool := k == 11 || k == 12 || k == 13
/-- The kinds that fields are laid out as; what the union has so far: discriminant, word, slot. -/
def entN : List FR → Bool → Bool → Bool → List Nat
  | [], _, _, _ => []
  | f :: l, tg, wd, sl =>
    (if (f.u && !tg) = true then [6] else []) ++
    (if f.k = 14 then entN l (tg || f.u) wd sl
     else if f.u = false then f.k :: entN l tg wd sl
     else if ptrN f.k = true then (if sl = true then [] else [11]) ++ entN l true wd true
     else (if wd = true then [] else [8]) ++ entN l true true sl)
def layR (fs : List FR) : Bool := (layN (entN fs false false false)).isSome
def orderR (s : RSt) : Except Err Unit :=
  match sortR s.fs.length s.fs s.num (List.replicate s.fs.length none) with
  | none => .error (s.a, 5)
  | some acc => if layR (acc.map (·.getD ⟨[], 0, false⟩)) = true then .ok () else .error (s.a, 2)
def strctR (T : List Nat) (s : RSt) : RR Unit :=
  rbnd (expR T STRUCT) (fun _ s1 => rbnd (nameR T true) (fun nm s2 =>
    if 4 ≤ s2.names.length then .error (s1.a, 2)
    else if (builtR nm || s2.names.any (· == nm)) = true then .error (s1.a, 3)
    else rbnd (expR T [123]) (fun _ s3 => rbnd (bodyR T (T.length + 1)) (fun _ s4 =>
      match orderR s4 with
      | .error x => .error x
      | .ok _ => expR T [125] { s4 with names := s4.names ++ [nm] }) { s3 with fs := [], num := [] }) s2) s1) s
def topR (T : List Nat) : Nat → RSt → RR Unit
  | 0, s => .ok ((), s)
  | f + 1, s => if tokR T s = [] then .ok ((), s) else rbnd (strctR T) (fun _ => topR T f) s
def bindR (names : List (List Nat)) : List (Nat × List Nat) → Option Nat
  | [] => none
  | u :: us => if names.any (· == u.2) = true then bindR names us else some u.1
def startR (T : List Nat) : RSt := nextS T ⟨0, 0, [], [], [], []⟩
/-- Place and code of the first error; 0, 0 where there is none. -/
def recN (T : List Nat) : Nat × Nat :=
  if 4096 < T.length then (0, 2)
  else match topR T (T.length + 1) (startR T) with
    | .error x => x
    | .ok (_, s) => match bindR s.names s.uses with
      | some a => (a, 4)
      | none => (0, 0)
end Go.Proofs.Ygcfad.Plain
