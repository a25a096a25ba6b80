/-
  PLAIN: the parser of package schema, on lists of numbers. 'none': a break of the grammar, the reading stops.
-/
import Derived.Test.YgcfadNamesPlain
import Derived.Test.YgcfadLayoutPlain
namespace Go.Proofs.Ygcfad.Plain

/-- The token in hand (where it begins, ends; its kind), the first error's code and its place. -/
structure Q where
  a : Nat
  e : Nat
  t : Nat
  c : Nat
  x : Nat

def wordQ (T : List Nat) (q : Q) : List Nat := (T.drop q.a).take (q.e - q.a)
def nextQ (T : List Nat) (q : Q) : Q := { q with a := (nextN T q.e).1, e := (nextN T q.e).2.1, t := (nextN T q.e).2.2 }
def failQ (q : Q) (a c : Nat) : Q := if q.c = 0 ∨ a < q.x ∨ (a = q.x ∧ c < q.c) then { q with c := c, x := a } else q
def expectQ (T : List Nat) (k : Nat) (q : Q) : Option Unit × Q := if q.t = k then (some (), nextQ T q) else (none, failQ q q.a 1)
def nameQ (T : List Nat) (cap : Bool) (q : Q) : Option (List Nat × Nat) × Q :=
  if (decide (q.t = 97) && (!cap || capN (wordQ T q))) = true then (some (wordQ T q, q.a), if 8 < (wordQ T q).length then failQ (nextQ T q) q.a 2 else nextQ T q)
  else (none, failQ q q.a 1)

structure St where
  q : Q
  /-- The structs so far: their names. -/
  names : List (List Nat)
  /-- The uses of names as types: place, struct, field, name. -/
  uses : List (Nat × Nat × Nat × List Nat)
  num : List Nat
  /-- The fields of the struct in hand: name, kind. -/
  fs : List (List Nat × Nat)

def bnd {α β : Type} (m : St → Option α × St) (f : α → St → Option β × St) : St → Option β × St := fun s =>
  match m s with
  | (none, s') => (none, s')
  | (some a, s') => f a s'
def onQ {α : Type} (f : Q → Option α × Q) : St → Option α × St := fun s => ((f s.q).1, { s with q := (f s.q).2 })

def LIST : List Nat := [76, 105, 115, 116]
def STRUCT : List Nat := [115, 116, 114, 117, 99, 116]

def listsS (T : List Nat) : Nat → Nat → St → Option Nat × St
  | 0, _, s => (none, s)
  | f + 1, n, s => if s.q.t = 97 ∧ wordQ T s.q = LIST then bnd (onQ (expectQ T 40)) (fun _ => listsS T f (n + 1)) { s with q := nextQ T s.q } else (some n, s)
def kindS (T : List Nat) (k i : Nat) (s : St) : Option Nat × St :=
  if s.q.t = 97 ∧ (kindOfN (wordQ T s.q)).isSome = true then (some ((kindOfN (wordQ T s.q)).getD 0), { s with q := nextQ T s.q })
  else match nameQ T true s.q with
    | (none, q') => (none, { s with q := q' })
    | (some (nm, at_), q') => (some 13, { s with q := q', uses := s.uses ++ [(at_, k, i, nm)] })
def closeS (T : List Nat) : Nat → St → Option Unit × St
  | 0, s => (some (), s)
  | n + 1, s => bnd (onQ (expectQ T 41)) (fun _ => closeS T n) s
/-- A list of Bool, or too deep. -/
def badS (nest kd first : Nat) (s : St) : St := if 2 < nest ∨ (0 < nest ∧ kd = 0) then { s with q := failQ s.q first 6 } else s
def typS (T : List Nat) (k i : Nat) (s : St) : Option Nat × St :=
  bnd (listsS T (T.length + 1) 0) (fun nest => bnd (kindS T k i) (fun kd s' => bnd (closeS T nest) (fun _ s'' => (some (if nest = 0 then kd else 12), s'')) (badS nest kd s.q.a s'))) s

def fieldS (T : List Nat) (k i : Nat) (s : St) : Option Unit × St :=
  match nameQ T false s.q with
  | (none, q') => (none, { s with q := q' })
  | (some (nm, at_), q1) =>
    bnd (onQ (expectQ T 64)) (fun _ s2 =>
      bnd (onQ (expectQ T 48)) (fun _ => bnd (onQ (expectQ T 58)) (fun _ => bnd (typS T k i) (fun kd s5 =>
        onQ (expectQ T 59) { s5 with fs := s5.fs ++ [(nm, kd)], num := if i < 16 then s5.num.set i (valN 0 (wordQ T s2.q)) else s5.num }))) s2)
      { s with q := if s.fs.any (fun f => f.1 == nm) then failQ (if 16 ≤ i then failQ q1 at_ 2 else q1) at_ 3 else (if 16 ≤ i then failQ q1 at_ 2 else q1) }
def fieldsS (T : List Nat) (k : Nat) : Nat → Nat → St → Option Unit × St
  | 0, _, s => (none, s)
  | f + 1, i, s => if s.q.t = 125 then (some (), s) else bnd (fieldS T k i) (fun _ => fieldsS T k f (i + 1)) s

/-- The kinds put in the order of the numbers. -/
def sortN (n : Nat) : List Nat → List Nat → List (Option Nat) → Option (List (Option Nat))
  | [], _, acc => some acc
  | k :: ks, nums, acc => if n ≤ nums.headD 0 ∨ (acc.getD (nums.headD 0) none).isSome then none else sortN n ks nums.tail (acc.set (nums.headD 0) (some k))
def orderS (k at_ : Nat) (s : St) : St :=
  if 16 < s.fs.length then s
  else match sortN s.fs.length (s.fs.map (·.2)) s.num (List.replicate s.fs.length none) with
    | none => { s with q := failQ s.q at_ 5 }
    | some acc =>
      match layN (acc.map (·.getD 0)) with
      | none => { s with q := failQ s.q at_ 2, uses := s.uses.map (fun u => if u.2.1 = k then (u.1, u.2.1, s.num.getD u.2.2.1 0, u.2.2.2) else u) }
      | some _ => { s with uses := s.uses.map (fun u => if u.2.1 = k then (u.1, u.2.1, s.num.getD u.2.2.1 0, u.2.2.2) else u) }
def strctS (T : List Nat) (s : St) : Option Unit × St :=
  if s.q.t = 97 ∧ wordQ T s.q = STRUCT then
    match nameQ T true (nextQ T s.q) with
    | (none, q') => (none, { s with q := q' })
    | (some (nm, at_), q1) =>
      bnd (onQ (expectQ T 123)) (fun _ => bnd (fieldsS T s.names.length (T.length + 1) 0) (fun _ s3 => onQ (expectQ T 125) (orderS s.names.length s3.q.a s3)))
        { s with q := if (builtN nm || s.names.any (· == nm)) = true then failQ (if 4 ≤ s.names.length then failQ q1 at_ 2 else q1) at_ 3 else (if 4 ≤ s.names.length then failQ q1 at_ 2 else q1),
                 names := s.names ++ [nm], fs := [] }
  else (none, { s with q := failQ s.q s.q.a 1 })
def topS (T : List Nat) : Nat → St → St
  | 0, s => s
  | f + 1, s => if s.q.t = 0 then s else match strctS T s with
    | (none, s') => s'
    | (some _, s') => topS T f s'
def bindQ (names : List (List Nat)) : List (Nat × Nat × Nat × List Nat) → Q → Q
  | [], q => q
  | u :: us, q => bindQ names us (if names.any (· == u.2.2.2) then q else failQ q u.1 4)
def startS (T : List Nat) : St := ⟨nextQ T ⟨0, 0, 0, 0, 0⟩, [], [], List.replicate 16 0, []⟩
/-- Place and code of the first error; 0, 0 where there is none. -/
def parseN (T : List Nat) : Nat × Nat :=
  if 1024 < T.length then
    (if (nextQ (T.take 8) ⟨0, 0, 0, 0, 0⟩).a = 0 ∧ ((nextQ (T.take 8) ⟨0, 0, 0, 0, 0⟩).t ≠ 97 ∨ wordQ (T.take 8) (nextQ (T.take 8) ⟨0, 0, 0, 0, 0⟩) ≠ STRUCT) then (0, 1) else (0, 2))
  else
    (if (bindQ (topS T (T.length + 1) (startS T)).names (topS T (T.length + 1) (startS T)).uses (topS T (T.length + 1) (startS T)).q).c = 0 then (0, 0)
     else ((bindQ (topS T (T.length + 1) (startS T)).names (topS T (T.length + 1) (startS T)).uses (topS T (T.length + 1) (startS T)).q).x, (bindQ (topS T (T.length + 1) (startS T)).names (topS T (T.length + 1) (startS T)).uses (topS T (T.length + 1) (startS T)).q).c))

def bytesOf (s : String) : List Nat := s.toList.map Char.toNat
end Go.Proofs.Ygcfad.Plain
