/-
  PLAIN LISTS: the packed stream of a list of words, and what a stream unpacks to. No Go in sight.
-/
import Derived.Test.YgcfadTag
namespace Go.Proofs.Ygcfad.Plain

/-- How many words a list begins with that p takes, at most m. -/
def runP (p : Nat → Bool) : List Nat → Nat → Nat
  | [], _ => 0
  | _ :: _, 0 => 0
  | x :: l, m + 1 => if p x then 1 + runP p l m else 0

theorem runP_le (p : Nat → Bool) (l : List Nat) (m : Nat) : runP p l m ≤ l.length ∧ runP p l m ≤ m := by
  induction l generalizing m with
  | nil => simp [runP]
  | cons x l ih =>
    cases m with
    | zero => simp [runP]
    | succ m => have := ih m; simp only [runP, List.length_cons]; split <;> omega

theorem runP_drop_end (p : Nat → Bool) (l : List Nat) (k m : Nat) (h : l.length ≤ k) : runP p (l.drop k) m = 0 := by
  rw [List.drop_eq_nil_of_le h]; simp [runP]
theorem runP_zero (p : Nat → Bool) (l : List Nat) : runP p l 0 = 0 := by cases l <;> simp [runP]
theorem runP_yes (p : Nat → Bool) (l : List Nat) (k m : Nat) (h : k < l.length) (hm : k < m) (hp : p (l.getD k 0) = true) : runP p (l.drop k) (m - k) = 1 + runP p (l.drop (k + 1)) (m - (k + 1)) := by
  have e : m - k = (m - (k + 1)) + 1 := by omega
  rw [List.drop_eq_getElem_cons h, e, runP]
  have : l.getD k 0 = l[k] := by simp [List.getD, h]
  rw [this] at hp
  rw [if_pos hp]
theorem runP_no (p : Nat → Bool) (l : List Nat) (k m : Nat) (h : k < l.length) (hp : p (l.getD k 0) = false) : runP p (l.drop k) (m - k) = 0 := by
  rw [List.drop_eq_getElem_cons h]
  have : l.getD k 0 = l[k] := by simp [List.getD, h]
  rw [this] at hp
  cases m - k <;> simp [runP, hp]

/-- The bytes of a word that are not zero, the least first. -/
def nzF : Nat → Nat → List Nat
  | 0, _ => []
  | n + 1, w => (if w % 256 = 0 then [] else [w % 256]) ++ nzF n (w / 256)
theorem nzF_zero (n : Nat) : nzF n 0 = [] := by induction n with | zero => rfl | succ n ih => simp [nzF, ih]
theorem nzF_length (n w : Nat) : (nzF n w).length ≤ n := by
  induction n generalizing w with
  | zero => simp [nzF]
  | succ n ih => have := ih (w / 256); simp only [nzF, List.length_append]; split <;> simp <;> omega

/-- The eight bytes of a word. -/
def by8 (x : Nat) : List Nat := [x % 256, x / 256 % 256, x / 65536 % 256, x / 16777216 % 256, x / 4294967296 % 256, x / 1099511627776 % 256, x / 281474976710656 % 256, x / 72057594037927936 % 256]

/-- The packed stream of the words ahead; 'd' says which tags a verbatim run takes. -/
def packF (d : Nat → Bool) : Nat → List Nat → List Nat
  | 0, _ => []
  | _ + 1, [] => []
  | f + 1, w :: r =>
    tagN w :: (nzF 8 w ++
      (if tagN w = 0 then runP (· == 0) r 255 :: packF d f (r.drop (runP (· == 0) r 255))
       else if tagN w = 255 then runP (fun x => d (tagN x)) r 255 :: ((r.take (runP (fun x => d (tagN x)) r 255)).flatMap by8 ++ packF d f (r.drop (runP (fun x => d (tagN x)) r 255)))
       else packF d f r))

theorem packF_nil (d : Nat → Bool) (f : Nat) : packF d f [] = [] := by cases f <;> rfl

/-- More fuel than words changes nothing. -/
theorem packF_fuel (d : Nat → Bool) (f g : Nat) (l : List Nat) (hf : l.length ≤ f) (hg : l.length ≤ g) : packF d f l = packF d g l := by
  induction f generalizing g l with
  | zero => cases l with | nil => rw [packF_nil, packF_nil] | cons x l => simp at hf
  | succ f ih =>
    cases l with
    | nil => rw [packF_nil, packF_nil]
    | cons x l =>
      cases g with
      | zero => simp at hg
      | succ g =>
        simp only [List.length_cons] at hf hg
        simp only [packF]
        rw [ih g (l.drop _) (by simp; omega) (by simp; omega), ih g (l.drop _) (by simp; omega) (by simp; omega), ih g l (by omega) (by omega)]

def packN (d : Nat → Bool) (l : List Nat) : List Nat := packF d l.length l

/-- One word of the stream and what follows it. -/
theorem packN_cons (d : Nat → Bool) (w : Nat) (r : List Nat) : packN d (w :: r) =
    tagN w :: (nzF 8 w ++
      (if tagN w = 0 then runP (· == 0) r 255 :: packN d (r.drop (runP (· == 0) r 255))
       else if tagN w = 255 then runP (fun x => d (tagN x)) r 255 :: ((r.take (runP (fun x => d (tagN x)) r 255)).flatMap by8 ++ packN d (r.drop (runP (fun x => d (tagN x)) r 255)))
       else packN d r)) := by
  unfold packN
  simp only [List.length_cons, packF]
  rw [packF_fuel d r.length (r.drop (runP (· == 0) r 255)).length (r.drop _) (by simp) (by simp), packF_fuel d r.length (r.drop (runP (fun x => d (tagN x)) r 255)).length (r.drop _) (by simp) (by simp)]

theorem flatMap_by8_length (l : List Nat) : (l.flatMap by8).length = 8 * l.length := by
  induction l with
  | nil => rfl
  | cons x l ih => rw [List.flatMap_cons, List.length_append, ih]; simp [by8]; omega

theorem packF_length (d : Nat → Bool) (f : Nat) (l : List Nat) : (packF d f l).length ≤ 10 * l.length := by
  induction f generalizing l with
  | zero => simp [packF]
  | succ f ih =>
    cases l with
    | nil => simp [packF]
    | cons x l =>
      have h8 := nzF_length 8 x
      have h1 := ih (l.drop (runP (· == 0) l 255))
      have h2 := ih (l.drop (runP (fun x => d (tagN x)) l 255))
      have h3 := ih l
      have r1 := (runP_le (· == 0) l 255).1
      have r2 := (runP_le (fun x => d (tagN x)) l 255).1
      simp only [packF, List.length_cons, List.length_append]
      rw [List.length_drop] at h1 h2
      split
      · simp only [List.length_cons]; omega
      · split
        · simp only [List.length_cons, List.length_append, flatMap_by8_length, List.length_take]; omega
        · omega
theorem packN_length (d : Nat → Bool) (l : List Nat) : (packN d l).length ≤ 10 * l.length := packF_length d _ l
theorem prefix_length {a b c : List Nat} (h : a ++ b = c) : a.length ≤ c.length := by rw [← h]; simp

theorem pack_zero_run {d : Nat → Bool} {zs out o2 P : List Nat} {k x r : Nat} (hd : zs.drop k = x :: zs.drop (k + 1)) (h0 : tagN x = 0) (hr : runP (· == 0) (zs.drop (k + 1)) 255 = r)
    (ho : out ++ packN d (zs.drop k) = P) (h2 : o2 = (out ++ [tagN x]) ++ nzF 8 x) : (o2 ++ [r]) ++ packN d (zs.drop (k + r + 1)) = P := by
  have e : zs.drop (k + r + 1) = (zs.drop (k + 1)).drop r := by rw [List.drop_drop]; congr 1; omega
  rw [← ho, hd, packN_cons, if_pos h0, hr, h2, e]
  simp
theorem pack_full_run {d : Nat → Bool} {zs out o2 P : List Nat} {k x r : Nat} (hd : zs.drop k = x :: zs.drop (k + 1)) (h0 : tagN x = 255) (hr : runP (fun x => d (tagN x)) (zs.drop (k + 1)) 255 = r)
    (ho : out ++ packN d (zs.drop k) = P) (h2 : o2 = (out ++ [tagN x]) ++ nzF 8 x) : ((o2 ++ [r]) ++ ((zs.drop (k + 1)).take r).flatMap by8) ++ packN d (zs.drop (k + r + 1)) = P := by
  have e : zs.drop (k + r + 1) = (zs.drop (k + 1)).drop r := by rw [List.drop_drop]; congr 1; omega
  rw [← ho, hd, packN_cons, if_neg (by omega), if_pos h0, hr, h2, e]
  simp
theorem pack_plain {d : Nat → Bool} {zs out o2 P : List Nat} {k x : Nat} (hd : zs.drop k = x :: zs.drop (k + 1)) (h0 : ¬ tagN x = 0) (h1 : ¬ tagN x = 255)
    (ho : out ++ packN d (zs.drop k) = P) (h2 : o2 = (out ++ [tagN x]) ++ nzF 8 x) : o2 ++ packN d (zs.drop (k + 1)) = P := by
  rw [← ho, hd, packN_cons, if_neg h0, if_neg h1, h2]
  simp
end Go.Proofs.Ygcfad.Plain
