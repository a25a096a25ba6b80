/-
  PLAIN LISTS: what a packed stream unpacks to; Unpack gives back what Pack was given. No Go in sight.
-/
import Derived.Test.YgcfadPackPlain
namespace Go.Proofs.Ygcfad.Plain

/-- The places of the bits that are set, the least first, from 'off' on. -/
def bitsL : Nat → Nat → Nat → List Nat
  | 0, _, _ => []
  | n + 1, off, t => (if t % 2 = 0 then [] else [off]) ++ bitsL n (off + 1) (t / 2)
def places (t : Nat) : List Nat := bitsL 8 0 t

/-- The word whose bytes at the given places are given. -/
def valL : List Nat → List Nat → Nat
  | [], _ => 0
  | p :: ps, bs => bs.headD 0 * 256 ^ p + valL ps bs.tail

theorem bitsL_even (n off t u : Nat) (h : t % 2 = 0) (hu : t / 2 = u) : bitsL (n + 1) off t = bitsL n (off + 1) u := by subst hu; simp [bitsL, h]
theorem bitsL_odd (n off t u : Nat) (h : ¬ t % 2 = 0) (hu : t / 2 = u) : bitsL (n + 1) off t = off :: bitsL n (off + 1) u := by subst hu; simp only [bitsL, h, if_false]; rfl
theorem nzF_even (n w : Nat) (h : w % 256 = 0) : nzF (n + 1) w = nzF n (w / 256) := by simp [nzF, h]
theorem nzF_odd (n w : Nat) (h : ¬ w % 256 = 0) : nzF (n + 1) w = w % 256 :: nzF n (w / 256) := by simp [nzF, h]
theorem tagF_even (n w : Nat) (h : w % 256 = 0) : tagF (n + 1) w = 2 * tagF n (w / 256) := by simp [tagF, h]
theorem tagF_odd (n w : Nat) (h : ¬ w % 256 = 0) : tagF (n + 1) w = 1 + 2 * tagF n (w / 256) := by simp [tagF, h]

theorem places_nz (n off w : Nat) : (bitsL n off (tagF n w)).length = (nzF n w).length := by
  induction n generalizing off w with
  | zero => rfl
  | succ n ih =>
    by_cases h : w % 256 = 0
    · rw [tagF_even n w h, nzF_even n w h, bitsL_even n off _ (tagF n (w / 256)) (by omega) (by omega), ih]
    · rw [tagF_odd n w h, nzF_odd n w h, bitsL_odd n off _ (tagF n (w / 256)) (by omega) (by omega), List.length_cons, List.length_cons, ih]

theorem valL_nz (n off w : Nat) (r : List Nat) (hw : w < 256 ^ n) : valL (bitsL n off (tagF n w)) (nzF n w ++ r) = 256 ^ off * w := by
  induction n generalizing off w with
  | zero => simp at hw; subst hw; simp [bitsL, valL]
  | succ n ih =>
    have hw' : w / 256 < 256 ^ n := by rw [Nat.pow_succ] at hw; omega
    have hm := Nat.div_add_mod w 256
    have hp : 256 ^ (off + 1) * (w / 256) = 256 ^ off * (256 * (w / 256)) := by rw [Nat.pow_succ, Nat.mul_assoc]
    by_cases h : w % 256 = 0
    · rw [tagF_even n w h, nzF_even n w h, bitsL_even n off _ (tagF n (w / 256)) (by omega) (by omega), ih _ _ hw', hp]
      congr 1; omega
    · rw [tagF_odd n w h, nzF_odd n w h, bitsL_odd n off _ (tagF n (w / 256)) (by omega) (by omega)]
      simp only [List.cons_append, valL, List.headD_cons, List.tail_cons]
      rw [ih _ _ hw', hp, Nat.mul_comm, ← Nat.mul_add]
      congr 1; omega

theorem valL_tag (w : Nat) (r : List Nat) (hw : w < 18446744073709551616) : valL (places (tagN w)) (nzF 8 w ++ r) = w := by
  have := valL_nz 8 0 w r hw
  rw [Nat.pow_zero, Nat.one_mul] at this
  exact this

/-- A word out of its eight bytes. -/
theorem ofB_by8 (x : Nat) (h : x < 18446744073709551616) : ofB (by8 x) = x := by
  simp only [ofB, by8]; omega

/-- Where a stream's run count stands; the count; the bytes of its verbatim words. -/
def kOf (s : List Nat) : Nat := 1 + (places (s.headD 0)).length
def moreOf (s : List Nat) : Nat := s.getD (kOf s) 0
def vbOf (s : List Nat) : Nat := if s.headD 0 = 255 then 8 * moreOf s else 0
def runWords (s : List Nat) : List Nat := (List.range (moreOf s)).map (fun i => if s.headD 0 = 255 then ofB ((s.drop (kOf s + 1 + 8 * i)).take 8) else 0)

/-- One tag with its bytes and its run: the words, and the bytes read; 'm' words are there already. -/
def stepN (s : List Nat) (m : Nat) : Option (List Nat × Nat) :=
  if s.headD 0 = 0 ∨ s.headD 0 = 255 then
    if s.length ≤ kOf s then none
    else if s.length < kOf s + 1 + vbOf s ∨ 256 < m + 1 + moreOf s then none
    else some (valL (places (s.headD 0)) s.tail :: runWords s, kOf s + 1 + vbOf s)
  else if s.length < kOf s ∨ 256 < m + 1 then none
  else some ([valL (places (s.headD 0)) s.tail], kOf s)

/-- The words of a stream; 'out' are there already. -/
def unpackF : Nat → List Nat → List Nat → Option (List Nat)
  | 0, s, out => if s = [] then some out else none
  | f + 1, s, out =>
    if s = [] then some out
    else match stepN s out.length with
      | none => none
      | some (ws, c) => unpackF f (s.drop c) (out ++ ws)

theorem kOf_pos (s : List Nat) : 1 ≤ kOf s := by unfold kOf; omega
theorem runWords_length (s : List Nat) : (runWords s).length = moreOf s := by simp [runWords]
theorem stepN_pos {s : List Nat} {m : Nat} {ws : List Nat} {c : Nat} (h : stepN s m = some (ws, c)) : 1 ≤ c ∧ c ≤ s.length ∧ m + ws.length ≤ 256 := by
  have hk := kOf_pos s
  unfold stepN at h
  by_cases h1 : s.headD 0 = 0 ∨ s.headD 0 = 255
  · rw [if_pos h1] at h
    by_cases h2 : s.length ≤ kOf s
    · rw [if_pos h2] at h; cases h
    · rw [if_neg h2] at h
      by_cases h3 : s.length < kOf s + 1 + vbOf s ∨ 256 < m + 1 + moreOf s
      · rw [if_pos h3] at h; cases h
      · rw [if_neg h3] at h
        simp only [Option.some.injEq, Prod.mk.injEq] at h
        obtain ⟨rfl, rfl⟩ := h
        rw [List.length_cons, runWords_length]
        omega
  · rw [if_neg h1] at h
    by_cases h2 : s.length < kOf s ∨ 256 < m + 1
    · rw [if_pos h2] at h; cases h
    · rw [if_neg h2] at h
      simp only [Option.some.injEq, Prod.mk.injEq] at h
      obtain ⟨rfl, rfl⟩ := h
      rw [List.length_cons, List.length_nil]
      omega

theorem unpackF_fuel (f g : Nat) (s out : List Nat) (hf : s.length ≤ f) (hg : s.length ≤ g) : unpackF f s out = unpackF g s out := by
  induction f generalizing g s out with
  | zero =>
    have : s = [] := List.eq_nil_of_length_eq_zero (by omega)
    subst this
    cases g <;> simp [unpackF]
  | succ f ih =>
    by_cases hs : s = []
    · subst hs; cases g <;> simp [unpackF]
    · cases g with
      | zero => exact absurd (List.eq_nil_of_length_eq_zero (by omega)) hs
      | succ g =>
        simp only [unpackF, if_neg hs]
        cases h : stepN s out.length with
        | none => rfl
        | some p =>
          obtain ⟨ws, c⟩ := p
          have := stepN_pos h
          exact ih g _ _ (by simp; omega) (by simp; omega)

def unpackN (s out : List Nat) : Option (List Nat) := unpackF s.length s out

theorem unpackN_nil (out : List Nat) : unpackN [] out = some out := rfl
theorem unpackN_step {s out : List Nat} (h : s ≠ []) : unpackN s out = match stepN s out.length with | none => none | some (ws, c) => unpackN (s.drop c) (out ++ ws) := by
  unfold unpackN
  have hl : s.length = (s.length - 1) + 1 := by have := List.length_pos_iff.2 h; omega
  rw [hl, unpackF, if_neg h]
  cases e : stepN s out.length with
  | none => rfl
  | some p =>
    obtain ⟨ws, c⟩ := p
    have := stepN_pos e
    exact unpackF_fuel _ _ _ _ (by simp; omega) (Nat.le_refl _)

theorem flat_at (l r : List Nat) (i : Nat) (hi : i < l.length) (hl : ∀ x ∈ l, x < 18446744073709551616) : ofB (((l.flatMap by8 ++ r).drop (8 * i)).take 8) = l.getD i 0 := by
  induction l generalizing i with
  | nil => simp at hi
  | cons x l ih =>
    cases i with
    | zero =>
      have : (by8 x).length = 8 := rfl
      simp only [List.flatMap_cons, Nat.mul_zero, List.drop_zero, List.append_assoc]
      rw [List.take_append_of_le_length (by rw [this]; exact Nat.le_refl 8), List.take_of_length_le (by rw [this]; exact Nat.le_refl 8), ofB_by8 x (hl x (by simp))]
      rfl
    | succ i =>
      have e : 8 * (i + 1) = (by8 x).length + 8 * i := by show 8 * (i + 1) = 8 + 8 * i; omega
      rw [List.flatMap_cons, List.append_assoc, e, ← List.drop_drop, List.drop_left, ih i (by simpa using hi) (fun y hy => hl y (by simp [hy]))]
      rfl

theorem places_zero : places 0 = [] := by decide +kernel
theorem places_full : (places 255).length = 8 := by decide +kernel
theorem tagN_zero_iff (x : Nat) (hx : x < 18446744073709551616) (h : tagN x = 0) : x = 0 := by
  have := valL_tag x [] hx
  rw [h, places_zero] at this
  simpa [valL] using this.symm

theorem runP_take_zero (l : List Nat) (m i : Nat) (h : i < runP (· == 0) l m) : l.getD i 0 = 0 := by
  induction l generalizing m i with
  | nil => simp [runP] at h
  | cons x l ih =>
    cases m with
    | zero => simp [runP] at h
    | succ m =>
      simp only [runP] at h
      split at h
      · rename_i hx
        cases i with
        | zero => simpa using hx
        | succ i => simpa using ih m i (by omega)
      · omega

/-- The step, its parts known. -/
theorem stepN_zero {s : List Nat} {m n : Nat} (h0 : s.headD 0 = 0) (hs : 2 ≤ s.length) (hn : s.getD 1 0 = n) (hm : m + 1 + n ≤ 256) : stepN s m = some (0 :: List.replicate n 0, 2) := by
  have hk : kOf s = 1 := by unfold kOf; rw [h0, places_zero]; rfl
  have hmo : moreOf s = n := by unfold moreOf; rw [hk, hn]
  have hv : vbOf s = 0 := by unfold vbOf; rw [h0]; rfl
  have hr : runWords s = List.replicate n 0 := by
    unfold runWords
    rw [hmo, h0]
    apply List.ext_getElem
    · simp
    · intro i h1 h2; simp
  unfold stepN
  rw [if_pos (.inl h0), hk, if_neg (by omega), hv, hmo, if_neg (by omega), hr, h0, places_zero]
  rfl
theorem stepN_full {s ws : List Nat} {m n x : Nat} (h0 : s.headD 0 = 255) (hs : 10 + 8 * n ≤ s.length) (hn : s.getD 9 0 = n) (hm : m + 1 + n ≤ 256) (hx : valL (places 255) s.tail = x) (hw : ws.length = n)
    (hws : ∀ i, i < n → ofB ((s.drop (10 + 8 * i)).take 8) = ws.getD i 0) : stepN s m = some (x :: ws, 10 + 8 * n) := by
  have hk : kOf s = 9 := by unfold kOf; rw [h0, places_full]
  have hmo : moreOf s = n := by unfold moreOf; rw [hk, hn]
  have hv : vbOf s = 8 * n := by unfold vbOf; rw [if_pos h0, hmo]
  have hr : runWords s = ws := by
    unfold runWords
    rw [hmo, hk]
    apply List.ext_getElem
    · simp [hw]
    · intro i h1 h2
      have := hws i (by omega)
      simp only [List.getElem_map, List.getElem_range, if_pos h0]
      rw [this]
      simp [List.getD, h2]
  unfold stepN
  rw [if_pos (.inr h0), hk, if_neg (by omega), hv, hmo, if_neg (by omega), hr, h0, hx]
theorem stepN_plain {s : List Nat} {m x : Nat} (h0 : ¬ s.headD 0 = 0) (h5 : ¬ s.headD 0 = 255) (hs : kOf s ≤ s.length) (hm : m + 1 ≤ 256) (hx : valL (places (s.headD 0)) s.tail = x) : stepN s m = some ([x], kOf s) := by
  unfold stepN
  rw [if_neg (by omega), if_neg (by omega), hx]

/-- One word and its run, read back. -/
theorem stepN_pack (d : Nat → Bool) (x : Nat) (r out : List Nat) (hx : x < 18446744073709551616) (hr : ∀ y ∈ r, y < 18446744073709551616) (hm : out.length + (r.length + 1) ≤ 256) :
    ∃ (j c : Nat), j ≤ r.length ∧ stepN (packN d (x :: r)) out.length = some (x :: r.take j, c) ∧ (packN d (x :: r)).drop c = packN d (r.drop j) := by
  have hn8 := places_nz 8 0 x
  have hv := fun r => valL_tag x r hx
  rw [packN_cons]
  by_cases h0 : tagN x = 0
  · have hx0 := tagN_zero_iff x hx h0
    subst hx0
    obtain ⟨n, hn⟩ : ∃ n, runP (· == 0) r 255 = n := ⟨_, rfl⟩
    have hle := runP_le (· == 0) r 255
    have hz := fun i hi => runP_take_zero r 255 i hi
    rw [if_pos h0, h0, nzF_zero, hn]
    rw [hn] at hle hz
    have ht : r.take n = List.replicate n 0 := by
      apply List.ext_getElem
      · simp; omega
      · intro i h1 h2
        simp at h1 h2
        have := hz i h2
        have hir : i < r.length := by omega
        simp [List.getD, hir] at this
        simp [this]
    refine ⟨n, 2, hle.1, ?_, rfl⟩
    rw [ht]
    exact stepN_zero rfl (by simp) rfl (by omega)
  · rw [if_neg h0]
    by_cases h5 : tagN x = 255
    · obtain ⟨n, hn⟩ : ∃ n, runP (fun x => d (tagN x)) r 255 = n := ⟨_, rfl⟩
      have hle := runP_le (fun x => d (tagN x)) r 255
      have h8 : (nzF 8 x).length = 8 := by
        have e : (places (tagN x)).length = (nzF 8 x).length := hn8
        rw [h5, places_full] at e
        exact e.symm
      have hv' : valL (places 255) (nzF 8 x ++ n :: ((r.take n).flatMap by8 ++ packN d (r.drop n))) = x := by rw [← h5]; exact hv _
      rw [if_pos h5, h5, hn]
      rw [hn] at hle
      obtain ⟨b, hb⟩ : ∃ b, nzF 8 x = b := ⟨_, rfl⟩
      rw [hb] at h8 hv' ⊢
      have hfl : ((r.take n).flatMap by8).length = 8 * n := by rw [flatMap_by8_length, List.length_take]; omega
      obtain ⟨rest, hrest⟩ : ∃ rest, rest = packN d (r.drop n) := ⟨_, rfl⟩
      rw [← hrest] at hv' ⊢
      obtain ⟨F, hF⟩ : ∃ F, F = (r.take n).flatMap by8 := ⟨_, rfl⟩
      have hfa := fun i hi => flat_at (r.take n) rest i hi (fun y hy => hr y (List.mem_of_mem_take hy))
      rw [← hF] at hv' hfl hfa ⊢
      have hd : ∀ i, (255 :: (b ++ n :: (F ++ rest))).drop (10 + i) = (F ++ rest).drop i := by
        intro i
        rw [show 10 + i = ((b.length + 1) + i) + 1 by omega, List.drop_succ_cons, ← List.drop_drop, ← List.drop_drop, List.drop_left]
        rfl
      refine ⟨n, 10 + 8 * n, hle.1, ?_, ?_⟩
      · refine stepN_full rfl ?_ ?_ (by omega) hv' (by simp; omega) ?_
        · simp only [List.length_cons, List.length_append]; omega
        · rw [show 9 = b.length + 1 by omega]
          simp [List.getD]
        · intro i hi
          rw [hd]
          exact hfa i (by simp; omega)
      · rw [hd, ← hfl, List.drop_left, hrest]
    · have hpl : (places (tagN x)).length = (nzF 8 x).length := hn8
      rw [if_neg h5]
      have hk : kOf (tagN x :: (nzF 8 x ++ packN d r)) = 1 + (nzF 8 x).length := by unfold kOf; rw [List.headD_cons, hpl]
      refine ⟨0, 1 + (nzF 8 x).length, Nat.zero_le _, ?_, ?_⟩
      · rw [← hk]
        exact stepN_plain h0 h5 (by rw [hk]; simp; omega) (by omega) (hv _)
      · rw [Nat.add_comm, List.drop_succ_cons, List.drop_left]
        rfl

theorem unpack_pack (d : Nat → Bool) (f : Nat) : ∀ (zs out : List Nat), zs.length ≤ f → (∀ x ∈ zs, x < 18446744073709551616) → out.length + zs.length ≤ 256 → unpackN (packN d zs) out = some (out ++ zs) := by
  induction f with
  | zero =>
    intro zs out hf _ _
    have : zs = [] := List.eq_nil_of_length_eq_zero (by omega)
    subst this
    simp [packN, packF, unpackN_nil]
  | succ f ih =>
    intro zs out hf hz hm
    cases zs with
    | nil => simp [packN, packF, unpackN_nil]
    | cons x r =>
      simp only [List.length_cons] at hf hm
      obtain ⟨j, c, hj, hs, hd⟩ := stepN_pack d x r out (hz x (by simp)) (fun y hy => hz y (by simp [hy])) hm
      have hne : packN d (x :: r) ≠ [] := by rw [packN_cons]; simp
      rw [unpackN_step hne, hs]
      show unpackN ((packN d (x :: r)).drop c) (out ++ (x :: r.take j)) = _
      rw [hd, ih (r.drop j) _ (by simp; omega) (fun y hy => hz y (by simp [List.mem_of_mem_drop hy])) (by simp; omega)]
      simp
end Go.Proofs.Ygcfad.Plain
