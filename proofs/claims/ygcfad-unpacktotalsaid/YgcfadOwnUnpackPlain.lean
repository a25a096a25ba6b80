/-
  PLAIN: the stream read byte by byte: what each way of law.ownUnpack's round means for unpackN.
-/
import Derived.Test.YgcfadUnpackPlain
namespace Go.Proofs.Ygcfad.Plain
set_option linter.unusedVariables false

theorem none_short {s out : List Nat} {I np : Nat} (hne : s.drop I ≠ []) (hnp : np = (places ((s.drop I).headD 0)).length) (h : (s.drop I).length < 1 + np) : unpackN (s.drop I) out = none := by
  have hk : kOf (s.drop I) = 1 + np := by unfold kOf; rw [hnp]
  rw [unpackN_step hne]
  have : stepN (s.drop I) out.length = none := by
    unfold stepN
    by_cases h1 : (s.drop I).headD 0 = 0 ∨ (s.drop I).headD 0 = 255
    · rw [if_pos h1, if_pos (by omega)]
    · rw [if_neg h1, if_pos (by omega)]
  rw [this]

theorem none_run {s out : List Nat} {I np : Nat} (hne : s.drop I ≠ []) (hnp : np = (places ((s.drop I).headD 0)).length) (ht : (s.drop I).headD 0 = 0 ∨ (s.drop I).headD 0 = 255) (h : (s.drop I).length ≤ 1 + np) : unpackN (s.drop I) out = none := by
  have hk : kOf (s.drop I) = 1 + np := by unfold kOf; rw [hnp]
  rw [unpackN_step hne]
  have : stepN (s.drop I) out.length = none := by
    unfold stepN
    rw [if_pos ht, if_pos (by omega)]
  rw [this]

theorem none_many_run {s out : List Nat} {I np more : Nat} (hne : s.drop I ≠ []) (hnp : np = (places ((s.drop I).headD 0)).length) (hmo : more = (s.drop I).getD (1 + np) 0) (ht : (s.drop I).headD 0 = 0 ∨ (s.drop I).headD 0 = 255) (h : 256 < out.length + 1 + more) : unpackN (s.drop I) out = none := by
  have hk : kOf (s.drop I) = 1 + np := by unfold kOf; rw [hnp]
  have hm : moreOf (s.drop I) = more := by unfold moreOf; rw [hk, hmo]
  rw [unpackN_step hne]
  have : stepN (s.drop I) out.length = none := by
    unfold stepN
    rw [if_pos ht]
    by_cases h1 : (s.drop I).length ≤ kOf (s.drop I)
    · rw [if_pos h1]
    · rw [if_neg h1, if_pos (by omega)]
  rw [this]

theorem none_verb {s out : List Nat} {I np more : Nat} (hne : s.drop I ≠ []) (hnp : np = (places ((s.drop I).headD 0)).length) (hmo : more = (s.drop I).getD (1 + np) 0) (ht : (s.drop I).headD 0 = 255) (h : (s.drop I).length < 1 + np + 1 + 8 * more) : unpackN (s.drop I) out = none := by
  have hk : kOf (s.drop I) = 1 + np := by unfold kOf; rw [hnp]
  have hm : moreOf (s.drop I) = more := by unfold moreOf; rw [hk, hmo]
  have hv : vbOf (s.drop I) = 8 * more := by unfold vbOf; rw [if_pos ht, hm]
  rw [unpackN_step hne]
  have : stepN (s.drop I) out.length = none := by
    unfold stepN
    rw [if_pos (.inr ht)]
    by_cases h1 : (s.drop I).length ≤ kOf (s.drop I)
    · rw [if_pos h1]
    · rw [if_neg h1, if_pos (by omega)]
  rw [this]

theorem none_many {s out : List Nat} {I np : Nat} (hne : s.drop I ≠ []) (hnp : np = (places ((s.drop I).headD 0)).length) (h0 : ¬ (s.drop I).headD 0 = 0) (h5 : ¬ (s.drop I).headD 0 = 255) (h : 256 < out.length + 1) : unpackN (s.drop I) out = none := by
  rw [unpackN_step hne]
  have : stepN (s.drop I) out.length = none := by
    unfold stepN
    rw [if_neg (by omega), if_pos (by omega)]
  rw [this]

theorem some_plain {s out : List Nat} {I np : Nat} (hne : s.drop I ≠ []) (hnp : np = (places ((s.drop I).headD 0)).length) (h0 : ¬ (s.drop I).headD 0 = 0) (h5 : ¬ (s.drop I).headD 0 = 255) (hl : 1 + np ≤ (s.drop I).length) (h : out.length + 1 ≤ 256) :
    unpackN (s.drop I) out = unpackN (s.drop (I + (1 + np))) (out ++ [valL (places ((s.drop I).headD 0)) (s.drop I).tail]) := by
  have hk : kOf (s.drop I) = 1 + np := by unfold kOf; rw [hnp]
  rw [unpackN_step hne, stepN_plain h0 h5 (by omega) h rfl]
  show unpackN ((s.drop I).drop (kOf (s.drop I))) _ = _
  rw [List.drop_drop, hk]

/-- The words of a run, as they are read one by one. -/
def runW (s : List Nat) (I np more : Nat) (full : Bool) : List Nat := (List.range more).map (fun i => if full then ofB (((s.drop I).drop (1 + np + 1 + 8 * i)).take 8) else 0)

theorem some_run {s out : List Nat} {I np more : Nat} {full : Bool} (hne : s.drop I ≠ []) (hnp : np = (places ((s.drop I).headD 0)).length) (hmo : more = (s.drop I).getD (1 + np) 0) (ht : (s.drop I).headD 0 = if full then 255 else 0)
    (hl : 1 + np + 1 + (if full then 8 * more else 0) ≤ (s.drop I).length) (h : out.length + 1 + more ≤ 256) :
    unpackN (s.drop I) out = unpackN (s.drop (I + (1 + np + 1 + (if full then 8 * more else 0)))) ((out ++ [valL (places ((s.drop I).headD 0)) (s.drop I).tail]) ++ runW s I np more full) := by
  have hk : kOf (s.drop I) = 1 + np := by unfold kOf; rw [hnp]
  have hm : moreOf (s.drop I) = more := by unfold moreOf; rw [hk, hmo]
  have hv : vbOf (s.drop I) = if full then 8 * more else 0 := by
    unfold vbOf; rw [hm, ht]; cases full <;> simp
  have hw : runWords (s.drop I) = runW s I np more full := by
    unfold runWords runW
    rw [hm, hk, ht]
    apply List.map_congr_left
    intro i _
    cases full <;> simp
  have hst : stepN (s.drop I) out.length = some (valL (places ((s.drop I).headD 0)) (s.drop I).tail :: runW s I np more full, 1 + np + 1 + (if full then 8 * more else 0)) := by
    unfold stepN
    rw [if_pos (by rw [ht]; cases full <;> simp), hk, if_neg (by omega), hv, hm, if_neg (by omega), hw]
  rw [unpackN_step hne, hst]
  show unpackN ((s.drop I).drop _) _ = _
  rw [List.drop_drop]
  simp

theorem ofB_snoc (l : List Nat) (k : Nat) (hk : k < l.length) : ofB (l.take (k + 1)) = ofB (l.take k) + l.getD k 0 * 256 ^ k := by
  induction l generalizing k with
  | nil => simp at hk
  | cons x l ih =>
    cases k with
    | zero => simp [ofB]
    | succ k =>
      simp only [List.take_succ_cons, ofB, List.getD_cons_succ]
      rw [ih k (by simpa using hk), Nat.pow_succ, Nat.mul_add, Nat.add_assoc]
      congr 2
      rw [← Nat.mul_assoc, Nat.mul_comm]
      ac_rfl
theorem ofB_lt (l : List Nat) (h : ∀ x ∈ l, x < 256) : ofB l < 256 ^ l.length := by
  induction l with
  | nil => simp [ofB]
  | cons x l ih =>
    have h1 := ih (fun y hy => h y (by simp [hy]))
    have h2 := h x (by simp)
    simp only [ofB, List.length_cons]
    rw [Nat.pow_succ]
    omega

/-! ### The bits of a tag, one by one -/
/-- What is left of a tag's places from bit k on. -/
def leftP (t k : Nat) : List Nat := bitsL (8 - k) k (t / 2 ^ k)
theorem leftP_start (t : Nat) : leftP t 0 = places t := by simp [leftP, places]
theorem leftP_end (t : Nat) : leftP t 8 = [] := rfl
theorem leftP_all : ∀ t : Fin 256, ∀ k : Fin 8, leftP t.val k.val = (if t.val / 2 ^ k.val % 2 = 0 then [] else [k.val]) ++ leftP t.val (k.val + 1) := by decide +kernel
theorem leftP_zero {t k : Nat} (ht : t < 256) (hk : k < 8) (h : t / 2 ^ k % 2 = 0) : leftP t k = leftP t (k + 1) := by
  have := leftP_all ⟨t, ht⟩ ⟨k, hk⟩
  simp only at this
  rw [if_pos h] at this; exact this
theorem leftP_one {t k : Nat} (ht : t < 256) (hk : k < 8) (h : ¬ t / 2 ^ k % 2 = 0) : leftP t k = k :: leftP t (k + 1) := by
  have := leftP_all ⟨t, ht⟩ ⟨k, hk⟩
  simp only at this
  rw [if_neg h] at this; exact this
end Go.Proofs.Ygcfad.Plain
