/-
  PLAIN: the words that a stream gives are words of 64 bits, at most 256 of them.
-/
import Derived.Test.YgcfadOwnUnpackPlain
namespace Go.Proofs.Ygcfad.Plain

theorem bitsL_ge (n off t : Nat) : ∀ p ∈ bitsL n off t, off ≤ p := by
  induction n generalizing off t with
  | zero => simp [bitsL]
  | succ n ih =>
    intro p hp
    simp only [bitsL, List.mem_append] at hp
    rcases hp with hp | hp
    · split at hp
      · simp at hp
      · simp at hp; omega
    · have := ih _ _ p hp; omega

theorem valL_bits_lt (n off t : Nat) (bs : List Nat) (hb : ∀ x ∈ bs, x < 256) : valL (bitsL n off t) bs < 256 ^ (off + n) ∧ ∃ q, valL (bitsL n off t) bs = q * 256 ^ off := by
  induction n generalizing off t bs with
  | zero => exact ⟨by simp [bitsL, valL]; exact Nat.pow_pos (by decide), 0, by simp [bitsL, valL]⟩
  | succ n ih =>
    have e : off + (n + 1) = (off + 1) + n := by omega
    by_cases h : t % 2 = 0
    · rw [bitsL_even n off t (t / 2) h rfl, e]
      obtain ⟨h1, q, hq⟩ := ih (off + 1) (t / 2) bs hb
      exact ⟨h1, q * 256, by rw [hq, Nat.pow_succ, Nat.mul_comm (256 ^ off) 256, Nat.mul_assoc]⟩
    · rw [bitsL_odd n off t (t / 2) h rfl, e]
      have ht : ∀ x ∈ bs.tail, x < 256 := fun x hx => hb x (List.mem_of_mem_tail hx)
      obtain ⟨h1, q, hq⟩ := ih (off + 1) (t / 2) bs.tail ht
      have hh : bs.headD 0 < 256 := by cases bs with | nil => decide | cons x l => exact hb x (by simp)
      simp only [valL]
      rw [hq] at h1 ⊢
      have hp : 256 ^ (off + 1) = 256 * 256 ^ off := by rw [Nat.pow_succ, Nat.mul_comm]
      have hpp : 256 ^ (off + 1 + n) = 256 ^ n * 256 ^ (off + 1) := by rw [Nat.pow_add, Nat.mul_comm]
      have hqn : q < 256 ^ n := by rw [hpp] at h1; exact Nat.lt_of_mul_lt_mul_right h1
      refine ⟨?_, bs.headD 0 + q * 256, by rw [Nat.add_mul, hp, ← Nat.mul_assoc]⟩
      have : bs.headD 0 * 256 ^ off < 256 ^ (off + 1) := by rw [hp]; exact Nat.mul_lt_mul_of_pos_right hh (Nat.pow_pos (by decide))
      have h2 : (q + 1) * 256 ^ (off + 1) ≤ 256 ^ n * 256 ^ (off + 1) := Nat.mul_le_mul_right _ hqn
      rw [hpp]
      rw [Nat.add_mul, Nat.one_mul] at h2
      omega

theorem stepN_lt {s : List Nat} {m : Nat} {ws : List Nat} {c : Nat} (hb : ∀ x ∈ s, x < 256) (h : stepN s m = some (ws, c)) : ∀ x ∈ ws, x < 18446744073709551616 := by
  have hv : valL (places (s.headD 0)) s.tail < 18446744073709551616 := (valL_bits_lt 8 0 (s.headD 0) s.tail (fun x hx => hb x (List.mem_of_mem_tail hx))).1
  have hr : ∀ x ∈ runWords s, x < 18446744073709551616 := by
    intro x hx
    obtain ⟨i, _, rfl⟩ := List.mem_map.1 hx
    split
    · have h1 := ofB_lt ((s.drop (kOf s + 1 + 8 * i)).take 8) (fun y hy => hb y (List.mem_of_mem_drop (List.mem_of_mem_take hy)))
      have h2 : 256 ^ ((s.drop (kOf s + 1 + 8 * i)).take 8).length ≤ 256 ^ 8 := Nat.pow_le_pow_right (by decide) (List.length_take_le _ _)
      have h3 : 256 ^ 8 = 18446744073709551616 := by decide
      omega
    · decide
  unfold stepN at h
  by_cases h1 : s.headD 0 = 0 ∨ s.headD 0 = 255
  · rw [if_pos h1] at h
    by_cases h2 : s.length ≤ kOf s
    · rw [if_pos h2] at h; cases h
    · rw [if_neg h2] at h
      by_cases h3 : s.length < kOf s + 1 + vbOf s ∨ 256 < m + 1 + moreOf s
      · rw [if_pos h3] at h; cases h
      · rw [if_neg h3] at h
        simp only [Option.some.injEq, Prod.mk.injEq] at h
        obtain ⟨rfl, _⟩ := h
        intro x hx
        rcases List.mem_cons.1 hx with rfl | hx
        · exact hv
        · exact hr x hx
  · rw [if_neg h1] at h
    by_cases h2 : s.length < kOf s ∨ 256 < m + 1
    · rw [if_pos h2] at h; cases h
    · rw [if_neg h2] at h
      simp only [Option.some.injEq, Prod.mk.injEq] at h
      obtain ⟨rfl, _⟩ := h
      intro x hx
      rw [List.mem_singleton.1 hx]
      exact hv

theorem unpackN_words (f : Nat) : ∀ (s out ws : List Nat), s.length ≤ f → (∀ x ∈ s, x < 256) → (∀ x ∈ out, x < 18446744073709551616) → out.length ≤ 256 → unpackN s out = some ws → ws.length ≤ 256 ∧ ∀ x ∈ ws, x < 18446744073709551616 := by
  induction f with
  | zero =>
    intro s out ws hf _ ho hl h
    have : s = [] := List.eq_nil_of_length_eq_zero (by omega)
    subst this
    rw [unpackN_nil] at h
    cases h
    exact ⟨hl, ho⟩
  | succ f ih =>
    intro s out ws hf hb ho hl h
    by_cases hne : s = []
    · subst hne
      rw [unpackN_nil] at h
      cases h
      exact ⟨hl, ho⟩
    · rw [unpackN_step hne] at h
      cases hs : stepN s out.length with
      | none => rw [hs] at h; cases h
      | some p =>
        obtain ⟨vs, c⟩ := p
        rw [hs] at h
        have hp := stepN_pos hs
        have hlt := stepN_lt hb hs
        refine ih (s.drop c) (out ++ vs) ws (by simp; omega) (fun x hx => hb x (List.mem_of_mem_drop hx)) ?_ (by rw [List.length_append]; exact hp.2.2) h
        intro x hx
        rcases List.mem_append.1 hx with hx | hx
        · exact ho x hx
        · exact hlt x hx
end Go.Proofs.Ygcfad.Plain
