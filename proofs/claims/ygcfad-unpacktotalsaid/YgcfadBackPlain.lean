/-
  PLAIN: every byte of a packed stream is a byte.
-/
import Derived.Test.YgcfadUnpackPlain
namespace Go.Proofs.Ygcfad.Plain

theorem nzF_lt (n w : Nat) : ∀ b ∈ nzF n w, b < 256 := by
  induction n generalizing w with
  | zero => simp [nzF]
  | succ n ih =>
    intro b hb
    by_cases h : w % 256 = 0
    · rw [nzF_even n w h] at hb; exact ih _ b hb
    · rw [nzF_odd n w h] at hb
      rcases List.mem_cons.1 hb with rfl | hb
      · exact Nat.mod_lt _ (by decide)
      · exact ih _ b hb
theorem by8_lt (x : Nat) : ∀ b ∈ by8 x, b < 256 := by
  intro b hb
  simp only [by8, List.mem_cons, List.not_mem_nil, or_false] at hb
  omega

theorem packF_lt (d : Nat → Bool) (f : Nat) (l : List Nat) : ∀ b ∈ packF d f l, b < 256 := by
  induction f generalizing l with
  | zero => simp [packF]
  | succ f ih =>
    cases l with
    | nil => simp [packF]
    | cons x l =>
      intro b hb
      have r1 := (runP_le (· == 0) l 255).2
      have r2 := (runP_le (fun x => d (tagN x)) l 255).2
      simp only [packF] at hb
      rcases List.mem_cons.1 hb with rfl | hb
      · exact tagN_lt x
      · rcases List.mem_append.1 hb with hb | hb
        · exact nzF_lt 8 x b hb
        · by_cases h0 : tagN x = 0
          · rw [if_pos h0] at hb
            rcases List.mem_cons.1 hb with rfl | hb
            · omega
            · exact ih _ b hb
          · rw [if_neg h0] at hb
            by_cases h5 : tagN x = 255
            · rw [if_pos h5] at hb
              rcases List.mem_cons.1 hb with rfl | hb
              · omega
              · rcases List.mem_append.1 hb with hb | hb
                · obtain ⟨y, _, hy⟩ := List.mem_flatMap.1 hb
                  exact by8_lt y b hy
                · exact ih _ b hb
            · rw [if_neg h5] at hb
              exact ih _ b hb
theorem packN_lt (d : Nat → Bool) (l : List Nat) : ∀ b ∈ packN d l, b < 256 := packF_lt d _ l
end Go.Proofs.Ygcfad.Plain
