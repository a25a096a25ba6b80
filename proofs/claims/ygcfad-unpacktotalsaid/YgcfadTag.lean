/-
  PLAIN NUMBERS: the tag of a word, its bytes. No Go in sight.
-/
import Derived.WalkKit
namespace Go.Proofs.Ygcfad.Plain

/-- The number whose bytes, the least first, are given. -/
def ofB : List Nat → Nat
  | [] => 0
  | b :: l => b + 256 * ofB l

theorem and_byte (b c y z : Nat) (hb : b < 256) (hc : c < 256) : (b + 256 * y) &&& (c + 256 * z) = (b &&& c) + 256 * (y &&& z) := by
  have hbc : b &&& c < 256 := Nat.and_lt_two_pow b (n := 8) hc
  apply Nat.eq_of_testBit_eq
  intro i
  have e (u v : Nat) (hu : u < 2 ^ 8) : (u + 256 * v) = 2 ^ 8 * v + u := by omega
  rw [Nat.testBit_and, e b y hb, e c z hc, e _ _ hbc, Nat.testBit_two_pow_mul_add y hb, Nat.testBit_two_pow_mul_add z hc, Nat.testBit_two_pow_mul_add _ hbc]
  split <;> simp [Nat.testBit_and]

theorem or_byte (b c y z : Nat) (hb : b < 256) (hc : c < 256) : (b + 256 * y) ||| (c + 256 * z) = (b ||| c) + 256 * (y ||| z) := by
  have hbc : b ||| c < 256 := Nat.or_lt_two_pow (n := 8) hb hc
  apply Nat.eq_of_testBit_eq
  intro i
  have e (u v : Nat) (hu : u < 2 ^ 8) : (u + 256 * v) = 2 ^ 8 * v + u := by omega
  rw [Nat.testBit_or, e b y hb, e c z hc, e _ _ hbc, Nat.testBit_two_pow_mul_add y hb, Nat.testBit_two_pow_mul_add z hc, Nat.testBit_two_pow_mul_add _ hbc]
  split <;> simp [Nat.testBit_or]

/-- Bit k of the tag: byte k is not zero. -/
def tagF : Nat → Nat → Nat
  | 0, _ => 0
  | n + 1, w => (if w % 256 = 0 then 0 else 1) + 2 * tagF n (w / 256)
def tagN (w : Nat) : Nat := tagF 8 w

/-- What the Go text reckons. -/
def tagRaw (x : Nat) : Nat :=
  ((((x &&& 9187201950435737471) + 9187201950435737471) % 18446744073709551616 ||| x) &&& (18446744073709551615 - 9187201950435737471)) / 128 * 72624976668147840 % 18446744073709551616 / 72057594037927936 % 256

def top (b : Nat) : Nat := (((b &&& 127) + 127) ||| b) &&& 128
theorem top_eq : ∀ b : Fin 256, top b.val = if b.val = 0 then 0 else 128 := by decide +kernel
theorem and127 : ∀ b : Fin 256, (b.val &&& 127) ≤ 127 := by decide +kernel
theorem gather : ∀ a b c d e f g h : Bool,
    (a.toNat + 256 * (b.toNat + 256 * (c.toNat + 256 * (d.toNat + 256 * (e.toNat + 256 * (f.toNat + 256 * (g.toNat + 256 * h.toNat))))))) * 72624976668147840 % 18446744073709551616 / 72057594037927936 % 256
      = a.toNat + 2 * (b.toNat + 2 * (c.toNat + 2 * (d.toNat + 2 * (e.toNat + 2 * (f.toNat + 2 * (g.toNat + 2 * h.toNat)))))) := by decide +kernel

theorem ofB_step (w : Nat) : w = w % 256 + 256 * (w / 256) := by omega

theorem low_bytes : 9187201950435737471 = 127 + 256 * (127 + 256 * (127 + 256 * (127 + 256 * (127 + 256 * (127 + 256 * (127 + 256 * (127 + 256 * 0))))))) := by decide +kernel
theorem high_bytes : 18446744073709551615 - 9187201950435737471 = 128 + 256 * (128 + 256 * (128 + 256 * (128 + 256 * (128 + 256 * (128 + 256 * (128 + 256 * (128 + 256 * 0))))))) := by decide +kernel

def bit (b : Nat) : Bool := decide (b ≠ 0)
theorem top_bit (b : Nat) (h : b < 256) : top b = 128 * (bit b).toNat := by
  rw [top_eq ⟨b, h⟩]; by_cases e : b = 0 <;> simp [bit, e]

theorem tagRaw_bytes (a b c d e f g h : Nat) (ha : a < 256) (hb : b < 256) (hc : c < 256) (hd : d < 256) (he : e < 256) (hf : f < 256) (hg : g < 256) (hh : h < 256) :
    tagRaw (a + 256 * (b + 256 * (c + 256 * (d + 256 * (e + 256 * (f + 256 * (g + 256 * (h + 256 * 0))))))))
      = (bit a).toNat + 2 * ((bit b).toNat + 2 * ((bit c).toNat + 2 * ((bit d).toNat + 2 * ((bit e).toNat + 2 * ((bit f).toNat + 2 * ((bit g).toNat + 2 * (bit h).toNat)))))) := by
  have lt := fun (x : Nat) (hx : x < 256) => and127 ⟨x, hx⟩
  unfold tagRaw
  rw [high_bytes, low_bytes]
  simp only [and_byte _ 127 _ _ ha (by omega), and_byte _ 127 _ _ hb (by omega), and_byte _ 127 _ _ hc (by omega), and_byte _ 127 _ _ hd (by omega), and_byte _ 127 _ _ he (by omega), and_byte _ 127 _ _ hf (by omega), and_byte _ 127 _ _ hg (by omega), and_byte _ 127 _ _ hh (by omega)]
  have la := lt a ha
  have lb := lt b hb
  have lc := lt c hc
  have ld := lt d hd
  have le := lt e he
  have lf := lt f hf
  have lg := lt g hg
  have lh := lt h hh
  simp only at la lb lc ld le lf lg lh
  have ta := top_bit a ha
  have tb := top_bit b hb
  have tc := top_bit c hc
  have td := top_bit d hd
  have te := top_bit e he
  have tf := top_bit f hf
  have tg := top_bit g hg
  have th := top_bit h hh
  unfold top at ta tb tc td te tf tg th
  generalize a &&& 127 = a' at *
  generalize b &&& 127 = b' at *
  generalize c &&& 127 = c' at *
  generalize d &&& 127 = d' at *
  generalize e &&& 127 = e' at *
  generalize f &&& 127 = f' at *
  generalize g &&& 127 = g' at *
  generalize h &&& 127 = h' at *
  have s : (a' + 256 * (b' + 256 * (c' + 256 * (d' + 256 * (e' + 256 * (f' + 256 * (g' + 256 * (h' + 256 * (0 &&& 0))))))))
      + (127 + 256 * (127 + 256 * (127 + 256 * (127 + 256 * (127 + 256 * (127 + 256 * (127 + 256 * (127 + 256 * 0))))))))) % 18446744073709551616
      = (a' + 127) + 256 * ((b' + 127) + 256 * ((c' + 127) + 256 * ((d' + 127) + 256 * ((e' + 127) + 256 * ((f' + 127) + 256 * ((g' + 127) + 256 * ((h' + 127) + 256 * 0))))))) := by
    rw [Nat.and_zero]; omega
  rw [s]
  simp only [or_byte _ _ _ _ (show a' + 127 < 256 by omega) ha, or_byte _ _ _ _ (show b' + 127 < 256 by omega) hb, or_byte _ _ _ _ (show c' + 127 < 256 by omega) hc, or_byte _ _ _ _ (show d' + 127 < 256 by omega) hd,
    or_byte _ _ _ _ (show e' + 127 < 256 by omega) he, or_byte _ _ _ _ (show f' + 127 < 256 by omega) hf, or_byte _ _ _ _ (show g' + 127 < 256 by omega) hg, or_byte _ _ _ _ (show h' + 127 < 256 by omega) hh]
  have o := fun (x y : Nat) (hx : x < 256) (hy : y < 256) => Nat.or_lt_two_pow (n := 8) hx hy
  simp only [and_byte _ 128 _ _ (o _ _ (show a' + 127 < 256 by omega) ha) (by omega), and_byte _ 128 _ _ (o _ _ (show b' + 127 < 256 by omega) hb) (by omega), and_byte _ 128 _ _ (o _ _ (show c' + 127 < 256 by omega) hc) (by omega), and_byte _ 128 _ _ (o _ _ (show d' + 127 < 256 by omega) hd) (by omega),
    and_byte _ 128 _ _ (o _ _ (show e' + 127 < 256 by omega) he) (by omega), and_byte _ 128 _ _ (o _ _ (show f' + 127 < 256 by omega) hf) (by omega), and_byte _ 128 _ _ (o _ _ (show g' + 127 < 256 by omega) hg) (by omega), and_byte _ 128 _ _ (o _ _ (show h' + 127 < 256 by omega) hh) (by omega)]
  rw [ta, tb, tc, td, te, tf, tg, th, Nat.and_zero]
  rw [← gather]
  have q : ∀ A B C D E F G H : Nat, (128 * A + 256 * (128 * B + 256 * (128 * C + 256 * (128 * D + 256 * (128 * E + 256 * (128 * F + 256 * (128 * G + 256 * (128 * H + 256 * 0)))))))) / 128
      = A + 256 * (B + 256 * (C + 256 * (D + 256 * (E + 256 * (F + 256 * (G + 256 * H)))))) := by intros; omega
  rw [q]

theorem tagRaw_eq (x : Nat) (hx : x < 18446744073709551616) : tagRaw x = tagN x := by
  have e : x = x % 256 + 256 * (x / 256 % 256 + 256 * (x / 256 / 256 % 256 + 256 * (x / 256 / 256 / 256 % 256 + 256 * (x / 256 / 256 / 256 / 256 % 256 + 256 * (x / 256 / 256 / 256 / 256 / 256 % 256 +
      256 * (x / 256 / 256 / 256 / 256 / 256 / 256 % 256 + 256 * (x / 256 / 256 / 256 / 256 / 256 / 256 / 256 % 256 + 256 * 0))))))) := by omega
  have t (y : Nat) : (if y = 0 then 0 else 1) = (bit y).toNat := by by_cases h : y = 0 <;> simp [bit, h]
  have m (y : Nat) : y % 256 < 256 := Nat.mod_lt _ (by decide)
  conv => lhs; rw [e]
  rw [tagRaw_bytes _ _ _ _ _ _ _ _ (m _) (m _) (m _) (m _) (m _) (m _) (m _) (m _)]
  simp only [tagN, tagF, t]
  rfl

theorem tagF_lt (n w : Nat) : tagF n w < 2 ^ n := by
  induction n generalizing w with
  | zero => simp [tagF]
  | succ n ih => have := ih (w / 256); simp only [tagF]; rw [Nat.pow_succ]; split <;> omega
theorem tagN_lt (w : Nat) : tagN w < 256 := tagF_lt 8 w
end Go.Proofs.Ygcfad.Plain
