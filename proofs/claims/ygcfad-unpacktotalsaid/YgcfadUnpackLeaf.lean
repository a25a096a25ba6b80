/-
  THE WALKS of the leaves under pack.Unpack: Ones, Low, Word, Cur.Check; and of law.sameWords.
-/
import Derived.Test.YgcfadOwn
import Derived.Test.YgcfadUnpackPlain
import Derived.Deep.QuietTactic
import Derived.BigQuiet
namespace Go.Proofs.Ygcfad
open Go.RowKit Plain
set_option linter.unusedSimpArgs false
set_option linter.unusedVariables false

/-- What Ones reckons. -/
def onesA (x : Int) : Int := IntKind.u64.wrap (x - bits BinOp.and IntKind.u64 (x / 2) 6148914691236517205)
def onesB (y : Int) : Int := IntKind.u64.wrap (bits BinOp.and IntKind.u64 y 3689348814741910323 + bits BinOp.and IntKind.u64 (y / 4) 3689348814741910323)
def onesC (y : Int) : Int := bits BinOp.and IntKind.u64 (IntKind.u64.wrap (y + y / 16)) 1085102592571150095
def onesI (x : Int) : Int := IntKind.u64.wrap (onesC (onesB (onesA x)) * 72340172838076673) / 72057594037927936 % 256
def lowI (x : Int) : Int := onesI (IntKind.u64.wrap (bits BinOp.and IntKind.u64 x (IntKind.u64.wrap (-x)) - 1))

theorem ones_any (x : Int) (w : World) : Calls Fadg.prog 106 #[.int .u64 x] w fun e w' => e = .returned (.int .u8 (onesI x)) ∧ w' = w := by
  go_enter Fadg.func106, Fadg.ntmps106
  go_wp2
  go_ret
  exact ⟨rfl, rfl⟩
theorem low_any (x : Int) (w : World) : Calls Fadg.prog 107 #[.int .u64 x] w fun e w' => e = .returned (.int .u8 (lowI x)) ∧ w' = w := by
  go_enter Fadg.func107, Fadg.ntmps107
  go_wp2_with (go_at_call 106; refine (ones_any _ _).mono ?_; rintro e w' ⟨rfl, rfl⟩)
  go_ret
  exact ⟨rfl, rfl⟩

theorem ones_all : ∀ t : Fin 256, onesI (t.val : Int) = ((places t.val).length : Int) := by decide +kernel
theorem ones_byte (t : Nat) (h : t < 256) (w : World) : Calls Fadg.prog 106 #[.int .u64 (t : Int)] w fun e w' => e = .returned (.int .u8 (((places t).length : Nat) : Int)) ∧ w' = w :=
  (ones_any _ w).mono fun e w' h' => by rw [ones_all ⟨t, h⟩] at h'; exact h'

/-- The lowest bit of a byte; the byte without it. -/
def clearN (t : Nat) : Nat := t &&& (t - 1)
theorem low_all : ∀ t : Fin 256, t.val = 0 ∨ (lowI (t.val : Int) = (((places t.val).headD 0 : Nat) : Int) ∧ places t.val = (places t.val).headD 0 :: places (clearN t.val) ∧ clearN t.val < t.val ∧ (places t.val).headD 0 < 8
    ∧ bits BinOp.and IntKind.u8 (t.val : Int) ((t.val : Int) - 1) = (clearN t.val : Int)) := by decide +kernel
theorem places_lt_all : ∀ t : Fin 256, ∀ p ∈ places (clearN t.val), (places t.val).headD 0 < p := by decide +kernel
theorem low_byte (t : Nat) (h : t < 256) (h0 : t ≠ 0) (w : World) : Calls Fadg.prog 107 #[.int .u64 (t : Int)] w fun e w' => e = .returned (.int .u8 (((places t).headD 0 : Nat) : Int)) ∧ w' = w :=
  (low_any _ w).mono fun e w' h' => by
    rcases low_all ⟨t, h⟩ with h1 | h1
    · exact absurd h1 h0
    · rw [h1.1] at h'; exact h'

/-- Word: the eight bytes joined. -/
theorem word_nat (a b c d e f g h : Nat) (ha : a < 256) (hb : b < 256) (hc : c < 256) (hd : d < 256) (he : e < 256) (hf : f < 256) (hg : g < 256) (hh : h < 256) :
    a ||| b * 256 ||| c * 65536 ||| d * 16777216 ||| e * 4294967296 ||| f * 1099511627776 ||| g * 281474976710656 ||| h * 72057594037927936 = ofB [a, b, c, d, e, f, g, h] := by
  have j (i x y : Nat) (hy : y < 2 ^ i) (hx : x % 2 ^ i = 0) : y ||| x = y + x := by rw [Nat.or_comm, nat_join i x y hx hy, Nat.add_comm]
  rw [j 8 (b * 256) a (by omega) (by omega), j 16 (c * 65536) _ (by omega) (by omega), j 24 (d * 16777216) _ (by omega) (by omega), j 32 (e * 4294967296) _ (by omega) (by omega), j 40 (f * 1099511627776) _ (by omega) (by omega),
    j 48 (g * 281474976710656) _ (by omega) (by omega), j 56 (h * 72057594037927936) _ (by omega) (by omega)]
  simp only [ofB]; omega

theorem or_cast (x y : Nat) (Y : Int) (hY : Y = (y : Int)) (hx : x < 18446744073709551616) (hy : y < 18446744073709551616) : bits .or .u64 (x : Int) Y = ((x ||| y : Nat) : Int) ∧ x ||| y < 18446744073709551616 := by
  subst hY; exact ⟨u64_or_nat x y hx hy, Nat.or_lt_two_pow (n := 64) hx hy⟩

set_option maxRecDepth 10000 in
theorem word_any (a b c d e f g h : Nat) (ha : a < 256) (hb : b < 256) (hc : c < 256) (hd : d < 256) (he : e < 256) (hf : f < 256) (hg : g < 256) (hh : h < 256) (w : World) :
    Calls Fadg.prog 108 #[.agg #[.int .u8 (a : Int), .int .u8 (b : Int), .int .u8 (c : Int), .int .u8 (d : Int), .int .u8 (e : Int), .int .u8 (f : Int), .int .u8 (g : Int), .int .u8 (h : Int)]] w
      fun en w' => en = .returned (.int .u64 ((ofB [a, b, c, d, e, f, g, h] : Nat) : Int)) ∧ Below w.heap.size w w' := by
  go_enter Fadg.func108, Fadg.ntmps108
  go_wp2
  go_ret
  refine ⟨ret_int ?_, (Below.refl _ _).alloc (Nat.le_refl _) _⟩
  rw [← word_nat a b c d e f g h ha hb hc hd he hf hg hh]
  obtain ⟨q1, l1⟩ := or_cast a (b * 256) ((b : Int) * 256) (by omega) (by omega) (by omega)
  obtain ⟨q2, l2⟩ := or_cast _ (c * 65536) ((c : Int) * 65536) (by omega) l1 (by omega)
  obtain ⟨q3, l3⟩ := or_cast _ (d * 16777216) ((d : Int) * 16777216) (by omega) l2 (by omega)
  obtain ⟨q4, l4⟩ := or_cast _ (e * 4294967296) ((e : Int) * 4294967296) (by omega) l3 (by omega)
  obtain ⟨q5, l5⟩ := or_cast _ (f * 1099511627776) ((f : Int) * 1099511627776) (by omega) l4 (by omega)
  obtain ⟨q6, l6⟩ := or_cast _ (g * 281474976710656) ((g : Int) * 281474976710656) (by omega) l5 (by omega)
  obtain ⟨q7, _⟩ := or_cast _ (h * 72057594037927936) ((h : Int) * 72057594037927936) (by omega) l6 (by omega)
  rw [q1, q2, q3, q4, q5, q6, q7]

/-- Check of a cursor in the midst of its stream. -/
theorem check_any (P : Nat) (sa : Option Addr) (sl sc : Nat) (I : Nat) (oa : Option Addr) (on oc : Nat) (w : World) (h0 : w.cell? ⟨P, 0, none⟩ = some (.slice sa sl sc)) (h1 : w.cell? ⟨P, 1, none⟩ = some (.int .u16 (I : Int)))
    (h2 : w.cell? ⟨P, 2, none⟩ = some (.slice oa on oc)) (hs : sl ≤ 4096) (hI : I ≤ sl) (ho : on ≤ 256) :
    Calls Fadg.prog 105 #[.pointer (some ⟨P, 0, none⟩)] w fun e w' => e = .returned (.bool true) ∧ ∃ n, w' = w.drewN n := by
  have g1 : (sl : Int) ≤ 4096 := by omega
  have g2 : (I : Int) ≤ (sl : Int) := by omega
  have g3 : (on : Int) ≤ 256 := by omega
  go_enter Fadg.func105, Fadg.ntmps105
  go_wp2
  go_quiet (fail)
  go_wp2
  go_ret
  exact ⟨rfl, _, rfl⟩

/-- Two rows of the same words. -/
theorem same_yes (ao bo : Option Addr) (n ca cb : Nat) (zs : List Nat) (w : World) (hn : Hid (n = zs.length)) (ha : RowAt .u64 w ao zs) (hb : RowAt .u64 w bo zs) (hl : n ≤ 65536) :
    Calls Fadg.prog 22 #[.slice ao n ca, .slice bo n cb] w fun e w' => e = .returned (.bool true) ∧ ∃ q, w' = w.drewN q := by
  have HA : Hid (RowAt .u64 w ao zs) := ha
  have HB : Hid (RowAt .u64 w bo zs) := hb
  clear ha hb
  go_enter Fadg.func22, Fadg.ntmps22
  go_wp2
  go_loopw [13] (fun i wr => ∃ i' q : Nat, i = .int .i64 (i' : Int) ∧ i' ≤ n ∧ wr = w.drewN q) (fun i _ => n - (intOf i).toNat)
  case atStart => exact ⟨0, 0, rfl, Nat.zero_le _, rfl⟩
  case round =>
    obtain ⟨i', q, rfl, hi, rfl⟩ := hrel
    by_cases hlt : i' < n
    · have hk : i' < zs.length := by have := hn.out; omega
      rcases HA.out with h | ⟨b1, o1, rfl, hc1⟩
      · rw [h] at hk; simp at hk
      rcases HB.out with h | ⟨b2, o2, rfl, hc2⟩
      · rw [h] at hk; simp at hk
      have d1 := hc1 i' hk
      have d2 := hc2 i' hk
      clear hc1 hc2 HA HB
      generalize zs.getD i' 0 = x at d1 d2
      have hlt' : (i' : Int) < (n : Int) := by omega
      go_wp2
      go_quiet (fail)
      go_wp2
      go_roundw
      case rel => exact ⟨i' + 1, _, by go_num, by omega, rfl⟩
      case measure => simp [intOf]; omega
    · go_wp2
      go_ret
      exact ⟨rfl, _, rfl⟩
end Go.Proofs.Ygcfad
