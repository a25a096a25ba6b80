/-
  THE WALKS of the leaves under pack.Pack: tagOf, isDense, Bytes, zeros, dense.
-/
import Derived.Test.YgcfadProg
import Derived.WalkKit
import Derived.WalkSpells
import Derived.WalkLawsBesides
import Derived.Test.YgcfadPackPlain
namespace Go.Proofs.Ygcfad
open Go.RowKit Plain

theorem ret_int {k : IntKind} {a b : Int} (h : a = b) : Ending.returned (.int k a) = .returned (.int k b) := by rw [h]
theorem ret_bool {a b : Bool} (h : a = b) : Ending.returned (.bool a) = .returned (.bool b) := by rw [h]

theorem cast_shape (y : Nat) : ((y : Int) / 128 * 72624976668147840 % 18446744073709551616 / 72057594037927936 % 256) = ((y / 128 * 72624976668147840 % 18446744073709551616 / 72057594037927936 % 256 : Nat) : Int) := by
  rw [Int.natCast_emod, Int.natCast_ediv, Int.natCast_emod, Int.natCast_mul, Int.natCast_ediv]
  rfl

theorem tagInt (x : Nat) (hx : x < 18446744073709551616) :
    (IntKind.u64.wrap (bits BinOp.andNot IntKind.u64 (bits BinOp.or IntKind.u64 (IntKind.u64.wrap (bits BinOp.and IntKind.u64 (x : Int) 9187201950435737471 + 9187201950435737471)) (x : Int)) 9187201950435737471 / 128 * 72624976668147840) / 72057594037927936 % 256 : Int)
      = ((tagN x : Nat) : Int) := by
  rw [← tagRaw_eq x hx]
  have e1 : bits BinOp.and IntKind.u64 (x : Int) 9187201950435737471 = ((x &&& 9187201950435737471 : Nat) : Int) := u64_and_nat x 9187201950435737471 hx (by decide)
  simp only [e1, IntKind.wrap_u64]
  have e2 : (((x &&& 9187201950435737471 : Nat) : Int) + 9187201950435737471) % 18446744073709551616 = ((((x &&& 9187201950435737471) + 9187201950435737471) % 18446744073709551616 : Nat) : Int) := by omega
  rw [e2]
  have l2 : ((x &&& 9187201950435737471) + 9187201950435737471) % 18446744073709551616 < 18446744073709551616 := Nat.mod_lt _ (by decide)
  rw [u64_or_nat _ x l2 hx]
  have l3 : ((x &&& 9187201950435737471) + 9187201950435737471) % 18446744073709551616 ||| x < 18446744073709551616 := Nat.or_lt_two_pow (n := 64) l2 hx
  have e3 : bits BinOp.andNot IntKind.u64 ((((x &&& 9187201950435737471) + 9187201950435737471) % 18446744073709551616 ||| x : Nat) : Int) 9187201950435737471 = _ := u64_andNot_nat _ 9187201950435737471 l3 (by decide)
  rw [e3]
  exact cast_shape _

set_option maxHeartbeats 400000 in
theorem tagOf_any (x : Nat) (hx : x < 18446744073709551616) (w : World) :
    Calls Fadg.prog 64 #[.int .u64 (x : Int)] w fun e w' => e = .returned (.int .u8 ((tagN x : Nat) : Int)) ∧ w' = w := by
  have H : Hid (x < 18446744073709551616) := hx
  clear hx
  go_enter Fadg.func64, Fadg.ntmps64
  go_wp2
  go_ret
  exact ⟨ret_int (tagInt x H.out), rfl⟩

/-- Whether a tag is dense, as the Go text reckons it. -/
def dnB (t : Nat) : Bool := bits BinOp.and IntKind.u8 (bits BinOp.xor IntKind.u8 IntKind.u8.max (t : Int)) ((bits BinOp.xor IntKind.u8 IntKind.u8.max (t : Int) - 1) % 256) == 0
theorem dnB_full : dnB 255 = true := by decide +kernel

set_option maxHeartbeats 400000 in
theorem isDense_any (t : Nat) (w : World) :
    Calls Fadg.prog 104 #[.int .u8 (t : Int)] w fun e w' => e = .returned (.bool (dnB t)) ∧ w' = w := by
  go_enter Fadg.func104, Fadg.ntmps104
  go_wp2
  all_goals go_ret
  all_goals exact ⟨rfl, rfl⟩

set_option maxHeartbeats 400000 in
theorem bytes_any (x : Int) (w : World) :
    Calls Fadg.prog 67 #[.int .u64 x] w fun e w' => e = .returned (.agg #[Value.int IntKind.u8 (x % 256), Value.int IntKind.u8 (x / 256 % 256),
              Value.int IntKind.u8 (x / 65536 % 256), Value.int IntKind.u8 (x / 16777216 % 256),
              Value.int IntKind.u8 (x / 4294967296 % 256), Value.int IntKind.u8 (x / 1099511627776 % 256),
              Value.int IntKind.u8 (x / 281474976710656 % 256), Value.int IntKind.u8 (x / 72057594037927936 % 256)]) ∧ Below w.heap.size w w' := by
  go_enter Fadg.func67, Fadg.ntmps67
  go_wp2
  exact bodyPost_ret (v := .agg #[Value.int IntKind.u8 (x % 256), Value.int IntKind.u8 (x / 256 % 256),
              Value.int IntKind.u8 (x / 65536 % 256), Value.int IntKind.u8 (x / 16777216 % 256),
              Value.int IntKind.u8 (x / 4294967296 % 256), Value.int IntKind.u8 (x / 1099511627776 % 256),
              Value.int IntKind.u8 (x / 281474976710656 % 256), Value.int IntKind.u8 (x / 72057594037927936 % 256)]) (by simp [results, Fadg.results67, go_sem]) rfl ⟨rfl, (Below.refl _ _).alloc (Nat.le_refl _) _⟩

/-- A slice of numbers that is only read: its elements are 'zs'; nothing is asked of the address where there are none. -/
def RowAt (k : IntKind) (w : World) (ao : Option Addr) (zs : List Nat) : Prop :=
  zs = [] ∨ ∃ b off, ao = some ⟨b, off, none⟩ ∧ ∀ i, i < zs.length → w.cell? ⟨b, off + i, none⟩ = some (.int k ((zs.getD i 0 : Nat) : Int))

theorem getD_lt {zs : List Nat} {B k : Nat} (h : ∀ x ∈ zs, x < B) (hk : k < zs.length) : zs.getD k 0 < B := by
  have : zs.getD k 0 = zs[k] := by simp [List.getD, hk]
  rw [this]; exact h _ (List.getElem_mem _)

set_option maxHeartbeats 400000 in
theorem zeros_any (ao : Option Addr) (cap : Nat) (zs : List Nat) (m : Nat) (w : World) (hr : RowAt .u64 w ao zs) (hl : zs.length ≤ 65536) :
    Calls Fadg.prog 65 #[.slice ao zs.length cap, .int .i64 (m : Int)] w fun e w' => e = .returned (.int .i64 ((runP (· == 0) zs m : Nat) : Int)) ∧ w' = w := by
  go_enter Fadg.func65, Fadg.ntmps65
  go_wp2
  go_loop [5] (fun n => ∃ k : Nat, k ≤ zs.length ∧ k ≤ m ∧ n = .int .i64 (k : Int) ∧ runP (· == 0) zs m = k + runP (· == 0) (zs.drop k) (m - k)) (fun n => zs.length - (intOf n).toNat)
  case atStart => exact ⟨0, Nat.zero_le _, Nat.zero_le _, rfl, by simp⟩
  case round =>
    obtain ⟨k, hk, hkm, rfl, hv0⟩ := hrel
    have hv : Hid (runP (· == 0) zs m = k + runP (· == 0) (zs.drop k) (m - k)) := hv0
    clear hv0
    by_cases h1 : k < zs.length
    · by_cases h2 : k < m
      · rcases hr with hr | ⟨b, off, rfl, hc⟩
        · subst hr; simp at h1
        have hcell := hc k h1
        by_cases h3 : zs.getD k 0 = 0
        · have hp : Hid (runP (· == 0) (zs.drop k) (m - k) = 1 + runP (· == 0) (zs.drop (k + 1)) (m - (k + 1))) := runP_yes _ zs k m h1 h2 (by simpa using h3)
          rw [h3] at hcell
          clear h3 hc
          go_wp2
          go_round
          case rel => exact ⟨k + 1, by omega, by omega, by go_num, by rw [hv.out, hp.out]; omega⟩
          case measure => simp [intOf]; omega
        · have hp : Hid (runP (· == 0) (zs.drop k) (m - k) = 0) := runP_no _ zs k m h1 (by simpa using h3)
          obtain ⟨x, hx⟩ : ∃ x, x = zs.getD k 0 := ⟨_, rfl⟩
          rw [← hx] at hcell h3
          have h4 : ((x : Int) == 0) = false := by simp; omega
          clear hx h3 hc
          go_wp2
          go_ret
          exact ⟨ret_int (by rw [hv.out, hp.out]; omega), rfl⟩
      · have hp : Hid (runP (· == 0) (zs.drop k) (m - k) = 0) := by
          have : m - k = 0 := by omega
          rw [this]; exact runP_zero _ _
        go_wp2
        go_ret
        exact ⟨ret_int (by rw [hv.out, hp.out]; omega), rfl⟩
    · have hp : Hid (runP (· == 0) (zs.drop k) (m - k) = 0) := runP_drop_end _ _ _ _ (by omega)
      go_wp2
      go_ret
      exact ⟨ret_int (by rw [hv.out, hp.out]; omega), rfl⟩

set_option maxHeartbeats 400000 in
theorem dense_any (ao : Option Addr) (cap : Nat) (zs : List Nat) (m : Nat) (w : World) (hr : RowAt .u64 w ao zs) (hz : ∀ x ∈ zs, x < 18446744073709551616) (hl : zs.length ≤ 65536) :
    Calls Fadg.prog 66 #[.slice ao zs.length cap, .int .i64 (m : Int)] w fun e w' => e = .returned (.int .i64 ((runP (fun x => dnB (tagN x)) zs m : Nat) : Int)) ∧ w' = w := by
  have HZ : Hid (∀ x ∈ zs, x < 18446744073709551616) := hz
  clear hz
  go_enter Fadg.func66, Fadg.ntmps66
  go_wp2
  go_loop [5] (fun n => ∃ k : Nat, k ≤ zs.length ∧ k ≤ m ∧ n = .int .i64 (k : Int) ∧ runP (fun x => dnB (tagN x)) zs m = k + runP (fun x => dnB (tagN x)) (zs.drop k) (m - k)) (fun n => zs.length - (intOf n).toNat)
  case atStart => exact ⟨0, Nat.zero_le _, Nat.zero_le _, rfl, by simp⟩
  case round =>
    obtain ⟨k, hk, hkm, rfl, hv0⟩ := hrel
    have hv : Hid (runP (fun x => dnB (tagN x)) zs m = k + runP (fun x => dnB (tagN x)) (zs.drop k) (m - k)) := hv0
    clear hv0
    by_cases h1 : k < zs.length
    · by_cases h2 : k < m
      · rcases hr with hr | ⟨b, off, rfl, hc⟩
        · subst hr; simp at h1
        have hcell := hc k h1
        have hlt : Hid (zs.getD k 0 < 18446744073709551616) := getD_lt HZ.out h1
        clear HZ hc
        cases h3 : dnB (tagN (zs.getD k 0)) with
        | true =>
          have hp : Hid (runP (fun x => dnB (tagN x)) (zs.drop k) (m - k) = 1 + runP (fun x => dnB (tagN x)) (zs.drop (k + 1)) (m - (k + 1))) := runP_yes _ zs k m h1 h2 h3
          obtain ⟨x, hx⟩ : ∃ x, x = zs.getD k 0 := ⟨_, rfl⟩
          rw [← hx] at hcell h3 hlt
          clear hx
          go_wp2_with (first | (go_at_call 64; refine (tagOf_any x hlt.out _).mono ?_; rintro e w' ⟨rfl, rfl⟩) | (go_at_call 104; refine (isDense_any (tagN x) _).mono ?_; rintro e w' ⟨rfl, rfl⟩))
          go_round
          case rel => exact ⟨k + 1, by omega, by omega, by go_num, by rw [hv.out, hp.out]; omega⟩
          case measure => simp [intOf]; omega
        | false =>
          have hp : Hid (runP (fun x => dnB (tagN x)) (zs.drop k) (m - k) = 0) := runP_no _ zs k m h1 h3
          obtain ⟨x, hx⟩ : ∃ x, x = zs.getD k 0 := ⟨_, rfl⟩
          rw [← hx] at hcell h3 hlt
          clear hx
          go_wp2_with (first | (go_at_call 64; refine (tagOf_any x hlt.out _).mono ?_; rintro e w' ⟨rfl, rfl⟩) | (go_at_call 104; refine (isDense_any (tagN x) _).mono ?_; rintro e w' ⟨rfl, rfl⟩))
          go_ret
          exact ⟨ret_int (by rw [hv.out, hp.out]; omega), rfl⟩
      · have hp : Hid (runP (fun x => dnB (tagN x)) (zs.drop k) (m - k) = 0) := by
          have : m - k = 0 := by omega
          rw [this]; exact runP_zero _ _
        go_wp2
        go_ret
        exact ⟨ret_int (by rw [hv.out, hp.out]; omega), rfl⟩
    · have hp : Hid (runP (fun x => dnB (tagN x)) (zs.drop k) (m - k) = 0) := runP_drop_end _ _ _ _ (by omega)
      go_wp2
      go_ret
      exact ⟨ret_int (by rw [hv.out, hp.out]; omega), rfl⟩
end Go.Proofs.Ygcfad
