/-
  THE WALK of pack.Pack: it returns a slice of its own that holds the packed stream.
-/
import Derived.Test.YgcfadOwn
namespace Go.Proofs.Ygcfad
open Go.RowKit Plain
set_option maxRecDepth 100000 in
set_option maxHeartbeats 4000000 in
theorem pack_some (b off cap n : Nat) (zs : List Nat) (w : World) (hn : Hid (n = zs.length)) (hr : ∀ i, i < zs.length → w.cell? ⟨b, off + i, none⟩ = some (.int .u64 ((zs.getD i 0 : Nat) : Int))) (hcap : n ≤ cap) (hz : ∀ x ∈ zs, x < 18446744073709551616) (hl : n ≤ 256) (hpos : 0 < n) :
    Calls Fadg.prog 20 #[.slice (some ⟨b, off, none⟩) n cap] w fun e w' => ∃ v, e = .returned v ∧ Own .u8 5 w.heap.size w' v (packN dnB zs) ∧ Below w.heap.size w w' := by
  have HZ : Hid (∀ x ∈ zs, x < 18446744073709551616) := hz
  have HR : Hid (RowAt .u64 w (some ⟨b, off, none⟩) zs) := .inr ⟨b, off, rfl, hr⟩
  clear hz hr
  have h0 : ((n : Int) == 0) = false := by simp; omega
  obtain ⟨i5, hi5, hz0, hz1, hz2⟩ := info_parts Fadg.info5
  go_enter Fadg.func20, Fadg.ntmps20
  go_wp2_with (at_make; go_must (refine wpList_make_own _ rfl _ _ 26 rfl w.heap.size 5 i5 (.int .u8 0) 1 Fadg.underlying26 hi5 hz0 hz1 _ _ _ (2 + 9 * n) rfl rfl (by omega) (by rw [hz2]; omega) (by unfold maxLen; omega) (Nat.le_refl _) ?_); intro w1 hown1 hg1)
  clear hz0 hz1 hz2 hi5
  go_loopw [3, 4] (fun s i wr => ∃ k : Nat, k ≤ n ∧ i = .int .i64 (k : Int) ∧ ∃ out, out ++ packN dnB (zs.drop k) = packN dnB zs ∧ Own .u8 5 w.heap.size wr s out ∧ Below w.heap.size w wr) (fun _ i _ => n - (intOf i).toNat)
  case atStart => exact ⟨0, Nat.zero_le _, rfl, [], by simp, hown1, (Below.refl _ _).grown hg1 (Nat.le_refl _) (fun _ h => by cases h)⟩
  case round =>
    obtain ⟨k, hk, rfl, out, ho, hown, hbel⟩ := hrel
    have hob : out.length ≤ 2560 := by have := prefix_length ho; have := packN_length dnB zs; have := hn.out; omega
    have HO : Hid (out ++ packN dnB (zs.drop k) = packN dnB zs) := ho
    clear ho hown1 hg1
    by_cases h1 : k < n
    · obtain ⟨x, hx⟩ : ∃ x, x = zs.getD k 0 := ⟨_, rfl⟩
      have hkz : k < zs.length := by have := hn.out; omega
      have hcell : wr.cell? ⟨b, off + k, none⟩ = some (.int .u64 (x : Int)) := by
        rcases HR.out.below hbel (Nat.le_refl _) with h | ⟨b', off', he, hc⟩
        · rw [h] at hkz; simp at hkz
        · simp only [Option.some.injEq, Addr.mk.injEq] at he
          obtain ⟨rfl, rfl, _⟩ := he
          rw [hx]; exact hc k hkz
      have hxl : Hid (x < 18446744073709551616) := by rw [hx]; exact getD_lt HZ.out hkz
      have HX : Hid (x = zs.getD k 0) := hx
      clear hx
      have hsz := hbel.size
      go_wp2_with (first | (go_at_call 64; go_must (refine (tagOf_any x hxl.out _).mono ?_); rintro e w' ⟨rfl, rfl⟩) | (at_builtin; go_must (refine wpList_append_byte (B := w.heap.size) (w0 := w) _ rfl (.tmp 38) (.tmp 40) rfl _ out rfl (hown.alloc _) (hbel.alloc hsz _) ⟨_, 0, none⟩ 1 1 [tagN x] rfl rfl (one_new _ _ _ _) (by omega) (by simp; omega) ?_); intro v1 w1 hown1 hbel1 hsz1))
      clear hcell hown hbel
      go_loopw [3, 5] (fun s y wr => ∃ (y' j : Nat) (o2 : List Nat), y = .int .u64 (y' : Int) ∧ y' < 256 ^ j ∧ j ≤ 8 ∧ o2 ++ nzF j y' = (out ++ [tagN x]) ++ nzF 8 x ∧ Own .u8 5 w.heap.size wr s o2 ∧ Below w.heap.size w wr) (fun _ y _ => (intOf y).toNat)
      case atStart => exact ⟨x, 8, out ++ [tagN x], rfl, hxl.out, Nat.le_refl _, rfl, hown1, hbel1⟩
      case round =>
        obtain ⟨y, j, o2, rfl, hyj, hj8, ho2, hown2, hbel2⟩ := hrel
        have hob2 : o2.length ≤ 2570 := by have := prefix_length ho2; have := nzF_length 8 x; simp at *; omega
        have HO2 : Hid (o2 ++ nzF j y = (out ++ [tagN x]) ++ nzF 8 x) := ho2
        have HY : Hid (y < 256 ^ j) := hyj
        clear ho2 hyj hown1 hbel1 hsz1
        by_cases hy : y = 0
        · subst hy
          have ho3 : o2 = (out ++ [tagN x]) ++ nzF 8 x := by have := HO2.out; rwa [nzF_zero, List.append_nil] at this
          have HO3 : Hid (o2 = (out ++ [tagN x]) ++ nzF 8 x) := ho3
          clear ho3 HO2 HY hj8
          have hsz2 := hbel2.size
          have hdrop : Hid (zs.drop k = x :: zs.drop (k + 1)) := drop_cons hkz HX.out
          by_cases ht0 : tagN x = 0
          · have ht0' : (((tagN x : Nat) : Int) == 0) = true := by simp [ht0]
            have HT : Hid (tagN x = 0) := ht0
            clear ht0
            go_wp2_with (refine wpList_slice3 _ w rfl (.tmp 54) (.tmp 56) (.tmp 58) (.tmp 60) rfl b off n cap (k + 1) zs hn.out HR.out rfl _ rfl (by omega) rfl rfl (by omega) (by omega) ?_; intro ao' hr')
            have hdl : (zs.drop (k + 1)).length = n - (k + 1) := by have := hn.out; simp; omega
            obtain ⟨r, hrd⟩ : ∃ r, runP (· == 0) (zs.drop (k + 1)) 255 = r := ⟨_, rfl⟩
            have hrl := runP_le (· == 0) (zs.drop (k + 1)) 255
            have hz := zeros_row ao' (n - (k + 1)) (n - (k + 1)) (zs.drop (k + 1)) 255 wr hdl.symm (hr'.below hbel2 (Nat.le_refl _)) (by omega)
            rw [hrd] at hz hrl
            rw [hdl] at hrl
            obtain ⟨hrl1, hrl2⟩ := hrl
            have HRD : Hid (runP (· == 0) (zs.drop (k + 1)) 255 = r) := hrd
            clear hrd hdl
            refine hz.mono ?_
            clear hz
            rintro e w' ⟨rfl, hw'⟩
            subst hw'
            go_wp2_with (at_builtin; go_must (refine wpList_append_byte (B := w.heap.size) (w0 := w) _ rfl (.tmp 67) (.tmp 70) rfl _ o2 rfl (hown2.alloc _) (hbel2.alloc hsz2 _) ⟨_, 0, none⟩ 1 1 [r] rfl rfl (one_new' _ _ _ _ _ (by omega)) (by omega) (by simp; omega) ?_); intro v3 w3 hown3 hbel3 hsz3)
            go_roundw
            case rel =>
              exact ⟨k + r + 1, by omega, by go_num, o2 ++ [r], pack_zero_run hdrop.out HT.out HRD.out HO.out HO3.out, hown3, hbel3⟩
            case measure => simp [intOf]; omega
          · have ht0' : (((tagN x : Nat) : Int) == 0) = false := by simp [ht0]
            by_cases ht5 : tagN x = 255
            · have ht5' : (((tagN x : Nat) : Int) == 255) = true := by simp [ht5]
              have HT : Hid (tagN x = 255) := ht5
              clear ht0 ht5
              go_wp2_with (refine wpList_slice3 _ w rfl (.tmp 54) (.tmp 56) (.tmp 58) (.tmp 60) rfl b off n cap (k + 1) zs hn.out HR.out rfl _ rfl (by omega) rfl rfl (by omega) (by omega) ?_; intro ao' hr')
              have hdl : (zs.drop (k + 1)).length = n - (k + 1) := by have := hn.out; simp; omega
              obtain ⟨r, hrd⟩ : ∃ r, runP (fun x => dnB (tagN x)) (zs.drop (k + 1)) 255 = r := ⟨_, rfl⟩
              have hrl := runP_le (fun x => dnB (tagN x)) (zs.drop (k + 1)) 255
              have hz := dense_row ao' (n - (k + 1)) (n - (k + 1)) (zs.drop (k + 1)) 255 wr hdl.symm (hr'.below hbel2 (Nat.le_refl _)) (fun y hy => HZ.out y (List.mem_of_mem_drop hy)) (by omega)
              rw [hrd] at hz hrl
              rw [hdl] at hrl
              obtain ⟨hrl1, hrl2⟩ := hrl
              have HRD : Hid (runP (fun x => dnB (tagN x)) (zs.drop (k + 1)) 255 = r) := hrd
              have HDL : Hid ((zs.drop (k + 1)).length = n - (k + 1)) := hdl
              have HR' : Hid (RowAt .u64 w ao' (zs.drop (k + 1))) := hr'
              clear hrd hdl hr'
              refine hz.mono ?_
              clear hz
              rintro e w' ⟨rfl, hw'⟩
              subst hw'
              go_wp2_with (first | (at_builtin; go_must (refine wpList_append_byte (B := w.heap.size) (w0 := w) _ rfl (.tmp 79) (.tmp 82) rfl _ o2 rfl (hown2.alloc _) (hbel2.alloc hsz2 _) ⟨_, 0, none⟩ 1 1 [r] rfl rfl (one_new' _ _ _ _ _ (by omega)) (by omega) (by simp; omega) ?_); intro v3 w3 hown3 hbel3 hsz3) | refine wpList_sliceH _ rfl (.tmp 84) (.tmp 85) rfl ao' (n - (k + 1)) (n - (k + 1)) r rfl _ rfl (by omega) (by omega) ?_)
              clear hown2 hbel2 hsz2
              go_loopw [3, 88] (fun s j wr => ∃ j' : Nat, j = .int .i64 (j' : Int) ∧ j' ≤ r ∧ Own .u8 5 w.heap.size wr s ((o2 ++ [r]) ++ ((zs.drop (k + 1)).take j').flatMap by8) ∧ Below w.heap.size w wr) (fun _ j _ => r - (intOf j).toNat)
              case atStart => exact ⟨0, rfl, Nat.zero_le _, by simpa using hown3, hbel3⟩
              case round =>
                obtain ⟨j', rfl, hj', hown4, hbel4⟩ := hrel
                clear hown3 hbel3 hsz3
                by_cases hjr : j' < r
                · have hjl : j' < (zs.drop (k + 1)).length := by have := HDL.out; omega
                  obtain ⟨y, hy⟩ : ∃ y, y = (zs.drop (k + 1)).getD j' 0 := ⟨_, rfl⟩
                  rcases HR'.out with h | ⟨b2, off2, rfl, hc2⟩
                  · rw [h] at hjl; simp at hjl
                  have hcell2 : wr.cell? ⟨b2, off2 + j', none⟩ = some (.int .u64 (y : Int)) := by
                    have := hc2 j' hjl
                    rw [hbel4.cell (p := ⟨b2, off2 + j', none⟩) (World.block_lt_of_cell? _ _ this), this, hy]
                  have HYY : Hid (y = (zs.drop (k + 1)).getD j' 0) := hy
                  have hsz4 := hbel4.size
                  have hlen4 : (((o2 ++ [r]) ++ ((zs.drop (k + 1)).take j').flatMap by8)).length ≤ 10000 := by
                    simp only [List.length_append, flatMap_by8_length, List.length_take, List.length_cons, List.length_nil]; omega
                  obtain ⟨o4, ho4⟩ : ∃ o4, o4 = ((o2 ++ [r]) ++ ((zs.drop (k + 1)).take j').flatMap by8) := ⟨_, rfl⟩
                  rw [← ho4] at hown4 hlen4
                  have HO4 : Hid (o4 = ((o2 ++ [r]) ++ ((zs.drop (k + 1)).take j').flatMap by8)) := ho4
                  clear ho4 hy hc2 hjl
                  go_wp2_with (first | (go_at_call 67; go_must (refine (bytes_any (y : Int) _).mono ?_); rintro e w5 ⟨rfl, hb5⟩; have own5 := hown4.kept hb5 (Nat.le_refl _); have bel5 := hbel4.trans (hb5.mono hsz4); have hsz5 := bel5.size; clear hown4 hbel4 hb5) | (at_builtin; go_must (refine wpList_append_byte (B := w.heap.size) (w0 := w) _ rfl (.tmp 94) (.tmp 95) rfl _ o4 rfl (own5.alloc _) (bel5.alloc hsz5 _) ⟨_, 0, none⟩ 8 8 (by8 y) rfl rfl (eight_new _ _ _) (by omega) (by simp; omega) ?_); intro v6 w6 hown6 hbel6 hsz6))
                  go_roundw
                  case rel =>
                    refine ⟨j' + 1, by go_num, by omega, ?_, hbel6⟩
                    rw [take_flat _ _ (by have := HDL.out; omega), ← List.append_assoc, ← HO4.out, ← HYY.out]
                    exact hown6
                  case measure => simp [intOf]; omega
                · go_wp2
                  go_roundw
                  case rel =>
                    have : j' = r := by omega
                    subst this
                    exact ⟨k + j' + 1, by omega, by go_num, _, pack_full_run hdrop.out HT.out HRD.out HO.out HO3.out, hown4, hbel4⟩
                  case measure => simp [intOf]; omega
            · have ht5' : (((tagN x : Nat) : Int) == 255) = false := by simp; omega
              have HT : Hid (¬ tagN x = 0 ∧ ¬ tagN x = 255) := ⟨ht0, ht5⟩
              clear ht0 ht5
              go_wp2_with (refine wpList_slice3 _ w rfl (.tmp 54) (.tmp 56) (.tmp 58) (.tmp 60) rfl b off n cap (k + 1) zs hn.out HR.out rfl _ rfl (by omega) rfl rfl (by omega) (by omega) ?_; intro ao' hr')
              go_roundw
              case rel =>
                exact ⟨k + 1, by omega, by go_num, o2, pack_plain hdrop.out HT.out.1 HT.out.2 HO.out HO3.out, hown2, hbel2⟩
              case measure => simp [intOf]; omega
        · obtain ⟨j', rfl⟩ : ∃ j', j = j' + 1 := by
            cases j with
            | zero => have := HY.out; simp at this; omega
            | succ j' => exact ⟨j', rfl⟩
          have hy' : 0 < (y : Int) := by omega
          have hyl : y / 256 < 256 ^ j' := by have := HY.out; rw [Nat.pow_succ] at this; omega
          have HYL : Hid (y / 256 < 256 ^ j') := hyl
          clear hyl
          by_cases h2 : y % 256 = 0
          · have h2' : (y : Int) % 256 = 0 := by omega
            clear hy
            go_wp2
            go_roundw
            case rel => exact ⟨y / 256, j', o2, by go_num, HYL.out, by omega, by rw [← HO2.out]; simp [nzF, h2], hown2, hbel2⟩
            case measure => simp [intOf]; omega
          · have h2' : 0 < (y : Int) % 256 := by omega
            have hsz2 := hbel2.size
            clear hy h2
            go_wp2_with (at_builtin; go_must (refine wpList_append_byte (B := w.heap.size) (w0 := w) _ rfl (.tmp 49) (.tmp 52) rfl _ o2 rfl (hown2.alloc _) (hbel2.alloc hsz2 _) ⟨_, 0, none⟩ 1 1 [y % 256] rfl rfl (one_new' _ _ _ _ _ (by omega)) (by omega) (by simp; omega) ?_); intro v3 w3 hown3 hbel3 hsz3)
            go_roundw
            case rel => exact ⟨y / 256, j', o2 ++ [y % 256], by go_num, HYL.out, by omega, by rw [← HO2.out]; have : y % 256 ≠ 0 := by omega
                                                                                              simp [nzF, this], hown3, hbel3⟩
            case measure => simp [intOf]; omega
    · go_wp2
      go_ret
      refine ⟨_, rfl, ?_, hbel⟩
      have : zs.drop k = [] := List.drop_eq_nil_of_le (by have := hn.out; omega)
      have e := HO.out
      rw [this] at e
      rw [← e]
      simpa [packN, packF] using hown

/-- No words, or too many: nil. -/
theorem pack_empty (ao : Option Addr) (cap : Nat) (w : World) :
    Calls Fadg.prog 20 #[.slice ao 0 cap] w fun e w' => e = .returned (.slice none 0 0) ∧ w' = w := by
  go_enter Fadg.func20, Fadg.ntmps20
  go_wp2
  go_ret
  exact ⟨rfl, rfl⟩
set_option maxRecDepth 100000 in
theorem pack_many (ao : Option Addr) (n cap : Nat) (w : World) (hl : 256 < n) :
    Calls Fadg.prog 20 #[.slice ao n cap] w fun e w' => e = .returned (.slice none 0 0) ∧ w' = w := by
  have h0 : ((n : Int) == 0) = false := by simp; omega
  have h1 : (256 : Int) < (n : Int) := by omega
  go_enter Fadg.func20, Fadg.ntmps20
  go_wp2
  go_ret
  exact ⟨rfl, rfl⟩

/-- Up to 256 words. -/
theorem pack_any (ao : Option Addr) (cap n : Nat) (zs : List Nat) (w : World) (hn : n = zs.length) (hr : RowAt .u64 w ao zs) (hcap : n ≤ cap) (hz : ∀ x ∈ zs, x < 18446744073709551616) (hl : n ≤ 256) :
    Calls Fadg.prog 20 #[.slice ao n cap] w fun e w' => ∃ v, e = .returned v ∧ Own .u8 5 w.heap.size w' v (packN dnB zs) ∧ Below w.heap.size w w' := by
  rcases hr with h | ⟨b, off, rfl, hc⟩
  · subst h
    obtain rfl : n = 0 := hn
    refine (pack_empty ao cap w).mono fun e w' ⟨he, hw⟩ => ?_
    subst hw
    exact ⟨_, he, Own.nil _ _ _ _, Below.refl _ _⟩
  · by_cases h0 : n = 0
    · have hz0 : zs = [] := List.eq_nil_of_length_eq_zero (by omega)
      subst hz0
      subst h0
      refine (pack_empty _ cap w).mono fun e w' ⟨he, hw⟩ => ?_
      subst hw
      exact ⟨_, he, Own.nil _ _ _ _, Below.refl _ _⟩
    · exact pack_some b off cap n zs w hn hc hcap hz hl (by omega)
end Go.Proofs.Ygcfad
