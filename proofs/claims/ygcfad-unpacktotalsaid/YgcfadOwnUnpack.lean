/-
  THE WALK of law.ownUnpack: the stream read byte by byte; it answers as Unpack does.
-/
import Derived.Test.YgcfadUnpack
import Derived.Test.YgcfadOwnUnpackPlain
namespace Go.Proofs.Ygcfad
open Go.RowKit Plain
set_option linter.unusedSimpArgs false
set_option linter.unusedVariables false

/-- The loop over a tag's bits. -/
def L2 (s : List Nat) (I t np W y i k : Nat) : Prop := (i - (I + 1)) + (leftP t k).length = np ∧ y + valL (leftP t k) (s.drop i) = W ∧ y < 256 ^ k ∧ I + 1 ≤ i

theorem L2.start {s : List Nat} {I t : Nat} : L2 s I t (places t).length (valL (places t) (s.drop (I + 1))) 0 (I + 1) 0 := by
  refine ⟨by rw [leftP_start]; omega, by rw [leftP_start]; omega, by decide, Nat.le_refl _⟩
theorem L2.zero {s : List Nat} {I t np W y i k : Nat} (h : L2 s I t np W y i k) (ht : t < 256) (hk : k < 8) (hb : t / 2 ^ k % 2 = 0) : L2 s I t np W y i (k + 1) := by
  obtain ⟨h1, h2, h3, h4⟩ := h
  rw [leftP_zero ht hk hb] at h1 h2
  exact ⟨h1, h2, Nat.lt_of_lt_of_le h3 (Nat.pow_le_pow_right (by decide) (by omega)), h4⟩
theorem L2.one {s : List Nat} {I t np W y i k x : Nat} (h : L2 s I t np W y i k) (ht : t < 256) (hk : k < 8) (hb : ¬ t / 2 ^ k % 2 = 0) (hi : i < s.length) (hx : x = s.getD i 0) (hx8 : x < 256) :
    bits BinOp.or IntKind.u64 (y : Int) (IntKind.u64.wrap ((x : Int) * 2 ^ (8 * k))) = ((y + x * 256 ^ k : Nat) : Int) ∧ L2 s I t np W (y + x * 256 ^ k) (i + 1) (k + 1) := by
  obtain ⟨h1, h2, h3, h4⟩ := h
  rw [leftP_one ht hk hb] at h1 h2
  obtain ⟨j1, j2, j3⟩ := or_joined y x k h3 hx8 hk
  have hle : 256 ^ (k + 1) ≤ 256 ^ 8 := Nat.pow_le_pow_right (by decide) (by omega)
  have he : 256 ^ 8 = 18446744073709551616 := by decide
  have h3' : 256 ^ k ≤ 256 ^ 8 := Nat.pow_le_pow_right (by decide) (by omega)
  have hW : IntKind.u64.wrap ((x : Int) * 2 ^ (8 * k)) = ((x * 2 ^ (8 * k) : Nat) : Int) := by
    rw [IntKind.wrap_u64]
    have e : ((x : Int) * 2 ^ (8 * k)) = ((x * 2 ^ (8 * k) : Nat) : Int) := by simp
    rw [e]; omega
  refine ⟨by rw [hW, u64_or_nat y _ (by omega) j3, j1], ?_, ?_, j2, by omega⟩
  · rw [List.length_cons] at h1; omega
  · rw [valL_cons s i k _ hi, ← hx] at h2; omega
theorem L2.done {s : List Nat} {I t np W y i : Nat} (h : L2 s I t np W y i 8) : y = W ∧ i = I + 1 + np := by
  obtain ⟨h1, h2, _, h4⟩ := h
  rw [leftP_end] at h1 h2
  simp [valL] at h1 h2
  exact ⟨h2, by omega⟩
theorem L2.short {s : List Nat} {I t np W y i k : Nat} (h : L2 s I t np W y i k) (ht : t < 256) (hk : k < 8) (hb : ¬ t / 2 ^ k % 2 = 0) (hi : s.length ≤ i) (hI : I < s.length) : (s.drop I).length < 1 + np := by
  obtain ⟨h1, _, _, h4⟩ := h
  rw [leftP_one ht hk hb, List.length_cons] at h1
  simp; omega

/-- The loop over a word's eight bytes. -/
theorem byte_round {l : List Nat} {k x : Nat} (hk : k < 8) (hl : k < l.length) (hx : x = l.getD k 0) (hb : ∀ y ∈ l, y < 256) :
    bits BinOp.or IntKind.u64 ((ofB (l.take k) : Nat) : Int) (IntKind.u64.wrap ((x : Int) * 2 ^ (8 * k))) = ((ofB (l.take (k + 1)) : Nat) : Int) := by
  have h3 : ofB (l.take k) < 256 ^ k := by
    have := ofB_lt (l.take k) (fun y hy => hb y (List.mem_of_mem_take hy))
    rwa [List.length_take, Nat.min_eq_left (by omega)] at this
  have hx8 : x < 256 := by rw [hx]; exact getD_lt hb hl
  obtain ⟨j1, j2, j3⟩ := or_joined (ofB (l.take k)) x k h3 hx8 hk
  have h3' : 256 ^ k ≤ 256 ^ 8 := Nat.pow_le_pow_right (by decide) (by omega)
  have he : 256 ^ 8 = 18446744073709551616 := by decide
  have hW : IntKind.u64.wrap ((x : Int) * 2 ^ (8 * k)) = ((x * 2 ^ (8 * k) : Nat) : Int) := by
    rw [IntKind.wrap_u64]
    have e : ((x : Int) * 2 ^ (8 * k)) = ((x * 2 ^ (8 * k) : Nat) : Int) := by simp
    rw [e]; omega
  rw [hW, u64_or_nat _ _ (by omega) j3, j1, ofB_snoc l k hl, hx]

theorem drop_head {s : List Nat} {I : Nat} (h : I < s.length) : (s.drop I).headD 0 = s.getD I 0 ∧ (s.drop I).tail = s.drop (I + 1) ∧ s.drop I ≠ [] := by
  rw [drop_cons h rfl]
  exact ⟨rfl, rfl, by simp⟩

theorem bit_even {t k : Nat} (ht : t < 256) (h : t / 2 ^ k % 2 = 0) : (bits BinOp.and IntKind.u8 ((t : Int) / 2 ^ k) 1 == 0) = true := by
  have e : ((t : Int) / 2 ^ k) = ((t / 2 ^ k : Nat) : Int) := by simp
  have hlt : t / 2 ^ k < 256 := Nat.lt_of_le_of_lt (Nat.div_le_self _ _) ht
  have h1 : bits BinOp.and IntKind.u8 ((t / 2 ^ k : Nat) : Int) 1 = ((t / 2 ^ k &&& 1 : Nat) : Int) := u8_and_nat _ 1 hlt (by decide)
  rw [e, h1, nat_mask1, h]; rfl
theorem bit_odd {t k : Nat} (ht : t < 256) (h : ¬ t / 2 ^ k % 2 = 0) : (bits BinOp.and IntKind.u8 ((t : Int) / 2 ^ k) 1 == 0) = false := by
  have e : ((t : Int) / 2 ^ k) = ((t / 2 ^ k : Nat) : Int) := by simp
  have hlt : t / 2 ^ k < 256 := Nat.lt_of_le_of_lt (Nat.div_le_self _ _) ht
  have h1 : bits BinOp.and IntKind.u8 ((t / 2 ^ k : Nat) : Int) 1 = ((t / 2 ^ k &&& 1 : Nat) : Int) := u8_and_nat _ 1 hlt (by decide)
  have h2 : t / 2 ^ k % 2 = 1 := by omega
  rw [e, h1, nat_mask1, h2]; rfl
theorem runW_length (s : List Nat) (I np more : Nat) (full : Bool) : (runW s I np more full).length = more := by simp [runW]
theorem runW_zero_take (s : List Nat) (I np more j : Nat) (h : j < more) : (runW s I np more false).take (j + 1) = (runW s I np more false).take j ++ [0] := by
  rw [List.take_succ_eq_append_getElem (by rw [runW_length]; exact h)]
  simp [runW]
theorem runW_full_take (s : List Nat) (I np more j : Nat) (h : j < more) : (runW s I np more true).take (j + 1) = (runW s I np more true).take j ++ [ofB ((s.drop (I + (1 + np + 1 + 8 * j))).take 8)] := by
  rw [List.take_succ_eq_append_getElem (by rw [runW_length]; exact h)]
  simp [runW]

set_option maxRecDepth 100000 in
set_option maxHeartbeats 8000000 in
theorem ownUnpack_any (ao : Option Addr) (sl sc : Nat) (s : List Nat) (w : World) (hsl : Hid (sl = s.length)) (hrow : Hid (RowAt .u8 w ao s)) (hb : Hid (∀ x ∈ s, x < 256)) (hs : sl ≤ 4096) :
    Calls Fadg.prog 23 #[.slice ao sl sc] w (UnpackPost w (unpackN s [])) := by
  go_enter Fadg.func23, Fadg.ntmps23
  go_wp2
  go_loopw [4, 5] (fun a i wr => ∃ (I : Nat) (out : List Nat), i = .int .i64 (I : Int) ∧ I ≤ sl ∧ Hid (out.length ≤ 256) ∧ Hid (Own .u64 23 w.heap.size wr a out) ∧ Hid (Below w.heap.size w wr) ∧ Hid (unpackN (s.drop I) out = unpackN s [])) (fun _ i _ => sl - (intOf i).toNat)
  case atStart => exact ⟨0, [], rfl, Nat.zero_le _, Nat.zero_le _, Own.nil _ _ _ _, Below.refl _ _, rfl⟩
  case round =>
    obtain ⟨I, out, rfl, hI, hol, hown, hbe, hun⟩ := hrel
    by_cases hlt : I < sl
    · have hIs : Hid (I < s.length) := by have := hsl.out; show I < s.length; omega
      rcases hrow.out with h | ⟨b, off, rfl, hc⟩
      · have := hIs.out; rw [h] at this; simp at this
      have hcw : Hid (∀ j, j < s.length → wr.cell? ⟨b, off + j, none⟩ = some (.int .u8 ((s.getD j 0 : Nat) : Int))) := by
        intro j hj
        have := hc j hj
        rw [hbe.out.cell (p := ⟨b, off + j, none⟩) (World.block_lt_of_cell? _ _ this)]; exact this
      have HC := hidden hc
      clear hc
      obtain ⟨t, ht⟩ : ∃ t, t = s.getD I 0 := ⟨_, rfl⟩
      have hcell : wr.cell? ⟨b, off + I, none⟩ = some (.int .u8 (t : Int)) := by rw [ht]; exact hcw.out I hIs.out
      have ht8 : t < 256 := by rw [ht]; exact getD_lt hb.out hIs.out
      have HT := hidden ht
      clear ht
      go_wp2
      go_loop [5, 7, 8] (fun i y k => ∃ (i' y' k' : Nat), i = .int .i64 (i' : Int) ∧ y = .int .u64 (y' : Int) ∧ k = .int .i64 (k' : Int) ∧ k' ≤ 8 ∧ i' ≤ sl ∧ Hid (L2 s I t (places t).length (valL (places t) (s.drop (I + 1))) y' i' k')) (fun _ _ k => 8 - (intOf k).toNat)
      case atStart => exact ⟨I + 1, 0, 0, by go_num, rfl, rfl, by omega, by omega, L2.start⟩
      case round =>
        obtain ⟨i, y, k, rfl, rfl, rfl, hk8, hi, hL⟩ := hrel
        clear hcell
        by_cases hk : k < 8
        · by_cases hbit : t / 2 ^ k % 2 = 0
          · have hbit' := bit_even ht8 hbit
            have hL' : Hid _ := hL.out.zero ht8 hk hbit
            clear hbit
            go_wp2
            go_round
            case rel => exact ⟨i, y, k + 1, rfl, rfl, by go_num, by omega, hi, hL'⟩
            case measure => simp [intOf]; omega
          · have hbit' := bit_odd ht8 hbit
            have HBit := hidden hbit
            clear hbit
            by_cases his : i < sl
            · have hiS : i < s.length := by have := hsl.out; omega
              obtain ⟨x, hx⟩ : ∃ x, x = s.getD i 0 := ⟨_, rfl⟩
              have hx8 : x < 256 := by rw [hx]; exact getD_lt hb.out hiS
              have hcx : wr.cell? ⟨b, off + i, none⟩ = some (.int .u8 (x : Int)) := by rw [hx]; exact hcw.out i hiS
              have R := hL.out.one ht8 hk HBit.out hiS hx hx8
              have HR := hidden R
              clear R hx hiS
              go_wp2
              go_round
              case rel => exact ⟨i + 1, y + x * 256 ^ k, k + 1, by go_num, by rw [HR.out.1], by go_num, by omega, by omega, HR.out.2⟩
              case measure => simp [intOf]; omega
            · go_wp2
              go_ret2
              refine ⟨hbe.out, ?_⟩
              have e := drop_head hIs.out
              have hno : unpackN (s.drop I) out = none := none_short e.2.2 rfl (by rw [e.1, ← HT.out]; exact hL.out.short ht8 hk HBit.out (by have := hsl.out; omega) hIs.out)
              rw [← hun.out, hno]
              rfl
        · obtain rfl : k = 8 := by omega
          obtain ⟨hyW, hiI⟩ := hL.out.done
          obtain ⟨np, hnp⟩ : ∃ np, np = (places t).length := ⟨_, rfl⟩
          rw [← hnp] at hiI
          have HYW := hidden hyW
          have HNP := hidden hnp
          subst hiI
          clear hyW hnp hL hk8 hk
          have hsr := hbe.out.size
          by_cases h0 : t = 0
          · have t0 := is0 h0
            have t5 := not5 (show ¬ t = 255 by omega)
            have H0 := hidden h0
            clear h0
            by_cases his : I + 1 + np < sl
            · have hiS : I + 1 + np < s.length := by have := hsl.out; omega
              obtain ⟨more, hmo⟩ : ∃ more, more = s.getD (I + 1 + np) 0 := ⟨_, rfl⟩
              have hm8 : more < 256 := by rw [hmo]; exact getD_lt hb.out hiS
              have HMO : Hid (more = (s.drop I).getD (1 + np) 0) := by rw [hmo]; show _ = _; simp [List.getD, Nat.add_assoc]
              have hcm0 : w.cell? ⟨b, off + (I + 1 + np), none⟩ = some (.int .u8 (more : Int)) := by rw [hmo]; exact HC.out _ hiS
              clear hmo hiS
              go_wp2_with (at_builtin; go_must (refine wpList_push_word (B := w.heap.size) (w0 := w) _ rfl (.tmp 49) (.tmp 51) rfl _ out rfl (hown.out.alloc _) (hbe.out.alloc hsr _) ⟨_, 0, none⟩ 1 1 [y] rfl rfl (one_new _ _ _ _) (by have := hol.out; omega) (by simp; omega) ?_); intro oa1 n1 oc1 w1 hn1 hown1 hbel1 hsz1; have hcm := (hbel1.cell (p := ⟨b, off + (I + 1 + np), none⟩) (World.block_lt_of_cell? _ _ hcm0)).trans hcm0)
              clear hcm hcm0
              have HOWN1 := hidden hown1
              have HBEL1 := hidden hbel1
              clear hown1 hbel1 hsz1
              go_loopw [4, 5, 9] (fun a i n wr => ∃ n' : Nat, n = .int .i64 (n' : Int) ∧ n' ≤ more ∧ i = .int .i64 ((I + 1 + np + 1 : Nat) : Int) ∧ I + 1 + np + 1 ≤ sl ∧ Hid (Own .u64 23 w.heap.size wr a ((out ++ [y]) ++ (runW s I np more false).take (more - n'))) ∧ Hid (Below w.heap.size w wr)) (fun _ _ n _ => (intOf n).toNat)
              case atStart => exact ⟨more, rfl, Nat.le_refl _, by go_num, by omega, by rw [Nat.sub_self, List.take_zero, List.append_nil]; exact HOWN1, HBEL1⟩
              case round =>
                obtain ⟨n', rfl, hnm, rfl, hib, hown2, hbe2⟩ := hrel
                have hsr2 := hbe2.out.size
                have hl2 : Hid ((((out ++ [y]) ++ (runW s I np more false).take (more - n'))).length = out.length + 1 + (more - n')) := by
                  show (((out ++ [y]) ++ (runW s I np more false).take (more - n'))).length = _
                  rw [List.length_append, List.length_take, runW_length, List.length_append, Nat.min_eq_left (by omega)]; rfl
                by_cases hn0 : 0 < n'
                · have hj : more - n' < more := by omega
                  go_wp2
                  go_loop [5, 7, 10] (fun i y k => i = .int .i64 ((I + 1 + np + 1 : Nat) : Int) ∧ y = .int .u64 0 ∧ k = .int .i64 0) (fun _ _ _ => 0)
                  case atStart => exact ⟨rfl, rfl, rfl⟩
                  case round =>
                    obtain ⟨rfl, rfl, rfl⟩ := hrel
                    go_wp2_with (at_builtin; go_must (refine wpList_push_word (B := w.heap.size) (w0 := w) _ rfl (.tmp 98) (.tmp 100) rfl _ ((out ++ [y]) ++ (runW s I np more false).take (more - n')) rfl (hown2.out.alloc _) (hbe2.out.alloc hsr2 _) ⟨_, 0, none⟩ 1 1 [0] rfl rfl (one_new' _ _ _ 0 _ rfl) (by have := hl2.out; have := hol.out; omega) (by simp; omega) ?_); intro oa3 n3 oc3 w3 hn3 hown3 hbel3 hsz3)
                    go_roundw
                    case rel =>
                      refine ⟨n' - 1, by go_num, by omega, by go_num, by omega, ?_, hbel3⟩
                      have e : more - (n' - 1) = (more - n') + 1 := by omega
                      rw [e, runW_zero_take _ _ _ _ _ hj, ← List.append_assoc]
                      exact hown3
                    case measure => simp [intOf]; omega
                · obtain rfl : n' = 0 := by omega
                  obtain ⟨oa2, n2, oc2, hov, hn2⟩ := hown2.out.told
                  subst hov
                  have hfull : Hid ((runW s I np more false).take (more - 0) = runW s I np more false) := by
                    show _ = _; rw [List.take_of_length_le (by rw [runW_length]; omega)]
                  by_cases hol1 : out.length + 1 + more ≤ 256
                  · have hn2' : (n2 : Int) ≤ 256 := by have := hn2.out; have := hl2.out; omega
                    go_wp2
                    go_roundw
                    case rel =>
                      refine ⟨I + (1 + np + 1 + (if false then 8 * more else 0)), (out ++ [y]) ++ runW s I np more false, ?_, ?_, ?_, ?_, hbe2, ?_⟩
                      · simp; omega
                      · simp; omega
                      · show (((out ++ [y]) ++ runW s I np more false)).length ≤ 256
                        have := hl2.out; rw [hfull.out] at this; omega
                      · have := hown2.out; rw [hfull.out] at this; exact this
                      · have e := drop_head hIs.out
                        have hsome := some_run (s := s) (out := out) (I := I) (np := np) (more := more) (full := false) e.2.2 (by rw [e.1, ← HT.out]; exact HNP.out) HMO.out (by rw [e.1, ← HT.out, H0.out]; rfl) (by have := hsl.out; simp; omega) hol1
                        rw [e.1, ← HT.out, e.2.1, ← HYW.out, hun.out] at hsome
                        exact hsome.symm
                    case measure => simp [intOf]; omega
                  · have hn2' : 256 < (n2 : Int) := by have := hn2.out; have := hl2.out; omega
                    go_wp2
                    go_ret2
                    refine ⟨hbe2.out, ?_⟩
                    have e := drop_head hIs.out
                    have hno : unpackN (s.drop I) out = none := none_many_run (np := np) (more := more) e.2.2 (by rw [e.1, ← HT.out]; exact HNP.out) HMO.out (by rw [e.1, ← HT.out]; exact .inl H0.out) (by omega)
                    rw [← hun.out, hno]
                    rfl
            · go_wp2_with (at_builtin; go_must (refine wpList_push_word (B := w.heap.size) (w0 := w) _ rfl (.tmp 49) (.tmp 51) rfl _ out rfl (hown.out.alloc _) (hbe.out.alloc hsr _) ⟨_, 0, none⟩ 1 1 [y] rfl rfl (one_new _ _ _ _) (by have := hol.out; omega) (by simp; omega) ?_); intro oa1 n1 oc1 w1 hn1 hown1 hbel1 hsz1)
              go_ret2
              refine ⟨hbel1, ?_⟩
              have e := drop_head hIs.out
              have hno : unpackN (s.drop I) out = none := none_run (np := np) e.2.2 (by rw [e.1, ← HT.out]; exact HNP.out) (by rw [e.1, ← HT.out]; exact .inl H0.out) (by have := hsl.out; simp; omega)
              rw [← hun.out, hno]
              rfl
          · have t0 := not0 h0
            have H0 := hidden h0
            clear h0
            by_cases h5 : t = 255
            · have t5 := is5 h5
              have H5 := hidden h5
              clear h5
              by_cases his : I + 1 + np < sl
              · have hiS : I + 1 + np < s.length := by have := hsl.out; omega
                obtain ⟨more, hmo⟩ : ∃ more, more = s.getD (I + 1 + np) 0 := ⟨_, rfl⟩
                have hm8 : more < 256 := by rw [hmo]; exact getD_lt hb.out hiS
                have HMO : Hid (more = (s.drop I).getD (1 + np) 0) := by rw [hmo]; show _ = _; simp [List.getD, Nat.add_assoc]
                have hcm0 : w.cell? ⟨b, off + (I + 1 + np), none⟩ = some (.int .u8 (more : Int)) := by rw [hmo]; exact HC.out _ hiS
                clear hmo hiS
                go_wp2_with (at_builtin; go_must (refine wpList_push_word (B := w.heap.size) (w0 := w) _ rfl (.tmp 49) (.tmp 51) rfl _ out rfl (hown.out.alloc _) (hbe.out.alloc hsr _) ⟨_, 0, none⟩ 1 1 [y] rfl rfl (one_new _ _ _ _) (by have := hol.out; omega) (by simp; omega) ?_); intro oa1 n1 oc1 w1 hn1 hown1 hbel1 hsz1; have hcm := (hbel1.cell (p := ⟨b, off + (I + 1 + np), none⟩) (World.block_lt_of_cell? _ _ hcm0)).trans hcm0)
                clear hcm hcm0
                have HOWN1 := hidden hown1
                have HBEL1 := hidden hbel1
                clear hown1 hbel1 hsz1
                go_loopw [4, 5, 9] (fun a i n wr => ∃ n' : Nat, n = .int .i64 (n' : Int) ∧ n' ≤ more ∧ i = .int .i64 ((I + 1 + np + 1 + 8 * (more - n') : Nat) : Int) ∧ I + 1 + np + 1 + 8 * (more - n') ≤ sl ∧ Hid (Own .u64 23 w.heap.size wr a ((out ++ [y]) ++ (runW s I np more true).take (more - n'))) ∧ Hid (Below w.heap.size w wr)) (fun _ _ n _ => (intOf n).toNat)
                case atStart => exact ⟨more, rfl, Nat.le_refl _, by go_num, by omega, by rw [Nat.sub_self, List.take_zero, List.append_nil]; exact HOWN1, HBEL1⟩
                case round =>
                  obtain ⟨n', rfl, hnm, rfl, hib, hown2, hbe2⟩ := hrel
                  have hsr2 := hbe2.out.size
                  have hl2 : Hid ((((out ++ [y]) ++ (runW s I np more true).take (more - n'))).length = out.length + 1 + (more - n')) := by
                    show (((out ++ [y]) ++ (runW s I np more true).take (more - n'))).length = _
                    rw [List.length_append, List.length_take, runW_length, List.length_append, Nat.min_eq_left (by omega)]; rfl
                  by_cases hn0 : 0 < n'
                  · have hj : more - n' < more := by omega
                    obtain ⟨i0, hi0⟩ : ∃ i0, i0 = I + 1 + np + 1 + 8 * (more - n') := ⟨_, rfl⟩
                    have HI0 := hidden hi0
                    rw [← hi0] at hib ⊢
                    clear hi0
                    have hcw2 : Hid (∀ j, j < s.length → wr.cell? ⟨b, off + j, none⟩ = some (.int .u8 ((s.getD j 0 : Nat) : Int))) := by
                      intro j hj
                      have := HC.out j hj
                      rw [hbe2.out.cell (p := ⟨b, off + j, none⟩) (World.block_lt_of_cell? _ _ this)]; exact this
                    go_wp2
                    go_loop [5, 7, 10] (fun i y k => ∃ k' : Nat, k' ≤ 8 ∧ i = .int .i64 ((i0 + k' : Nat) : Int) ∧ i0 + k' ≤ sl ∧ y = .int .u64 ((ofB ((s.drop i0).take k') : Nat) : Int) ∧ k = .int .i64 (k' : Int)) (fun _ _ k => 8 - (intOf k).toNat)
                    case atStart => exact ⟨0, by omega, rfl, hib, by simp [ofB], rfl⟩
                    case round =>
                      obtain ⟨k, hk8, rfl, hik, rfl, rfl⟩ := hrel
                      by_cases hk : k < 8
                      · by_cases hix : i0 + k < sl
                        · have hiS : i0 + k < s.length := by have := hsl.out; omega
                          obtain ⟨x, hx⟩ : ∃ x, x = (s.drop i0).getD k 0 := ⟨_, rfl⟩
                          have hx8 : x < 256 := by rw [hx]; simp only [List.getD, List.getElem?_drop]; exact getD_lt hb.out hiS
                          have hcx : wr.cell? ⟨b, off + (i0 + k), none⟩ = some (.int .u8 (x : Int)) := by rw [hx]; simp only [List.getD, List.getElem?_drop]; exact hcw2.out _ hiS
                          have R := byte_round (l := s.drop i0) hk (by simp; omega) hx (fun y hy => hb.out y (List.mem_of_mem_drop hy))
                          have HR := hidden R
                          generalize hg : ofB ((s.drop i0).take k) = yy
                          rw [hg] at HR
                          have HG := hidden hg
                          clear R hx hiS hg
                          go_wp2
                          go_round
                          case rel => exact ⟨k + 1, by omega, by go_num, by omega, by rw [HR.out], by go_num⟩
                          case measure => simp [intOf]; omega
                        · generalize ofB ((s.drop i0).take k) = yy
                          go_wp2
                          go_ret2
                          refine ⟨hbe2.out, ?_⟩
                          have e := drop_head hIs.out
                          have hno : unpackN (s.drop I) out = none := none_verb (np := np) (more := more) e.2.2 (by rw [e.1, ← HT.out]; exact HNP.out) HMO.out (by rw [e.1, ← HT.out]; exact H5.out) (by have := hsl.out; have := HI0.out; simp; omega)
                          rw [← hun.out, hno]
                          rfl
                      · obtain rfl : k = 8 := by omega
                        obtain ⟨x8, hx8⟩ : ∃ x8, x8 = ofB ((s.drop i0).take 8) := ⟨_, rfl⟩
                        rw [← hx8]
                        have HX8 := hidden hx8
                        clear hx8 hk hk8
                        go_wp2_with (at_builtin; go_must (refine wpList_push_word (B := w.heap.size) (w0 := w) _ rfl (.tmp 98) (.tmp 100) rfl _ ((out ++ [y]) ++ (runW s I np more true).take (more - n')) rfl (hown2.out.alloc _) (hbe2.out.alloc hsr2 _) ⟨_, 0, none⟩ 1 1 [x8] rfl rfl (one_new _ _ _ _) (by have := hl2.out; have := hol.out; omega) (by simp; omega) ?_); intro oa3 n3 oc3 w3 hn3 hown3 hbel3 hsz3)
                        go_roundw
                        case rel =>
                          have e : more - (n' - 1) = (more - n') + 1 := by omega
                          refine ⟨n' - 1, by go_num, by omega, ?_, ?_, ?_, hbel3⟩
                          · have := HI0.out; congr 1; omega
                          · have := HI0.out; omega
                          · rw [e, runW_full_take _ _ _ _ _ hj, ← List.append_assoc]
                            have e2 : I + (1 + np + 1 + 8 * (more - n')) = i0 := by have := HI0.out; omega
                            rw [e2, ← HX8.out]
                            exact hown3
                        case measure => simp [intOf]; omega
                  · obtain rfl : n' = 0 := by omega
                    obtain ⟨oa2, n2, oc2, hov, hn2⟩ := hown2.out.told
                    subst hov
                    have hfull : Hid ((runW s I np more true).take (more - 0) = runW s I np more true) := by
                      show _ = _; rw [List.take_of_length_le (by rw [runW_length]; omega)]
                    by_cases hol1 : out.length + 1 + more ≤ 256
                    · have hn2' : (n2 : Int) ≤ 256 := by have := hn2.out; have := hl2.out; omega
                      go_wp2
                      go_roundw
                      case rel =>
                        refine ⟨I + (1 + np + 1 + (if true then 8 * more else 0)), (out ++ [y]) ++ runW s I np more true, ?_, ?_, ?_, ?_, hbe2, ?_⟩
                        · simp; omega
                        · simp; omega
                        · show (((out ++ [y]) ++ runW s I np more true)).length ≤ 256
                          have := hl2.out; rw [hfull.out] at this; omega
                        · have := hown2.out; rw [hfull.out] at this; exact this
                        · have e := drop_head hIs.out
                          have hsome := some_run (s := s) (out := out) (I := I) (np := np) (more := more) (full := true) e.2.2 (by rw [e.1, ← HT.out]; exact HNP.out) HMO.out (by rw [e.1, ← HT.out, H5.out]; rfl) (by have := hsl.out; simp; omega) hol1
                          rw [e.1, ← HT.out, e.2.1, ← HYW.out, hun.out] at hsome
                          exact hsome.symm
                      case measure => simp [intOf]; omega
                    · have hn2' : 256 < (n2 : Int) := by have := hn2.out; have := hl2.out; omega
                      go_wp2
                      go_ret2
                      refine ⟨hbe2.out, ?_⟩
                      have e := drop_head hIs.out
                      have hno : unpackN (s.drop I) out = none := none_many_run (np := np) (more := more) e.2.2 (by rw [e.1, ← HT.out]; exact HNP.out) HMO.out (by rw [e.1, ← HT.out]; exact .inr H5.out) (by omega)
                      rw [← hun.out, hno]
                      rfl
              · go_wp2_with (at_builtin; go_must (refine wpList_push_word (B := w.heap.size) (w0 := w) _ rfl (.tmp 49) (.tmp 51) rfl _ out rfl (hown.out.alloc _) (hbe.out.alloc hsr _) ⟨_, 0, none⟩ 1 1 [y] rfl rfl (one_new _ _ _ _) (by have := hol.out; omega) (by simp; omega) ?_); intro oa1 n1 oc1 w1 hn1 hown1 hbel1 hsz1)
                go_ret2
                refine ⟨hbel1, ?_⟩
                have e := drop_head hIs.out
                have hno : unpackN (s.drop I) out = none := none_run (np := np) e.2.2 (by rw [e.1, ← HT.out]; exact HNP.out) (by rw [e.1, ← HT.out]; exact .inr H5.out) (by have := hsl.out; simp; omega)
                rw [← hun.out, hno]
                rfl
            · have t5 := not5 h5
              have H5 := hidden h5
              clear h5
              by_cases hol1 : out.length + 1 ≤ 256
              · go_wp2_with (at_builtin; go_must (refine wpList_push_word (B := w.heap.size) (w0 := w) _ rfl (.tmp 49) (.tmp 51) rfl _ out rfl (hown.out.alloc _) (hbe.out.alloc hsr _) ⟨_, 0, none⟩ 1 1 [y] rfl rfl (one_new _ _ _ _) (by have := hol.out; omega) (by simp; omega) ?_); intro oa1 n1 oc1 w1 hn1 hown1 hbel1 hsz1; have hn1' : (n1 : Int) ≤ 256 := (by have := hn1.out; simp at this; omega))
                go_roundw
                case rel =>
                  refine ⟨I + 1 + np, out ++ [y], rfl, by omega, by show (out ++ [y]).length ≤ 256; simp; omega, hown1, hbel1, ?_⟩
                  have e := drop_head hIs.out
                  have hsome := some_plain (s := s) (out := out) (I := I) (np := np) e.2.2 (by rw [e.1, ← HT.out]; exact HNP.out) (by rw [e.1, ← HT.out]; exact H0.out) (by rw [e.1, ← HT.out]; exact H5.out) (by have := hsl.out; simp; omega) hol1
                  rw [e.1, ← HT.out, e.2.1, ← HYW.out, hun.out] at hsome
                  rw [hsome]; congr 2; omega
                case measure => simp [intOf]; omega
              · go_wp2_with (at_builtin; go_must (refine wpList_push_word (B := w.heap.size) (w0 := w) _ rfl (.tmp 49) (.tmp 51) rfl _ out rfl (hown.out.alloc _) (hbe.out.alloc hsr _) ⟨_, 0, none⟩ 1 1 [y] rfl rfl (one_new _ _ _ _) (by have := hol.out; omega) (by simp; omega) ?_); intro oa1 n1 oc1 w1 hn1 hown1 hbel1 hsz1; have hn1' : 256 < (n1 : Int) := (by have := hn1.out; simp at this; omega))
                go_ret2
                refine ⟨hbel1, ?_⟩
                have e := drop_head hIs.out
                have hno : unpackN (s.drop I) out = none := none_many (np := np) e.2.2 (by rw [e.1, ← HT.out]; exact HNP.out) (by rw [e.1, ← HT.out]; exact H0.out) (by rw [e.1, ← HT.out]; exact H5.out) (by omega)
                rw [← hun.out, hno]
                rfl
    · have hend : Hid (some out = unpackN s []) := by
        have e := hun.out
        rw [List.drop_eq_nil_of_le (by have := hsl.out; omega), unpackN_nil] at e
        exact e
      obtain ⟨oa, n, oc, hov, hn⟩ := hown.out.told
      subst hov
      go_wp2
      go_ret2
      refine ⟨hbe.out, ?_⟩
      rw [← hend.out]
      exact ⟨oa, n, oc, rfl, hown.out⟩
end Go.Proofs.Ygcfad
