/-
  THE WALK of Cur.Step where it reads the tag FF with its verbatim run.
-/
import Derived.Test.YgcfadStepLaws
namespace Go.Proofs.Ygcfad
open Go.RowKit Plain
set_option linter.unusedSimpArgs false
set_option linter.unusedVariables false

set_option maxRecDepth 100000 in
set_option maxHeartbeats 4000000 in
theorem step_full (P b off sl sc I : Nat) (oa : Option Addr) (on oc t np : Nat) (u out : List Nat) (w : World)
    (hcur : Hid (CurAt P w (.slice (some ⟨b, off, none⟩) sl sc) I out)) (c2 : w.cell? ⟨P, 2, none⟩ = some (.slice oa on oc)) (hon : Hid (on = out.length))
    (hu : Hid (u.length = sl - I)) (hrow : Hid (∀ j, j < u.length → w.cell? ⟨b, off + I + j, none⟩ = some (.int .u8 ((u.getD j 0 : Nat) : Int)))) (hb : Hid (∀ x ∈ u, x < 256)) (hbP : b < P)
    (hs : sl ≤ 4096) (hsc : sl ≤ sc) (hI : I < sl) (ho : on ≤ 256) (ht : Hid (t = u.headD 0)) (htl : t < 256) (hnp : Hid (np = (places t).length)) (hnp8 : np ≤ 8)
    (t0 : ((t : Int) == 0) = false) (t5 : ((t : Int) == 255) = true) (more : Nat) (hmore : Hid (more = u.getD (1 + np) 0)) (hL : 1 + np + 1 + 8 * more ≤ sl - I) (hm : on + 1 + more ≤ 256) :
    Calls Fadg.prog 68 #[.pointer (some ⟨P, 0, none⟩)] w fun e w' => e = .returned (.bool true) ∧ Below P w w' ∧ CurAt P w' (.slice (some ⟨b, off, none⟩) sl sc) (I + (1 + np + 1 + 8 * more)) (out ++ (valL (places t) u.tail :: (List.range more).map (fun i => ofB ((u.drop (1 + np + 1 + 8 * i)).take 8)))) := by
  have c0 := hcur.out.1
  have c1 := hcur.out.2.1
  have hsI : ¬ sl = I := by omega
  have hsI' : ((I : Int) == (sl : Int)) = false := by simp; omega
  have hc0 : w.cell? ⟨b, off + I, none⟩ = some (.int .u8 (t : Int)) := by
    have := hrow.out 0 (by have := hu.out; omega)
    rw [Nat.add_zero] at this
    rw [this, ht.out]
    cases u <;> rfl
  have hcm : w.cell? ⟨b, off + I + (1 + np), none⟩ = some (.int .u8 (more : Int)) := by
    have := hrow.out (1 + np) (by have := hu.out; omega)
    rw [this, hmore.out]
  have hm8 : more < 256 := by rw [hmore.out]; exact getD_lt hb.out (by have := hu.out; omega)
  have hones : Hid (∀ wx, Calls Fadg.prog 106 #[.int .u64 (t : Int)] wx fun e w' => e = .returned (.int .u8 ((np : Nat) : Int)) ∧ w' = wx) := by
    intro wx; rw [hnp.out]; exact ones_byte t htl wx
  go_enter Fadg.func68, Fadg.ntmps68
  go_wp2
  go_quiet ((go_at_call 105; exact Calls.quiet_of (check_any P (some ⟨b, off, none⟩) sl sc I oa on oc _ (by simpa using c0) (by simpa using c1) (by simpa using c2) hs (by omega) ho)))
  go_wp2
  go_quiet (fail)
  go_wp2_with (go_at_call 106; go_must (refine (hones.out _).mono ?_); rintro e w' ⟨rfl, hw'⟩; subst hw')
  go_loopw [8, 9, 10] (fun y a r wr => ∃ (y' a' r' : Nat), y = .int .u64 (y' : Int) ∧ a = .int .i64 (a' : Int) ∧ r = .int .u8 (r' : Int) ∧ Hid (∃ q, wr = w.drewN q) ∧ Hid (L1 u (valL (places t) u.tail) np y' a' r')) (fun _ _ r _ => (intOf r).toNat)
  case atStart => exact ⟨0, 1, t, rfl, rfl, rfl, ⟨_, rfl⟩, L1.start htl hnp.out⟩
  case round =>
    obtain ⟨y, a, r, rfl, rfl, rfl, hwr, hL1⟩ := hrel
    clear hones hc0 c0 c1
    by_cases hr0 : r = 0
    · subst hr0
      obtain ⟨hyW0, -⟩ := places_zero_end hL1.out
      have HYW : Hid (y = valL (places t) u.tail) := hyW0
      clear hyW0 hL1
      have hcr : Hid (CurAt P wr (.slice (some ⟨b, off, none⟩) sl sc) I out) := by obtain ⟨q, hq⟩ := hwr.out; rw [hq]; exact cur_drew hcur.out
      have hbr : Hid (Below P w wr) := by obtain ⟨q, hq⟩ := hwr.out; rw [hq]; exact below_drewN (Below.refl _ _) _
      have c2r : wr.cell? ⟨P, 2, none⟩ = some (.slice oa on oc) := by obtain ⟨q, hq⟩ := hwr.out; rw [hq]; simpa using c2
      have hownr : Own .u64 23 (P + 1) wr (.slice oa on oc) out := by
        obtain ⟨_, _, ⟨ov, e1, e2⟩, _⟩ := hcr.out
        rw [c2r] at e1; cases e1; exact e2
      have hsr : P + 1 ≤ wr.heap.size := hcr.out.2.2.2.2.2
      have hrowr : Hid (∀ j, j < u.length → wr.cell? ⟨b, off + I + j, none⟩ = some (.int .u8 ((u.getD j 0 : Nat) : Int))) := by
        intro j hj; rw [hbr.out.cell (p := ⟨b, off + I + j, none⟩) hbP]; exact hrow.out j hj
      clear hwr c2
      have hon' : out.length ≤ 256 := by have := hon.out; omega
      go_wp2_with (at_builtin; go_must (refine wpList_push_word (B := P + 1) (w0 := wr) _ rfl (.tmp 118) (.tmp 120) rfl _ out rfl (hownr.alloc _) ((Below.refl _ _).alloc hsr _) ⟨_, 0, none⟩ 1 1 [y] rfl rfl (one_new _ _ _ _) (by omega) (by simp; omega) ?_); intro oa1 n1 oc1 w1 hn1 hown1 hbel1 hsz1; go_must (have R := cur_pushed hcr.out hbel1 hown1 hbr.out); have k2 := (hbel1.frozen (p := ⟨P, 2, none⟩) (Nat.lt_succ_self P)).trans hcr.out.2.2.2.2.1; have g2 := (hbel1.cell (p := ⟨P, 2, none⟩) (Nat.lt_succ_self P)).trans c2r)
      obtain ⟨hc1, hb1⟩ := R
      have HC1 : Hid (CurAt P (w1.setCell ⟨P, 2, none⟩ (.slice oa1 n1 oc1)) (.slice (some ⟨b, off, none⟩) sl sc) I (out ++ [y])) := hc1
      have HB1 : Hid (Below P w (w1.setCell ⟨P, 2, none⟩ (.slice oa1 n1 oc1))) := hb1
      clear hc1 hb1 hown1 hbel1 hownr c2r k2 g2
      go_loopw [11] (fun i wr => ∃ i' : Nat, i = .int .i64 (i' : Int) ∧ i' ≤ more ∧ Hid (CurAt P wr (.slice (some ⟨b, off, none⟩) sl sc) I ((out ++ [y]) ++ ((List.range more).map (fun i => ofB ((u.drop (1 + np + 1 + 8 * i)).take 8))).take i')) ∧ Hid (Below P w wr)) (fun i _ => more - (intOf i).toNat)
      case atStart => exact ⟨0, rfl, Nat.zero_le _, by rw [List.take_zero, List.append_nil]; exact HC1, HB1⟩
      case round =>

        obtain ⟨i', rfl, hi', hcr2, hbr2⟩ := hrel
        clear HC1 HB1 hsz1
        by_cases hlt : i' < more
        · obtain ⟨ov, q2, qown⟩ := hcr2.out.2.2.1
          obtain ⟨oa2, n2, oc2, hov, hn2⟩ := qown.told
          subst hov
          have hsr2 := hcr2.out.2.2.2.2.2
          have hl2 : (((out ++ [y]) ++ ((List.range more).map (fun i => ofB ((u.drop (1 + np + 1 + 8 * i)).take 8))).take i')).length ≤ 600 := by simp; omega
          obtain ⟨l2, hl2e⟩ : ∃ l2, l2 = ((out ++ [y]) ++ ((List.range more).map (fun i => ofB ((u.drop (1 + np + 1 + 8 * i)).take 8))).take i') := ⟨_, rfl⟩
          rw [← hl2e] at qown hl2 hn2
          have HCR : Hid (CurAt P wr (.slice (some ⟨b, off, none⟩) sl sc) I l2) := by rw [hl2e]; exact hcr2.out
          have HL2 : Hid (l2 = ((out ++ [y]) ++ ((List.range more).map (fun i => ofB ((u.drop (1 + np + 1 + 8 * i)).take 8))).take i')) := hl2e
          clear hl2e hcr2
          have hk : 1 + np + 1 + 8 * i' + 8 ≤ u.length := by have := hu.out; omega
          have hrow2 : Hid (∀ j, j < u.length → wr.cell? ⟨b, off + I + j, none⟩ = some (.int .u8 ((u.getD j 0 : Nat) : Int))) := by
            intro j hj; rw [hbr2.out.cell (p := ⟨b, off + I + j, none⟩) hbP]; exact hrow.out j hj
          have hub := fun j (hj : j < u.length) => getD_lt hb.out hj
          have HUB : Hid (∀ j, j < u.length → u.getD j 0 < 256) := hub
          clear hub
          obtain ⟨k8, hk8⟩ : ∃ k8, k8 = 1 + np + 1 + 8 * i' := ⟨_, rfl⟩
          have HK8 : Hid (k8 = 1 + np + 1 + 8 * i') := hk8
          rw [← hk8] at hk
          have hcells : Hid (∀ j v, ([u.getD k8 0, u.getD (k8 + 1) 0, u.getD (k8 + 2) 0, u.getD (k8 + 3) 0, u.getD (k8 + 4) 0, u.getD (k8 + 5) 0, u.getD (k8 + 6) 0, u.getD (k8 + 7) 0].map fun b => Value.int .u8 ((b : Nat) : Int))[j]? = some v → wr.cell? ((⟨b, off + I + k8, none⟩ : Addr).add j) = some v) := cells8 hrow2.out hk
          have hword : Hid (∀ wx, Calls Fadg.prog 108 #[.agg #[.int .u8 ((u.getD k8 0 : Nat) : Int), .int .u8 ((u.getD (k8 + 1) 0 : Nat) : Int), .int .u8 ((u.getD (k8 + 2) 0 : Nat) : Int), .int .u8 ((u.getD (k8 + 3) 0 : Nat) : Int), .int .u8 ((u.getD (k8 + 4) 0 : Nat) : Int), .int .u8 ((u.getD (k8 + 5) 0 : Nat) : Int), .int .u8 ((u.getD (k8 + 6) 0 : Nat) : Int), .int .u8 ((u.getD (k8 + 7) 0 : Nat) : Int)]] wx
              fun en w' => en = .returned (.int .u64 ((ofB ((u.drop k8).take 8) : Nat) : Int)) ∧ Below wx.heap.size wx w') := by
            intro wx
            rw [take8 u k8 hk]
            exact word_any _ _ _ _ _ _ _ _ (HUB.out _ (by omega)) (HUB.out _ (by omega)) (HUB.out _ (by omega)) (HUB.out _ (by omega)) (HUB.out _ (by omega)) (HUB.out _ (by omega)) (HUB.out _ (by omega)) (HUB.out _ (by omega)) wx
          clear hk8
          generalize u.getD k8 0 = e0 at hcells hword
          generalize u.getD (k8 + 1) 0 = e1 at hcells hword
          generalize u.getD (k8 + 2) 0 = e2 at hcells hword
          generalize u.getD (k8 + 3) 0 = e3 at hcells hword
          generalize u.getD (k8 + 4) 0 = e4 at hcells hword
          generalize u.getD (k8 + 5) 0 = e5 at hcells hword
          generalize u.getD (k8 + 6) 0 = e6 at hcells hword
          generalize u.getD (k8 + 7) 0 = e7 at hcells hword
          obtain ⟨x8, hx8⟩ : ∃ x8, x8 = ofB ((u.drop k8).take 8) := ⟨_, rfl⟩
          rw [← hx8] at hword
          have HX8 : Hid (x8 = ofB ((u.drop k8).take 8)) := hx8
          clear hx8
          have hklo : k8 + 8 ≤ sl - I := by have := hu.out; omega
          go_wp2_with (first | (refine wpList_sliceLH _ rfl (.tmp 131) (.tmp 135) (.tmp 140) rfl b (off + I) (sl - I) (sl - I) k8 (k8 + 8) rfl _ rfl (by have := HK8.out; omega) _ rfl (by have := HK8.out; omega) (by omega) (by omega) ?_) | (refine wpList_toArr _ rfl (.tmp 141) rfl ⟨b, off + I + k8, none⟩ _ _ rfl (by omega) ?_) | (refine wpList_load_cells rfl 127 (.tmp 142) rfl ⟨b, off + I + k8, none⟩ rfl _ _ hcells.out Fadg.arr127 rfl Fadg.len127 ?_; simp only [List.map_cons, List.map_nil]) | (go_at_call 108; go_must (refine (hword.out _).mono ?_); rintro e w5 ⟨rfl, hb5⟩; have own5 := qown.kept hb5 (Nat.le_refl _); have hs5 : P + 1 ≤ w5.heap.size := Nat.le_trans hsr2 hb5.size; have q25 := (hb5.cell (p := ⟨P, 2, none⟩) (by show P < _; omega)).trans q2; have hc5 : CurAt P w5 (.slice (some ⟨b, off, none⟩) sl sc) I l2 := cur_later HCR.out hb5; have hb25 := hbr2.out.trans (hb5.mono (by omega)); have HC5 : Hid _ := hc5; have HB25 : Hid _ := hb25; clear hc5 hb25 hb5) | (at_builtin; go_must (refine wpList_push_word (B := P + 1) (w0 := w5) _ rfl (.tmp 149) (.tmp 151) rfl _ l2 rfl (own5.alloc _) ((Below.refl _ _).alloc hs5 _) ⟨_, 0, none⟩ 1 1 [x8] rfl rfl (one_new _ _ _ _) (by omega) (by simp; omega) ?_); intro oa3 n3 oc3 w3 hn3 hown3 hbel3 hsz3; have R := cur_pushed HC5.out hbel3 hown3 HB25.out; have k2 := (hbel3.frozen (p := ⟨P, 2, none⟩) (Nat.lt_succ_self P)).trans HC5.out.2.2.2.2.1; have g2 := (hbel3.cell (p := ⟨P, 2, none⟩) (Nat.lt_succ_self P)).trans q25))
          obtain ⟨hc3, hb3⟩ := R
          go_roundw
          case rel =>
            refine ⟨i' + 1, by go_num, by omega, ?_, hb3⟩
            have e : ((out ++ [y]) ++ ((List.range more).map (fun i => ofB ((u.drop (1 + np + 1 + 8 * i)).take 8))).take (i' + 1)) = l2 ++ [x8] := by
              rw [HL2.out, List.append_assoc (out ++ [y])]; congr 1
              rw [List.take_succ_eq_append_getElem (by simp; omega), HX8.out, HK8.out]
              simp
            rw [e]; exact hc3
          case measure => simp [intOf]; omega
        · obtain rfl : i' = more := by omega
          have q0 := hcr2.out.1
          have q1 := hcr2.out.2.1
          have qf := hcr2.out.2.2.2.1
          have R := cur_moved (J := I + (1 + np + 1 + 8 * i')) hcr2.out hbr2.out
          have HR : Hid _ := R
          clear R
          go_wp2
          go_ret
          have R := HR.out
          have el : (out ++ [y]) ++ ((List.range i').map (fun i => ofB ((u.drop (1 + np + 1 + 8 * i)).take 8))).take i' = out ++ (valL (places t) u.tail :: (List.range i').map (fun i => ofB ((u.drop (1 + np + 1 + 8 * i)).take 8))) := by
            rw [HYW.out, List.take_of_length_le (by simp)]; simp
          rw [el] at R
          have e : ((I : Int) + (1 + (np : Int) + 1 + 8 * (i' : Int)) : Int) = ((I + (1 + np + 1 + 8 * i') : Nat) : Int) := by omega
          rw [e]
          exact ⟨rfl, R.2, R.1⟩
    · have hr2 : r < 256 := hL1.out.1
      have hr1 : 0 < (r : Int) := by omega
      have ha0 : a < 1 + np := hL1.out.lt hr0
      have ha : a < sl - I := by omega
      obtain ⟨lo, hlo⟩ : ∃ lo, lo = (places r).headD 0 := ⟨_, rfl⟩
      obtain ⟨_, hcr1, hlo8, hcl⟩ := places_step hr2 hr0
      rw [← hlo] at hlo8
      have hlow : Hid (∀ wx, Calls Fadg.prog 107 #[.int .u64 (r : Int)] wx fun e w' => e = .returned (.int .u8 ((lo : Nat) : Int)) ∧ w' = wx) := by
        intro wx; rw [hlo]; exact low_byte r (by omega) hr0 wx
      have HLO : Hid (lo = (places r).headD 0) := hlo
      clear hlo
      have hau : Hid (a < u.length) := by have := hu.out; show a < u.length; omega
      obtain ⟨x, hx⟩ : ∃ x, x = u.getD a 0 := ⟨_, rfl⟩
      have hx8 : x < 256 := by rw [hx]; exact getD_lt hb.out hau.out
      have hcx : wr.cell? ⟨b, off + I + a, none⟩ = some (.int .u8 (x : Int)) := by
        obtain ⟨q, hq⟩ := hwr.out; rw [hq, hx]; simpa using hrow.out a hau.out
      have HX : Hid (x = u.getD a 0) := hx
      clear hx
      have ha' : (a : Int) < ((sl - I : Nat) : Int) := by omega
      go_wp2
      go_quiet ((go_at_call 107; exact Calls.quiet_of_same (hlow.out _)))
      go_wp2
      have R := L1.round hL1.out hr0 hau.out HLO.out HX.out hx8
      go_roundw
      case rel => exact ⟨_, a + 1, clearN r, by rw [R.1], by go_num, rfl, by obtain ⟨q, hq⟩ := hwr.out; rw [hq]; exact ⟨_, World.drewN_drewN _ _ _⟩, R.2⟩
      case measure => simp [intOf]; omega
end Go.Proofs.Ygcfad
