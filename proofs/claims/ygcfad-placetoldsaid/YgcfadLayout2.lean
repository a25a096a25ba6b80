/-
  THE WALK of schema.Layout.
-/
import Derived.Test.YgcfadLayout
namespace Go.Proofs.Ygcfad
open Go.RowKit Plain
set_option linter.unusedSimpArgs false
set_option linter.unusedVariables false

/-- What Layout answers. -/
def LayPost (w : World) (n : Nat) (r : Option Lay) (e : Ending) (w' : World) : Prop :=
  Below w.heap.size w w' ∧ match r with
  | none => e = .returned (.tuple #[.slice none 0 0, .int .u8 0, .int .u8 0, .bool false])
  | some L => ∃ (ps : Value) (pl : List (Int × Int × Int × Bool)), e = .returned (.tuple #[ps, .int .u8 (L.data : Int), .int .u8 (L.ptrs : Int), .bool true]) ∧ pl.length = n ∧ w'.ownsRow w.heap.size 196 4 ps n (pl.flatMap plc)

def LayMem (B U n : Nat) (w wr : World) (k : Nat) (L : Lay) (pl : List (Int × Int × Int × Bool)) : Prop :=
  wr.ownsRow B 196 4 (.slice (some ⟨B, 0, none⟩) k n) k (pl.flatMap plc) ∧ pl.length = k ∧ (∀ i, i < 8 → wr.cell? ⟨U, i, none⟩ = some (.int .u64 (L.used.getD i 0))) ∧ (∀ i, wr.frozen? ⟨U, i, none⟩ = false) ∧ Below B w wr ∧ U < wr.heap.size ∧ B < U ∧ L.used.length = 8

section
variable {B U n k : Nat} {w wr : World} {L : Lay} {pl : List (Int × Int × Int × Bool)}
theorem LayMem.alloc (h : LayMem B U n w wr k L pl) (o : Obj) : LayMem B U n w (wr.alloc o) k L pl := by
  obtain ⟨h1, h2, h3, h4, h5, h6, h7, h8⟩ := h
  refine ⟨h1.alloc _, h2, fun i hi => ?_, fun i => ?_, h5.alloc (by omega) _, by simp; omega, h7, h8⟩
  · rw [World.cell?_of_block (w := wr) (Below.heap_alloc wr o U h6)]; exact h3 i hi
  · rw [World.frozen?_of_block (w := wr) (Below.heap_alloc wr o U h6)]; exact h4 i
theorem LayMem.pushed {w' : World} {x : Int × Int × Int × Bool} (h : LayMem B U n w wr k L pl) (ho : w'.ownsRow B 196 4 (.slice (some ⟨B, 0, none⟩) (k + 1) n) (k + 1) (pl.flatMap plc ++ plc x)) (hg : wr.grownBy w' (some B)) :
    LayMem B U n w w' (k + 1) L (pl ++ [x]) := by
  obtain ⟨h1, h2, h3, h4, h5, h6, h7, h8⟩ := h
  have hblk : w'.heap[U]? = wr.heap[U]? := hg.block U h6 (by intro e; cases e; omega)
  refine ⟨by rw [List.flatMap_append]; simpa using ho, by simp [h2], fun i hi => ?_, fun i => ?_, h5.grown hg (by omega) (fun q hq => by cases hq; exact Nat.le_refl _), Nat.lt_of_lt_of_le h6 hg.size, h7, h8⟩
  · rw [World.cell?_of_block (w := wr) hblk]; exact h3 i hi
  · rw [World.frozen?_of_block (w := wr) hblk]; exact h4 i
theorem LayMem.took (h : LayMem B U n w wr k L pl) (j : Nat) (x : Int) (hj : j < 8) : LayMem B U n w (wr.setCell ⟨U, j, none⟩ (.int .u64 x)) k { L with used := L.used.set j x } pl := by
  obtain ⟨h1, h2, h3, h4, h5, h6, h7, h8⟩ := h
  refine ⟨?_, h2, fun i hi => ?_, fun i => by rw [World.frozen?_setCell]; exact h4 i, h5.setCell (by show B ≤ U; omega) _, by simp [World.setCell]; exact h6, h7, by simp [h8]⟩
  · refine World.ownsRow.kept (row := some U) h1 ⟨rfl, rfl, rfl, by simp [World.setCell], fun q _ hq => Below.heap_setCell wr ⟨U, j, none⟩ _ q (fun e => hq (by rw [e]))⟩ (.inr ?_)
    intro e; simp [Value.ownBlock] at e; omega
  · by_cases e : i = j
    · subst e
      rw [World.cell?_setCell_same _ _ _ (h3 i hi)]
      simp [List.getD, h8, hi]
    · rw [World.cell?_setCell_other (h := fun q => e (by simpa using congrArg Addr.off q.symm)), h3 i hi]
      have e' : ¬ j = i := fun q => e q.symm
      simp only [List.getD, List.getElem?_set, if_neg e']
theorem LayMem.lay {L' : Lay} (h : LayMem B U n w wr k L pl) (e : L'.used = L.used) : LayMem B U n w wr k L' pl := by
  obtain ⟨h1, h2, h3, h4, h5, h6, h7, h8⟩ := h
  exact ⟨h1, h2, by rw [e]; exact h3, h4, h5, h6, h7, by rw [e]; exact h8⟩
end
theorem plc_new (w : World) (a b c : Int) (d : Bool) (e g : Nat) (hg : g = w.heap.size) : ∀ j u, (plc (a, b, c, d))[j]? = some u → (w.alloc (.cells #[.int .u8 a, .int .u16 b, .int .u8 c, .bool d] e)).cell? ((⟨g, 0, none⟩ : Addr).add j) = some u := by
  subst hg; exact four_new w _ _ _ _ e
theorem one4 (a b c : Int) (d : Bool) : ∀ u ∈ plc (a, b, c, d), u.oneCell' = true := by
  intro u hu
  simp [plc] at hu
  rcases hu with rfl | rfl | rfl | rfl <;> rfl

set_option maxRecDepth 100000 in
set_option maxHeartbeats 4000000 in
theorem layout_some (b off n c : Nat) (ks : List Nat) (w : World) (hks : Hid (n = ks.length)) (hrow : Hid (TyRow w b off ks)) (hbw : b < w.heap.size) (hk8 : Hid (∀ k ∈ ks, k < 256)) (hn : n ≤ 16) (hn0 : 0 < n) :
    Calls Fadg.prog 150 #[.slice (some ⟨b, off, none⟩) n c] w (LayPost w n (layN ks)) := by
  obtain ⟨i6, hi6, hz0, hz1, hz2⟩ := info_parts Fadg.info196
  have hlay : Hid (layN ks = layFrom ⟨[0, 0, 0, 0, 0, 0, 0, 0], 0, 0⟩ ks) := by show _ = _; unfold layN; rw [if_neg (by have := hks.out; omega)]
  go_enter Fadg.func150, Fadg.ntmps150
  go_wp2_with (at_make; go_must (refine wpList_make_own _ rfl _ _ 245 rfl w.heap.size 196 i6 _ 4 Fadg.underlying245 hi6 hz0 hz1 _ _ _ n rfl rfl (by omega) (by rw [hz2]; omega) (by unfold maxLen; omega) (Nat.le_refl _) ?_); intro w1 hown1 hg1)
  have hBU : w.heap.size < w1.heap.size := (hown1.lt w.heap.size rfl).2
  have hmem : Hid (LayMem w.heap.size w1.heap.size n w (w1.alloc (.cells #[.int .u64 0, .int .u64 0, .int .u64 0, .int .u64 0, .int .u64 0, .int .u64 0, .int .u64 0, .int .u64 0] 263)) 0 ⟨[0, 0, 0, 0, 0, 0, 0, 0], 0, 0⟩ []) := by
    refine ⟨hown1.alloc _, rfl, ?_, ?_, ((Below.refl _ _).grown hg1 (Nat.le_refl _) (fun _ h => by cases h)).alloc (by omega) _, by simp, hBU, rfl⟩
    · intro i hi
      match i, hi with
      | 0, _ => simp
      | 1, _ => simp
      | 2, _ => simp
      | 3, _ => simp
      | 4, _ => simp
      | 5, _ => simp
      | 6, _ => simp
      | 7, _ => simp
      | i + 8, h => omega
    · intro i; simp
  clear hown1 hg1 hz0
  generalize hgU : w1.heap.size = U at *
  clear hgU
  go_loopw [2, 3, 4, 23] (fun ps d p i wr => ∃ (k : Nat) (L : Lay) (pl : List (Int × Int × Int × Bool)), i = .int .i64 (k : Int) ∧ k ≤ n ∧ ps = .slice (some ⟨w.heap.size, 0, none⟩) k n ∧ d = .int .u8 (L.data : Int) ∧ p = .int .u8 (L.ptrs : Int) ∧ L.data ≤ 8 ∧ L.ptrs ≤ 8 ∧ Hid (layFrom L (ks.drop k) = layFrom ⟨[0, 0, 0, 0, 0, 0, 0, 0], 0, 0⟩ ks) ∧ Hid (LayMem w.heap.size U n w wr k L pl)) (fun _ _ _ i _ => n - (intOf i).toNat)
  case atStart => exact ⟨0, _, [], rfl, Nat.zero_le _, rfl, rfl, rfl, by decide, by decide, rfl, hmem⟩
  case round =>
    obtain ⟨k, L, pl, rfl, hk, rfl, rfl, rfl, hd8, hp8, hfr, hm⟩ := hrel
    obtain ⟨used, data, ptrs⟩ := L
    simp only at *
    by_cases hlt : k < n
    · have hkl : k < ks.length := by have := hks.out; omega
      obtain ⟨v1, v2, v3, t0, t1, t2, t3⟩ := (hrow.out.below hm.out.2.2.2.2.1 hbw) k hkl
      obtain ⟨κ, hκ⟩ : ∃ κ, κ = ks.getD k 0 := ⟨_, rfl⟩
      have hκ8 : κ < 256 := by rw [hκ]; have e : ks.getD k 0 = ks[k] := by simp [List.getD, hkl]
                               rw [e]; exact hk8.out _ (List.getElem_mem _)
      rw [← hκ] at t0
      have hstep := hid (layFrom_step (L := ⟨used, data, ptrs⟩) hkl)
      rw [← hκ] at hstep
      clear hκ
      have HCELLS := hid (cells4 t0 t1 t2 t3)
      clear t0 t1 t2 t3
      have HM1 := hid (hm.out.alloc (.cells #[.int .u8 (κ : Int), .int .u8 v1, .int .u8 v2, .int .u8 v3] 194))
      by_cases h13 : 13 < κ
      · have h13' : (13 : Int) < (κ : Int) := by omega
        have hno : Hid (layStep ⟨used, data, ptrs⟩ κ = none) := by show _ = _; unfold layStep; rw [if_pos h13]
        clear h13
        go_wp2_with (first | (refine wpList_load_cells' rfl 194 (.tmp 25) rfl ⟨b, off + k * 4, none⟩ rfl _ _ HCELLS.out Fadg.underlying194 rfl Fadg.len194 ?_))
        refine bodyPost_ret (v := .tuple #[.slice none 0 0, .int .u8 0, .int .u8 0, .bool false]) (by simp [results, Fadg.results150, go_sem]) rfl ?_
        refine ⟨HM1.out.2.2.2.2.1, ?_⟩
        rw [hlay.out, ← hfr.out, hstep.out, hno.out]
      · have h13' : ¬ (13 : Int) < (κ : Int) := by omega
        by_cases hw0 : widthN κ = 0
        · have HWC : Hid (∀ wx, Calls Fadg.prog 165 #[.int .u8 (κ : Int)] wx fun e w' => e = .returned (.int .u8 0) ∧ w' = wx) := fun wx => (widthOf_any κ hκ8 wx).mono fun e w' h => by rw [hw0] at h; exact h
          by_cases hp : ptrs = 8
          · have hp' : ((ptrs : Int) == 8) = true := by simp [hp]
            have hno : Hid (layStep ⟨used, data, ptrs⟩ κ = none) := by show _ = _; unfold layStep; rw [if_neg h13, if_pos hw0, if_pos hp]
            clear h13 hw0 hp
            go_wp2_with (first | (refine wpList_load_cells' rfl 194 (.tmp 25) rfl ⟨b, off + k * 4, none⟩ rfl _ _ HCELLS.out Fadg.underlying194 rfl Fadg.len194 ?_) | (go_at_call 165; go_must (refine (HWC.out _).mono ?_; rintro e w' ⟨rfl, hw'⟩; subst hw')))
            refine bodyPost_ret (v := .tuple #[.slice none 0 0, .int .u8 0, .int .u8 0, .bool false]) (by simp [results, Fadg.results150, go_sem]) rfl ?_
            refine ⟨HM1.out.2.2.2.2.1, ?_⟩
            rw [hlay.out, ← hfr.out, hstep.out, hno.out]
          · have hp' : ((ptrs : Int) == 8) = false := by simp; omega
            have hso : Hid (layStep ⟨used, data, ptrs⟩ κ = some ⟨used, data, ptrs + 1⟩) := by show _ = _; unfold layStep; rw [if_neg h13, if_pos hw0, if_neg hp]
            have hp9 : ptrs + 1 ≤ 8 := by omega
            clear h13 hw0 hp
            go_wp2_with (first | (refine wpList_load_cells' rfl 194 (.tmp 25) rfl ⟨b, off + k * 4, none⟩ rfl _ _ HCELLS.out Fadg.underlying194 rfl Fadg.len194 ?_) | (go_at_call 165; go_must (refine (HWC.out _).mono ?_; rintro e w' ⟨rfl, hw'⟩; subst hw')) | (at_builtin; go_must (refine wpList_append_fits _ rfl (.tmp 37) (.tmp 40) 245 rfl w.heap.size 196 i6 4 Fadg.underlying245 hi6 hz1 w.heap.size k n (pl.flatMap plc) rfl (HM1.out.alloc _).1 ⟨_, 0, none⟩ 1 1 (plc (0, 0, (ptrs : Int), true)) rfl rfl (plc_new _ _ _ _ _ _ _ (by simp)) (one4 _ _ _ _) (by omega) ?_); intro w3 hown3 hg3))
            have R := hid ((HM1.out.alloc _).pushed hown3 hg3)
            go_roundw
            case rel => exact ⟨k + 1, ⟨used, data, ptrs + 1⟩, pl ++ [(0, 0, (ptrs : Int), true)], by go_num, by omega, rfl, rfl, by go_num, hd8, hp9, by have h := hstep.out; rw [hso.out] at h; exact h.symm.trans hfr.out, R.out.lay rfl⟩
            case measure => simp [intOf]; omega
        · obtain ⟨s, hs⟩ : ∃ s, s = widthN κ := ⟨_, rfl⟩
          have hs1 : 1 ≤ s := by omega
          have hs64 : s ≤ 64 := by rw [hs]; exact widthN_le κ
          have hs0 : ((s : Int) == 0) = false := by simp; omega
          have HWC : Hid (∀ wx, Calls Fadg.prog 165 #[.int .u8 (κ : Int)] wx fun e w' => e = .returned (.int .u8 (s : Int)) ∧ w' = wx) := fun wx => by rw [hs]; exact widthOf_any κ hκ8 wx
          have HFIT : Hid (∀ wx, (∀ i, i < 8 → wx.cell? ⟨U, i, none⟩ = some (.int .u64 (used.getD i 0))) → Calls Fadg.prog 166 #[.slice (some ⟨U, 0, none⟩) data data, .int .u8 (s : Int)] wx fun e w' => e = .returned (.tuple #[.int .u16 (((fitN s 0 (used.take data)).getD 0 : Nat) : Int), .bool (fitN s 0 (used.take data)).isSome]) ∧ w' = wx) :=
            fun wx hx => fit_any U data data s used wx hs1 hs64 hd8 hm.out.2.2.2.2.2.2.2 hx
          have HS := hid hs
          cases hfi : fitN s 0 (used.take data) with
          | some a =>
            rw [hfi] at HFIT
            simp only [Option.getD_some, Option.isSome_some] at HFIT
            have hul : used.length = 8 := hm.out.2.2.2.2.2.2.2
            have ha := fitN_lt hfi
            have ha' : a < data * 64 := by simp [hul] at ha; omega
            have ha8 : a / 64 < 8 := by omega
            obtain ⟨x, hx⟩ : ∃ x, x = used.getD (a / 64) 0 := ⟨_, rfl⟩
            have hcx := (HM1.out.2.2.1) (a / 64) ha8
            have hcf := (HM1.out.2.2.2.1) (a / 64)
            simp only at hcx
            rw [← hx] at hcx
            have hso : Hid (layStep ⟨used, data, ptrs⟩ κ = some ⟨used.set (a / 64) (takeI x s (a % 64)), data, ptrs⟩) := by
              show _ = _; unfold layStep; rw [if_neg h13, if_neg hw0, ← hs]; simp only [hfi]; rw [hx]
            have HM2 := hid (HM1.out.took (a / 64) (takeI x s (a % 64)) ha8)
            clear h13 hw0 hs hx hfi ha hul
            simp only [takeI, maskI] at HM2
            go_wp2_with (first | (refine wpList_load_cells' rfl 194 (.tmp 25) rfl ⟨b, off + k * 4, none⟩ rfl _ _ HCELLS.out Fadg.underlying194 rfl Fadg.len194 ?_) | (go_at_call 165; go_must (refine (HWC.out _).mono ?_; rintro e w' ⟨rfl, hw'⟩; subst hw')) | (refine wpList_sliceArr _ rfl (.tmp 6) (.tmp 45) (.tmp 46) rfl U data rfl rfl rfl hd8 ?_) | (go_at_call 166; go_must (refine (HFIT.out _ HM1.out.2.2.1).mono ?_; rintro e w' ⟨rfl, hw'⟩; subst hw')) | (at_builtin; go_must (refine wpList_append_fits _ rfl (.tmp 73) (.tmp 80) 245 rfl w.heap.size 196 i6 4 Fadg.underlying245 hi6 hz1 w.heap.size k n (pl.flatMap plc) rfl (HM2.out.alloc _).1 ⟨_, 0, none⟩ 1 1 (plc ((s : Int), _, 0, false)) rfl rfl (plc_new _ _ _ _ _ _ _ (by simp)) (one4 _ _ _ _) (by omega) ?_); intro w3 hown3 hg3))
            have R := hid ((HM2.out.alloc _).pushed hown3 hg3)
            go_roundw
            case rel => exact ⟨k + 1, ⟨used.set (a / 64) (takeI x s (a % 64)), data, ptrs⟩, _, by go_num, by omega, rfl, rfl, rfl, hd8, hp8, by have h := hstep.out; rw [hso.out] at h; exact h.symm.trans hfr.out, R⟩
            case measure => simp [intOf]; omega
          | none =>
            rw [hfi] at HFIT
            simp only [Option.getD_none, Option.isSome_none] at HFIT
            by_cases hda : data = 8
            · have hda' : ((data : Int) == 8) = true := by simp [hda]
              have hno : Hid (layStep ⟨used, data, ptrs⟩ κ = none) := by show _ = _; unfold layStep; rw [if_neg h13, if_neg hw0, ← hs]; simp only [hfi]; rw [if_pos hda]
              clear h13 hw0 hs hfi hda
              go_wp2_with (first | (refine wpList_load_cells' rfl 194 (.tmp 25) rfl ⟨b, off + k * 4, none⟩ rfl _ _ HCELLS.out Fadg.underlying194 rfl Fadg.len194 ?_) | (go_at_call 165; go_must (refine (HWC.out _).mono ?_; rintro e w' ⟨rfl, hw'⟩; subst hw')) | (refine wpList_sliceArr _ rfl (.tmp 6) (.tmp 45) (.tmp 46) rfl U data rfl rfl rfl hd8 ?_) | (go_at_call 166; go_must (refine (HFIT.out _ HM1.out.2.2.1).mono ?_; rintro e w' ⟨rfl, hw'⟩; subst hw')))
              refine bodyPost_ret (v := .tuple #[.slice none 0 0, .int .u8 0, .int .u8 0, .bool false]) (by simp [results, Fadg.results150, go_sem]) rfl ?_
              refine ⟨HM1.out.2.2.2.2.1, ?_⟩
              rw [hlay.out, ← hfr.out, hstep.out, hno.out]
            · have hda' : ((data : Int) == 8) = false := by simp; omega
              have hd7 : data < 8 := by omega
              obtain ⟨x, hx⟩ : ∃ x, x = used.getD data 0 := ⟨_, rfl⟩
              have hcx := (HM1.out.2.2.1) data hd7
              have hcf := (HM1.out.2.2.2.1) data
              simp only at hcx
              rw [← hx] at hcx
              have hso : Hid (layStep ⟨used, data, ptrs⟩ κ = some ⟨used.set data (takeI x s 0), data + 1, ptrs⟩) := by
                show _ = _; unfold layStep; rw [if_neg h13, if_neg hw0, ← hs]; simp only [hfi]; rw [if_neg hda, hx]
              have HM2 := hid (HM1.out.took data (takeI x s 0) hd7)
              clear h13 hw0 hs hx hfi hda
              have et : Hid (takeI x s 0 = bits BinOp.or IntKind.u64 x (IntKind.u64.wrap (18446744073709551615 / 2 ^ (64 - s)))) := by show _ = _; simp only [takeI, maskI, Int.pow_zero, Int.mul_one]
              rw [et.out] at HM2
              go_wp2_with (first | (refine wpList_load_cells' rfl 194 (.tmp 25) rfl ⟨b, off + k * 4, none⟩ rfl _ _ HCELLS.out Fadg.underlying194 rfl Fadg.len194 ?_) | (go_at_call 165; go_must (refine (HWC.out _).mono ?_; rintro e w' ⟨rfl, hw'⟩; subst hw')) | (refine wpList_sliceArr _ rfl (.tmp 6) (.tmp 45) (.tmp 46) rfl U data rfl rfl rfl hd8 ?_) | (go_at_call 166; go_must (refine (HFIT.out _ HM1.out.2.2.1).mono ?_; rintro e w' ⟨rfl, hw'⟩; subst hw')) | (at_builtin; go_must (refine wpList_append_fits _ rfl (.tmp 73) (.tmp 80) 245 rfl w.heap.size 196 i6 4 Fadg.underlying245 hi6 hz1 w.heap.size k n (pl.flatMap plc) rfl (HM2.out.alloc _).1 ⟨_, 0, none⟩ 1 1 (plc ((s : Int), _, 0, false)) rfl rfl (plc_new _ _ _ _ _ _ _ (by simp)) (one4 _ _ _ _) (by omega) ?_); intro w3 hown3 hg3))
              have R := hid ((HM2.out.alloc _).pushed hown3 hg3)
              go_roundw
              case rel => exact ⟨k + 1, ⟨used.set data (takeI x s 0), data + 1, ptrs⟩, _, by go_num, by omega, rfl, by go_num, rfl, by show data + 1 ≤ 8; omega, hp8, by have h := hstep.out; rw [hso.out] at h; exact h.symm.trans hfr.out, R.out.lay (by show _ = _; rw [et.out])⟩
              case measure => simp [intOf]; omega
    · have hkn : k = n := by omega
      subst hkn
      have hend : Hid (layN ks = some ⟨used, data, ptrs⟩) := by
        show _ = _
        have h := hfr.out
        rw [layFrom_end (by have := hks.out; omega)] at h
        rw [hlay.out, ← h]
      go_wp2
      refine bodyPost_ret (v := .tuple #[.slice (some ⟨w.heap.size, 0, none⟩) k k, .int .u8 (data : Int), .int .u8 (ptrs : Int), .bool true]) (by simp [results, Fadg.results150, go_sem]) rfl ?_
      refine ⟨hm.out.2.2.2.2.1, ?_⟩
      rw [hend.out]
      exact ⟨_, pl, rfl, hm.out.2.1, hm.out.1⟩

set_option maxRecDepth 100000 in
set_option maxHeartbeats 1000000 in
theorem layout_none (ao : Option Addr) (c : Nat) (w : World) : Calls Fadg.prog 150 #[.slice ao 0 c] w (LayPost w 0 (layN [])) := by
  go_enter Fadg.func150, Fadg.ntmps150
  go_wp2
  go_loopw [2, 3, 4, 23] (fun ps d p i wr => ps = .slice none 0 0 ∧ d = .int .u8 0 ∧ p = .int .u8 0 ∧ i = .int .i64 0 ∧ Hid (Below w.heap.size w wr)) (fun _ _ _ _ _ => 0)
  case atStart => exact ⟨rfl, rfl, rfl, rfl, (Below.refl _ _).alloc (Nat.le_refl _) _⟩
  case round =>
    obtain ⟨rfl, rfl, rfl, rfl, hb⟩ := hrel
    go_wp2
    refine bodyPost_ret (v := .tuple #[.slice none 0 0, .int .u8 0, .int .u8 0, .bool true]) (by simp [results, Fadg.results150, go_sem]) rfl ?_
    refine ⟨hb.out, ?_⟩
    show ∃ (ps : Value) (pl : List (Int × Int × Int × Bool)), _
    exact ⟨_, [], rfl, rfl, World.ownsRow_nil _ _ _ _⟩

/-- Layout of whatever types. -/
theorem layout_any (ao : Option Addr) (n c : Nat) (ks : List Nat) (w : World) (hks : n = ks.length) (hrow : n = 0 ∨ ∃ b off, ao = some ⟨b, off, none⟩ ∧ b < w.heap.size ∧ TyRow w b off ks) (hk8 : ∀ k ∈ ks, k < 256) :
    Calls Fadg.prog 150 #[.slice ao n c] w (LayPost w n (layN ks)) := by
  by_cases hn : 16 < n
  · refine (layout_long ao n c w hn).mono ?_
    rintro e w' ⟨he, rfl⟩
    have : layN ks = none := by unfold layN; rw [if_pos (by omega)]
    rw [this]
    exact ⟨Below.refl _ _, he⟩
  · by_cases h0 : n = 0
    · subst h0
      have : ks = [] := List.eq_nil_of_length_eq_zero hks.symm
      subst this
      exact layout_none ao c w
    · rcases hrow with h | ⟨b, off, rfl, hb, hr⟩
      · exact absurd h h0
      · exact layout_some b off n c ks w hks hr hb hk8 (by omega) (by omega)
end Go.Proofs.Ygcfad
