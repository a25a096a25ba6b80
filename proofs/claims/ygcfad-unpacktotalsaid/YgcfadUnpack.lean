/-
  THE WALKS of Cur.Step, all ways joined, and of pack.Unpack.
-/
import Derived.Test.YgcfadStepA
import Derived.Test.YgcfadStepB
import Derived.Test.YgcfadStepC
namespace Go.Proofs.Ygcfad
open Go.RowKit Plain
set_option linter.unusedSimpArgs false
set_option linter.unusedVariables false

theorem hidden {p : Prop} (h : p) : Hid p := h
theorem is0 {t : Nat} (h : t = 0) : ((t : Int) == 0) = true := by subst h; rfl
theorem not0 {t : Nat} (h : ¬ t = 0) : ((t : Int) == 0) = false := by simp; omega
theorem is5 {t : Nat} (h : t = 255) : ((t : Int) == 255) = true := by subst h; rfl
theorem not5 {t : Nat} (h : ¬ t = 255) : ((t : Int) == 255) = false := by simp; omega
theorem places_le : ∀ t : Fin 256, (places t.val).length ≤ 8 := by decide +kernel

/-- What Step does. -/
def StepPost (P : Nat) (w : World) (sv : Value) (I : Nat) (out : List Nat) (r : Option (List Nat × Nat)) (e : Ending) (w' : World) : Prop :=
  match r with
  | none => e = .returned (.bool false) ∧ Below P w w'
  | some (ws, c) => e = .returned (.bool true) ∧ Below P w w' ∧ CurAt P w' sv (I + c) (out ++ ws)

theorem step_any (P b off sl sc I : Nat) (s u out : List Nat) (w : World) (hcur : CurAt P w (.slice (some ⟨b, off, none⟩) sl sc) I out)
    (hu : u = s.drop I) (hsl : sl = s.length) (hrow : ∀ j, j < s.length → w.cell? ⟨b, off + j, none⟩ = some (.int .u8 ((s.getD j 0 : Nat) : Int))) (hb : ∀ x ∈ s, x < 256) (hbP : b < P)
    (hs : sl ≤ 4096) (hsc : sl ≤ sc) (hI : I < sl) (ho : out.length ≤ 256) :
    Calls Fadg.prog 68 #[.pointer (some ⟨P, 0, none⟩)] w (StepPost P w (.slice (some ⟨b, off, none⟩) sl sc) I out (stepN u out.length)) := by
  obtain ⟨ov, c2, hown⟩ := hcur.2.2.1
  obtain ⟨oa, on, oc, rfl, hon⟩ := hown.told
  have hul : u.length = sl - I := by rw [hu, hsl]; simp
  have hrowu : ∀ j, j < u.length → w.cell? ⟨b, off + I + j, none⟩ = some (.int .u8 ((u.getD j 0 : Nat) : Int)) := by
    intro j hj
    have := hrow (I + j) (by omega)
    rw [Nat.add_assoc, this, hu]
    simp [List.getD]
  have hbu : ∀ x ∈ u, x < 256 := fun x hx => hb x (by rw [hu] at hx; exact List.mem_of_mem_drop hx)
  have hne : u ≠ [] := by intro h; rw [h] at hul; simp at hul; omega
  have htl : u.headD 0 < 256 := by
    cases u with
    | nil => exact absurd rfl hne
    | cons x l => exact hbu x (by simp)
  have hnp8 := places_le ⟨u.headD 0, htl⟩
  have hon' := hon.out
  by_cases h0 : u.headD 0 = 0
  · have t0 : (((u.headD 0 : Nat) : Int) == 0) = true := is0 h0
    have t5 : (((u.headD 0 : Nat) : Int) == 255) = false := not5 (by omega)
    have hv : vbOf u = 0 := by unfold vbOf; rw [if_neg (by omega)]
    unfold stepN
    rw [if_pos (.inl h0)]
    by_cases h1 : u.length ≤ kOf u
    · rw [if_pos h1]
      exact step_short0 P b off sl sc I oa on oc (u.headD 0) _ u out w hcur c2 hul hrowu hs hsc hI (by omega) rfl htl rfl hnp8 t0 (by unfold kOf at h1; omega)
    · rw [if_neg h1]
      have hm8 : moreOf u < 256 := getD_lt hbu (by omega)
      by_cases h2 : u.length < kOf u + 1 + vbOf u ∨ 256 < out.length + 1 + moreOf u
      · rw [if_pos h2]
        exact step_zero_no P b off sl sc I oa on oc (u.headD 0) _ u out w hcur c2 hul hrowu hs hsc hI (by omega) rfl htl rfl hnp8 t0 t5 (moreOf u) hm8 rfl (by unfold kOf at h1; omega) (by omega)
      · rw [if_neg h2]
        refine (step_zero P b off sl sc I oa on oc (u.headD 0) _ u out w hcur c2 hon hul hrowu hbu hbP hs hsc hI (by omega) rfl htl rfl hnp8 t0 t5 (moreOf u) rfl (by unfold kOf at h1; omega) (by omega)).mono ?_
        rintro e w' ⟨he, hb', hc⟩
        refine ⟨he, hb', ?_⟩
        have er : runWords u = List.replicate (moreOf u) 0 := by
          unfold runWords
          apply List.ext_getElem
          · simp
          · intro i h3 h4; simp only [List.getElem_map, List.getElem_replicate]; rw [if_neg (by omega)]
        rw [er, hv]
        exact hc
  · have t0 : (((u.headD 0 : Nat) : Int) == 0) = false := not0 h0
    by_cases h5 : u.headD 0 = 255
    · have t5 : (((u.headD 0 : Nat) : Int) == 255) = true := is5 h5
      have hv : vbOf u = 8 * moreOf u := by unfold vbOf; rw [if_pos h5]
      unfold stepN
      rw [if_pos (.inr h5)]
      by_cases h1 : u.length ≤ kOf u
      · rw [if_pos h1]
        exact step_short5 P b off sl sc I oa on oc (u.headD 0) _ u out w hcur c2 hul hrowu hs hsc hI (by omega) rfl htl rfl hnp8 t0 t5 (by unfold kOf at h1; omega)
      · rw [if_neg h1]
        have hm8 : moreOf u < 256 := getD_lt hbu (by omega)
        by_cases h2 : u.length < kOf u + 1 + vbOf u ∨ 256 < out.length + 1 + moreOf u
        · rw [if_pos h2]
          exact step_full_no P b off sl sc I oa on oc (u.headD 0) _ u out w hcur c2 hul hrowu hs hsc hI (by omega) rfl htl rfl hnp8 t0 t5 (moreOf u) hm8 rfl (by unfold kOf at h1; omega) (by unfold kOf at h2; omega)
        · rw [if_neg h2]
          refine (step_full P b off sl sc I oa on oc (u.headD 0) _ u out w hcur c2 hon hul hrowu hbu hbP hs hsc hI (by omega) rfl htl rfl hnp8 t0 t5 (moreOf u) rfl (by unfold kOf at h2; omega) (by omega)).mono ?_
          rintro e w' ⟨he, hb', hc⟩
          refine ⟨he, hb', ?_⟩
          have er : runWords u = (List.range (moreOf u)).map (fun i => ofB ((u.drop (1 + (places (u.headD 0)).length + 1 + 8 * i)).take 8)) := by
            unfold runWords
            apply List.map_congr_left
            intro i _
            rw [if_pos h5]
            rfl
          rw [er, hv]
          exact hc
    · have t5 : (((u.headD 0 : Nat) : Int) == 255) = false := not5 h5
      unfold stepN
      rw [if_neg (by omega)]
      by_cases h2 : u.length < kOf u ∨ 256 < out.length + 1
      · rw [if_pos h2]
        exact step_plain_no P b off sl sc I oa on oc (u.headD 0) _ u out w hcur c2 hul hrowu hs hsc hI (by omega) rfl htl rfl hnp8 t0 t5 (by unfold kOf at h2; omega)
      · rw [if_neg h2]
        exact (step_plain P b off sl sc I oa on oc (u.headD 0) _ u out w hcur c2 hon hul hrowu hbu hbP hs hsc hI (by omega) rfl htl rfl hnp8 t0 t5 (by unfold kOf at h2; omega) (by omega)).mono fun e w' h => h

/-- Where a cursor stands, read off memory: a loop's measure. -/
def curI (P : Nat) (w : World) : Nat := (intOf ((w.cell? ⟨P, 1, none⟩).getD undef)).toNat
theorem CurAt.I {P I : Nat} {w : World} {sv : Value} {out : List Nat} (h : CurAt P w sv I out) : curI P w = I := by
  unfold curI; rw [h.2.1]; simp [intOf]

theorem unpack_long (sa : Option Addr) (sl sc : Nat) (w : World) (hl : 4096 < sl) :
    Calls Fadg.prog 21 #[.slice sa sl sc] w fun e w' => e = .returned (.tuple #[.slice none 0 0, .bool false]) ∧ w' = w := by
  have hl' : (4096 : Int) < (sl : Int) := by omega
  go_enter Fadg.func21, Fadg.ntmps21
  go_wp2
  go_ret2
  exact ⟨rfl, rfl⟩

/-- What Unpack answers. -/
def UnpackPost (w : World) (r : Option (List Nat)) (e : Ending) (w' : World) : Prop :=
  Below w.heap.size w w' ∧ match r with
  | none => e = .returned (.tuple #[.slice none 0 0, .bool false])
  | some ws => ∃ oa n oc, e = .returned (.tuple #[.slice oa n oc, .bool true]) ∧ Own .u64 23 w.heap.size w' (.slice oa n oc) ws

theorem wpList_make_words0 (w : World) {ops : Array Oper} {rest : List Oper} {o : Oper} {a : Act} {Q : Exit → Act → World → Prop} (B : Nat) (hB : B ≤ w.heap.size)
    (hg : o.guard = none) (l c : Operand) (hop : o.op = Op.makeSlice 22 l c) (C : Int) (n : Nat) (hl : a.eval l = .int .i64 0) (hc : a.eval c = .int .i64 C) (hC : C = (n : Int)) (hn : n ≤ 65536)
    (hK : ∀ w', Own .u64 23 B w' (.slice (some ⟨w.heap.size, 0, none⟩) 0 n) [] → Below w.heap.size w w' → wpList Fadg.prog ops Q rest (a.put o.dst (.slice (some ⟨w.heap.size, 0, none⟩) 0 n)) w') :
    wpList Fadg.prog ops Q (o :: rest) a w := by
  obtain ⟨i, hi, hz0, hz1, hz2⟩ := info_parts Fadg.info23
  refine wpList_make_own w hg l c 22 hop B 23 i (.int .u64 0) 1 Fadg.underlying22 hi hz0 hz1 .i64 .i64 C n hl hc hC (by rw [hz2]; omega) (by unfold maxLen; omega) hB ?_
  intro w' hown hgr
  exact hK w' hown ((Below.refl _ _).grown hgr (Nat.le_refl _) (fun _ h => by cases h))

theorem own_lower {k : IntKind} {e B : Nat} {w : World} {v : Value} {l : List Nat} (h : Own k e (B + 1) w v l) : Own k e B w v l := by
  obtain ⟨h1, h2 | ⟨g, cap, cur, hv, hg, r⟩⟩ := h
  · exact ⟨h1, .inl h2⟩
  · exact ⟨h1, .inr ⟨g, cap, cur, hv, by omega, r⟩⟩

theorem cur_new (w : World) (sv : Value) : CurAt w.heap.size (w.alloc (.cells #[sv, .int .u16 0, .slice none 0 0] 130)) sv 0 [] ∧ Below w.heap.size w (w.alloc (.cells #[sv, .int .u16 0, .slice none 0 0] 130)) := by
  refine ⟨⟨by simp, by simp, ⟨.slice none 0 0, by simp, Own.nil _ _ _ _⟩, ?_, ?_, by simp⟩, (Below.refl _ _).alloc (Nat.le_refl _) _⟩
  · simp
  · simp

set_option maxHeartbeats 1000000 in
theorem unpack_empty (sa : Option Addr) (sc : Nat) (w : World) :
    Calls Fadg.prog 21 #[.slice sa 0 sc] w (UnpackPost w (some [])) := by
  have hc : Hid _ := cur_new w (.slice sa 0 sc)
  go_enter Fadg.func21, Fadg.ntmps21
  go_wp2
  go_loopw [18] (fun _ wr => wr = w.alloc (.cells #[.slice sa 0 sc, .int .u16 0, .slice none 0 0] 130)) (fun _ _ => 0)
  case atStart => rfl
  case round =>
    subst hrel
    go_wp2
    go_ret2
    exact ⟨hc.out.2, _, _, _, rfl, Own.nil _ _ _ _⟩

set_option maxRecDepth 100000 in
set_option maxHeartbeats 1000000 in
theorem unpack_some (b off sl sc : Nat) (s : List Nat) (w : World) (hsl : Hid (sl = s.length)) (hrow : Hid (∀ j, j < s.length → w.cell? ⟨b, off + j, none⟩ = some (.int .u8 ((s.getD j 0 : Nat) : Int)))) (hb : Hid (∀ x ∈ s, x < 256))
    (hs : sl ≤ 4096) (hsc : sl ≤ sc) (hpos : 0 < sl) (hbw : b < w.heap.size) :
    Calls Fadg.prog 21 #[.slice (some ⟨b, off, none⟩) sl sc] w (UnpackPost w (unpackN s [])) := by
  have hc : Hid _ := cur_new w (.slice (some ⟨b, off, none⟩) sl sc)
  go_enter Fadg.func21, Fadg.ntmps21
  go_wp2_with (at_make; go_must (refine wpList_make_words0 _ (w.heap.size + 1) (by simp) rfl _ _ rfl _ (min sl 256) rfl rfl (by omega) (by omega) ?_); intro w1 hown1 hbel1; simp only [World.size_alloc] at hown1 hbel1; have R := cur_pushed hc.out.1 hbel1 hown1 hc.out.2; have k2 := (hbel1.frozen (p := ⟨w.heap.size, 2, none⟩) (Nat.lt_succ_self _)).trans hc.out.1.2.2.2.2.1; obtain ⟨ov, g2, _⟩ : ∃ ov, w1.cell? ⟨w.heap.size, 2, none⟩ = some ov ∧ True := ⟨_, (hbel1.cell (p := ⟨w.heap.size, 2, none⟩) (Nat.lt_succ_self _)).trans hc.out.1.2.2.1.choose_spec.1, trivial⟩)
  all_goals
    obtain ⟨hc1, hb1⟩ := R
    have HC1 : Hid _ := hc1
    have HB1 : Hid _ := hb1
    clear hc1 hb1 hown1 hbel1 k2 g2 hc
    go_loopw [18] (fun _ wr => ∃ (I : Nat) (out : List Nat), I ≤ sl ∧ Hid (out.length ≤ 256) ∧ Hid (CurAt w.heap.size wr (.slice (some ⟨b, off, none⟩) sl sc) I out) ∧ Hid (Below w.heap.size w wr) ∧ Hid (unpackN (s.drop I) out = unpackN s [])) (fun _ wr => sl - curI w.heap.size wr)
    case atStart => exact ⟨0, [], Nat.zero_le _, Nat.zero_le _, HC1, HB1, rfl⟩
    case round =>
      obtain ⟨I, out, hI, hol, hcu, hbe, hun⟩ := hrel
      clear HC1 HB1
      have c1 := hcu.out.2.1
      have hci := hcu.out.I
      by_cases hlt : I < sl
      · have hst := step_any w.heap.size b off sl sc I s (s.drop I) out wr hcu.out rfl hsl.out (fun j hj => by rw [hbe.out.cell (p := ⟨b, off + j, none⟩) hbw]; exact hrow.out j hj) hb.out hbw hs hsc hlt hol.out
        have hne : s.drop I ≠ [] := by
          intro h
          have := congrArg List.length h
          have e := hsl.out
          simp at this; omega
        have hun' := hun.out
        rw [unpackN_step hne] at hun'
        cases hr : stepN (s.drop I) out.length with
        | none =>
          rw [hr] at hst hun'
          have HUN : Hid (none = unpackN s []) := hun'
          have HST := hidden hst
          clear hst hun' hun hr
          go_wp2_with (go_at_call 68; go_must (refine HST.out.mono ?_); rintro e w2 ⟨rfl, hb2⟩)
          go_ret2
          refine ⟨hbe.out.trans hb2, ?_⟩
          rw [← HUN.out]
          rfl
        | some pr =>
          obtain ⟨ws, c⟩ := pr
          rw [hr] at hst hun'
          have hp := stepN_pos hr
          have hdl : (s.drop I).length = sl - I := by rw [hsl.out]; simp
          rw [hdl] at hp
          have HUN : Hid (unpackN (s.drop (I + c)) (out ++ ws) = unpackN s []) := by rw [← List.drop_drop]; exact hun'
          have HST := hidden hst
          have HP := hidden hp
          clear hst hun' hun hr hdl hp
          go_wp2_with (go_at_call 68; go_must (refine HST.out.mono ?_); rintro e w2 ⟨rfl, hb2, hc2⟩)
          go_roundw
          case rel => exact ⟨I + c, out ++ ws, by have := HP.out; omega, by rw [List.length_append]; exact HP.out.2.2, hc2, hbe.out.trans hb2, HUN⟩
          case measure => rw [hc2.I, hci]; have := HP.out; omega
      · have : I = sl := by omega
        have hend : Hid (some out = unpackN s []) := by
          have e := hun.out
          rw [List.drop_eq_nil_of_le (by have := hsl.out; omega), unpackN_nil] at e
          exact e
        clear this
        obtain ⟨ov, q2, qown⟩ := hcu.out.2.2.1
        obtain ⟨oa, n, oc, hov, hn⟩ := qown.told
        subst hov
        go_wp2
        go_ret2
        refine ⟨hbe.out, ?_⟩
        rw [← hend.out]
        exact ⟨oa, n, oc, rfl, own_lower qown⟩

/-- Unpack of a stream of up to 4096 bytes. -/
theorem unpack_any (sa : Option Addr) (sl sc : Nat) (s : List Nat) (w : World) (hsl : sl = s.length) (hrow : RowAt .u8 w sa s) (hb : ∀ x ∈ s, x < 256) (hs : sl ≤ 4096) (hsc : sl ≤ sc) :
    Calls Fadg.prog 21 #[.slice sa sl sc] w (UnpackPost w (unpackN s [])) := by
  by_cases h0 : sl = 0
  · have : s = [] := List.eq_nil_of_length_eq_zero (by omega)
    subst this
    subst h0
    exact unpack_empty sa sc w
  · rcases hrow with h | ⟨b, off, rfl, hc⟩
    · subst h; simp at hsl; omega
    · exact unpack_some b off sl sc s w hsl hc hb hs hsc (by omega) (World.block_lt_of_cell? _ _ (hc 0 (by omega)))
end Go.Proofs.Ygcfad
