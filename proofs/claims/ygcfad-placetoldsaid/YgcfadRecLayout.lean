/-
  THE WALK of package rec's Layout.
-/
import Derived.Test.YgcfadRecLayoutMem
import Derived.Test.YgcfadLayout2
namespace Go.Proofs.Ygcfad
open Go.RowKit Plain
set_option linter.unusedSimpArgs false
set_option linter.unusedVariables false

theorem Fadg.size196 : (Fadg.prog.info? 196).map (·.size) = some 4 := by kernel_rfl
def zeroP : Int × Int × Int × Bool := (0, 0, 0, false)
theorem lP_new (w : World) (B : Nat) (hB : B ≤ w.heap.size) (p : Int × Int × Int × Bool) : (lP w.heap.size p).ok B (w.alloc (.cells #[.int .u8 p.1, .int .u16 p.2.1, .int .u8 p.2.2.1, .bool p.2.2.2] 196)) :=
  World.ownsRow_lit (base := B) (e := 196) (size := 4) w #[.int .u8 p.1, .int .u16 p.2.1, .int .u8 p.2.2.1, .bool p.2.2.2] 1 hB (by decide) rfl
theorem GStd.moreE {B R : Nat} {w0 wx w' : World} {rs : List Row} {tv av : Value} {ks : List Nat} {xs : List Int} {tg wd sl : Int} (h : GStd B w0 wx rs) (hE : EStd wx.heap.size wx w' R tv av ks xs tg wd sl []) : GStd B w0 w' (eT tv ks :: eA av xs :: rs) := by
  have hb : Below wx.heap.size wx w' := hE.bel
  have h1 : GStd B w0 w' (eA av xs :: rs) := h.more (r := eA av xs) hb (hE.sep.perm eperm2).head
  have hap := (List.pairwise_cons.1 hE.sep.2).1
  refine ⟨⟨fun r hr => ?_, List.pairwise_cons.2 ⟨fun r hr g k1 k2 => ?_, h1.sep.2⟩⟩, h1.bel, h1.sz⟩
  · rcases List.mem_cons.1 hr with rfl | hr
    · exact owns_mono hE.sep.head h.sz
    · exact h1.sep.1 r hr
  · rcases List.mem_cons.1 hr with rfl | hr
    · exact hap (eA av xs) (by simp) g k1 k2
    · have a1 := (Row.ok.lt (B := wx.heap.size) hE.sep.head k1).1
      have a2 := ((h.sep.1 r hr).lt k2).2
      omega
theorem qV_loadB {B V : Nat} {w : World} {f : RF} (h : (qV V f).ok B w) : ∀ j v, [Value.string f.b, .int .u8 (f.k : Int), .int .u8 (f.e : Int), .int .u8 (f.r : Int), .int .u8 f.ns, .int .u8 f.q1, .int .u16 f.q2, .int .u8 f.q3, .bool f.q4, .int .u64 f.d, .bool f.u][j]? = some v → w.cell? ((⟨V, 0, none⟩ : Addr).add j) = some v := by
  intro j v hj
  have hj4 : j < 11 := by have := (List.getElem?_eq_some_iff.1 hj).1; simpa using this
  rw [Addr.add_lit, Nat.zero_add, h.at (g := V) (cap := 1) rfl j (by show j < 1 * 11; omega)]
  exact hj
theorem lO_own {B : Nat} {w : World} {v : Value} {fo : List RF} {j : Nat} (h : (lO v fo).ok B w) (hj : j = fo.length) : w.ownsRow B 212 11 v j (fo.flatMap gc) := by subst hj; exact h
theorem lperm {a b c d e f : Row} : [a, b, c, d, e, f].Perm [f, a, b, c, d, e] := List.perm_append_comm (l₁ := [a, b, c, d, e]) (l₂ := [f])
theorem putPl_below {B R o : Nat} {w0 w : World} {p : Int × Int × Int × Bool} (h : Below B w0 w) (hR : B ≤ R) : Below B w0 (putPl w R o p) := by
  unfold putPl
  exact Below.setCell (Below.setCell (Below.setCell (Below.setCell h hR _) hR _) hR _) hR _
theorem eT_ty {B : Nat} {w : World} {tv : Value} {ks : List Nat} {g cap : Nat} (h : (eT tv ks).ok B w) (hv : tv = .slice (some ⟨g, 0, none⟩) ks.length cap) : TyRow w g 0 ks := by
  intro i hi
  have c : ∀ t, t < 4 → w.cell? ⟨g, i * 4 + t, none⟩ = (yk (ks.getD i 0))[t]? := fun t ht => by
    rw [h.at (g := g) (cap := cap) hv (i * 4 + t) (by show _ < ks.length * 4; omega)]
    exact flat_get yk_len (by simp [List.getD, hi]) t ht
  rw [Nat.zero_add]
  exact ⟨0, 0, 0, c 0 (by decide), c 1 (by decide), c 2 (by decide), c 3 (by decide)⟩
theorem entN_lt : ∀ (fs : List FR) (a b c : Bool), (∀ f ∈ fs, f.k < 256) → ∀ k ∈ entN fs a b c, k < 256 := by
  intro fs
  induction fs with
  | nil => intro a b c _ k hk; cases hk
  | cons f l ih =>
    intro a b c h k hk
    have hl : ∀ g ∈ l, g.k < 256 := fun g hg => h g (List.mem_cons_of_mem _ hg)
    rw [ent_cons] at hk
    rcases List.mem_append.1 hk with hk | hk
    · split at hk
      · rw [List.mem_singleton.1 hk]; decide
      · cases hk
    · split at hk
      · exact ih _ _ _ hl k hk
      · split at hk
        · rcases List.mem_cons.1 hk with rfl | hk
          · exact h f (by simp)
          · exact ih _ _ _ hl k hk
        · split at hk
          · rcases List.mem_append.1 hk with hk | hk
            · split at hk
              · cases hk
              · rw [List.mem_singleton.1 hk]; decide
            · exact ih _ _ _ hl k hk
          · rcases List.mem_append.1 hk with hk | hk
            · split at hk
              · cases hk
              · rw [List.mem_singleton.1 hk]; decide
            · exact ih _ _ _ hl k hk

set_option maxRecDepth 100000 in
set_option maxHeartbeats 8000000 in
theorem layoutR_any (ao : Option Addr) (n c : Nat) (fs : List RF) (w : World) (hn : Hid (n = fs.length)) (hn16 : n ≤ 16) (hkk : Hid (∀ f ∈ fs, f.k ≤ 14)) (hrow : Hid (FRow w ao fs)) (hbel : Hid (FBelow w.heap.size ao)) :
    Calls Fadg.prog 157 #[.slice ao n c] w (LayRPost w fs) := by
  have h16' : ¬ (16 : Int) < (n : Int) := by omega
  have hG0 : Hid (GStd w.heap.size w (w.alloc (.cells #[.int .u8 0, .int .u16 0, .int .u8 0, .bool false] 196)) [lP w.heap.size zeroP]) :=
    (GStd.start w).more (r := lP w.heap.size zeroP) ((Below.refl _ _).alloc (Nat.le_refl _) _) (lP_new w w.heap.size (Nat.le_refl _) zeroP)
  go_enter Fadg.func157, Fadg.ntmps157
  go_upto_if 23 with fail
  go_loopg [2, 22] n (fun gk v2 j wr => ∃ j' : Nat, j = .int .i64 (j' : Int) ∧ v2 = .slice none 0 0 ∧ j' + gk = n ∧ Hid (GStd w.heap.size w wr [lP w.heap.size zeroP]))
  case atStart => exact ⟨0, rfl, rfl, by omega, hG0⟩
  case round =>
    clear hG0
    obtain ⟨j, rfl, rfl, hj, hG⟩ := hrel
    by_cases hlt : j < n
    · have hlt' : (j : Int) < (n : Int) := by omega
      have hjl : j < fs.length := by rw [← hn.out]; exact hlt
      obtain ⟨f, hf⟩ : ∃ f, fs[j]? = some f := ⟨_, List.getElem?_eq_getElem hjl⟩
      obtain ⟨g, hao, HC⟩ := (hrow.out.below hG.out.bel hbel.out) j f hf
      subst hao
      have HC := hid HC
      have hk14 : ¬ (14 : Int) < (f.k : Int) := by have := hkk.out f (List.mem_of_getElem? hf); omega
      clear hf
      have hG2 := hid (hG.out.alloc (.cells #[.string f.b, .int .u8 (f.k : Int), .int .u8 (f.e : Int), .int .u8 (f.r : Int), .int .u8 f.ns, .int .u8 f.q1, .int .u16 f.q2, .int .u8 f.q3, .bool f.q4, .int .u64 f.d, .bool f.u] 212))
      go_wp2_with (refine wpList_load_cells' rfl 212 (.tmp 24) rfl ⟨g, j * 11, none⟩ rfl _ _ HC.out Fadg.underlying212 rfl Fadg.len212 ?_)
      go_roundg (gk - 1)
      case measure => omega
      case rel => exact ⟨j + 1, by go_num, rfl, by omega, hG2⟩
    · have hlt' : ¬ (j : Int) < (n : Int) := by omega
      have HEN := hid (entries_any ao n c fs wr hn hn16 (hrow.out.below hG.out.bel hbel.out) (fun g hg => Nat.lt_of_lt_of_le (hbel.out g hg) hG.out.sz))
      obtain ⟨E, hE⟩ : ∃ E, E = entN (fs.map gf) false false false := ⟨_, rfl⟩
      have hE256 : Hid (∀ k ∈ E, k < 256) := by
        rw [hE]; exact entN_lt _ _ _ _ (fun g hg => by obtain ⟨f, hf, rfl⟩ := List.mem_map.1 hg; have := hkk.out f hf; show f.k < 256; omega)
      have hlay : Hid (layR (fs.map gf) = (layN E).isSome) := by rw [hE]; rfl
      go_upto_region 10 with (go_at_call 169; go_must (refine HEN.out.mono ?_; rintro e w1 ⟨R, tao, aao, tn, tc, an, ac, xs, tg, wd, sl, rfl, hE1, htn, han, hxl, hxi, htgi⟩; rw [← hE] at hE1 htn hxi htgi; have HTN := hid htn; have HAN := hid han; have HXL := hid hxl; have HXI := hid hxi; have HTG := hid htgi; have hG1 := hid (hG.out.moreE hE1); clear htn han hxl hxi htgi hE1))
      clear hE HEN
      have hG2 := hid (hG1.out.more (r := eR w1.heap.size tg wd sl) ((Below.refl _ _).alloc (Nat.le_refl _) _) (eR_new w1 tg wd sl))
      have hxn : Hid (an = n) := by rw [HAN.out, HXL.out, hn.out]; rfl
      generalize w1.alloc (.cells #[.int .i64 tg, .int .i64 wd, .int .i64 sl] 267) = w2 at *
      generalize w1.heap.size = V at *
      clear hG1 hG
      have htf : Hid (tn = 0 ∨ ∃ b off, tao = some ⟨b, off, none⟩ ∧ b < w2.heap.size ∧ TyRow w2 b off E) := by
        have ho := hG2.out.ok (r := eT (.slice tao tn tc) E) (by simp)
        rcases Row.ok.form' ho with ⟨ao', cap', hv, h0 | ⟨g, hg⟩⟩
        · left; rw [HTN.out]; exact h0
        · right
          have hv' : (Value.slice tao tn tc) = .slice (some ⟨g, 0, none⟩) E.length cap' := by rw [← hg]; exact hv
          refine ⟨g, 0, by injection hv', (ho.lt (g := g) (by show (Value.slice tao tn tc).ownBlock = _; rw [hv']; rfl)).2, eT_ty ho hv'⟩
      have HLA := hid (layout_any tao tn tc E w2 HTN.out htf.out hE256.out)
      cases hla : layN E with
      | none =>
        rw [hla] at HLA
        have hlay2 : Hid (layR (fs.map gf) = false) := by show _ = _; rw [hlay.out, hla]; rfl
        clear hla
        have hmP : Hid (lP w.heap.size zeroP ∈ (eR V tg wd sl :: eT (.slice tao tn tc) E :: eA (.slice aao an ac) xs :: [lP w.heap.size zeroP])) := by show _ ∈ _; simp
        go_wp2_with (go_at_call 150; go_must (refine HLA.out.mono ?_; rintro e w3 ⟨hb3, rfl⟩; have hG3 := hid (hG2.out.grow hb3); obtain ⟨k0, k1, k2, k3, kf⟩ := lP_cells (hG3.out.ok hmP.out); have f0 := kf 0; have f1 := kf 1; have f2 := kf 2; have f3 := kf 3; clear kf))
        refine bodyPost_ret (v := .tuple #[.slice none 0 0, .agg #[.int .u8 0, .int .u16 0, .int .u8 0, .bool false], .int .u8 0, .int .u8 0, .bool false]) (by simp [results, Fadg.results157, go_sem, k0, k1, k2, k3]) rfl ?_
        refine ⟨putPl_below (p := zeroP) (o := 0) hG3.out.bel (Nat.le_refl _), ?_⟩
        rw [hlay2.out]
      | some L =>
        rw [hla] at HLA
        have hlay2 : Hid (layR (fs.map gf) = true) := by show _ = _; rw [hlay.out, hla]; rfl
        clear hla
        go_upto_if 50 with (go_at_call 150; go_must (refine HLA.out.mono ?_; rintro e w3 ⟨hb3, ps, pl, rfl, hpl, hps⟩; have hG3 := hid (hG2.out.more (r := lQ ps pl tn) hb3 hps); have HPL := hid hpl; clear hpl hps))
        clear HLA htf hG2
        obtain ⟨i8, hi8, hz0, hz1, hz2⟩ := info_parts Fadg.info212
        go_cut [2, 50] (fun v2 v50 wx => ∃ (oao : Option Addr) (oc : Nat), v2 = .slice oao 0 oc ∧ Hid (GStd w.heap.size w wx (lO (.slice oao 0 oc) [] :: lQ ps pl tn :: eR V tg wd sl :: eT (.slice tao tn tc) E :: eA (.slice aao an ac) xs :: [lP w.heap.size zeroP])))
        case first =>
          by_cases hn0 : 0 < n
          · have hn0' : (0 : Int) < (n : Int) := by omega
            go_wp2_with (at_make; go_must (refine wpList_make_own _ rfl _ _ 202 rfl w3.heap.size 212 i8 _ 11 Fadg.underlying202 hi8 hz0 hz1 _ _ _ n rfl rfl rfl (by rw [hz2]; omega) (by unfold maxLen; omega) (Nat.le_refl _) ?_; intro w4 hown4 hg4))
            go_meet
            exact ⟨_, _, rfl, hG3.out.more (r := lO (.slice (some ⟨w3.heap.size, 0, none⟩) 0 n) []) ((Below.refl _ _).grown hg4 (Nat.le_refl _) (fun _ h => by cases h)) hown4⟩
          · have hn0' : decide ((0 : Int) < (n : Int)) = false := by simp; omega
            go_wp2
            go_meet
            exact ⟨none, 0, rfl, hG3.out.more (r := lO (.slice none 0 0) []) (Below.refl _ _) (World.ownsRow_nil _ _ _ _)⟩
        case rest =>
          obtain ⟨oao, oc, rfl, hG4⟩ := hcut
          clear hG3
          go_upto_if 57 with fail
          go_loopg [2, 56] n (fun gk v2 j wr => ∃ (j' : Nat) (oao : Option Addr) (oc : Nat) (fo : List RF), j = .int .i64 (j' : Int) ∧ v2 = .slice oao j' oc ∧ j' + gk = n ∧ Hid (j' = fo.length) ∧ Hid (GStd w.heap.size w wr (lO (.slice oao j' oc) fo :: lQ ps pl tn :: eR V tg wd sl :: eT (.slice tao tn tc) E :: eA (.slice aao an ac) xs :: [lP w.heap.size zeroP])) ∧ Hid (∀ (i : Nat) (f' : RF), fo[i]? = some f' → ∃ f, fs[i]? = some f ∧ SameF f f'))
          case atStart => exact ⟨0, oao, oc, [], rfl, rfl, by omega, rfl, hG4, hid (fun i f' h => by simp at h)⟩
          case round =>
            clear hG4
            obtain ⟨j, oao, oc, fo, rfl, rfl, hj, HFO, hG, hsf⟩ := hrel
            by_cases hlt : j < n
            · have hlt' : (j : Int) < (n : Int) := by omega
              have hjl : j < fs.length := by rw [← hn.out]; exact hlt
              obtain ⟨f, hf⟩ : ∃ f, fs[j]? = some f := ⟨_, List.getElem?_eq_getElem hjl⟩
              obtain ⟨g, hao, HC⟩ := (hrow.out.below hG.out.bel hbel.out) j f hf
              subst hao
              have HC := hid HC
              have HF := hid hf
              have hk14 := hkk.out f (List.mem_of_getElem? hf)
              clear hf
              have hV : Hid (GStd w.heap.size w (wr.alloc (.cells #[.string f.b, .int .u8 (f.k : Int), .int .u8 (f.e : Int), .int .u8 (f.r : Int), .int .u8 f.ns, .int .u8 0, .int .u16 0, .int .u8 0, .bool false, .int .u64 f.d, .bool f.u] 212)) (qV wr.heap.size (atPR f zeroP) :: lO (.slice oao j oc) fo :: lQ ps pl tn :: eR V tg wd sl :: eT (.slice tao tn tc) E :: eA (.slice aao an ac) xs :: [lP w.heap.size zeroP])) :=
                hG.out.more (r := qV wr.heap.size (atPR f zeroP)) ((Below.refl _ _).alloc (Nat.le_refl _) _) (World.ownsRow_lit (base := wr.heap.size) (e := 212) (size := 11) wr #[.string f.b, .int .u8 (f.k : Int), .int .u8 (f.e : Int), .int .u8 (f.r : Int), .int .u8 f.ns, .int .u8 0, .int .u16 0, .int .u8 0, .bool false, .int .u64 f.d, .bool f.u] 1 (Nat.le_refl _) (by decide) rfl)
              go_upto_region 19 with (refine wpList_load_cells' rfl 212 (.tmp 59) rfl ⟨g, j * 11, none⟩ rfl _ _ HC.out Fadg.underlying212 rfl Fadg.len212 ?_)
              generalize wr.alloc (.cells #[.string f.b, .int .u8 (f.k : Int), .int .u8 (f.e : Int), .int .u8 (f.r : Int), .int .u8 f.ns, .int .u8 0, .int .u16 0, .int .u8 0, .bool false, .int .u64 f.d, .bool f.u] 212) = w5 at *
              generalize wr.heap.size = X at *
              clear hG HC
              obtain ⟨a, hxa⟩ : ∃ a, xs[j]? = some a := ⟨_, List.getElem?_eq_getElem (by rw [HXL.out]; exact hjl)⟩
              have hia := hid (HXI.out a (List.mem_of_getElem? hxa))
              have hokA := hid (hV.out.ok (r := eA (.slice aao an ac) xs) (by simp))
              obtain ⟨ga, hga⟩ : ∃ ga, aao = some ⟨ga, 0, none⟩ := by
                rcases Row.ok.form' hokA.out with ⟨ao', cap', hv, h0 | ⟨g2, hg2⟩⟩
                · have : xs.length = 0 := h0
                  rw [HXL.out] at this; omega
                · have hv' : (Value.slice aao an ac) = .slice ao' xs.length cap' := hv
                  injection hv' with e1 e2 e3
                  exact ⟨g2, by rw [e1, hg2]⟩
              subst hga
              have ca : w5.cell? ⟨ga, j, none⟩ = some (.int .i64 a) := by
                have h1 := hokA.out.at (g := ga) (cap := ac) (by show (Value.slice _ an ac) = _; rw [HAN.out]; rfl) j (by show j < xs.length * 1; rw [HXL.out]; omega)
                rw [h1]
                have := flat_get ai_len hxa 0 (by decide)
                rw [Nat.mul_one, Nat.add_zero] at this
                exact this
              have han' : (j : Int) < (an : Int) := by rw [hxn.out]; exact hlt'
              clear hxa hokA
              go_upto_if 67 with fail
              go_cut [67] (fun v67 wx => ∃ p : Int × Int × Int × Bool, Hid (GStd w.heap.size w wx (qV X (atPR f p) :: lO (.slice oao j oc) fo :: lQ ps pl tn :: eR V tg wd sl :: eT (.slice tao tn tc) E :: eA (.slice (some ⟨ga, 0, none⟩) an ac) xs :: [lP w.heap.size zeroP])))
              case first =>
                by_cases ha0 : 0 ≤ a
                · obtain ⟨ai', rfl⟩ : ∃ ai' : Nat, a = (ai' : Int) := ⟨a.toNat, by omega⟩
                  have hat : ai' < E.length := by rcases hia.out with h | ⟨_, h⟩ <;> omega
                  have hat' : (ai' : Int) < (tn : Int) := by rw [HTN.out]; omega
                  have hokQ := hid (hV.out.ok (r := lQ ps pl tn) (by simp))
                  obtain ⟨gp, cp, hpv⟩ := Row.ok.form hokQ.out (by show 0 < tn; omega)
                  have hpv' : ps = .slice (some ⟨gp, 0, none⟩) tn cp := hpv
                  obtain ⟨⟨p1, p2, p3, p4⟩, hp⟩ : ∃ p, pl[ai']? = some p := ⟨_, List.getElem?_eq_getElem (by rw [HPL.out, HTN.out]; exact hat)⟩
                  have HCP : Hid (∀ t v, [Value.int .u8 p1, .int .u16 p2, .int .u8 p3, .bool p4][t]? = some v → w5.cell? ((⟨gp, ai' * 4, none⟩ : Addr).add t) = some v) := by
                    intro t v ht
                    have ht4 : t < 4 := by have := (List.getElem?_eq_some_iff.1 ht).1; simpa using this
                    have htn := HTN.out
                    rw [Addr.add_lit, hokQ.out.at (g := gp) (cap := cp) hpv (ai' * 4 + t) (by show _ < tn * 4; omega)]
                    show (pl.flatMap plc)[ai' * 4 + t]? = _
                    rw [flat_get (c := 4) (fun x => rfl) hp t ht4]
                    exact ht
                  subst hpv'
                  have hp2 := hid (hV.out.putV (p1, p2, p3, p4))
                  have c5 := hV.out.head.at (g := X) (cap := 1) rfl 5 (by show 5 < 1 * 11; decide)
                  have c6 := hV.out.head.at (g := X) (cap := 1) rfl 6 (by show 6 < 1 * 11; decide)
                  have c7 := hV.out.head.at (g := X) (cap := 1) rfl 7 (by show 7 < 1 * 11; decide)
                  have c8 := hV.out.head.at (g := X) (cap := 1) rfl 8 (by show 8 < 1 * 11; decide)
                  simp only [qV, gc, atPR, List.getElem?_cons_zero, List.getElem?_cons_succ] at c5 c6 c7 c8
                  have f5 := hV.out.head.fr (g := X) (cap := 1) rfl 5
                  have f6 := hV.out.head.fr (g := X) (cap := 1) rfl 6
                  have f7 := hV.out.head.fr (g := X) (cap := 1) rfl 7
                  have f8 := hV.out.head.fr (g := X) (cap := 1) rfl 8
                  clear hpv hp hokQ
                  go_wp2_with (refine wpList_load_cells' rfl 196 (.tmp 73) rfl ⟨gp, ai' * 4, none⟩ rfl _ _ HCP.out Fadg.underlying196 rfl Fadg.size196 ?_)
                  go_meet
                  exact ⟨(p1, p2, p3, p4), hp2⟩
                · have ha0' : decide (0 ≤ a) = false := by simp; omega
                  go_wp2
                  go_meet
                  exact ⟨zeroP, hV⟩
              case rest =>
                obtain ⟨p, hV2⟩ := hcut
                clear hV ca
                have d1 := hV2.out.head.at (g := X) (cap := 1) rfl 1 (by show 1 < 1 * 11; decide)
                have d5 := hV2.out.head.at (g := X) (cap := 1) rfl 5 (by show 5 < 1 * 11; decide)
                have d6 := hV2.out.head.at (g := X) (cap := 1) rfl 6 (by show 6 < 1 * 11; decide)
                have d7 := hV2.out.head.at (g := X) (cap := 1) rfl 7 (by show 7 < 1 * 11; decide)
                have d8 := hV2.out.head.at (g := X) (cap := 1) rfl 8 (by show 8 < 1 * 11; decide)
                have d10 := hV2.out.head.at (g := X) (cap := 1) rfl 10 (by show 10 < 1 * 11; decide)
                simp only [qV, gc, atPR, List.getElem?_cons_zero, List.getElem?_cons_succ] at d1 d5 d6 d7 d8 d10
                have f5 := hV2.out.head.fr (g := X) (cap := 1) rfl 5
                have f6 := hV2.out.head.fr (g := X) (cap := 1) rfl 6
                have f7 := hV2.out.head.fr (g := X) (cap := 1) rfl 7
                have f8 := hV2.out.head.fr (g := X) (cap := 1) rfl 8
                obtain ⟨wn, hwn⟩ : ∃ wn, wn = widthN f.k := ⟨_, rfl⟩
                have HWC : Hid (∀ wx, Calls Fadg.prog 159 #[.int .u8 (f.k : Int)] wx fun e w' => e = .returned (.int .u8 (wn : Int)) ∧ w' = wx) := fun wx => by rw [hwn]; exact widthR_any f.k (by omega) wx
                have hwn64 : wn ≤ 64 := by rw [hwn]; exact widthN_le _
                clear hwn
                go_upto_region 22 with (go_at_call 159; go_must (refine (HWC.out _).mono ?_; rintro e w6 ⟨rfl, hw6⟩; subst hw6))
                go_cut [85] (fun v wx => v = .bool (f.u && ((wn : Int) != 0)) ∧ wx = w6)
                case first =>
                  cases hu : f.u with
                  | true =>
                    rw [hu] at d10
                    go_wp2
                    go_meet
                    exact ⟨by rw [hu]; rfl, rfl⟩
                  | false =>
                    rw [hu] at d10
                    go_wp2
                    go_meet
                    exact ⟨by rw [hu]; rfl, rfl⟩
                case rest =>
                  obtain ⟨rfl, rfl⟩ := hcut
                  go_upto_if 85 with fail
                  go_cut [85] (fun v85 wx => ∃ p : Int × Int × Int × Bool, Hid (GStd w.heap.size w wx (qV X (atPR f p) :: lO (.slice oao j oc) fo :: lQ ps pl tn :: eR V tg wd sl :: eT (.slice tao tn tc) E :: eA (.slice (some ⟨ga, 0, none⟩) an ac) xs :: [lP w.heap.size zeroP])))
                  case first =>
                    cases hb : (f.u && ((wn : Int) != 0)) with
                    | true =>
                      have hb' : ¬ wn = 0 := by have : f.u = true ∧ ¬ (wn : Int) = 0 := by simpa using hb
                                                omega
                      have hb2 : ((wn : Int) == 0) = false := by simp; omega
                      have hb3 : ¬ (wn : Int) = 0 := by omega
                      clear hb
                      go_wp2_with fail
                      go_region
                      all_goals go_wp2_with fail
                      all_goals go_meet
                      all_goals exact ⟨(_, _, _, _), (hV2.out.putV (_, _, _, _)).drew1⟩
                    | false =>
                      go_wp2
                      go_meet
                      exact ⟨p, hV2⟩
                  case rest =>
                    obtain ⟨p9, hV9⟩ := hcut
                    clear hV2 d1 d5 d6 d7 d8 d10 f5 f6 f7 f8
                    have HCV := hid (qV_loadB hV9.out.head)
                    have hs9 := hid (hV9.out.less.alloc (.cells #[.string (atPR f p9).b, .int .u8 ((atPR f p9).k : Int), .int .u8 ((atPR f p9).e : Int), .int .u8 ((atPR f p9).r : Int), .int .u8 (atPR f p9).ns, .int .u8 (atPR f p9).q1, .int .u16 (atPR f p9).q2, .int .u8 (atPR f p9).q3, .bool (atPR f p9).q4, .int .u64 (atPR f p9).d, .bool (atPR f p9).u] 212))
                    have hsame : Hid (SameF f (atPR f p9)) := ⟨rfl, rfl, rfl, rfl, rfl⟩
                    generalize atPR f p9 = f9 at *
                    clear hV9
                    go_wp2_with (first | (refine wpList_load_cells' rfl 212 (.tmp 14) rfl ⟨X, 0, none⟩ rfl _ _ HCV.out Fadg.underlying212 rfl Fadg.len212 ?_) | (at_builtin; go_must (refine wpList_append_sep (B := w.heap.size) _ rfl (.tmp 96) (.tmp 98) 202 rfl 212 i8 _ 11 48 Fadg.underlying202 hi8 hz0 hz1 hz2 rfl (by decide) (.slice oao j oc) j (fo.flatMap gc) rfl (lO_own hs9.out.head HFO.out) ⟨_, 0, none⟩ 1 1 (gc f9) rfl rfl (eleven_new _ f9 _ (by simp)) (gc_one _) (by omega) (by decide) hs9.out.sz ?_); intro aoN nN capN wN hnN hownN hgN hnewN; obtain rfl : nN = j + 1 := hnN.out))
                    go_roundg (gk - 1)
                    case measure => omega
                    case rel =>
                      refine ⟨j + 1, aoN, capN, fo ++ [f9], by go_num, rfl, by omega, by show j + 1 = _; rw [List.length_append, ← HFO.out]; rfl, hs9.out.pushO (by rw [← HFO.out]) hownN hgN hnewN, ?_⟩
                      intro i f' hi
                      rcases Nat.lt_or_ge i fo.length with hl | hl
                      · rw [List.getElem?_append_left hl] at hi; exact hsf.out i f' hi
                      · rw [List.getElem?_append_right hl] at hi
                        have hi0 : i - fo.length = 0 := by have := (List.getElem?_eq_some_iff.1 hi).1; simp at this; omega
                        rw [hi0] at hi; simp at hi; subst hi
                        have : i = j := by have := HFO.out; omega
                        subst this
                        exact ⟨f, HF.out, hsame.out⟩
            · have hlt' : ¬ (j : Int) < (n : Int) := by omega
              obtain rfl : j = n := by omega
              have cg : wr.cell? ⟨V, 0, none⟩ = some (.int .i64 tg) := (hG.out.ok (r := eR V tg wd sl) (by simp)).at (g := V) (cap := 1) rfl 0 (by show 0 < 1 * 3; decide)
              go_upto_if 103 with fail
              go_cut [103] (fun v103 wx => ∃ p : Int × Int × Int × Bool, Hid (GStd w.heap.size w wx (lP w.heap.size p :: lO (.slice oao j oc) fo :: lQ ps pl tn :: eR V tg wd sl :: eT (.slice tao tn tc) E :: [eA (.slice aao an ac) xs])))
              case first =>
                by_cases ha0 : 0 ≤ tg
                · obtain ⟨ai', rfl⟩ : ∃ ai' : Nat, tg = (ai' : Int) := ⟨tg.toNat, by omega⟩
                  have hat : ai' < E.length := by rcases HTG.out with h | ⟨_, h⟩ <;> omega
                  have hat' : (ai' : Int) < (tn : Int) := by rw [HTN.out]; omega
                  have hokQ := hid (hG.out.ok (r := lQ ps pl tn) (by simp))
                  obtain ⟨gp, cp, hpv⟩ := Row.ok.form hokQ.out (by show 0 < tn; omega)
                  have hpv' : ps = .slice (some ⟨gp, 0, none⟩) tn cp := hpv
                  obtain ⟨⟨p1, p2, p3, p4⟩, hp⟩ : ∃ p, pl[ai']? = some p := ⟨_, List.getElem?_eq_getElem (by rw [HPL.out, HTN.out]; exact hat)⟩
                  have HCP : Hid (∀ t v, [Value.int .u8 p1, .int .u16 p2, .int .u8 p3, .bool p4][t]? = some v → wr.cell? ((⟨gp, ai' * 4, none⟩ : Addr).add t) = some v) := by
                    intro t v ht
                    have ht4 : t < 4 := by have := (List.getElem?_eq_some_iff.1 ht).1; simpa using this
                    have htn := HTN.out
                    rw [Addr.add_lit, hokQ.out.at (g := gp) (cap := cp) hpv (ai' * 4 + t) (by show _ < tn * 4; omega)]
                    show (pl.flatMap plc)[ai' * 4 + t]? = _
                    rw [flat_get (c := 4) (fun x => rfl) hp t ht4]
                    exact ht
                  subst hpv'
                  have hGp := hid (hG.out.perm lperm)
                  obtain ⟨k0, k1, k2, k3, kf⟩ := lP_cells hGp.out.head
                  have f0 := kf 0
                  have f1 := kf 1
                  have f2 := kf 2
                  have f3 := kf 3
                  have hp2 := hid (hGp.out.putP (p1, p2, p3, p4))
                  clear hpv hp hokQ kf
                  go_wp2_with (refine wpList_load_cells' rfl 196 (.tmp 107) rfl ⟨gp, ai' * 4, none⟩ rfl _ _ HCP.out Fadg.underlying196 rfl Fadg.size196 ?_)
                  go_meet
                  exact ⟨(p1, p2, p3, p4), hp2⟩
                · have ha0' : decide (0 ≤ tg) = false := by simp; omega
                  go_wp2
                  go_meet
                  exact ⟨zeroP, hG.out.perm lperm⟩
              case rest =>
                obtain ⟨p, hG9⟩ := hcut
                clear hG cg
                obtain ⟨k0, k1, k2, k3, kf⟩ := lP_cells hG9.out.head
                have f0 := kf 0
                have f1 := kf 1
                have f2 := kf 2
                have f3 := kf 3
                have hfin := hid (hG9.out.putP p).drew1
                clear kf
                go_upto_region 28 with fail
                go_region
                all_goals go_wp2_with fail
                refine bodyPost_ret (v := .tuple #[.slice oao j oc, .agg #[.int .u8 p.1, .int .u16 p.2.1, .int .u8 p.2.2.1, .bool p.2.2.2], .int .u8 (L.data : Int), .int .u8 (L.ptrs : Int), .bool true]) (by simp [results, Fadg.results157, go_sem, k0, k1, k2, k3]) rfl ?_
                refine ⟨hfin.out.bel, ?_⟩
                rw [hlay2.out]
                refine ⟨.slice oao j oc, fo, p, _, _, rfl, ?_, by rw [← HFO.out]; exact hn.out, hsf.out⟩
                rw [← hn.out]
                exact lO_own hfin.out.less.head HFO.out
end Go.Proofs.Ygcfad
