/-
  THE WALK of rec.ParseAt and rec.Parse.
-/
import Derived.Test.YgcfadRecStrct
import Derived.Test.YgcfadRecBind
import Derived.Test.YgcfadParseAt
import Derived.Test.YgcfadRecStep2
namespace Go.Proofs.Ygcfad
open Go.RowKit Plain
set_option linter.unusedSimpArgs false
set_option linter.unusedVariables false

def zero8 (tx : ByteArray) : Array Value := #[.string tx, .int .i64 0, .int .i64 0, .slice none 0 0, .slice none 0 0, .slice none 0 0, .int .u8 0, .int .i64 0]
def p0R (tx : ByteArray) : RS := ⟨tx, 0, 0, .slice none 0 0, .slice none 0 0, .slice none 0 0, 0, 0⟩
theorem p0R_at {P : Nat} {w : World} {tx : ByteArray} (h : w.heap[P]? = some (.cells (zero8 tx) 142 (0, 0))) : RAt P w (p0R tx) := by
  have ho : w.ownsRow 0 142 8 (.slice (some ⟨P, 0, none⟩) 1 1) 1 (zero8 tx).toList := ⟨rfl, .inr ⟨P, 1, zero8 tx, rfl, Nat.zero_le _, h, Nat.le_refl _, by decide, rfl, rfl⟩⟩
  refine ⟨fun j hj => ?_, fun j => ho.frozenAt j⟩
  rw [ho.cellAt j (by omega)]
  match j, hj with
  | 0, _ => rfl
  | 1, _ => rfl
  | 2, _ => rfl
  | 3, _ => rfl
  | 4, _ => rfl
  | 5, _ => rfl
  | 6, _ => rfl
  | 7, _ => rfl
  | j + 8, h => omega
theorem Fadg.len142 : (Fadg.prog.info? 142).map (·.size) = some 8 := by kernel_rfl
/-- The parser's block laid: what is known of it behind. -/
theorem wpList_new_parserR {ops : Array Oper} {rest : List Oper} {o : Oper} {a : Act} {w0 w : World} {Q : Exit → Act → World → Prop} (hgd : o.guard = none) (ho : o.op = .store 142 (.tmp 5) (.tmp 10)) (hd : o.dst = none) (tx : ByteArray)
    (hx : a.eval (.tmp 5) = .pointer (some ⟨w0.heap.size, 0, none⟩)) (hy : a.eval (.tmp 10) = .agg (zero8 tx)) (old : Array Value) (hw : w = w0.alloc (.cells old 142)) (hold : old.size = 8)
    (h : ∀ w', RAt w0.heap.size w' (p0R tx) → w'.heap.size = w0.heap.size + 1 → Below w0.heap.size w0 w' → wpList Fadg.prog ops Q rest a w') : wpList Fadg.prog ops Q (o :: rest) a w := by
  subst hw
  have hg : (w0.alloc (.cells old 142)).heap[w0.heap.size]? = some (.cells old 142 (0, 0)) := heap_alloc_new w0 _
  refine wpList_store_row hgd 142 (.tmp 5) (.tmp 10) ho w0.heap.size (zero8 tx) hx hy 142 old hg Fadg.len142 hold (by simp [zero8, Value.oneCell']) ?_
  rw [hd]
  refine h _ (p0R_at (setRow_heap _ _ _ _ _ _ hg)) (by simp [World.setRow]) ?_
  have hb := (Below.refl w0.heap.size w0).alloc (Nat.le_refl _) (.cells old 142)
  exact hb.trans ⟨rfl, rfl, rfl, by simp, fun k hk => setRow_other _ _ _ _ (by omega)⟩
def M0R (tx : ByteArray) : RM := ⟨p0R tx, [], [], []⟩
theorem std0R {w w1 : World} {tx : ByteArray} (hp : RAt w.heap.size w1 (p0R tx)) (hs : w1.heap.size = w.heap.size + 1) (hb : Below w.heap.size w w1) (hsz : tx.size ≤ 4096) : RStd w.heap.size (nats tx) w w1 (M0R tx) [] := by
  refine ⟨hp, by omega, ⟨fun r hr => ?_, ?_⟩, ⟨Nat.le_refl _, Nat.zero_le _, hsz, Nat.le_refl _, Nat.zero_le _, Nat.zero_le _, rfl⟩, rfl, hb⟩
  · simp [qrows, M0R] at hr
    rcases hr with rfl | rfl | rfl <;> exact World.ownsRow_nil _ _ _ _
  · simp [qrows, M0R, Row.apart, qS, qU, qN, p0R, Value.ownBlock]
theorem startR_abs (tx : ByteArray) : absR (nextM (M0R tx)) [] = startR (nats tx) := rfl
theorem topR_end {T : List Nat} {f : Nat} {s : RSt} (h : tokR T s = []) : topR T (f + 1) s = .ok ((), s) := by rw [topR, if_pos h]
theorem topR_stop {T : List Nat} {f : Nat} {s : RSt} {x : Err} (h : ¬ tokR T s = []) (hs : strctR T s = .error x) : topR T (f + 1) s = .error x := by
  rw [topR, if_neg h]; exact rbnd_error hs
theorem topR_on {T : List Nat} {f : Nat} {s s' : RSt} {u : Unit} (h : ¬ tokR T s = []) (hs : strctR T s = .ok (u, s')) : topR T (f + 1) s = topR T f s' := by
  rw [topR, if_neg h]; exact rbnd_ok hs
theorem recN_bad {T : List Nat} {s : RSt} {a : Nat} (hl : T.length ≤ 4096) (h : topR T (T.length + 1) (startR T) = .ok ((), s)) (hb : bindR s.names s.uses = some a) : recN T = (a, 4) := by
  unfold recN; rw [if_neg (by omega), h]; simp only [hb]
theorem recN_good {T : List Nat} {s : RSt} (hl : T.length ≤ 4096) (h : topR T (T.length + 1) (startR T) = .ok ((), s)) (hb : bindR s.names s.uses = none) : recN T = (0, 0) := by
  unfold recN; rw [if_neg (by omega), h]; simp only [hb]

set_option maxRecDepth 100000 in
set_option maxHeartbeats 8000000 in
theorem parseAtR_short (tx : ByteArray) (w : World) (hsz : tx.size ≤ 4096) :
    Calls Fadg.prog 27 #[.string tx] w (ParsePost w (recN (nats tx))) := by
  have hsz' : ¬ (4096 : Int) < (tx.size : Int) := by omega
  obtain ⟨T, hT⟩ : ∃ T, T = nats tx := ⟨_, rfl⟩
  have hTl : Hid (T.length ≤ 4096) := by show T.length ≤ 4096; rw [hT, nats_length]; exact hsz
  have h0 := hid (startR_abs tx)
  go_enter Fadg.func27, Fadg.ntmps27
  go_upto_region 4 with (refine wpList_new_parserR (w0 := w) rfl rfl rfl tx rfl rfl _ rfl rfl ?_; intro w1 hp1 hs1 hb1)
  have hS0 := hid (std0R hp1 hs1 hb1 hsz)
  rw [← hT] at hS0 h0
  rw [← hT]
  clear hp1 hs1 hb1
  generalize hP : w.heap.size = P at *
  have HPP := hid hP
  clear hP
  have HN := hid (rnext_std hS0.out)
  have HT : Hid (nats tx = T) := hT.symm
  clear hT
  go_wp2_with (go_at_call 73; go_must (refine HN.out.mono ?_; rintro e w2 ⟨rfl, hs2, ho2⟩))
  have hs2 := hid hs2
  clear HN hS0 ho2
  go_loopg [] (T.length + 1) (fun gk wr => ∃ (Mx : RM) (fs : List RF), Hid (RStd P T w wr Mx []) ∧ Hid (RAll Mx) ∧ Hid (InvR T (absR Mx fs).a (absR Mx fs).e (absR Mx fs).uses) ∧ Hid (topR T gk (absR Mx fs) = topR T (T.length + 1) (startR T)) ∧ T.length < Mx.p.at_ + gk)
  case atStart => exact ⟨_, [], hs2, hid (fun m hm => by cases hm), by rw [h0.out]; exact startR_inv, by rw [h0.out]; rfl, by omega⟩
  case round =>
    clear hs2
    obtain ⟨Mx, fs, hsx, hall, hinv, hto, hgk⟩ := hrel
    have hlen := hsx.out.len
    have hax : Mx.p.at_ ≤ T.length := by have := hsx.out.wf.ae; have := hsx.out.wf.en; omega
    obtain ⟨g, rfl⟩ : ∃ g, gk = g + 1 := ⟨gk - 1, by omega⟩
    have HTK := hid (tok_std hsx.out)
    have habx := hid (abs_tok hsx.out fs)
    by_cases hE : nats (tokM Mx) = []
    · have hq := nats_nil hE
      have hte := hid (hto.out.symm.trans (topR_end (T := T) (f := g) (s := absR Mx fs) (by rw [habx.out]; exact hE)))
      have HB := hid (fun wx (hx : Hid (RStd P T w wx Mx [])) => bindR_any P T w wx Mx [] hx hall)
      clear hE
      cases hb : bindR (Mx.ss.map (fun m => nats m.b)) (Mx.us.map vOf) with
      | none =>
        rw [hb] at HB
        have hrec := hid (recN_good hTl.out hte.out hb)
        clear hb
        go_wp2_with (first | (go_at_call 74; go_must (refine HTK.out.mono ?_; rintro e w8 ⟨rfl, q8, hw8⟩; have hs8 : Hid (RStd P T w w8 Mx []) := (by rw [hw8]; exact hsx.out.drew q8); clear hw8)) | (go_at_call 76; go_must (refine (HB.out _ hs8).mono ?_; rintro e w9 ⟨rfl, hb9⟩)))
        refine bodyPost_ret (v := .tuple #[.pointer (some ⟨P, 3, none⟩), .int .i64 0, .int .u8 0]) (by simp [results, Fadg.results27, go_sem]) rfl ?_
        rw [HT.out, hrec.out]
        exact ⟨by rw [HPP.out]; exact hb9, _, rfl, by simp⟩
      | some a =>
        rw [hb] at HB
        have hrec := hid (recN_bad hTl.out hte.out hb)
        clear hb
        go_upto_region 9 with (first | (go_at_call 74; go_must (refine HTK.out.mono ?_; rintro e w8 ⟨rfl, q8, hw8⟩; have hs8 : Hid (RStd P T w w8 Mx []) := (by rw [hw8]; exact hsx.out.drew q8); clear hw8)) | (go_at_call 76; go_must (refine (HB.out _ hs8).mono ?_; rintro e w9 ⟨rfl, p', hp9, hc9, hx9, hb9⟩)))
        have y6 := hp9.cells.2.2.2.2.2.2.1
        have y7 := hp9.cells.2.2.2.2.2.2.2
        rw [hc9] at y6
        rw [hx9] at y7
        clear hp9 hc9 hx9
        go_quiet (fail)
        go_wp2_with fail
        refine bodyPost_ret (v := .tuple #[.pointer none, .int .i64 (a : Int), .int .u8 4]) (by simp [results, Fadg.results27, go_sem]) rfl ?_
        rw [HT.out, hrec.out]
        exact ⟨by rw [HPP.out]; exact below_drewN hb9 _, none, rfl, by simp⟩
    · have hq := nats_cons hE
      have HST := hid (fun wx (hx : Hid (RStd P T w wx Mx [])) => strctR_any P T w wx Mx fs [] hx.out hall.out)
      have hkeep := hid (strct_keep hinv.out)
      have hne : Hid (¬ tokR T (absR Mx fs) = []) := by rw [habx.out]; exact hE
      clear hE
      cases hf : strctR T (absR Mx fs) with
      | error x =>
        rw [hf] at HST
        have hkeep2 : Hid (PlR T x) := by rw [hf] at hkeep; exact hkeep.out
        have hrec : Hid (recN T = x) := recN_err hTl.out (hto.out.symm.trans (topR_stop hne.out hf))
        clear hf hkeep
        go_upto_region 7 with (first | (go_at_call 74; go_must (refine HTK.out.mono ?_; rintro e w8 ⟨rfl, q8, hw8⟩; have hs8 : Hid (RStd P T w w8 Mx []) := (by rw [hw8]; exact hsx.out.drew q8); clear hw8)) | (go_at_call 75; go_must (refine (HST.out _ hs8).mono ?_; rintro e w9 ⟨rfl, p', hp9, hc9, hx9, hb9⟩)))
        have y6 := hp9.cells.2.2.2.2.2.2.1
        have y7 := hp9.cells.2.2.2.2.2.2.2
        rw [hc9] at y6
        rw [hx9] at y7
        clear hp9 hc9 hx9
        go_quiet (fail)
        go_wp2_with fail
        refine bodyPost_ret (v := .tuple #[.pointer none, .int .i64 (x.1 : Int), .int .u8 (x.2 : Int)]) (by simp [results, Fadg.results27, go_sem]) rfl ?_
        rw [HT.out, hrec.out]
        exact ⟨by rw [HPP.out]; exact below_drewN hb9 _, none, rfl, by simp [hkeep2.out.2.2]⟩
      | ok r =>
        obtain ⟨u, s9⟩ := r
        rw [hf] at HST
        have hkeep2 : Hid (InvR T s9.a s9.e s9.uses) := by rw [hf] at hkeep; exact hkeep.out
        have hte := hid (hto.out.symm.trans (topR_on (f := g) hne.out hf))
        have hfar := hid (strct_far hinv.out hf)
        clear hf hkeep
        go_wp2_with (first | (go_at_call 74; go_must (refine HTK.out.mono ?_; rintro e w8 ⟨rfl, q8, hw8⟩; have hs8 : Hid (RStd P T w w8 Mx []) := (by rw [hw8]; exact hsx.out.drew q8); clear hw8)) | (go_at_call 75; go_must (refine (HST.out _ hs8).mono ?_; rintro e w9 ⟨rfl, My, fsy, hsy, haby, hally⟩)))
        have hya : Mx.p.at_ + 1 ≤ My.p.at_ := by have h1 := hfar.out; rw [← haby] at h1; exact h1
        go_roundg g
        case measure => omega
        case rel => exact ⟨My, fsy, hsy, hally, by rw [haby]; exact hkeep2, by rw [haby]; exact hte.out.symm, by omega⟩

set_option maxRecDepth 100000 in
theorem parseAtR_long (tx : ByteArray) (w : World) (hsz : 4096 < tx.size) :
    Calls Fadg.prog 27 #[.string tx] w (ParsePost w (recN (nats tx))) := by
  have hsz' : (4096 : Int) < (tx.size : Int) := by omega
  have hrec : Hid (recN (nats tx) = (0, 2)) := by
    show _ = _
    unfold recN; rw [if_pos (by rw [nats_length]; exact hsz)]
  go_enter Fadg.func27, Fadg.ntmps27
  go_wp2
  refine bodyPost_ret (v := .tuple #[.pointer none, .int .i64 0, .int .u8 2]) (by simp [results, Fadg.results27, go_sem]) rfl ?_
  rw [hrec.out]
  exact ⟨Below.refl _ _, none, rfl, by simp⟩
/-- rec.ParseAt, whatever the text. -/
theorem parseAtR_any (tx : ByteArray) (w : World) : Calls Fadg.prog 27 #[.string tx] w (ParsePost w (recN (nats tx))) := by
  by_cases h : tx.size ≤ 4096
  · exact parseAtR_short tx w h
  · exact parseAtR_long tx w (by omega)
set_option maxRecDepth 100000 in
theorem parseR_any (tx : ByteArray) (w : World) : Calls Fadg.prog 28 #[.string tx] w fun e w' => Below w.heap.size w w' ∧ ∃ po : Option Addr, e = .returned (.tuple #[.pointer po, .int .u8 ((recN (nats tx)).2 : Int)]) ∧ (po = none ↔ (recN (nats tx)).2 ≠ 0) := by
  have HP := hid (parseAtR_any tx w)
  go_enter Fadg.func28, Fadg.ntmps28
  go_wp2_with (go_at_call 27; go_must (refine HP.out.mono ?_; rintro e w1 ⟨hb1, po, rfl, hpo⟩))
  refine bodyPost_ret (v := .tuple #[.pointer po, .int .u8 ((recN (nats tx)).2 : Int)]) (by simp [results, Fadg.results28, go_sem]) rfl ?_
  exact ⟨hb1, po, rfl, hpo⟩
end Go.Proofs.Ygcfad
