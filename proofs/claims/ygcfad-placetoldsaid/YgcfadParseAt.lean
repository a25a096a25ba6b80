/-
  THE WALK of schema.ParseAt and schema.Parse.
-/
import Derived.Test.YgcfadBind
import Derived.Test.YgcfadSchemaKeeps2
import Derived.Deep.CutBlock
namespace Go.Proofs.Ygcfad
open Go.RowKit Plain
set_option linter.unusedSimpArgs false
set_option linter.unusedVariables false

def zero24 (tx : ByteArray) : Array Value := #[.string tx, .int .i64 0, .int .i64 0, .int .u8 0, .int .u8 0, .int .i64 0, .slice none 0 0, .int .i64 0, .int .i64 0, .int .i64 0, .int .i64 0, .int .i64 0, .int .i64 0, .int .i64 0, .int .i64 0, .int .i64 0, .int .i64 0, .int .i64 0, .int .i64 0, .int .i64 0, .int .i64 0, .int .i64 0, .int .i64 0, .slice none 0 0]
def p0 (tx : ByteArray) : PS := ⟨tx, 0, 0, 0, 0, 0, .slice none 0 0, .slice none 0 0, List.replicate 16 0⟩
theorem p0_at {P : Nat} {w : World} {tx : ByteArray} (h : w.heap[P]? = some (.cells (zero24 tx) 137 (0, 0))) : PAt P w (p0 tx) := by
  have ho : w.ownsRow 0 137 24 (.slice (some ⟨P, 0, none⟩) 1 1) 1 (zero24 tx).toList := ⟨rfl, .inr ⟨P, 1, zero24 tx, rfl, Nat.zero_le _, h, Nat.le_refl _, by decide, rfl, rfl⟩⟩
  refine ⟨fun j hj => ?_, fun j => ho.frozenAt j⟩
  rw [ho.cellAt j (by omega)]
  match j, hj with
  | 0, _ => rfl
  | 1, _ => rfl
  | 2, _ => rfl
  | 3, _ => rfl
  | 4, _ => rfl
  | 5, _ => rfl
  | 6, _ => rfl
  | 7, _ => rfl
  | 8, _ => rfl
  | 9, _ => rfl
  | 10, _ => rfl
  | 11, _ => rfl
  | 12, _ => rfl
  | 13, _ => rfl
  | 14, _ => rfl
  | 15, _ => rfl
  | 16, _ => rfl
  | 17, _ => rfl
  | 18, _ => rfl
  | 19, _ => rfl
  | 20, _ => rfl
  | 21, _ => rfl
  | 22, _ => rfl
  | 23, _ => rfl
  | j + 24, h => omega
theorem Fadg.len137 : (Fadg.prog.info? 137).map (·.size) = some 24 := by kernel_rfl
/-- The parser's block laid: what is known of it behind. -/
theorem wpList_new_parser {ops : Array Oper} {rest : List Oper} {o : Oper} {a : Act} {w0 w : World} {Q : Exit → Act → World → Prop} (hgd : o.guard = none) (ho : o.op = .store 137 (.tmp 5) (.tmp 7)) (hd : o.dst = none) (tx : ByteArray)
    (hx : a.eval (.tmp 5) = .pointer (some ⟨w0.heap.size, 0, none⟩)) (hy : a.eval (.tmp 7) = .agg (zero24 tx)) (old : Array Value) (hw : w = w0.alloc (.cells old 137)) (hold : old.size = 24)
    (h : ∀ w', PAt w0.heap.size w' (p0 tx) → w'.heap.size = w0.heap.size + 1 → Below w0.heap.size w0 w' → wpList Fadg.prog ops Q rest a w') : wpList Fadg.prog ops Q (o :: rest) a w := by
  subst hw
  have hg : (w0.alloc (.cells old 137)).heap[w0.heap.size]? = some (.cells old 137 (0, 0)) := heap_alloc_new w0 _
  refine wpList_store_row hgd 137 (.tmp 5) (.tmp 7) ho w0.heap.size (zero24 tx) hx hy 137 old hg Fadg.len137 hold (by simp [zero24, Value.oneCell']) ?_
  rw [hd]
  refine h _ (p0_at (setRow_heap _ _ _ _ _ _ hg)) (by simp [World.setRow]) ?_
  have hb := (Below.refl w0.heap.size w0).alloc (Nat.le_refl _) (.cells old 137)
  exact hb.trans ⟨rfl, rfl, rfl, by simp, fun k hk => setRow_other _ _ _ _ (by omega)⟩

/-- What ParseAt leaves. -/
def ParsePost (w : World) (r : Nat × Nat) (e : Ending) (w' : World) : Prop :=
  Below w.heap.size w w' ∧ ∃ po : Option Addr, e = .returned (.tuple #[.pointer po, .int .i64 (r.1 : Int), .int .u8 (r.2 : Int)]) ∧ (po = none ↔ r.2 ≠ 0)
def M0 (tx : ByteArray) : MM := ⟨p0 tx, [], []⟩
theorem std0 {w w1 : World} {tx : ByteArray} (hp : PAt w.heap.size w1 (p0 tx)) (hs : w1.heap.size = w.heap.size + 1) (hb : Below w.heap.size w w1) (hsz : tx.size ≤ 1024) : Std w.heap.size (nats tx) w w1 (M0 tx) := by
  refine ⟨⟨hp, by omega, ⟨fun r hr => ?_, ?_⟩⟩, ⟨Nat.le_refl _, Nat.zero_le _, hsz, fun h => absurd rfl h, Nat.le_refl _, Nat.le_refl _, rfl⟩, rfl, hb⟩
  · simp [rows, M0] at hr
    rcases hr with rfl | rfl <;> exact World.ownsRow_nil _ _ _ _
  · simp [rows, M0, Row.apart, rS, rU, p0, Value.ownBlock]
theorem parseN_short {T : List Nat} {s : St} {q : Q} (h : T.length ≤ 1024) (hs : s = topS T (T.length + 1) (startS T)) (hq : q = bindQ s.names s.uses s.q) : parseN T = if q.c = 0 then (0, 0) else (q.x, q.c) := by
  subst hs hq
  unfold parseN
  rw [if_neg (by omega)]
theorem start_abs (tx : ByteArray) : absM { M0 tx with p := nextP (M0 tx).p } [] = startS (nats tx) := rfl

set_option maxRecDepth 100000 in
set_option maxHeartbeats 4000000 in
theorem parseAt_short (tx : ByteArray) (w : World) (hsz : tx.size ≤ 1024) :
    Calls Fadg.prog 24 #[.string tx] w (ParsePost w (parseN (nats tx))) := by
  have hsz' : ¬ (1024 : Int) < (tx.size : Int) := by omega
  obtain ⟨T, hT⟩ : ∃ T, T = nats tx := ⟨_, rfl⟩
  have hTl : Hid (T.length ≤ 1024) := by show T.length ≤ 1024; rw [hT, nats_length]; exact hsz
  have h0 := hid (start_abs tx)
  go_enter Fadg.func24, Fadg.ntmps24
  go_upto_if 10 with (refine wpList_new_parser (w0 := w) rfl rfl rfl tx rfl rfl _ rfl rfl ?_; intro w1 hp1 hs1 hb1)
  have hS0 := hid (std0 hp1 hs1 hb1 hsz)
  rw [← hT] at hS0 h0
  rw [← hT]
  have HT : Hid (nats tx = T) := hT.symm
  clear hp1 hs1 hb1 hT
  generalize hP : w.heap.size = P at *
  have HPP := hid hP
  clear hP
  have HN := hid (next_std hS0.out)
  go_upto_block 0 with (go_at_call 69; go_must (refine HN.out.mono ?_; rintro e w2 ⟨rfl, hs2, ho2⟩))
  have hs2 := hid hs2
  go_cut [] (fun wx => ∃ (Mx : MM) (fs : List (List Nat × Nat)), Hid (Std P T w wx Mx) ∧ Hid (absM Mx fs = topS T (T.length + 1) (startS T)) ∧ Hid (Mx.p.code = 0 → InU Mx))
  case first =>
    go_wp2_with fail
    go_loopg [] (T.length + 1) (fun gk wr => ∃ (Mx : MM) (fs : List (List Nat × Nat)), Hid (Std P T w wr Mx) ∧ Hid (InU Mx) ∧ Hid (topS T gk (absM Mx fs) = topS T (T.length + 1) (startS T)) ∧ T.length < Mx.p.at_ + gk)
    case atStart => exact ⟨_, [], hs2, hid (fun u hu => by cases hu), by rw [h0.out]; rfl, by omega⟩
    case round =>
      obtain ⟨Mx, fs, hsx, hux, hto, hgk⟩ := hrel
      have hwfx := hid hsx.out.wf
      have hlen := hsx.out.len
      have hax : Mx.p.at_ ≤ T.length := by have := hwfx.out.ae; have := hwfx.out.en; omega
      obtain ⟨gk', rfl⟩ : ∃ gk', gk = gk' + 1 := ⟨gk - 1, by omega⟩
      have x3 := hsx.out.m.p.cells.2.2.2.1
      by_cases ht : Mx.p.tok = 0
      · have ht' : ((Mx.p.tok : Int) == 0) = true := by simp [ht]
        have hte := hid ((topS_end (T := T) (f := gk') (s := absM Mx fs) ht).symm.trans hto.out)
        clear ht
        go_wp2
        go_meet
        exact ⟨Mx, fs, hsx, hte, hid (fun _ => hux.out)⟩
      · have ht' : ((Mx.p.tok : Int) == 0) = false := by simp; omega
        have HST := hid (strct_any P T w wr Mx fs hsx.out hux.out)
        have hfar := hid (fun u s' (h : strctS T (absM Mx fs) = (some u, s')) => strctS_far h hwfx.out.tok)
        cases hf : strctS T (absM Mx fs) with
        | mk o s' =>
          rw [hf] at HST
          cases o with
          | none =>
            have hte := hid ((topS_stop (f := gk') (s := absM Mx fs) ht hf).symm.trans hto.out)
            clear hf ht
            go_wp2_with (go_at_call 71; go_must (refine HST.out.mono ?_; rintro e w10 ⟨My, fsy, hsy, haby, hcy, rfl⟩))
            go_meet
            exact ⟨My, fsy, hsy, haby.trans hte.out, hid (fun h => absurd h hcy)⟩
          | some u =>
            have hte := hid ((topS_on (f := gk') (s := absM Mx fs) ht hf).symm.trans hto.out)
            have hfar2 := hid (hfar.out u s' hf)
            clear hf ht
            go_wp2_with (go_at_call 71; go_must (refine HST.out.mono ?_; rintro e w10 ⟨My, fsy, hsy, haby, rfl, huy⟩))
            have hya : Mx.p.at_ + 1 ≤ My.p.at_ := by have h1 := hfar2.out; have h2 : My.p.at_ = s'.q.a := congrArg (fun s => s.q.a) haby; rw [h2]; exact h1
            go_roundg gk'
            case measure => omega
            case rel => exact ⟨My, fsy, hsy, huy, by rw [haby]; exact hte.out, by omega⟩
  case rest =>
    obtain ⟨Mx, fs, hsx, hab, hux⟩ := hcut
    have HB := hid (bind_any P T w _ Mx hsx hux)
    have hpar := hid (parseN_short (q := bindQ (Mx.ss.map (fun m => nats m.b)) (Mx.us.map uOf) (qOf Mx.p)) hTl.out hab.out rfl)
    go_upto_if 36 with (go_at_call 72; go_must (refine HB.out.mono ?_; rintro e w3 ⟨rfl, My, hsy, hqy⟩; have x4 := hsy.m.p.cells.2.2.2.2.1))
    rw [← hqy] at hpar
    have x5 := hsy.m.p.cells.2.2.2.2.2.1
    by_cases hc : My.p.code = 0
    · have hc' : ((My.p.code : Int) == 0) = true := by simp [hc]
      have hpar2 : Hid (parseN T = (0, 0)) := by show _ = _; rw [hpar.out, if_pos (show (qOf My.p).c = 0 from hc)]
      clear hc
      go_wp2_with fail
      refine bodyPost_ret (v := .tuple #[.pointer (some ⟨P, 6, none⟩), .int .i64 0, .int .u8 0]) (by simp [results, Fadg.results24, go_sem]) rfl ?_
      rw [HT.out, hpar2.out]
      exact ⟨by rw [HPP.out]; exact hsy.bel, _, rfl, by simp⟩
    · have hc' : ((My.p.code : Int) == 0) = false := by simp; omega
      have hpar2 : Hid (parseN T = (My.p.whr, My.p.code)) := by show _ = _; rw [hpar.out, if_neg (show ¬ (qOf My.p).c = 0 from hc)]; rfl
      have HC := hid hc
      clear hc
      go_upto_region 13 with fail
      go_quiet (fail)
      go_wp2_with fail
      refine bodyPost_ret (v := .tuple #[.pointer none, .int .i64 (My.p.whr : Int), .int .u8 (My.p.code : Int)]) (by simp [results, Fadg.results24, go_sem]) rfl ?_
      rw [HT.out, hpar2.out]
      exact ⟨by rw [HPP.out]; exact below_drewN hsy.bel _, none, rfl, by simp [HC.out]⟩

theorem extract_take (tx : ByteArray) (k : Nat) : nats (tx.extract 0 k) = (nats tx).take k := by rw [nats_extract]; simp
theorem p0_tx {P : Nat} {w : World} {tx : ByteArray} (h : PAt P w (p0 tx)) (b : ByteArray) : PAt P (w.setCell ⟨P, 0, none⟩ (.string b)) (p0 b) := by
  refine h.set (by decide) fun j hj => ?_
  unfold pcell p0
  by_cases e : j = 0
  · rw [if_pos e, if_pos e]
  · rw [if_neg e, if_neg e, if_neg e]
theorem parseN_long {T : List Nat} {t : ByteArray} (h : 1024 < T.length) (ht : nats t = T.take 8) : parseN T = if (nextP (p0 t)).at_ = 0 ∧ ((nextP (p0 t)).tok ≠ 97 ∨ nats (t.extract (nextP (p0 t)).at_ (nextP (p0 t)).en) ≠ STRUCT) then (0, 1) else (0, 2) := by
  have e : nextQ (T.take 8) ⟨0, 0, 0, 0, 0⟩ = qOf (nextP (p0 t)) := by rw [qOf_next, ← ht]; rfl
  have e2 : wordQ (T.take 8) (qOf (nextP (p0 t))) = nats (t.extract (nextP (p0 t)).at_ (nextP (p0 t)).en) := by
    rw [← ht, nats_extract]; rfl
  unfold parseN
  rw [if_pos h, e, e2]
  rfl
set_option maxRecDepth 100000 in
set_option maxHeartbeats 4000000 in
theorem parseAt_long (tx : ByteArray) (w : World) (hsz : 1024 < tx.size) :
    Calls Fadg.prog 24 #[.string tx] w (ParsePost w (parseN (nats tx))) := by
  have hsz' : (1024 : Int) < (tx.size : Int) := by omega
  have h8 : (8 : Int) ≤ (tx.size : Int) := by omega
  have hTl : Hid (1024 < (nats tx).length) := by show _ < (nats tx).length; rw [nats_length]; exact hsz
  have hpar := hid (parseN_long hTl.out (extract_take tx 8))
  obtain ⟨t, ht⟩ : ∃ t, t = tx.extract 0 8 := ⟨_, rfl⟩
  rw [← ht] at hpar
  have hts : t.size ≤ 1000000 := by rw [ht, ByteArray.size_extract]; omega
  obtain ⟨p1, hp1⟩ : ∃ p1, p1 = nextP (p0 t) := ⟨_, rfl⟩
  rw [← hp1] at hpar
  have hle : p1.at_ ≤ p1.en ∧ p1.en ≤ p1.tx.size := by
    have := nextP_le (p := p0 t) (Nat.zero_le _)
    rw [hp1]; exact ⟨this.1, this.2.1⟩
  have htx1 : Hid (p1.tx = t) := by rw [hp1]; rfl
  have HN := hid (fun wx (hx : PAt w.heap.size wx (p0 t)) => next_any w.heap.size (p0 t) wx hx hts (Nat.zero_le _))
  rw [← hp1] at HN
  have HW := hid (fun wx (hx : PAt w.heap.size wx p1) => pword_any w.heap.size p1 wx hx hle.1 hle.2)
  have hlit := hid (str_lit (t.extract p1.at_ p1.en) [115, 116, 114, 117, 99, 116])
  rw [htx1.out] at HW
  clear hp1
  go_enter Fadg.func24, Fadg.ntmps24
  go_upto_region 4 with (refine wpList_new_parser (w0 := w) rfl rfl rfl tx rfl rfl _ rfl rfl ?_; intro w1 hpp hs1 hb1; have c0 := hpp.cells.1; have f0 := hpp.2 0)
  rw [← ht]
  have hb2 : Hid (Below w.heap.size w (w1.setCell ⟨w.heap.size, 0, none⟩ (.string t))) := hb1.setCell (Nat.le_refl _) _
  have hp2 := hid (p0_tx hpp t)
  clear ht hpp hs1 hb1 c0 f0
  go_upto_region 5 with (go_at_call 69; go_must (refine (HN.out _ hp2.out).mono ?_; rintro e w2 ⟨rfl, hp3, ho3⟩))
  have hb3 := hid (hb2.out.trans ho3.below)
  have c1 := hp3.cells.2.1
  have c3 := hp3.cells.2.2.2.1
  have HP3 := hid hp3
  clear hp2 hb2 ho3 hp3
  by_cases ha : p1.at_ = 0
  · have ha' : ((p1.at_ : Int) == 0) = true := by simp [ha]
    by_cases hk : p1.tok = 97
    · have hk' : ((p1.tok : Int) == 97) = true := by simp [hk]
      have hkn : ((p1.tok : Int) != 97) = false := by simp [hk]
      cases hw : (nats (t.extract p1.at_ p1.en) == STRUCT) with
      | true =>
        have hq : ((t.extract p1.at_ p1.en).toList == [115, 116, 114, 117, 99, 116]) = true := by rw [hlit.out]; exact hw
        have hpar2 : Hid (parseN (nats tx) = (0, 2)) := by
          show _ = _; rw [hpar.out, if_neg]; rintro ⟨_, h | h⟩
          · exact h hk
          · exact h (by simpa using hw)
        clear ha hk hw hlit hpar
        generalize t.extract p1.at_ p1.en = b at *
        go_wp2_with (go_at_call 70; go_must (refine (HW.out _ HP3.out).mono ?_; rintro e w4 ⟨rfl, q, hq4⟩; subst hq4))
        refine bodyPost_ret (v := .tuple #[.pointer none, .int .i64 0, .int .u8 2]) (by simp [results, Fadg.results24, go_sem]) rfl ?_
        rw [hpar2.out]
        exact ⟨below_drewN hb3.out _, none, rfl, by simp⟩
      | false =>
        have hq : ((t.extract p1.at_ p1.en).toList == [115, 116, 114, 117, 99, 116]) = false := by rw [hlit.out]; exact hw
        have hpar2 : Hid (parseN (nats tx) = (0, 1)) := by
          show _ = _; rw [hpar.out, if_pos ⟨ha, .inr (by simpa using hw)⟩]
        clear ha hk hw hlit hpar
        generalize t.extract p1.at_ p1.en = b at *
        go_wp2_with (go_at_call 70; go_must (refine (HW.out _ HP3.out).mono ?_; rintro e w4 ⟨rfl, q, hq4⟩; subst hq4))
        refine bodyPost_ret (v := .tuple #[.pointer none, .int .i64 0, .int .u8 1]) (by simp [results, Fadg.results24, go_sem]) rfl ?_
        rw [hpar2.out]
        exact ⟨below_drewN hb3.out _, none, rfl, by simp⟩
    · have hk' : ((p1.tok : Int) == 97) = false := by simp; omega
      have hkn : ((p1.tok : Int) != 97) = true := by simp; omega
      have hpar2 : Hid (parseN (nats tx) = (0, 1)) := by
        show _ = _; rw [hpar.out, if_pos ⟨ha, .inl hk⟩]
      clear ha hk hlit hpar
      go_wp2_with fail
      refine bodyPost_ret (v := .tuple #[.pointer none, .int .i64 0, .int .u8 1]) (by simp [results, Fadg.results24, go_sem]) rfl ?_
      rw [hpar2.out]
      exact ⟨hb3.out, none, rfl, by simp⟩
  · have ha' : ((p1.at_ : Int) == 0) = false := by simp; omega
    have hpar2 : Hid (parseN (nats tx) = (0, 2)) := by
      show _ = _; rw [hpar.out, if_neg]; rintro ⟨h, _⟩; exact ha h
    clear ha hlit hpar
    go_wp2_with fail
    refine bodyPost_ret (v := .tuple #[.pointer none, .int .i64 0, .int .u8 2]) (by simp [results, Fadg.results24, go_sem]) rfl ?_
    rw [hpar2.out]
    exact ⟨hb3.out, none, rfl, by simp⟩
/-- schema.ParseAt, whatever the text. -/
theorem parseAt_any (tx : ByteArray) (w : World) : Calls Fadg.prog 24 #[.string tx] w (ParsePost w (parseN (nats tx))) := by
  by_cases h : tx.size ≤ 1024
  · exact parseAt_short tx w h
  · exact parseAt_long tx w (by omega)
set_option maxRecDepth 100000 in
theorem parse_any (tx : ByteArray) (w : World) : Calls Fadg.prog 25 #[.string tx] w fun e w' => Below w.heap.size w w' ∧ ∃ po : Option Addr, e = .returned (.tuple #[.pointer po, .int .u8 ((parseN (nats tx)).2 : Int)]) ∧ (po = none ↔ (parseN (nats tx)).2 ≠ 0) := by
  have HP := hid (parseAt_any tx w)
  go_enter Fadg.func25, Fadg.ntmps25
  go_wp2_with (go_at_call 24; go_must (refine HP.out.mono ?_; rintro e w1 ⟨hb1, po, rfl, hpo⟩))
  refine bodyPost_ret (v := .tuple #[.pointer po, .int .u8 ((parseN (nats tx)).2 : Int)]) (by simp [results, Fadg.results25, go_sem]) rfl ?_
  exact ⟨hb1, po, rfl, hpo⟩
end Go.Proofs.Ygcfad
