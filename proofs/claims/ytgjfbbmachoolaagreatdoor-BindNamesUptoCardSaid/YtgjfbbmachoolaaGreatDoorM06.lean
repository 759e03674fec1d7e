/-
  The parser's leaf, every way. Conditions as for its arms. slices.Repeat of one step. Conditions: the step lies there; the count is no great number. The parser's expr: what stands ahead of its parts. Conditions: the walk lies there; its steps' row is its own; the package-level variables are laid; the tokens' texts are no great ones. What expr leaves: laws of exprR. No condition. The parser's expr, walked: what it reads in brackets. Conditions: as in ExS. The parser's expr in brackets, walked. Conditions: as in ExS; what it does of shorter texts.
-/
import Derived.Test.YtgjfbbmachoolaaGreatDoorM05
import Derived.Laws.CopyRow
import Derived.OwnWalk
import Derived.BigRegion
import Derived.Deep.RegionWith
import Derived.Deep.CutRange
namespace Go.Proofs.YtgjfbbmachoolaaGreatDoor.lx
open Go.RowKit Go.Maps

set_option maxHeartbeats 4000000 in
set_option maxRecDepth 100000 in
theorem leaf_other {A B : Nat} {l : List Tok} {fin op : Int} {sv : Value} {st : List Stp} {w : World} (h : AtW A l fin op sv w) (hAB : A < B) (hB : B ≤ w.heap.size) (hown : w.ownsRow B 50 3 sv st.length (stpCells st)) (hG : PGlob w)
  (h3 : (tokAt l fin).k ≠ 3) (h4 : (tokAt l fin).k ≠ 4) (h5 : (tokAt l fin).k ≠ 5) :
  Calls Tryz.prog 129 #[.pointer (some ⟨A, 0, none⟩)] w fun e w' => e = .panicked [flt 13 (tokAt l fin).a] ∧ KB A B w w' := by
 have hmm := @run_makeMap Tryz.prog
 obtain ⟨w1, w2, w3, r1, r2, r3, ho, hb4⟩ := const_laid w
 have hL : Leafed A B l fin op sv st w w3 := ⟨h.below hb4, hb4, own_bel hown hb4, Nat.le_trans hB hb4.size, hAB, hG.self hb4⟩
 have hp := wpeek_any hL.at_
 have HL := Lib.hid fun w5 (hb : Below w3.heap.size w3 w5) => hL.next hb
 have HBW := Lib.hid hB
 have HM := Lib.hid fun w2 is (hi : is = false) (H : AtW A l fin op sv w2) => must_no (why := 13) (is := is) hi H
 clear h hown hL hG ho
 generalize tokAt l fin = t at hp h3 h4 h5 HM ⊢
 obtain ⟨tk, ts, tn, ta⟩ := t
 unfold Tok.v at hp
 simp only at h3 h4 h5 hp
 have e3 : (tk == 3) = false := by simp [h3]
 have e4 : (tk == 4) = false := by simp [h4]
 have e5 : (tk == 5) = false := by simp [h5]
 go_enter Tryz.func129, Tryz.ntmps129
 go_wp2_with (go_at_call 105; refine hp.mono ?_; rintro e w5 ⟨rfl, hb5⟩; refine Hid.out ?_)
 refine Lib.hid ?_
 have hl := HL.out w5 hb5
 have hlt5 : A < w5.heap.size := hl.at_.lt
 have HLT := Lib.hid (hl.tk (.cells #[.int .u8 tk, .string ts, .int .i64 tn, .int .i64 ta] 144))
 clear hp hb5 HL hl r1 r2 r3 hmm
 go_wp2_with (go_at_call 92; refine (HM.out _ _ (by first | rfl | simp) HLT.out.at_).mono ?_; rintro e w7 ⟨rfl, hb7⟩; refine Hid.out ?_)
 refine Lib.hid ?_
 exact ⟨rfl, rfl, KB.of_below (below_self HLT.out.below hb7) HBW.out⟩

set_option maxHeartbeats 4000000 in
set_option maxRecDepth 100000 in
theorem leaf_nocol {A B : Nat} {t : Tok} {rest : List Tok} {fin op : Int} {sv : Value} {st : List Stp} {w : World} (h : AtW A (t :: rest) fin op sv w) (hAB : A < B) (hB : B ≤ w.heap.size) (hown : w.ownsRow B 50 3 sv st.length (stpCells st)) (hG : PGlob w)
  (hk : t.k = 3) (hc : constK t.s = none) (hsz : t.s.size < 4294967281) (hcol : columnR t.s = false) :
  Calls Tryz.prog 129 #[.pointer (some ⟨A, 0, none⟩)] w fun e w' => e = .panicked [flt 13 t.a] ∧ KB A B w w' := by
 have hmm := @run_makeMap Tryz.prog
 obtain ⟨w1, w2, w3, r1, r2, r3, ho, hb4⟩ := const_laid w
 have hL : Leafed A B (t :: rest) fin op sv st w w3 := ⟨h.below hb4, hb4, own_bel hown hb4, Nat.le_trans hB hb4.size, hAB, hG.self hb4⟩
 have hp := wpeek_any hL.at_
 rw [show tokAt (t :: rest) fin = t from rfl] at hp
 have HL := Lib.hid fun w5 (hb : Below w3.heap.size w3 w5) => hL.next hb
 have HBW := Lib.hid hB
 have HM := Lib.hid fun w2 is (hi : is = false) (H : AtW A (t :: rest) fin op sv w2) => must_no (why := 13) (is := is) hi H
 rw [show tokAt (t :: rest) fin = t from rfl] at HM
 clear h hown hL hG
 obtain ⟨tk, ts, tn, ta⟩ := t
 unfold Tok.v at hp
 have HSZ : Hid (ts.size ≤ maxLen) := Lib.hid (by simp only at hsz; unfold maxLen; omega)
 have HSZ2 : Hid (ts.size < 4294967281) := Lib.hid hsz
 have HHAS : Hid (Maps.has constD (.string ts.data.toList) = false) := Lib.hid ((constD_has ts).trans (by simp only at hc; rw [hc]; rfl))
 have HCOL : Hid (columnR ts = false) := Lib.hid hcol
 have HCO : Hid (∀ w, PGlob w → Calls Tryz.prog 42 #[.string ts] w fun e w' => e = .returned (.bool false) ∧ Below w.heap.size w w') := Lib.hid (fun w hG => HCOL.out ▸ column_any ts w hG HSZ2.out)
 simp only at hk hp HM ⊢
 subst hk
 clear hc hsz hcol HCOL
 go_enter Tryz.func129, Tryz.ntmps129
 go_wp2_with (go_at_call 105; refine hp.mono ?_; rintro e w5 ⟨rfl, hb5⟩; refine Hid.out ?_)
 refine Lib.hid ?_
 have hl := HL.out w5 hb5
 have hlt5 : A < w5.heap.size := hl.at_.lt
 have ho5 := ho.kept (gb_of_below hb5 none) (by simp)
 have HLF := Lib.hid hl
 clear hp hb5 HL hl r1 r2 r3 hmm
 have ho6 := ho5.kept (gb_of_below ((Below.refl _ w5).alloc (Nat.le_refl _) (.cells #[.int .u8 3, .string ts, .int .i64 tn, .int .i64 ta] 144)) none) (by simp)
 go_wp2_with (at_lookup; refine wpList_lookup_own_ok_int _ rfl _ _ 214 rfl 9 48 .u8 law_str Tryz.underlying214 Tryz.underlying48 (zero_sk _) w.heap.size 3 _ rfl ho6 _ _ rfl (Go.WideMaps.keyOf_string_mk Tryz.underlying9 HSZ.out) ?_; intro c hat hwc; rw [HHAS.out]; clear hat hwc ho ho5 ho6; refine Hid.out ?_)
 refine Lib.hid ?_
 have HGL := Lib.hid (HLF.out.tk (.cells #[.int .u8 3, .string ts, .int .i64 tn, .int .i64 ta] 144))
 go_wp2_with (go_at_call 42; refine (HCO.out _ HGL.out.glob).mono ?_; rintro e w6 ⟨rfl, hb6⟩; refine Hid.out ?_)
 refine Lib.hid ?_
 have HL6 := Lib.hid (HGL.out.next hb6)
 clear hb6
 go_wp2_with (go_at_call 92; refine (HM.out _ _ (by first | rfl | simp) HL6.out.at_).mono ?_; rintro e w7 ⟨rfl, hb7⟩; refine Hid.out ?_)
 refine Lib.hid ?_
 exact ⟨rfl, rfl, KB.of_below (below_self HL6.out.below hb7) HBW.out⟩

theorem leaf_any {A B : Nat} {l : List Tok} {fin op : Int} {sv : Value} {st : List Stp} {w : World} (h : AtW A l fin op sv w) (hAB : A < B) (hB : B ≤ w.heap.size) (hown : w.ownsRow B 50 3 sv st.length (stpCells st)) (hst : st.length ≤ 64) (hG : PGlob w)
  (hs : ∀ t ∈ l, t.s.size < 4294967281) :
  Calls Tryz.prog 129 #[.pointer (some ⟨A, 0, none⟩)] w fun e w' => ExprP A B fin w (leafR fin l op st) e w' := by
 by_cases h4 : (tokAt l fin).k = 4
 ·
  obtain ⟨t, rest, rfl⟩ := tok_cons h4 (by decide)
  have e : leafR fin (t :: rest) op st = (putR fin (t :: rest) st [⟨4, ⟨#[]⟩, t.n⟩]).then fun st' => .ok (rest, op, st') := by
   have e : leafS t = some ⟨4, ⟨#[]⟩, t.n⟩ := by unfold leafS; rw [if_pos (show t.k = 4 from h4)]
   unfold leafR
   rw [show tokAt (t :: rest) fin = t from rfl, e]
   rfl
  rw [e]
  exact leaf_int h hAB hB hown hst hG h4
 by_cases h5 : (tokAt l fin).k = 5
 ·
  obtain ⟨t, rest, rfl⟩ := tok_cons h5 (by decide)
  have e : leafR fin (t :: rest) op st = (putR fin (t :: rest) st [⟨5, t.s, 0⟩]).then fun st' => .ok (rest, op, st') := by
   have e : leafS t = some ⟨5, t.s, 0⟩ := by unfold leafS; rw [if_neg (show ¬ t.k = 4 from h4), if_pos (show t.k = 5 from h5)]
   unfold leafR
   rw [show tokAt (t :: rest) fin = t from rfl, e]
   rfl
  rw [e]
  exact leaf_text h hAB hB hown hst hG h5
 by_cases h3 : (tokAt l fin).k = 3
 ·
  obtain ⟨t, rest, rfl⟩ := tok_cons h3 (by decide)
  have h3' : t.k = 3 := h3
  have hst' := hs t List.mem_cons_self
  cases hc : constK t.s with
  | some k =>
   have e : leafR fin (t :: rest) op st = (putR fin (t :: rest) st [⟨k, ⟨#[]⟩, 0⟩]).then fun st' => .ok (rest, op, st') := by
    unfold leafR
    rw [show tokAt (t :: rest) fin = t from rfl, leafS_const h3' hc]
    rfl
   rw [e]
   exact leaf_const h hAB hB hown hst hG h3' hc hst'
  | none =>
   cases hcol : columnR t.s with
   | true =>
    have e : leafR fin (t :: rest) op st = (putR fin (t :: rest) st [⟨6, t.s, 0⟩]).then fun st' => .ok (rest, op, st') := by
     unfold leafR
     rw [show tokAt (t :: rest) fin = t from rfl, leafS_atom h3' hc, hcol]
     rfl
    rw [e]
    exact leaf_col h hAB hB hown hst hG h3' hc hst' hcol
   | false =>
    have e : leafR fin (t :: rest) op st = .bad 13 t.a := by
     unfold leafR
     rw [show tokAt (t :: rest) fin = t from rfl, leafS_atom h3' hc, hcol]
     rfl
    rw [e]
    exact leaf_nocol h hAB hB hown hG h3' hc hst' hcol
 ·
  have e : leafR fin l op st = .bad 13 (tokAt l fin).a := by
   have e : leafS (tokAt l fin) = none := by unfold leafS; rw [if_neg h4, if_neg h5, if_neg h3]
   unfold leafR
   rw [e]
  rw [e]
  exact leaf_other h hAB hB hown hG h3 h4 h5
end Go.Proofs.YtgjfbbmachoolaaGreatDoor.lx
namespace Go.Proofs.YtgjfbbmachoolaaGreatDoor.lx
open Go.RowKit

theorem run_copy_rows {P : Program} (w : World) (dT sT ty elem : TypeId) (k n : Nat) (g o dLen dCap : Nat) (a : Addr) (sLen sCap : Nat) (cur : Array Value) (t : TypeId) (cs : List Value)
  (hu : P.underlying dT = some (.slice elem)) (hs : (P.info? elem).map (·.size) = some k)
  (hg : w.heap[g]? = some (.cells cur t (0, 0))) (hn : n = Nat.min sLen dLen) (hcs : cs.length = n * k)
  (hsrc : ∀ j v, cs[j]? = some v → w.cell? (a.add j) = some v) (hfit : o + cs.length ≤ cur.size) (h1 : ∀ v ∈ cs, v.oneCell' = true) :
  (Builtin.copy_ #[dT, sT] ty #[.slice (some ⟨g, o, none⟩) dLen dCap, .slice (some a) sLen sCap]).run P w =
   .ok (goInt n) (w.setRow g (cur.toList.take o ++ cs ++ cur.toList.drop (o + cs.length)).toArray) := by
 have hl := run_loadCells_list (P := P) w a cs hsrc
 have hst := run_storeCells_at P g o t cs 0 cur w hg (by simpa using hfit) h1
 rw [hcs] at hl
 cases hq : P.info? elem with
 | none => simp [hq] at hs
 | some i =>
  have hi : i.size = k := by simpa [hq] using hs
  simp [Builtin.copy_, run_underlying hu, Builtin.lenOf, Builtin.firstCells, sizeOf, typeInfo, hq, hi, ← hn, hl, hst]

def RepAt (g n m : Nat) (x : Stp) (w : World) : Prop := ∃ cur : Array Value, w.heap[g]? = some (.cells cur 50 (0, 0)) ∧ cur.size = n * 3 ∧ cur.toList.take (m * 3) = stpCells (List.replicate m x)
theorem RepAt.cell {g n m : Nat} {x : Stp} {w : World} (h : RepAt g n m x w) (j : Nat) (v : Value) (hj : (stpCells (List.replicate m x))[j]? = some v) : w.cell? ⟨g, j, none⟩ = some v := by
 obtain ⟨cur, hg, hs, ht⟩ := h
 rw [Lib.cell_of_heap hg]
 rw [← ht, List.getElem?_take] at hj
 split at hj
 ·
  simpa using hj
 ·
  cases hj
theorem infoSz : (Tryz.prog.info? 50).map (·.size) = some 3 := by kernel_rfl
theorem rep_prefix (x : Stp) {c m : Nat} (h : c ≤ m) {j : Nat} {v : Value} (hj : (stpCells (List.replicate c x))[j]? = some v) : (stpCells (List.replicate m x))[j]? = some v := by
 rw [show List.replicate m x = List.replicate c x ++ List.replicate (m - c) x by rw [List.replicate_append_replicate]; congr 1; omega, stpCells_append]
 rw [List.getElem?_append_left (List.getElem?_eq_some_iff.1 hj).1]
 exact hj
/-- a copy behind what is there -/
theorem rep_copy {g n m c sLen sCap : Nat} {a : Addr} {x : Stp} {w : World} (h : RepAt g n m x w) (hm : m + c ≤ n) (hc : c = Nat.min sLen (n - m)) (hsrc : ∀ j v, (stpCells (List.replicate c x))[j]? = some v → w.cell? (a.add j) = some v) :
  ∃ w', (∀ ty, (Builtin.copy_ #[23, 23] ty #[.slice (some ⟨g, m * 3, none⟩) (n - m) (n - m), .slice (some a) sLen sCap]).run Tryz.prog w = .ok (goInt c) w') ∧ RepAt g n (m + c) x w' ∧ Below g w w' := by
 obtain ⟨cur, hg, hs, ht⟩ := h
 have hl := stpCells_length (List.replicate c x)
 rw [List.length_replicate] at hl
 refine ⟨_, fun ty => run_copy_rows w _ _ ty 50 3 c g (m * 3) (n - m) (n - m) a sLen sCap cur 50 (stpCells (List.replicate c x)) Tryz.underlying23 infoSz hg hc hl hsrc (by omega) (stpCells_one _), ?_, ?_⟩
 ·
  refine ⟨_, setRow_heap w g cur _ 50 _ hg, ?_, ?_⟩
  ·
   simp [hl]; omega
  ·
   have h1 : (cur.toList.take (m * 3)).length = m * 3 := by simp; omega
   rw [show (List.take (m * 3) cur.toList ++ stpCells (List.replicate c x) ++ List.drop (m * 3 + (stpCells (List.replicate c x)).length) cur.toList).toArray.toList = List.take (m * 3) cur.toList ++ stpCells (List.replicate c x) ++ List.drop (m * 3 + (stpCells (List.replicate c x)).length) cur.toList from rfl]
   rw [List.take_append_of_le_length (by rw [List.length_append, h1, hl]; omega), List.take_of_length_le (by rw [List.length_append, h1, hl]; omega), ht, ← stpCells_append, List.replicate_append_replicate]
 ·
  refine ⟨rfl, rfl, rfl, by simp [World.setRow], fun k hk => ?_⟩
  simp [World.setRow, Array.getElem?_modify, show ¬ g = k by omega]

set_option maxHeartbeats 1000000 in
set_option maxRecDepth 100000 in
theorem repeat_any (bx : Nat) (x : Stp) (n : Nat) (w : World) (hn1 : 1 ≤ n) (hn : n ≤ 1099511627776) (hc : ∀ (j : Nat) v, x.cells[j]? = some v → w.cell? ⟨bx, j, none⟩ = some v) :
  Calls Tryz.prog 133 #[.slice (some ⟨bx, 0, none⟩) 1 1, .int .i64 n] w fun e w' => ∃ g, e = .returned (.slice (some ⟨g, 0, none⟩) n n) ∧ (∀ (j : Nat) u, (stpCells (List.replicate n x))[j]? = some u → w'.cell? ⟨g, 0 + j, none⟩ = some u) ∧ Below w.heap.size w w' := by
 have hmul := Tryz.bits_Mul 1 n (by decide) (by omega)
 rw [show 1 * n / 18446744073709551616 = 0 by omega, show 1 * n % 18446744073709551616 = n by omega] at hmul
 have hmul := fun w => (hmul w).mono fun e w' ⟨h1, h2⟩ => (⟨h1, h2.symm⟩ : e = _ ∧ w = w')
 have hnp : ¬ (n : Int) < 0 := by omega
 have hnm : ¬ (9223372036854775807 : Int) < (n : Int) := by omega
 obtain ⟨i0, hi0, hz0, hz1, hz2⟩ := info_parts infoS
 go_enter Tryz.func133, Tryz.ntmps133
 go_wp2_with (go_at_call 151; refine (hmul _).mono ?_; rintro e w2 ⟨rfl, rfl⟩; refine Hid.out ?_)
 refine Lib.hid ?_
 go_wp2_with (at_make; refine wpList_make_full _ rfl _ _ 23 rfl w.heap.size 50 i0 _ 3 Tryz.underlying23 hi0 hz0 hz1 .i64 .i64 _ _ n rfl rfl rfl rfl (by rw [hz2]; omega) (by unfold maxLen; omega) (Nat.le_refl _) ?_; intro w3 hown hg3; refine Hid.out ?_)
 refine Lib.hid ?_
 have hR0 : RepAt w.heap.size n 0 x w3 := by
  rcases hown.2 with ⟨hv, _⟩ | ⟨g, cap, cur, hv, hb, hgc, hcc, hmx, hs, ht⟩
  ·
   cases hv
  ·
   injection hv with h1 h2 h3
   injection h1 with h1
   injection h1 with h1
   subst h1
   subst h3
   exact ⟨cur, hgc, hs, by simp [stpCells]⟩
 have hb3 : Below w.heap.size w w3 := ⟨hg3.os, hg3.tape, hg3.output, hg3.size, fun k hk => hg3.block k hk (by simp)⟩
 obtain ⟨w4, r4, hR4, hb4⟩ := rep_copy (sCap := 1) hR0 (show 0 + 1 ≤ n by omega) (show 1 = Nat.min 1 (n - 0) by show 1 = min 1 (n - 0); omega) (a := ⟨bx, 0, none⟩) (fun j v hj => by
  have : x.cells[j]? = some v := by simpa [stpCells] using hj
  have h0 := keep_cellP hb3 (hc j v this)
  unfold Addr.add
  by_cases hj0 : j = 0
  ·
   subst hj0; simpa using h0
  ·
   simpa [hj0] using h0)
 simp only [Nat.zero_mul, Nat.sub_zero, Nat.zero_add] at r4 hR4
 have hb04 : Below w.heap.size w w4 := hb3.trans hb4
 clear hown hg3 hR0 hb3 hb4 hmul hi0 hz0 hz1 hz2
 unfold goInt at r4
 go_wp2_with fail
 go_loopw [8] (fun v wr => ∃ m : Nat, v = .int .i64 m ∧ 1 ≤ m ∧ m ≤ n ∧ RepAt w.heap.size n m x wr ∧ Below w.heap.size w wr) (fun v _ => n - (intOf v).toNat)
 case atStart => exact ⟨1, rfl, Nat.le_refl _, hn1, hR4, hb04⟩
 case round =>
  clear hR4 hb04 r4
  obtain ⟨m, rfl, hm1, hmn, hR, hb⟩ := hrel
  by_cases hlt : m < n
  ·
   obtain ⟨c, hcd⟩ : ∃ c, Nat.min m (n - m) = c := ⟨_, rfl⟩
   have hc2 : c ≤ m ∧ c ≤ n - m ∧ 1 ≤ c := by
    have : min m (n - m) = c := hcd
    omega
   have hRd : RepAt w.heap.size n m x wr.drew := hR
   have hnm2 : ¬ n = m := by omega
   obtain ⟨w5, r5, hR5, hb5⟩ := rep_copy (sCap := n) hRd (show m + c ≤ n by omega) hcd.symm (a := ⟨w.heap.size, 0, none⟩) (fun j v hj => by
    have h0 := hRd.cell j v (rep_prefix x hc2.1 hj)
    unfold Addr.add
    by_cases hj0 : j = 0
    ·
     subst hj0; simpa using h0
    ·
     simpa [hj0] using h0)
   unfold goInt at r5
   have hbd : Below w.heap.size w wr.drew := ⟨hb.os, hb.tape, hb.output, hb.size, hb.block⟩
   have hbz := hbd.trans hb5
   clear hcd hR hRd hb hbd hb5
   go_wp2_with fail
   go_region
   all_goals go_wp2_with fail
   exact ⟨⟨m + c, by go_num, by omega, by omega, hR5, hbz⟩, by simp only [intOf]; omega⟩
  ·
   obtain rfl : m = n := by omega
   go_wp2_with fail
   go_ret
   exact ⟨_, rfl, fun j u hj => by rw [Nat.zero_add]; exact hR.cell j u hj, hb⟩
end Go.Proofs.YtgjfbbmachoolaaGreatDoor.lx
namespace Go.Proofs.YtgjfbbmachoolaaGreatDoor.lx
open Go.RowKit

set_option maxRecDepth 100000 in
theorem opfn_any (s : ByteArray) (w : World) (hG : PGlob w) :
  Calls Tryz.prog 130 #[.string s] w fun e w' => e = .returned (.bool (isOp s)) ∧ Below w.heap.size w w' := by
 have hop := operators_any w hG
 have hcn := fun w2 (hS : SBlk w.heap.size opsL w2) => Tryz.slices_Contains_string w.heap.size 0 15 15 opsL s w2 (by decide) (by decide) hS
 rw [show opsL.take 15 = opsL from rfl] at hcn
 have HC := Lib.hid fun w2 hS => (hcn w2 hS).mono fun e w' ⟨h1, h2⟩ => (⟨h1, h2.symm⟩ : e = _ ∧ w2 = w')
 clear hcn
 go_enter Tryz.func130, Tryz.ntmps130
 go_wp2_with (go_at_call 131; refine hop.mono ?_; rintro e w2 ⟨rfl, hS, hb2⟩; refine Hid.out ?_)
 refine Lib.hid ?_
 go_wp2_with (go_at_call 64; refine (HC.out _ hS).mono ?_; rintro e w3 ⟨rfl, rfl⟩; refine Hid.out ?_)
 refine Lib.hid ?_
 go_wp2_with fail
 go_ret
 exact ⟨rfl, hb2⟩
theorem lets_op : Lets 130 isOp := ⟨enters_of Tryz.func130 (by kernel_rfl) rfl, fun s w hG _ => opfn_any s w hG⟩

theorem idx_range : ∀ (zs : List ByteArray) (x : ByteArray) (k : Nat), Lib.idxFromS zs x k = -1 ∨ ((k : Int) ≤ Lib.idxFromS zs x k ∧ Lib.idxFromS zs x k < k + zs.length) := by
 intro zs
 induction zs with
 | nil => intro x k; left; rfl
 | cons z zs ih =>
  intro x k
  unfold Lib.idxFromS
  split
  ·
   right; simp; omega
  ·
   rcases ih x (k + 1) with h | h
   ·
    left; exact h
   ·
    right; simp only [List.length_cons]; omega
theorem opK_range {s : ByteArray} (h : isOp s = true) : 7 ≤ opK s ∧ opK s ≤ 21 := by
 have h0 : 0 ≤ Lib.idxOfS opsL s := of_decide_eq_true h
 have h1 := idx_range opsL s 0
 have h2 : opsL.length = 15 := rfl
 unfold opK
 unfold Lib.idxOfS at h0 ⊢
 omega
theorem takeR_ok {fin k : Int} {p : ByteArray → Bool} {l l' : List Tok} {op op' : Int} (h : takeR fin k p l op = .ok (l', op')) (hk : k ≠ 0) : l' = l.tail ∧ (tokAt l fin).k = k ∧ p (tokAt l fin).s = true ∧ l'.length + 1 = l.length ∧ op - 1 ≤ op' ∧ op' ≤ op + 1 ∧ (k = 1 → op < 8) := by
 unfold takeR at h
 split at h
 ·
  cases h
 rename_i h1
 split at h
 ·
  cases h
 rename_i h2
 split at h
 ·
  cases h
 rename_i h3
 injection h with h
 injection h with h4 h5
 have h2' := Classical.not_not.1 h2
 obtain ⟨t, rest, rfl⟩ := tok_cons h2' hk
 refine ⟨h4.symm, h2', by simpa using h3, by rw [← h4]; simp, ?_, ?_, ?_⟩
 ·
  rw [← h5]; split <;> (try split) <;> omega
 ·
  rw [← h5]; split <;> (try split) <;> omega
 ·
  intro hk1
  by_cases h8 : op < 8
  ·
   exact h8
  ·
   exact absurd ⟨h2'.trans hk1, h8⟩ h1
theorem putR_ok {fin : Int} {l : List Tok} {st new st' : List Stp} (h : putR fin l st new = .ok st') : st'.length ≤ 64 := by
 unfold putR at h
 split at h
 ·
  injection h with h; rw [← h, List.length_append]; omega
 ·
  cases h
end Go.Proofs.YtgjfbbmachoolaaGreatDoor.lx
namespace Go.Proofs.YtgjfbbmachoolaaGreatDoor.lx
open Go.RowKit

theorem takeR_op {fin k : Int} {p : ByteArray → Bool} {l l' : List Tok} {op op' : Int} (h : takeR fin k p l op = .ok (l', op')) : op' = if k = 1 then op + 1 else if k = 2 then op - 1 else op := by
 unfold takeR at h
 by_cases c1 : (tokAt l fin).k = 1 ∧ ¬ op < 8
 ·
  rw [if_pos c1] at h; cases h
 rw [if_neg c1] at h
 by_cases c2 : (tokAt l fin).k ≠ k
 ·
  rw [if_pos c2] at h; cases h
 rw [if_neg c2] at h
 by_cases c3 : p (tokAt l fin).s = false
 ·
  rw [if_pos c3] at h; cases h
 rw [if_neg c3] at h
 injection h with h
 injection h with _ h
 exact h.symm
/-- what a reading of an expression leaves -/
def Leaves' (l : List Tok) (op : Int) (s : PS) : Prop := s.1 <:+ l ∧ s.1.length < l.length ∧ s.2.2.length ≤ 64 ∧ s.2.1 = op
theorem leafR_ok {fin : Int} {l : List Tok} {op : Int} {st : List Stp} {s : PS} (h : leafR fin l op st = .ok s) : Leaves' l op s := by
 unfold leafR at h
 cases l with
 | nil => cases h
 | cons t rest =>
  revert h
  cases hl : leafS (tokAt (t :: rest) fin) with
  | none => intro h; cases h
  | some x =>
   cases hp : putR fin (t :: rest) st [x] with
   | bad y p => simp only [hp]; intro h; cases h
   | ok st' =>
    simp only [hp]
    intro h
    injection h with h
    subst h
    exact ⟨List.suffix_cons _ _, by simp, putR_ok hp, rfl⟩
theorem partsR_ok {f : List Tok → Int → List Stp → Res PS} {fin k : Int} (hf : ∀ l op st s, f l op st = .ok s → Leaves' l op s) : ∀ (m parts : Nat) (l : List Tok) (op : Int) (st : List Stp) (z : Nat × PS), (st.length ≤ 64 ∨ parts = 0) → partsR f fin k m parts l op st = .ok z →
  z.2.1 <:+ l ∧ z.2.2.2.length ≤ 64 ∧ z.2.2.1 = op ∧ z.1 + z.2.1.length ≤ parts + l.length ∧ 1 ≤ z.1 ∧ (10 < k → 2 ≤ z.1) := by
 intro m
 induction m with
 | zero => intro parts l op st z _ h; cases h
 | succ m ih =>
  intro parts l op st z hst h
  unfold partsR at h
  split at h
  ·
   cases hfl : f l op st with
   | bad y p => rw [hfl] at h; cases h
   | ok s =>
    rw [hfl] at h
    obtain ⟨h1, h2, h3, h4⟩ := hf _ _ _ _ hfl
    obtain ⟨a, b, c, d, e, g⟩ := ih (parts + 1) s.1 s.2.1 s.2.2 z (.inl h3) h
    exact ⟨a.trans h1, b, c.trans h4, by omega, e, g⟩
  ·
   rename_i hc
   injection h with h
   subst h
   refine ⟨List.suffix_refl _, hst.resolve_right (by omega), rfl, Nat.le_refl _, ?_, ?_⟩ <;> simp only <;> omega
theorem endR_ok {fin k : Int} {parts : Nat} {l : List Tok} {op : Int} {st : List Stp} {s : PS} (h : endR' fin k parts l op st = .ok s) : s.1 <:+ l ∧ s.1.length < l.length ∧ s.2.2.length ≤ 64 ∧ s.2.1 = op - 1 := by
 unfold endR' at h
 split at h
 ·
  cases h
 ·
  cases hp : putR fin l st (List.replicate (if 20 ≤ k then parts - 1 else 1) ⟨k, ⟨#[]⟩, 0⟩) with
  | bad y p => rw [hp] at h; cases h
  | ok st' =>
   rw [hp] at h
   simp only [Res.then] at h
   cases ht : takeR fin 2 (fun _ => true) l op with
   | bad y p => rw [ht] at h; cases h
   | ok x =>
    rw [ht] at h
    injection h with h
    subst h
    obtain ⟨l', op'⟩ := x
    obtain ⟨h1, h2, h3, h4, _⟩ := takeR_ok ht (by decide)
    refine ⟨by simp only; rw [h1]; exact List.tail_suffix _, by simp only; omega, putR_ok hp, ?_⟩
    exact takeR_op ht
theorem exprR_ok (fin : Int) : ∀ (n : Nat) (l : List Tok) (op : Int) (st : List Stp) (s : PS), exprR fin n l op st = .ok s → Leaves' l op s := by
 intro n
 induction n with
 | zero => intro l op st s h; cases h
 | succ n ih =>
  intro l op st s h
  unfold exprR at h
  split at h
  ·
   exact leafR_ok h
  ·
   cases h1 : takeR fin 1 (fun _ => true) l op with
   | bad y p => rw [h1] at h; cases h
   | ok x =>
    rw [h1] at h
    simp only [Res.then] at h
    cases h2 : takeR fin 3 isOp x.1 x.2 with
    | bad y p => rw [h2] at h; cases h
    | ok y =>
     rw [h2] at h
     simp only at h
     cases h3 : partsR (exprR fin n) fin (opK (tokAt x.1 fin).s) (y.1.length + 2) 0 y.1 y.2 st with
     | bad q p => rw [h3] at h; cases h
     | ok z =>
      rw [h3] at h
      simp only at h
      obtain ⟨l1, op1⟩ := x
      obtain ⟨l2, op2⟩ := y
      obtain ⟨a1, _, _, a2, _⟩ := takeR_ok h1 (by decide)
      obtain ⟨b1, _, _, b2, _⟩ := takeR_ok h2 (by decide)
      have hop1 : op1 = op + 1 := takeR_op h1
      have hop2 : op2 = op1 := takeR_op h2
      obtain ⟨c1, c2, c3, c4, _, _⟩ := partsR_ok ih _ _ _ _ _ _ (.inr rfl) h3
      obtain ⟨d1, d2, d3, d4⟩ := endR_ok h
      simp only at a1 a2 b1 b2 c1 c4
      refine ⟨((d1.trans c1).trans (by rw [b1]; exact List.tail_suffix _)).trans (by rw [a1]; exact List.tail_suffix _), ?_, d3, by omega⟩
      have := c1.length_le
      omega
end Go.Proofs.YtgjfbbmachoolaaGreatDoor.lx
namespace Go.Proofs.YtgjfbbmachoolaaGreatDoor.lx
open Go.RowKit

/-- what holds on the way through expr -/
structure ExS (A B : Nat) (l : List Tok) (fin op : Int) (sv : Value) (st : List Stp) (w wr : World) : Prop where
 at_ : AtW A l fin op sv wr
 kb : KB A B w wr
 own : wr.ownsRow B 50 3 sv st.length (stpCells st)
 hB : B ≤ w.heap.size
 hAB : A < B
 glob : PGlob wr
 hA8 : 11 ≤ A
theorem ExS.hBr {A B : Nat} {l : List Tok} {fin op : Int} {sv : Value} {st : List Stp} {w wr : World} (h : ExS A B l fin op sv st w wr) : B ≤ wr.heap.size := Nat.le_trans h.hB h.kb.size
theorem ExS.next {A B : Nat} {l : List Tok} {fin op : Int} {sv : Value} {st : List Stp} {w wr w' : World} (h : ExS A B l fin op sv st w wr) (hb : Below wr.heap.size wr w') : ExS A B l fin op sv st w w' :=
 ⟨h.at_.below hb, h.kb.trans (KB.of_below hb h.hBr), own_bel h.own hb, h.hB, h.hAB, h.glob.self hb, h.hA8⟩
theorem ExS.al {A B : Nat} {l : List Tok} {fin op : Int} {sv : Value} {st : List Stp} {w wr : World} (h : ExS A B l fin op sv st w wr) (o : Obj) : ExS A B l fin op sv st w (wr.alloc o) := h.next ((Below.refl _ _).alloc (Nat.le_refl _) _)
theorem ExS.gb {A B : Nat} {l l' : List Tok} {fin op op' : Int} {sv : Value} {st : List Stp} {w wr w' : World} (h : ExS A B l fin op sv st w wr) (ha : AtW A l' fin op' sv w') (hg : wr.grownBy w' (some A)) : ExS A B l' fin op' sv st w w' :=
 ⟨ha, h.kb.trans (KB.of_gb hg h.hBr), own_gbA h.own hg h.hAB, h.hB, h.hAB, h.glob.gb h.hA8 hg, h.hA8⟩
theorem ExS.kb' {A B : Nat} {l l' : List Tok} {fin op op' : Int} {sv sv' : Value} {st st' : List Stp} {w wr w' : World} (h : ExS A B l fin op sv st w wr) (ha : AtW A l' fin op' sv' w') (ho : w'.ownsRow B 50 3 sv' st'.length (stpCells st')) (hg : KB A B wr w') : ExS A B l' fin op' sv' st' w w' :=
 ⟨ha, h.kb.trans hg, ho, h.hB, h.hAB, hg.glob h.glob h.hA8 (by have := h.hA8; have := h.hAB; omega), h.hA8⟩
end Go.Proofs.YtgjfbbmachoolaaGreatDoor.lx
namespace Go.Proofs.YtgjfbbmachoolaaGreatDoor.lx
open Go.RowKit

def wlen (A : Nat) (w : World) : Nat := match w.heap[A]? with | some (.cells cs _ _) => (match cs[0]? with | some (Value.slice _ n _) => n | _ => 0) | _ => 0
theorem wlen_of {A : Nat} {l : List Tok} {fin op : Int} {sv : Value} {w : World} (h : AtW A l fin op sv w) : wlen A w = l.length := by
 obtain ⟨ao, cap, hA, _⟩ := h
 unfold wlen
 rw [hA]
 rfl
theorem ExS.self {A B : Nat} {l : List Tok} {fin op : Int} {sv : Value} {st : List Stp} {w wr : World} (h : ExS A B l fin op sv st w wr) : ExS A B l fin op sv st wr wr := ⟨h.at_, KB.refl _ _ _, h.own, h.hBr, h.hAB, h.glob, h.hA8⟩
theorem partsR_go {f : List Tok → Int → List Stp → Res PS} {fin k : Int} {m p : Nat} {l : List Tok} {op : Int} {st : List Stp} (h : p < 1 ∨ (p < 2 ∧ 10 < k) ∨ (20 ≤ k ∧ closesR l fin = false)) : partsR f fin k (m + 1) p l op st = (f l op st).then fun s => partsR f fin k m (p + 1) s.1 s.2.1 s.2.2 := by rw [partsR, if_pos h]
theorem partsR_stop {f : List Tok → Int → List Stp → Res PS} {fin k : Int} {m p : Nat} {l : List Tok} {op : Int} {st : List Stp} (h : ¬ (p < 1 ∨ (p < 2 ∧ 10 < k) ∨ (20 ≤ k ∧ closesR l fin = false))) : partsR f fin k (m + 1) p l op st = .ok (p, l, op, st) := by rw [partsR, if_neg h]
def endZ (fin K : Int) (z : Nat × PS) : Res PS := endR' fin K z.1 z.2.1 z.2.2.1 z.2.2.2
/-- the loop over an expression's parts: where it stands -/
structure Prt (n A B : Nat) (fin K : Int) (R : Res PS) (l0 : List Tok) (p : Nat) (l : List Tok) (op : Int) (sv : Value) (st : List Stp) (w wr : World) : Prop where
 ex : ExS A B l fin op sv st w wr
 op_ : OpOk op
 st_ : st.length ≤ 64
 cnt : p + l.length + 2 ≤ l0.length
 sz : ∀ t ∈ l, t.s.size < 4294967281
 run : ∃ m, l.length + 1 ≤ m ∧ (partsR (exprR fin n) fin K m p l op st).then (endZ fin K) = R
theorem Prt.next {n A B : Nat} {fin K : Int} {R : Res PS} {l0 : List Tok} {p : Nat} {l : List Tok} {op : Int} {sv : Value} {st : List Stp} {w wr w' : World} (h : Prt n A B fin K R l0 p l op sv st w wr) (hb : Below wr.heap.size wr w') : Prt n A B fin K R l0 p l op sv st w w' := ⟨h.ex.next hb, h.op_, h.st_, h.cnt, h.sz, h.run⟩
theorem Prt.bad {n A B : Nat} {fin K : Int} {R : Res PS} {l0 : List Tok} {p : Nat} {l : List Tok} {op : Int} {sv : Value} {st : List Stp} {w wr : World} {y q : Int} (h : Prt n A B fin K R l0 p l op sv st w wr) (hc : p < 1 ∨ (p < 2 ∧ 10 < K) ∨ (20 ≤ K ∧ closesR l fin = false)) (hf : exprR fin n l op st = .bad y q) : R = .bad y q := by
 obtain ⟨m, hm, hr⟩ := h.run
 obtain ⟨m, rfl⟩ : ∃ k, m = k + 1 := ⟨m - 1, by omega⟩
 rw [partsR_go hc, hf] at hr
 exact hr.symm
theorem Prt.go {n A B : Nat} {fin K : Int} {R : Res PS} {l0 : List Tok} {p : Nat} {l : List Tok} {op : Int} {sv sv' : Value} {st : List Stp} {w wr w' : World} {s : PS} (h : Prt n A B fin K R l0 p l op sv st w wr) (hc : p < 1 ∨ (p < 2 ∧ 10 < K) ∨ (20 ≤ K ∧ closesR l fin = false)) (hf : exprR fin n l op st = .ok s)
  (ha : AtW A s.1 fin s.2.1 sv' w') (ho : w'.ownsRow B 50 3 sv' s.2.2.length (stpCells s.2.2)) (hkb : KB A B wr w') : Prt n A B fin K R l0 (p + 1) s.1 s.2.1 sv' s.2.2 w w' ∧ s.1.length < l.length := by
 obtain ⟨m, hm, hr⟩ := h.run
 obtain ⟨m, rfl⟩ : ∃ k, m = k + 1 := ⟨m - 1, by omega⟩
 rw [partsR_go hc, hf] at hr
 obtain ⟨h1, h2, h3, h4⟩ := exprR_ok fin n l op st s hf
 exact ⟨⟨h.ex.kb' ha ho hkb, by rw [h4]; exact h.op_, h3, by have := h.cnt; omega, fun t ht => h.sz t (h1.subset ht), ⟨m, by omega, hr⟩⟩, h2⟩
theorem Prt.stop {n A B : Nat} {fin K : Int} {R : Res PS} {l0 : List Tok} {p : Nat} {l : List Tok} {op : Int} {sv : Value} {st : List Stp} {w wr : World} (h : Prt n A B fin K R l0 p l op sv st w wr) (hc : ¬ (p < 1 ∨ (p < 2 ∧ 10 < K) ∨ (20 ≤ K ∧ closesR l fin = false))) : endR' fin K p l op st = R := by
 obtain ⟨m, hm, hr⟩ := h.run
 obtain ⟨m, rfl⟩ : ∃ k, m = k + 1 := ⟨m - 1, by omega⟩
 rw [partsR_stop hc] at hr
 exact hr
theorem end_bad {fin K : Int} {p : Nat} {l : List Tok} {op : Int} {st : List Stp} {R : Res PS} (h : endR' fin K p l op st = R) (hc : closesR l fin = false) : R = .bad (if (tokAt l fin).k = 1 ∧ ¬ op < 8 then 10 else 13) (tokAt l fin).a := by rw [← h, endR', if_pos hc]
theorem end_put_bad {fin K : Int} {p : Nat} {l : List Tok} {op : Int} {st : List Stp} {R : Res PS} {y q : Int} (h : endR' fin K p l op st = R) (hc : closesR l fin = true) (hp : putR fin l st (List.replicate (if 20 ≤ K then p - 1 else 1) ⟨K, ⟨#[]⟩, 0⟩) = .bad y q) : R = .bad y q := by
 rw [← h, endR', if_neg (by rw [hc]; decide), hp]; rfl
theorem end_put_ok {fin K : Int} {p : Nat} {t : Tok} {l : List Tok} {op : Int} {st st' : List Stp} {R : Res PS} (h : endR' fin K p (t :: l) op st = R) (hc : t.k = 2) (hp : putR fin (t :: l) st (List.replicate (if 20 ≤ K then p - 1 else 1) ⟨K, ⟨#[]⟩, 0⟩) = .ok st') : R = .ok (l, op - 1, st') := by
 rw [← h, endR', if_neg (by show ¬ (t.k == 2) = false; rw [hc]; decide), hp]
 show (takeR fin 2 (fun _ => true) (t :: l) op).then _ = _
 unfold takeR
 rw [if_neg (by show ¬ (t.k = 1 ∧ _); rw [hc]; omega), if_neg (by show ¬ t.k ≠ 2; rw [hc]; decide), if_neg (by simp), if_neg (by decide), if_pos rfl]
 rfl
theorem ExS.c2 {A B : Nat} {l : List Tok} {fin op : Int} {sv : Value} {st : List Stp} {w wr : World} (h : ExS A B l fin op sv st w wr) : wr.cell? ⟨A, 2, none⟩ = some (.int .i64 op) := by
 obtain ⟨ao, cap, hA, _⟩ := h.at_; rw [Lib.cell_of_heap hA]; rfl
/-- a step laid, repeated, and put -/
theorem rep_new {A B nn : Nat} {l : List Tok} {fin op : Int} {sv : Value} {st : List Stp} {w wr : World} {PR : Res (List Stp)} (K : Int) (h1 : 1 ≤ nn) (h2 : nn ≤ 1099511627776) (H : ExS A B l fin op sv st w wr) (hPR : putR fin l st (List.replicate nn ⟨K, ⟨#[]⟩, 0⟩) = PR) (hst : st.length ≤ 64) :
  (Calls Tryz.prog 133 #[.slice (some ⟨wr.heap.size, 0, none⟩) 1 1, .int .i64 nn] (wr.alloc (.cells #[.int .u8 K, .string ⟨#[]⟩, .int .i64 0] 50)) fun e w' => ∃ g, e = .returned (.slice (some ⟨g, 0, none⟩) nn nn) ∧
   (∀ (j : Nat) u, (stpCells (List.replicate nn ⟨K, ⟨#[]⟩, 0⟩))[j]? = some u → w'.cell? ⟨g, 0 + j, none⟩ = some u) ∧ Below (wr.alloc (.cells #[.int .u8 K, .string ⟨#[]⟩, .int .i64 0] 50)).heap.size (wr.alloc (.cells #[.int .u8 K, .string ⟨#[]⟩, .int .i64 0] 50)) w') ∧
  ∀ g w', (∀ (j : Nat) u, (stpCells (List.replicate nn ⟨K, ⟨#[]⟩, 0⟩))[j]? = some u → w'.cell? ⟨g, 0 + j, none⟩ = some u) → Below (wr.alloc (.cells #[.int .u8 K, .string ⟨#[]⟩, .int .i64 0] 50)).heap.size (wr.alloc (.cells #[.int .u8 K, .string ⟨#[]⟩, .int .i64 0] 50)) w' →
   Calls Tryz.prog 132 #[.pointer (some ⟨A, 0, none⟩), .slice (some ⟨g, 0, none⟩) nn nn] w' fun e w2 => PutP A B l fin op sv w' PR e w2 := by
 refine ⟨repeat_any wr.heap.size ⟨K, ⟨#[]⟩, 0⟩ nn _ h1 h2 (fun j v hj => ?_), fun g w' hcs hb => ?_⟩
 ·
  rw [Lib.cell_of_heap (heap_alloc_new _ _)]
  match j, hj with
  | 0, hj => simpa [Stp.cells] using hj
  | 1, hj => simpa [Stp.cells] using hj
  | 2, hj => simpa [Stp.cells] using hj
  | (j + 3), hj => simp [Stp.cells] at hj
 ·
  have H2 := (H.al (.cells #[.int .u8 K, .string ⟨#[]⟩, .int .i64 0] 50)).next hb
  have := put_any (bn := g) (on := 0) (cn := nn) (new := List.replicate nn ⟨K, ⟨#[]⟩, 0⟩) H2.at_ H2.hAB H2.hBr H2.own hst (by simp; omega) hcs
  rw [List.length_replicate, hPR] at this
  exact this

set_option maxHeartbeats 16000000 in
set_option maxRecDepth 100000 in
theorem expr_main {n A B : Nat} {l l1 l2 : List Tok} {fin op op1 op2 : Int} {sv : Value} {st : List Stp} {w : World} (H : ExS A B l fin op sv st w w) (hop : OpOk op) (hs : ∀ t ∈ l, t.s.size < 4294967281)
  (hk : (tokAt l fin).k = 1) (h1 : takeR fin 1 (fun _ => true) l op = .ok (l1, op1)) (h2 : takeR fin 3 isOp l1 op1 = .ok (l2, op2)) (hn : l.length < n + 1) (hst : st.length ≤ 64) (hll : l.length ≤ 1099511627776)
  (IH : ∀ (l : List Tok) (op : Int) (sv : Value) (st : List Stp) (wr : World), ExS A B l fin op sv st wr wr → OpOk op → (∀ t ∈ l, t.s.size < 4294967281) → st.length ≤ 64 → l.length < n → l.length ≤ 1099511627776 → Calls Tryz.prog 106 #[.pointer (some ⟨A, 0, none⟩)] wr fun e w' => ExprP A B fin wr (exprR fin n l op st) e w')
  (R : Res PS) (hR : (partsR (exprR fin n) fin (opK (tokAt l1 fin).s) (l2.length + 2) 0 l2 op2 st).then (endZ fin (opK (tokAt l1 fin).s)) = R) :
  Calls Tryz.prog 106 #[.pointer (some ⟨A, 0, none⟩)] w fun e w' => ExprP A B fin w R e w' := by
 have HIH := Lib.hid IH
 have HRR : Hid (∀ wr, ExS A B l2 fin op2 sv st w wr → Prt n A B fin (opK (tokAt l1 fin).s) R l 0 l2 op2 sv st w wr) := Lib.hid fun wr H => by
  obtain ⟨a1, _, _, a2, a3, a4, a5⟩ := takeR_ok h1 (by decide)
  obtain ⟨b1, _, _, b2, _⟩ := takeR_ok h2 (by decide)
  have hop2 : op2 = op1 := takeR_op h2
  have hop1 : op1 = op + 1 := takeR_op h1
  exact ⟨H, by rw [hop2, hop1]; have := hop.1; have := a5 rfl; exact ⟨by omega, by omega⟩, hst, by omega, fun t ht => hs t (by rw [b1, a1] at ht; exact List.mem_of_mem_tail (List.mem_of_mem_tail ht)), ⟨_, by omega, hR⟩⟩
 clear IH hR
 have hp := wpeek_any H.at_
 have HT1 := Lib.hid fun w2 (H2 : ExS A B l fin op sv st w w2) => takeN_any H2.at_ hop (.inl rfl : (1 : Int) = 1 ∨ (1 : Int) = 2 ∨ (1 : Int) = 3)
 rw [h1] at HT1
 have HT2 := Lib.hid fun w2 (H2 : ExS A B l1 fin op1 sv st w w2) => takeF_any (H2.al (.cells #[.func (.func 130) #[] #[]] 91)).at_ (H2.al (.cells #[.func (.func 130) #[] #[]] 91)).glob lets_op (bf := w2.heap.size) (by rw [Lib.cell_of_heap (heap_alloc_new _ _)]; rfl) (fun t ht => hs t (by
  have := (takeR_ok h1 (by decide)).1
  rw [this] at ht
  exact List.mem_of_mem_tail ht))
 rw [h2] at HT2
 have HK := Lib.hid (opK_range (takeR_ok h2 (by decide)).2.2.1)
 have HH := Lib.hid H
 clear H h1 h2
 generalize tokAt l fin = t at hp hk HT1
 generalize tokAt l1 fin = o at HT2 HK HRR
 obtain ⟨tk, ts, tn, ta⟩ := t
 obtain ⟨ok, os, on, oa⟩ := o
 unfold Tok.v at hp
 simp only at hk hp HK HRR
 subst hk
 have hfl := fldk (.int .u8 1) (.string ts) (.int .i64 tn) (.int .i64 ta)
 go_enter Tryz.func106, Tryz.ntmps106
 go_wp2_with (go_at_call 105; refine hp.mono ?_; rintro e w2 ⟨rfl, hb2⟩; refine Hid.out ?_)
 refine Lib.hid ?_
 have H2 := Lib.hid (HH.out.next hb2)
 clear hp hb2
 go_wp2_with (go_at_call 79; refine (HT1.out _ H2.out).mono ?_; rintro e w3 ⟨rfl, ha, hg⟩; refine Hid.out ?_)
 refine Lib.hid ?_
 have H3 := Lib.hid (H2.out.gb ha hg)
 clear ha hg HT1 H2 hfl
 go_wp2_with (go_at_call 79; refine (HT2.out _ H3.out).mono ?_; rintro e w4 ⟨rfl, ha, hg⟩; refine Hid.out ?_)
 refine Lib.hid ?_
 have H4 := Lib.hid (((H3.out.al (.cells #[.func (.func 130) #[] #[]] 91)).gb ha hg).al (.cells #[.int .u8 ok, .string os, .int .i64 on, .int .i64 oa] 144))
 clear ha hg HT2 H3
 unfold Tok.v
 go_upto_region 4 with fail
 have q0 : (w4.alloc (.cells #[.int .u8 ok, .string os, .int .i64 on, .int .i64 oa] 144)).cell? ⟨w4.heap.size, 1, none⟩ = some (.string os) := by rw [Lib.cell_of_heap (heap_alloc_new _ _)]; rfl
 have HQ := Lib.hid fun w5 (hb : Below (w4.alloc (.cells #[.int .u8 ok, .string os, .int .i64 on, .int .i64 oa] 144)).heap.size (w4.alloc (.cells #[.int .u8 ok, .string os, .int .i64 on, .int .i64 oa] 144)) w5) => keep_cellP hb q0
 have HOP := Lib.hid fun w5 (hb : Below (w4.alloc (.cells #[.int .u8 ok, .string os, .int .i64 on, .int .i64 oa] 144)).heap.size (w4.alloc (.cells #[.int .u8 ok, .string os, .int .i64 on, .int .i64 oa] 144)) w5) => operators_any w5 (H4.out.next hb).glob
 have HIX := Lib.hid fun b w5 (hS : SBlk b opsL w5) => (Tryz.slices_Index_string b 0 15 15 opsL os w5 (by decide) (by decide) hS).mono fun e w' ⟨h1, h2⟩ => (⟨h1, h2.symm⟩ : e = _ ∧ w5 = w')
 rw [show opsL.take 15 = opsL from rfl] at HIX
 obtain ⟨X, hX⟩ : ∃ X, Lib.idxOfS opsL os = X := ⟨_, rfl⟩
 have hKX : opK os = 7 + X := by unfold opK; rw [hX]
 rw [hKX] at HRR
 have hXr : 0 ≤ X ∧ X ≤ 14 := by have := HK.out; unfold opK at this; omega
 rw [hX] at HIX
 generalize w4.alloc (.cells #[.int .u8 ok, .string os, .int .i64 on, .int .i64 oa] 144) = W4 at q0 HQ HOP H4 ⊢
 have HWR : Hid (IntKind.u8.wrap (7 + IntKind.u8.wrap X) = 7 + X) := Lib.hid (by rw [IntKind.wrap_u8, IntKind.wrap_u8]; omega)
 clear hX hKX
 go_cut [3] from 17 to 22 (fun v wx => v = .int .u8 (7 + X) ∧ Below W4.heap.size W4 wx)
 case first =>
  go_region_with (first | (go_at_call 131; refine (HOP.out _ (by first | exact Below.refl _ _ | exact (Below.refl _ _).drew | exact (Below.refl _ _).drew.drew)).mono ?_; rintro e w5 ⟨rfl, hS, hb5⟩; have q5 := HQ.out w5 (by first | exact hb5 | exact below_self (Below.refl _ _).drew hb5 | exact below_self (Below.refl _ _).drew.drew hb5)) | (go_at_call 94; refine (HIX.out _ _ hS).mono ?_; rintro e w6 ⟨rfl, rfl⟩))
  all_goals (go_wp2_with fail; go_meet; exact ⟨by rw [HWR.out], by first | exact hb5 | exact below_self (Below.refl _ _).drew hb5 | exact below_self (Below.refl _ _).drew.drew hb5⟩)
 case rest =>
 obtain ⟨rfl, hbc⟩ := hcut
 have hKr : 7 ≤ 7 + X ∧ 7 + X ≤ 21 := by omega
 have HP0 := Lib.hid (HRR.out wc (H4.out.next hbc))
 generalize 7 + X = K at hKr HP0 ⊢
 clear hbc H4 HQ HOP HIX q0 HWR hXr HRR HK HH
 go_wp2_with fail
 go_loopw [4] (fun v wr => ∃ (p : Nat) (l' : List Tok) (op' : Int) (sv' : Value) (st' : List Stp), v = .int .i64 p ∧ Hid (Prt n A B fin K R l p l' op' sv' st' w wr)) (fun _ wr => wlen A wr)
 case atStart => exact ⟨0, l2, op2, sv, st, rfl, HP0⟩
 case round =>
  clear HP0 wc
  obtain ⟨p, l', op', sv', st', rfl, HP⟩ := hrel
  have hpl : p ≤ 1099511627776 := by have := HP.out.cnt; omega
  have HWL := Lib.hid (wlen_of HP.out.ex.at_)
  have HW0 : Hid (wlen A wr = l'.length) := HWL
  by_cases hp0 : p = 0
  ·
   subst hp0
   have hcd : 0 < 1 ∨ (0 < 2 ∧ 10 < K) ∨ (20 ≤ K ∧ closesR l' fin = false) := .inl (by omega)
   have hih := HIH.out l' op' sv' st' _ HP.out.ex.self HP.out.op_ HP.out.sz HP.out.st_ (by have := HP.out.cnt; omega) (by have := HP.out.cnt; omega)
   cases hf : exprR fin n l' op' st' with
   | bad y q =>
    rw [hf] at hih
    have HRB := Lib.hid (HP.out.bad hcd hf)
    have HIC := Lib.hid hih
    clear hih hf hcd
    go_wp2_with (go_at_call 106; refine HIC.out.mono ?_; rintro e w6 ⟨rfl, hkb⟩; refine Hid.out ?_)
    refine Lib.hid ?_
    exact ⟨rfl, by rw [HRB.out]; exact ⟨rfl, HP.out.ex.kb.trans hkb⟩⟩
   | ok s =>
    rw [hf] at hih
    have HIC := Lib.hid hih
    have HGO := Lib.hid fun w' sv2 ha ho hkb => HP.out.go (w' := w') (sv' := sv2) hcd hf ha ho hkb
    clear hih hf hcd
    go_wp2_with (go_at_call 106; refine HIC.out.mono ?_; rintro e w6 ⟨rfl, ⟨sv2, ha, ho⟩, hkb⟩; refine Hid.out ?_)
    refine Lib.hid ?_
    have HN := Lib.hid (HGO.out _ _ ha ho hkb)
    have HWN := Lib.hid (wlen_of ha)
    clear ha ho hkb
    go_wp2_with fail
    go_roundw
    case rel => exact ⟨0 + 1, s.1, s.2.1, sv2, s.2.2, by go_num, Lib.hid HN.out.1⟩
    case measure => rw [HW0.out, HWN.out]; exact HN.out.2
  by_cases hp1 : p = 1
  ·
   subst hp1
   by_cases hK10 : 10 < K
   ·
    skip
    have hcd : 1 < 1 ∨ (1 < 2 ∧ 10 < K) ∨ (20 ≤ K ∧ closesR l' fin = false) := .inr (.inl ⟨by omega, hK10⟩)
    have hih := HIH.out l' op' sv' st' _ HP.out.ex.self HP.out.op_ HP.out.sz HP.out.st_ (by have := HP.out.cnt; omega) (by have := HP.out.cnt; omega)
    cases hf : exprR fin n l' op' st' with
    | bad y q =>
     rw [hf] at hih
     have HRB := Lib.hid (HP.out.bad hcd hf)
     have HIC := Lib.hid hih
     clear hih hf hcd
     go_wp2_with (go_at_call 106; refine HIC.out.mono ?_; rintro e w6 ⟨rfl, hkb⟩; refine Hid.out ?_)
     refine Lib.hid ?_
     exact ⟨rfl, by rw [HRB.out]; exact ⟨rfl, HP.out.ex.kb.trans hkb⟩⟩
    | ok s =>
     rw [hf] at hih
     have HIC := Lib.hid hih
     have HGO := Lib.hid fun w' sv2 ha ho hkb => HP.out.go (w' := w') (sv' := sv2) hcd hf ha ho hkb
     clear hih hf hcd
     go_wp2_with (go_at_call 106; refine HIC.out.mono ?_; rintro e w6 ⟨rfl, ⟨sv2, ha, ho⟩, hkb⟩; refine Hid.out ?_)
     refine Lib.hid ?_
     have HN := Lib.hid (HGO.out _ _ ha ho hkb)
     have HWN := Lib.hid (wlen_of ha)
     clear ha ho hkb
     go_wp2_with fail
     go_roundw
     case rel => exact ⟨1 + 1, s.1, s.2.1, sv2, s.2.2, by go_num, Lib.hid HN.out.1⟩
     case measure => rw [HW0.out, HWN.out]; exact HN.out.2
   ·
    have hK20 : ¬ 20 ≤ K := by omega
    have hstop : ¬ (1 < 1 ∨ (1 < 2 ∧ 10 < K) ∨ (20 ≤ K ∧ closesR l' fin = false)) := by omega
    have HE := Lib.hid HP.out.ex
    have hse := HP.out.stop hstop
    obtain ⟨T, hT⟩ : ∃ T, tokAt l' fin = T := ⟨_, rfl⟩
    cases hcl : closesR l' fin with
    | false =>
     have hRb := end_bad hse hcl
     have hc1 := fun wr (H : ExS A B l' fin op' sv' st' w wr) => closes_any H.at_
     have hp1 := fun wr (H : ExS A B l' fin op' sv' st' w wr) => wpeek_any H.at_
     have hm1 := fun wr y is (hi : is = false) (H : ExS A B l' fin op' sv' st' w wr) => must_no (why := y) (is := is) hi H.at_
     rw [show ((tokAt l' fin).k == 2) = false from hcl] at hc1
     rw [hT] at hRb hp1 hm1
     obtain ⟨Tk, Ts, Tn, Ta⟩ := T
     unfold Tok.v at hp1
     simp only at hRb hp1 hm1
     have HC1 := Lib.hid hc1
     have HP1 := Lib.hid hp1
     have HM1 := Lib.hid hm1
     have hfl := fldk (.int .u8 Tk) (.string Ts) (.int .i64 Tn) (.int .i64 Ta)
     clear hc1 hp1 hm1 hT hse hcl hstop
     by_cases hd : Tk = 1 ∧ ¬ op' < 8
     ·
      rw [if_pos hd] at hRb
      have HRB := Lib.hid hRb
      obtain ⟨hd1, hd2⟩ := hd
      subst hd1
      clear hRb
      go_wp2_with (go_at_call 107; refine (HC1.out _ HE.out).mono ?_; rintro e w6 ⟨rfl, hb6⟩; refine Hid.out ?_)
      refine Lib.hid ?_
      have HE6 := Lib.hid (HE.out.next hb6)
      clear hb6
      go_wp2_with (go_at_call 105; refine (HP1.out _ HE6.out).mono ?_; rintro e w7 ⟨rfl, hb7⟩; refine Hid.out ?_)
      refine Lib.hid ?_
      have HE7 := Lib.hid (HE6.out.next hb7)
      have c2 := HE7.out.c2
      clear hb7
      go_wp2_with (go_at_call 92; refine (HM1.out _ _ _ (by first | rfl | (simp; omega)) HE7.out).mono ?_; rintro e w8 ⟨rfl, hb8⟩; refine Hid.out ?_)
      refine Lib.hid ?_
      exact ⟨rfl, by rw [HRB.out]; exact ⟨rfl, (HE7.out.next hb8).kb⟩⟩
     ·
      rw [if_neg hd] at hRb
      have HRB := Lib.hid hRb
      clear hRb
      by_cases hd1 : Tk = 1
      ·
       have hd8 : op' < 8 := by by_cases h8 : op' < 8; exact h8; exact absurd ⟨hd1, h8⟩ hd
       subst hd1
       clear hd
       go_wp2_with (go_at_call 107; refine (HC1.out _ HE.out).mono ?_; rintro e w6 ⟨rfl, hb6⟩; refine Hid.out ?_)
       refine Lib.hid ?_
       have HE6 := Lib.hid (HE.out.next hb6)
       clear hb6
       go_wp2_with (go_at_call 105; refine (HP1.out _ HE6.out).mono ?_; rintro e w7 ⟨rfl, hb7⟩; refine Hid.out ?_)
       refine Lib.hid ?_
       have HE7 := Lib.hid (HE6.out.next hb7)
       have c2 := HE7.out.c2
       clear hb7
       go_wp2_with (go_at_call 92; refine (must_yes (by first | rfl | (simp; omega) | simp)).mono ?_; rintro e w8 ⟨rfl, rfl⟩; refine Hid.out ?_)
       refine Lib.hid ?_
       clear c2
       go_wp2_with (go_at_call 107; refine (HC1.out _ HE7.out).mono ?_; rintro e w8 ⟨rfl, hb8⟩; refine Hid.out ?_)
       refine Lib.hid ?_
       have HE8 := Lib.hid (HE7.out.next hb8)
       clear hb8
       go_wp2_with (go_at_call 92; refine (HM1.out _ _ _ (by first | rfl | simp) HE8.out).mono ?_; rintro e w9 ⟨rfl, hb9⟩; refine Hid.out ?_)
       refine Lib.hid ?_
       exact ⟨rfl, by rw [HRB.out]; exact ⟨rfl, (HE8.out.next hb9).kb⟩⟩
      ·
       have e1 : (Tk != 1) = true := by simp [hd1]
       clear hd
       go_wp2_with (go_at_call 107; refine (HC1.out _ HE.out).mono ?_; rintro e w6 ⟨rfl, hb6⟩; refine Hid.out ?_)
       refine Lib.hid ?_
       have HE6 := Lib.hid (HE.out.next hb6)
       clear hb6
       go_wp2_with (go_at_call 105; refine (HP1.out _ HE6.out).mono ?_; rintro e w7 ⟨rfl, hb7⟩; refine Hid.out ?_)
       refine Lib.hid ?_
       have HE7 := Lib.hid (HE6.out.next hb7)
       have c2 := HE7.out.c2
       clear hb7
       go_wp2_with (go_at_call 92; refine (must_yes (by first | rfl | (simp; omega) | simp)).mono ?_; rintro e w8 ⟨rfl, rfl⟩; refine Hid.out ?_)
       refine Lib.hid ?_
       clear c2
       go_wp2_with (go_at_call 107; refine (HC1.out _ HE7.out).mono ?_; rintro e w8 ⟨rfl, hb8⟩; refine Hid.out ?_)
       refine Lib.hid ?_
       have HE8 := Lib.hid (HE7.out.next hb8)
       clear hb8
       go_wp2_with (go_at_call 92; refine (HM1.out _ _ _ (by first | rfl | simp) HE8.out).mono ?_; rintro e w9 ⟨rfl, hb9⟩; refine Hid.out ?_)
       refine Lib.hid ?_
       exact ⟨rfl, by rw [HRB.out]; exact ⟨rfl, (HE8.out.next hb9).kb⟩⟩
    | true =>
     have ht2 : (tokAt l' fin).k = 2 := by simpa [closesR] using hcl
     obtain ⟨t2, rest, rfl⟩ := tok_cons ht2 (by decide)
     have ht2' : t2.k = 2 := ht2
     have hc1 := fun wr (H : ExS A B (t2 :: rest) fin op' sv' st' w wr) => closes_any H.at_
     rw [show ((tokAt (t2 :: rest) fin).k == 2) = true from hcl] at hc1
     obtain ⟨nn, hnn⟩ : ∃ nn : Nat, (if 20 ≤ K then 1 - 1 else 1) = nn := ⟨_, rfl⟩
     have hnn2 : nn = 1 := by rw [← hnn, if_neg hK20]
     obtain ⟨PR, hPR⟩ : ∃ PR, putR fin (t2 :: rest) st' (List.replicate nn ⟨K, ⟨#[]⟩, 0⟩) = PR := ⟨_, rfl⟩
     have HPB := Lib.hid fun y q (e : PR = .bad y q) => end_put_bad hse hcl (by rw [hnn, hPR]; exact e)
     have HPO := Lib.hid fun st2 (e : PR = .ok st2) => end_put_ok hse ht2' (by rw [hnn, hPR]; exact e)
     have HC1 := Lib.hid hc1
     have HST := Lib.hid HP.out.st_
     have HRP := Lib.hid fun wr (H : ExS A B (t2 :: rest) fin op' sv' st' w wr) => rep_new (nn := nn) K (by omega) (by omega) H hPR HST.out
     have HT2 := Lib.hid ht2'
     have HOP := Lib.hid HP.out.op_
     clear hc1 hnn hPR hse hcl hstop hT ht2 ht2'
     go_wp2_with (go_at_call 107; refine (HC1.out _ HE.out).mono ?_; rintro e w6 ⟨rfl, hb6⟩; refine Hid.out ?_)
     refine Lib.hid ?_
     have HE6 := Lib.hid (HE.out.next hb6)
     clear hb6
     go_wp2_with (go_at_call 92; refine (must_yes (by first | rfl | simp)).mono ?_; rintro e w8 ⟨rfl, rfl⟩; refine Hid.out ?_)
     refine Lib.hid ?_
     go_wp2_with (go_at_call 107; refine (HC1.out _ HE6.out).mono ?_; rintro e w7 ⟨rfl, hb7⟩; refine Hid.out ?_)
     refine Lib.hid ?_
     have HE7 := Lib.hid (HE6.out.next hb7)
     clear hb7
     go_wp2_with (go_at_call 92; refine (must_yes (by first | rfl | simp)).mono ?_; rintro e w8 ⟨rfl, rfl⟩; refine Hid.out ?_)
     refine Lib.hid ?_
     obtain ⟨hrep, hput⟩ := HRP.out _ HE7.out
     have HRE := Lib.hid hrep
     have HPU := Lib.hid hput
     clear hrep hput
     subst hnn2
     go_wp2_with (go_at_call 133; refine HRE.out.mono ?_; rintro e w8 ⟨g, rfl, hcs, hb8⟩; refine Hid.out ?_)
     refine Lib.hid ?_
     have hpu := HPU.out g w8 hcs hb8
     have HE8 := Lib.hid ((HE7.out.al (.cells #[.int .u8 K, .string ⟨#[]⟩, .int .i64 0] 50)).next hb8)
     clear hcs hb8
     cases PR with
     | bad y q =>
      have HRB := Lib.hid (HPB.out y q rfl)
      go_wp2_with (go_at_call 132; refine hpu.mono ?_; rintro e w9 ⟨rfl, hf⟩; refine Hid.out ?_)
      refine Lib.hid ?_
      exact ⟨rfl, by rw [HRB.out]; exact ⟨rfl, HE8.out.kb.trans (hf.kb HE8.out.hBr (own_base HE8.out.own))⟩⟩
     | ok st2 =>
      have HRO := Lib.hid (HPO.out st2 rfl)
      go_wp2_with (go_at_call 132; refine hpu.mono ?_; rintro e w9 ⟨rfl, ⟨sv2, ha, ho⟩, hf⟩; refine Hid.out ?_)
      refine Lib.hid ?_
      have HE9 := Lib.hid (HE8.out.kb' ha ho (hf.kb HE8.out.hBr (own_base HE8.out.own)))
      clear ha ho hf hpu
      go_wp2_with (go_at_call 79; refine (take_close HE9.out.at_ HT2.out HOP.out.1 HOP.out.2).mono ?_; rintro e w10 ⟨rfl, ha, hg⟩; refine Hid.out ?_)
      refine Lib.hid ?_
      have HE10 := Lib.hid (HE9.out.gb ha hg)
      clear ha hg
      go_wp2_with fail
      exact bodyPost_end (results_none rfl _ _ _) rfl (by rw [HRO.out]; exact ⟨rfl, ⟨sv2, HE10.out.at_, HE10.out.own⟩, HE10.out.kb⟩)
  ·
   have hp1I : ¬ (p : Int) < 1 := by omega
   have hp2I : ¬ (p : Int) < 2 := by omega
   by_cases hK20 : 20 ≤ K
   ·
    cases hcl : closesR l' fin with
    | false =>
     have hcc := closes_any HP.out.ex.at_
     rw [show ((tokAt l' fin).k == 2) = false from hcl] at hcc
     have HCL := Lib.hid hcl
     have HCC := Lib.hid hcc
     clear hcc hcl
     go_wp2_with (go_at_call 107; refine HCC.out.mono ?_; rintro e w5 ⟨rfl, hb5⟩; refine Hid.out ?_)
     refine Lib.hid ?_
     have HPn := Lib.hid (HP.out.next hb5)
     clear HP hb5
     have HP := HPn
     have hcd : p < 1 ∨ (p < 2 ∧ 10 < K) ∨ (20 ≤ K ∧ closesR l' fin = false) := .inr (.inr ⟨hK20, HCL.out⟩)
     have hih := HIH.out l' op' sv' st' _ HP.out.ex.self HP.out.op_ HP.out.sz HP.out.st_ (by have := HP.out.cnt; omega) (by have := HP.out.cnt; omega)
     cases hf : exprR fin n l' op' st' with
     | bad y q =>
      rw [hf] at hih
      have HRB := Lib.hid (HP.out.bad hcd hf)
      have HIC := Lib.hid hih
      clear hih hf hcd
      go_wp2_with (go_at_call 106; refine HIC.out.mono ?_; rintro e w6 ⟨rfl, hkb⟩; refine Hid.out ?_)
      refine Lib.hid ?_
      exact ⟨rfl, by rw [HRB.out]; exact ⟨rfl, HP.out.ex.kb.trans hkb⟩⟩
     | ok s =>
      rw [hf] at hih
      have HIC := Lib.hid hih
      have HGO := Lib.hid fun w' sv2 ha ho hkb => HP.out.go (w' := w') (sv' := sv2) hcd hf ha ho hkb
      clear hih hf hcd
      go_wp2_with (go_at_call 106; refine HIC.out.mono ?_; rintro e w6 ⟨rfl, ⟨sv2, ha, ho⟩, hkb⟩; refine Hid.out ?_)
      refine Lib.hid ?_
      have HN := Lib.hid (HGO.out _ _ ha ho hkb)
      have HWN := Lib.hid (wlen_of ha)
      clear ha ho hkb
      go_wp2_with fail
      go_roundw
      case rel => exact ⟨p + 1, s.1, s.2.1, sv2, s.2.2, by go_num, Lib.hid HN.out.1⟩
      case measure => rw [HW0.out, HWN.out]; exact HN.out.2
    | true =>
     have hcc := closes_any HP.out.ex.at_
     rw [show ((tokAt l' fin).k == 2) = true from hcl] at hcc
     have hstop : ¬ (p < 1 ∨ (p < 2 ∧ 10 < K) ∨ (20 ≤ K ∧ closesR l' fin = false)) := by rw [hcl]; simp; omega
     have HCC := Lib.hid hcc
     have HSL := Lib.hid hcl
     have HSP := Lib.hid hstop
     clear hcc hcl hstop
     go_wp2_with (go_at_call 107; refine HCC.out.mono ?_; rintro e w5 ⟨rfl, hb5⟩; refine Hid.out ?_)
     refine Lib.hid ?_
     have HPn := Lib.hid (HP.out.next hb5)
     clear HP hb5 HCC
     have HP := HPn
     have hcl := HSL.out
     have hstop := HSP.out
     have HE := Lib.hid HP.out.ex
     have hse := HP.out.stop hstop
     obtain ⟨T, hT⟩ : ∃ T, tokAt l' fin = T := ⟨_, rfl⟩
     have ht2 : (tokAt l' fin).k = 2 := by simpa [closesR] using hcl
     obtain ⟨t2, rest, rfl⟩ := tok_cons ht2 (by decide)
     have ht2' : t2.k = 2 := ht2
     have hc1 := fun wr (H : ExS A B (t2 :: rest) fin op' sv' st' w wr) => closes_any H.at_
     rw [show ((tokAt (t2 :: rest) fin).k == 2) = true from hcl] at hc1
     obtain ⟨nn, hnn⟩ : ∃ nn : Nat, (if 20 ≤ K then p - 1 else 1) = nn := ⟨_, rfl⟩
     have hnn2 : nn = p - 1 := by rw [← hnn, if_pos hK20]
     obtain ⟨PR, hPR⟩ : ∃ PR, putR fin (t2 :: rest) st' (List.replicate nn ⟨K, ⟨#[]⟩, 0⟩) = PR := ⟨_, rfl⟩
     have HPB := Lib.hid fun y q (e : PR = .bad y q) => end_put_bad hse hcl (by rw [hnn, hPR]; exact e)
     have HPO := Lib.hid fun st2 (e : PR = .ok st2) => end_put_ok hse ht2' (by rw [hnn, hPR]; exact e)
     have HC1 := Lib.hid hc1
     have HST := Lib.hid HP.out.st_
     have HRP := Lib.hid fun wr (H : ExS A B (t2 :: rest) fin op' sv' st' w wr) => rep_new (nn := nn) K (by omega) (by omega) H hPR HST.out
     have HT2 := Lib.hid ht2'
     have HOP := Lib.hid HP.out.op_
     have hp1J : (p : Int) - 1 = ((nn : Nat) : Int) := by omega
     clear hc1 hnn hPR hse hcl hstop hT ht2 ht2'
     go_wp2_with (go_at_call 107; refine (HC1.out _ HE.out).mono ?_; rintro e w6 ⟨rfl, hb6⟩; refine Hid.out ?_)
     refine Lib.hid ?_
     have HE6 := Lib.hid (HE.out.next hb6)
     clear hb6
     go_wp2_with (go_at_call 92; refine (must_yes (by first | rfl | simp)).mono ?_; rintro e w8 ⟨rfl, rfl⟩; refine Hid.out ?_)
     refine Lib.hid ?_
     go_wp2_with (go_at_call 107; refine (HC1.out _ HE6.out).mono ?_; rintro e w7 ⟨rfl, hb7⟩; refine Hid.out ?_)
     refine Lib.hid ?_
     have HE7 := Lib.hid (HE6.out.next hb7)
     clear hb7
     go_wp2_with (go_at_call 92; refine (must_yes (by first | rfl | simp)).mono ?_; rintro e w8 ⟨rfl, rfl⟩; refine Hid.out ?_)
     refine Lib.hid ?_
     obtain ⟨hrep, hput⟩ := HRP.out _ HE7.out
     have HRE := Lib.hid hrep
     have HPU := Lib.hid hput
     clear hrep hput
     subst hnn2
     go_wp2_with (go_at_call 133; refine HRE.out.mono ?_; rintro e w8 ⟨g, rfl, hcs, hb8⟩; refine Hid.out ?_)
     refine Lib.hid ?_
     have hpu := HPU.out g w8 hcs hb8
     have HE8 := Lib.hid ((HE7.out.al (.cells #[.int .u8 K, .string ⟨#[]⟩, .int .i64 0] 50)).next hb8)
     clear hcs hb8
     cases PR with
     | bad y q =>
      have HRB := Lib.hid (HPB.out y q rfl)
      go_wp2_with (go_at_call 132; refine hpu.mono ?_; rintro e w9 ⟨rfl, hf⟩; refine Hid.out ?_)
      refine Lib.hid ?_
      exact ⟨rfl, by rw [HRB.out]; exact ⟨rfl, HE8.out.kb.trans (hf.kb HE8.out.hBr (own_base HE8.out.own))⟩⟩
     | ok st2 =>
      have HRO := Lib.hid (HPO.out st2 rfl)
      go_wp2_with (go_at_call 132; refine hpu.mono ?_; rintro e w9 ⟨rfl, ⟨sv2, ha, ho⟩, hf⟩; refine Hid.out ?_)
      refine Lib.hid ?_
      have HE9 := Lib.hid (HE8.out.kb' ha ho (hf.kb HE8.out.hBr (own_base HE8.out.own)))
      clear ha ho hf hpu
      go_wp2_with (go_at_call 79; refine (take_close HE9.out.at_ HT2.out HOP.out.1 HOP.out.2).mono ?_; rintro e w10 ⟨rfl, ha, hg⟩; refine Hid.out ?_)
      refine Lib.hid ?_
      have HE10 := Lib.hid (HE9.out.gb ha hg)
      clear ha hg
      go_wp2_with fail
      exact bodyPost_end (results_none rfl _ _ _) rfl (by rw [HRO.out]; exact ⟨rfl, ⟨sv2, HE10.out.at_, HE10.out.own⟩, HE10.out.kb⟩)
   ·
    have hstop : ¬ (p < 1 ∨ (p < 2 ∧ 10 < K) ∨ (20 ≤ K ∧ closesR l' fin = false)) := by omega
    have HE := Lib.hid HP.out.ex
    have hse := HP.out.stop hstop
    obtain ⟨T, hT⟩ : ∃ T, tokAt l' fin = T := ⟨_, rfl⟩
    cases hcl : closesR l' fin with
    | false =>
     have hRb := end_bad hse hcl
     have hc1 := fun wr (H : ExS A B l' fin op' sv' st' w wr) => closes_any H.at_
     have hp1 := fun wr (H : ExS A B l' fin op' sv' st' w wr) => wpeek_any H.at_
     have hm1 := fun wr y is (hi : is = false) (H : ExS A B l' fin op' sv' st' w wr) => must_no (why := y) (is := is) hi H.at_
     rw [show ((tokAt l' fin).k == 2) = false from hcl] at hc1
     rw [hT] at hRb hp1 hm1
     obtain ⟨Tk, Ts, Tn, Ta⟩ := T
     unfold Tok.v at hp1
     simp only at hRb hp1 hm1
     have HC1 := Lib.hid hc1
     have HP1 := Lib.hid hp1
     have HM1 := Lib.hid hm1
     have hfl := fldk (.int .u8 Tk) (.string Ts) (.int .i64 Tn) (.int .i64 Ta)
     clear hc1 hp1 hm1 hT hse hcl hstop
     by_cases hd : Tk = 1 ∧ ¬ op' < 8
     ·
      rw [if_pos hd] at hRb
      have HRB := Lib.hid hRb
      obtain ⟨hd1, hd2⟩ := hd
      subst hd1
      clear hRb
      go_wp2_with (go_at_call 107; refine (HC1.out _ HE.out).mono ?_; rintro e w6 ⟨rfl, hb6⟩; refine Hid.out ?_)
      refine Lib.hid ?_
      have HE6 := Lib.hid (HE.out.next hb6)
      clear hb6
      go_wp2_with (go_at_call 105; refine (HP1.out _ HE6.out).mono ?_; rintro e w7 ⟨rfl, hb7⟩; refine Hid.out ?_)
      refine Lib.hid ?_
      have HE7 := Lib.hid (HE6.out.next hb7)
      have c2 := HE7.out.c2
      clear hb7
      go_wp2_with (go_at_call 92; refine (HM1.out _ _ _ (by first | rfl | (simp; omega)) HE7.out).mono ?_; rintro e w8 ⟨rfl, hb8⟩; refine Hid.out ?_)
      refine Lib.hid ?_
      exact ⟨rfl, by rw [HRB.out]; exact ⟨rfl, (HE7.out.next hb8).kb⟩⟩
     ·
      rw [if_neg hd] at hRb
      have HRB := Lib.hid hRb
      clear hRb
      by_cases hd1 : Tk = 1
      ·
       have hd8 : op' < 8 := by by_cases h8 : op' < 8; exact h8; exact absurd ⟨hd1, h8⟩ hd
       subst hd1
       clear hd
       go_wp2_with (go_at_call 107; refine (HC1.out _ HE.out).mono ?_; rintro e w6 ⟨rfl, hb6⟩; refine Hid.out ?_)
       refine Lib.hid ?_
       have HE6 := Lib.hid (HE.out.next hb6)
       clear hb6
       go_wp2_with (go_at_call 105; refine (HP1.out _ HE6.out).mono ?_; rintro e w7 ⟨rfl, hb7⟩; refine Hid.out ?_)
       refine Lib.hid ?_
       have HE7 := Lib.hid (HE6.out.next hb7)
       have c2 := HE7.out.c2
       clear hb7
       go_wp2_with (go_at_call 92; refine (must_yes (by first | rfl | (simp; omega) | simp)).mono ?_; rintro e w8 ⟨rfl, rfl⟩; refine Hid.out ?_)
       refine Lib.hid ?_
       clear c2
       go_wp2_with (go_at_call 107; refine (HC1.out _ HE7.out).mono ?_; rintro e w8 ⟨rfl, hb8⟩; refine Hid.out ?_)
       refine Lib.hid ?_
       have HE8 := Lib.hid (HE7.out.next hb8)
       clear hb8
       go_wp2_with (go_at_call 92; refine (HM1.out _ _ _ (by first | rfl | simp) HE8.out).mono ?_; rintro e w9 ⟨rfl, hb9⟩; refine Hid.out ?_)
       refine Lib.hid ?_
       exact ⟨rfl, by rw [HRB.out]; exact ⟨rfl, (HE8.out.next hb9).kb⟩⟩
      ·
       have e1 : (Tk != 1) = true := by simp [hd1]
       clear hd
       go_wp2_with (go_at_call 107; refine (HC1.out _ HE.out).mono ?_; rintro e w6 ⟨rfl, hb6⟩; refine Hid.out ?_)
       refine Lib.hid ?_
       have HE6 := Lib.hid (HE.out.next hb6)
       clear hb6
       go_wp2_with (go_at_call 105; refine (HP1.out _ HE6.out).mono ?_; rintro e w7 ⟨rfl, hb7⟩; refine Hid.out ?_)
       refine Lib.hid ?_
       have HE7 := Lib.hid (HE6.out.next hb7)
       have c2 := HE7.out.c2
       clear hb7
       go_wp2_with (go_at_call 92; refine (must_yes (by first | rfl | (simp; omega) | simp)).mono ?_; rintro e w8 ⟨rfl, rfl⟩; refine Hid.out ?_)
       refine Lib.hid ?_
       clear c2
       go_wp2_with (go_at_call 107; refine (HC1.out _ HE7.out).mono ?_; rintro e w8 ⟨rfl, hb8⟩; refine Hid.out ?_)
       refine Lib.hid ?_
       have HE8 := Lib.hid (HE7.out.next hb8)
       clear hb8
       go_wp2_with (go_at_call 92; refine (HM1.out _ _ _ (by first | rfl | simp) HE8.out).mono ?_; rintro e w9 ⟨rfl, hb9⟩; refine Hid.out ?_)
       refine Lib.hid ?_
       exact ⟨rfl, by rw [HRB.out]; exact ⟨rfl, (HE8.out.next hb9).kb⟩⟩
    | true =>
     have ht2 : (tokAt l' fin).k = 2 := by simpa [closesR] using hcl
     obtain ⟨t2, rest, rfl⟩ := tok_cons ht2 (by decide)
     have ht2' : t2.k = 2 := ht2
     have hc1 := fun wr (H : ExS A B (t2 :: rest) fin op' sv' st' w wr) => closes_any H.at_
     rw [show ((tokAt (t2 :: rest) fin).k == 2) = true from hcl] at hc1
     obtain ⟨nn, hnn⟩ : ∃ nn : Nat, (if 20 ≤ K then p - 1 else 1) = nn := ⟨_, rfl⟩
     have hnn2 : nn = 1 := by rw [← hnn, if_neg hK20]
     obtain ⟨PR, hPR⟩ : ∃ PR, putR fin (t2 :: rest) st' (List.replicate nn ⟨K, ⟨#[]⟩, 0⟩) = PR := ⟨_, rfl⟩
     have HPB := Lib.hid fun y q (e : PR = .bad y q) => end_put_bad hse hcl (by rw [hnn, hPR]; exact e)
     have HPO := Lib.hid fun st2 (e : PR = .ok st2) => end_put_ok hse ht2' (by rw [hnn, hPR]; exact e)
     have HC1 := Lib.hid hc1
     have HST := Lib.hid HP.out.st_
     have HRP := Lib.hid fun wr (H : ExS A B (t2 :: rest) fin op' sv' st' w wr) => rep_new (nn := nn) K (by omega) (by omega) H hPR HST.out
     have HT2 := Lib.hid ht2'
     have HOP := Lib.hid HP.out.op_
     clear hc1 hnn hPR hse hcl hstop hT ht2 ht2'
     go_wp2_with (go_at_call 107; refine (HC1.out _ HE.out).mono ?_; rintro e w6 ⟨rfl, hb6⟩; refine Hid.out ?_)
     refine Lib.hid ?_
     have HE6 := Lib.hid (HE.out.next hb6)
     clear hb6
     go_wp2_with (go_at_call 92; refine (must_yes (by first | rfl | simp)).mono ?_; rintro e w8 ⟨rfl, rfl⟩; refine Hid.out ?_)
     refine Lib.hid ?_
     go_wp2_with (go_at_call 107; refine (HC1.out _ HE6.out).mono ?_; rintro e w7 ⟨rfl, hb7⟩; refine Hid.out ?_)
     refine Lib.hid ?_
     have HE7 := Lib.hid (HE6.out.next hb7)
     clear hb7
     go_wp2_with (go_at_call 92; refine (must_yes (by first | rfl | simp)).mono ?_; rintro e w8 ⟨rfl, rfl⟩; refine Hid.out ?_)
     refine Lib.hid ?_
     obtain ⟨hrep, hput⟩ := HRP.out _ HE7.out
     have HRE := Lib.hid hrep
     have HPU := Lib.hid hput
     clear hrep hput
     subst hnn2
     go_wp2_with (go_at_call 133; refine HRE.out.mono ?_; rintro e w8 ⟨g, rfl, hcs, hb8⟩; refine Hid.out ?_)
     refine Lib.hid ?_
     have hpu := HPU.out g w8 hcs hb8
     have HE8 := Lib.hid ((HE7.out.al (.cells #[.int .u8 K, .string ⟨#[]⟩, .int .i64 0] 50)).next hb8)
     clear hcs hb8
     cases PR with
     | bad y q =>
      have HRB := Lib.hid (HPB.out y q rfl)
      go_wp2_with (go_at_call 132; refine hpu.mono ?_; rintro e w9 ⟨rfl, hf⟩; refine Hid.out ?_)
      refine Lib.hid ?_
      exact ⟨rfl, by rw [HRB.out]; exact ⟨rfl, HE8.out.kb.trans (hf.kb HE8.out.hBr (own_base HE8.out.own))⟩⟩
     | ok st2 =>
      have HRO := Lib.hid (HPO.out st2 rfl)
      go_wp2_with (go_at_call 132; refine hpu.mono ?_; rintro e w9 ⟨rfl, ⟨sv2, ha, ho⟩, hf⟩; refine Hid.out ?_)
      refine Lib.hid ?_
      have HE9 := Lib.hid (HE8.out.kb' ha ho (hf.kb HE8.out.hBr (own_base HE8.out.own)))
      clear ha ho hf hpu
      go_wp2_with (go_at_call 79; refine (take_close HE9.out.at_ HT2.out HOP.out.1 HOP.out.2).mono ?_; rintro e w10 ⟨rfl, ha, hg⟩; refine Hid.out ?_)
      refine Lib.hid ?_
      have HE10 := Lib.hid (HE9.out.gb ha hg)
      clear ha hg
      go_wp2_with fail
      exact bodyPost_end (results_none rfl _ _ _) rfl (by rw [HRO.out]; exact ⟨rfl, ⟨sv2, HE10.out.at_, HE10.out.own⟩, HE10.out.kb⟩)
end Go.Proofs.YtgjfbbmachoolaaGreatDoor.lx
