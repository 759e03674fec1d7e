/-
  The parser's leaf, every way. Conditions as for its arms. slices.Repeat of one step. Conditions: the step lies there; the count is no great number. The parser's expr: what stands ahead of its parts. Conditions: the walk lies there; its steps' row is its own; the package-level variables are laid; the tokens' texts are no great ones. What expr leaves: laws of exprR. No condition. The parser's expr, walked: what it reads in brackets. Conditions: as in ExS.
-/
import Derived.Test.YtegnoaejlhbpbaaGreatDoorM06
import Derived.Laws.CopyRow
import Derived.OwnWalk
import Derived.BigRegion
import Derived.Deep.RegionWith
import Derived.Deep.CutRange
namespace Go.Proofs.YtegnoaejlhbpbaaGreatDoor.lx
open Go.RowKit Go.Maps

set_option maxHeartbeats 4000000 in
set_option maxRecDepth 100000 in
theorem leaf_other {A B : Nat} {l : List Tok} {fin op : Int} {sv : Value} {st : List Stp} {w : World} (h : AtW A l fin op sv w) (hAB : A < B) (hB : B ≤ w.heap.size) (hown : w.ownsRow B 29 3 sv st.length (stpCells st)) (hG : PGlob w)
    (h3 : (tokAt l fin).k ≠ 3) (h4 : (tokAt l fin).k ≠ 4) (h5 : (tokAt l fin).k ≠ 5) :
    Calls Tryz.prog 104 #[.pointer (some ⟨A, 0, none⟩)] w fun e w' => e = .panicked [flt 13 (tokAt l fin).a] ∧ KB A B w w' := by
  have hmm := @run_makeMap Tryz.prog
  obtain ⟨w1, w2, w3, r1, r2, r3, ho, hb4⟩ := const_laid w
  have hL : Leafed A B l fin op sv st w w3 := ⟨h.below hb4, hb4, own_bel hown hb4, Nat.le_trans hB hb4.size, hAB, hG.self hb4⟩
  have hp := wpeek_any hL.at_
  have HL := Lib.hid fun w5 (hb : Below w3.heap.size w3 w5) => hL.next hb
  have HBW := Lib.hid hB
  have HM := Lib.hid fun w2 is (hi : is = false) (H : AtW A l fin op sv w2) => must_no (why := 13) (is := is) hi H
  clear h hown hL hG ho
  generalize tokAt l fin = t at hp h3 h4 h5 HM ⊢
  obtain ⟨tk, ts, tn, ta⟩ := t
  unfold Tok.v at hp
  simp only at h3 h4 h5 hp
  have e3 : (tk == 3) = false := by simp [h3]
  have e4 : (tk == 4) = false := by simp [h4]
  have e5 : (tk == 5) = false := by simp [h5]
  go_enter Tryz.func104, Tryz.ntmps104
  go_wp2_with (go_at_call 86; refine hp.mono ?_; rintro e w5 ⟨rfl, hb5⟩; refine Hid.out ?_)
  refine Lib.hid ?_
  have hl := HL.out w5 hb5
  have hlt5 : A < w5.heap.size := hl.at_.lt
  have HLT := Lib.hid (hl.tk (.cells #[.int .u8 tk, .string ts, .int .i64 tn, .int .i64 ta] 79))
  clear hp hb5 HL hl r1 r2 r3 hmm
  go_wp2_with (go_at_call 71; refine (HM.out _ _ (by first | rfl | simp) HLT.out.at_).mono ?_; rintro e w7 ⟨rfl, hb7⟩; refine Hid.out ?_)
  refine Lib.hid ?_
  exact ⟨rfl, rfl, KB.of_below (below_self HLT.out.below hb7) HBW.out⟩

set_option maxHeartbeats 4000000 in
set_option maxRecDepth 100000 in
theorem leaf_nocol {A B : Nat} {t : Tok} {rest : List Tok} {fin op : Int} {sv : Value} {st : List Stp} {w : World} (h : AtW A (t :: rest) fin op sv w) (hAB : A < B) (hB : B ≤ w.heap.size) (hown : w.ownsRow B 29 3 sv st.length (stpCells st)) (hG : PGlob w)
    (hk : t.k = 3) (hc : constK t.s = none) (hsz : t.s.size < 4294967281) (hcol : columnR t.s = false) :
    Calls Tryz.prog 104 #[.pointer (some ⟨A, 0, none⟩)] w fun e w' => e = .panicked [flt 13 t.a] ∧ KB A B w w' := by
  have hmm := @run_makeMap Tryz.prog
  obtain ⟨w1, w2, w3, r1, r2, r3, ho, hb4⟩ := const_laid w
  have hL : Leafed A B (t :: rest) fin op sv st w w3 := ⟨h.below hb4, hb4, own_bel hown hb4, Nat.le_trans hB hb4.size, hAB, hG.self hb4⟩
  have hp := wpeek_any hL.at_
  rw [show tokAt (t :: rest) fin = t from rfl] at hp
  have HL := Lib.hid fun w5 (hb : Below w3.heap.size w3 w5) => hL.next hb
  have HBW := Lib.hid hB
  have HM := Lib.hid fun w2 is (hi : is = false) (H : AtW A (t :: rest) fin op sv w2) => must_no (why := 13) (is := is) hi H
  rw [show tokAt (t :: rest) fin = t from rfl] at HM
  clear h hown hL hG
  obtain ⟨tk, ts, tn, ta⟩ := t
  unfold Tok.v at hp
  have HSZ : Hid (ts.size ≤ maxLen) := Lib.hid (by simp only at hsz; unfold maxLen; omega)
  have HSZ2 : Hid (ts.size < 4294967281) := Lib.hid hsz
  have HHAS : Hid (Maps.has constD (.string ts.data.toList) = false) := Lib.hid ((constD_has ts).trans (by simp only at hc; rw [hc]; rfl))
  have HCOL : Hid (columnR ts = false) := Lib.hid hcol
  have HCO : Hid (∀ w, PGlob w → Calls Tryz.prog 32 #[.string ts] w fun e w' => e = .returned (.bool false) ∧ Below w.heap.size w w') := Lib.hid (fun w hG => HCOL.out ▸ column_any ts w hG HSZ2.out)
  simp only at hk hp HM ⊢
  subst hk
  clear hc hsz hcol HCOL
  go_enter Tryz.func104, Tryz.ntmps104
  go_wp2_with (go_at_call 86; refine hp.mono ?_; rintro e w5 ⟨rfl, hb5⟩; refine Hid.out ?_)
  refine Lib.hid ?_
  have hl := HL.out w5 hb5
  have hlt5 : A < w5.heap.size := hl.at_.lt
  have ho5 := ho.kept (gb_of_below hb5 none) (by simp)
  have HLF := Lib.hid hl
  clear hp hb5 HL hl r1 r2 r3 hmm
  have ho6 := ho5.kept (gb_of_below ((Below.refl _ w5).alloc (Nat.le_refl _) (.cells #[.int .u8 3, .string ts, .int .i64 tn, .int .i64 ta] 79)) none) (by simp)
  go_wp2_with (at_lookup; refine wpList_lookup_own_ok_int _ rfl _ _ 174 rfl 9 27 .u8 law_str Tryz.underlying174 Tryz.underlying27 (zero_sk _) w.heap.size 3 _ rfl ho6 _ _ rfl (Go.WideMaps.keyOf_string_mk Tryz.underlying9 HSZ.out) ?_; intro c hat hwc; rw [HHAS.out]; clear hat hwc ho ho5 ho6; refine Hid.out ?_)
  refine Lib.hid ?_
  have HGL := Lib.hid (HLF.out.tk (.cells #[.int .u8 3, .string ts, .int .i64 tn, .int .i64 ta] 79))
  go_wp2_with (go_at_call 32; refine (HCO.out _ HGL.out.glob).mono ?_; rintro e w6 ⟨rfl, hb6⟩; refine Hid.out ?_)
  refine Lib.hid ?_
  have HL6 := Lib.hid (HGL.out.next hb6)
  clear hb6
  go_wp2_with (go_at_call 71; refine (HM.out _ _ (by first | rfl | simp) HL6.out.at_).mono ?_; rintro e w7 ⟨rfl, hb7⟩; refine Hid.out ?_)
  refine Lib.hid ?_
  exact ⟨rfl, rfl, KB.of_below (below_self HL6.out.below hb7) HBW.out⟩

theorem leaf_any {A B : Nat} {l : List Tok} {fin op : Int} {sv : Value} {st : List Stp} {w : World} (h : AtW A l fin op sv w) (hAB : A < B) (hB : B ≤ w.heap.size) (hown : w.ownsRow B 29 3 sv st.length (stpCells st)) (hst : st.length ≤ 64) (hG : PGlob w)
    (hs : ∀ t ∈ l, t.s.size < 4294967281) :
    Calls Tryz.prog 104 #[.pointer (some ⟨A, 0, none⟩)] w fun e w' => ExprP A B fin w (leafR fin l op st) e w' := by
  by_cases h4 : (tokAt l fin).k = 4
  · obtain ⟨t, rest, rfl⟩ := tok_cons h4 (by decide)
    have e : leafR fin (t :: rest) op st = (putR fin (t :: rest) st [⟨4, ⟨#[]⟩, t.n⟩]).then fun st' => .ok (rest, op, st') := by
      have e : leafS t = some ⟨4, ⟨#[]⟩, t.n⟩ := by unfold leafS; rw [if_pos (show t.k = 4 from h4)]
      unfold leafR
      rw [show tokAt (t :: rest) fin = t from rfl, e]
      rfl
    rw [e]
    exact leaf_int h hAB hB hown hst hG h4
  by_cases h5 : (tokAt l fin).k = 5
  · obtain ⟨t, rest, rfl⟩ := tok_cons h5 (by decide)
    have e : leafR fin (t :: rest) op st = (putR fin (t :: rest) st [⟨5, t.s, 0⟩]).then fun st' => .ok (rest, op, st') := by
      have e : leafS t = some ⟨5, t.s, 0⟩ := by unfold leafS; rw [if_neg (show ¬ t.k = 4 from h4), if_pos (show t.k = 5 from h5)]
      unfold leafR
      rw [show tokAt (t :: rest) fin = t from rfl, e]
      rfl
    rw [e]
    exact leaf_text h hAB hB hown hst hG h5
  by_cases h3 : (tokAt l fin).k = 3
  · obtain ⟨t, rest, rfl⟩ := tok_cons h3 (by decide)
    have h3' : t.k = 3 := h3
    have hst' := hs t List.mem_cons_self
    cases hc : constK t.s with
    | some k =>
      have e : leafR fin (t :: rest) op st = (putR fin (t :: rest) st [⟨k, ⟨#[]⟩, 0⟩]).then fun st' => .ok (rest, op, st') := by
        unfold leafR
        rw [show tokAt (t :: rest) fin = t from rfl, leafS_const h3' hc]
        rfl
      rw [e]
      exact leaf_const h hAB hB hown hst hG h3' hc hst'
    | none =>
      cases hcol : columnR t.s with
      | true =>
        have e : leafR fin (t :: rest) op st = (putR fin (t :: rest) st [⟨6, t.s, 0⟩]).then fun st' => .ok (rest, op, st') := by
          unfold leafR
          rw [show tokAt (t :: rest) fin = t from rfl, leafS_atom h3' hc, hcol]
          rfl
        rw [e]
        exact leaf_col h hAB hB hown hst hG h3' hc hst' hcol
      | false =>
        have e : leafR fin (t :: rest) op st = .bad 13 t.a := by
          unfold leafR
          rw [show tokAt (t :: rest) fin = t from rfl, leafS_atom h3' hc, hcol]
          rfl
        rw [e]
        exact leaf_nocol h hAB hB hown hG h3' hc hst' hcol
  · have e : leafR fin l op st = .bad 13 (tokAt l fin).a := by
      have e : leafS (tokAt l fin) = none := by unfold leafS; rw [if_neg h4, if_neg h5, if_neg h3]
      unfold leafR
      rw [e]
    rw [e]
    exact leaf_other h hAB hB hown hG h3 h4 h5
end Go.Proofs.YtegnoaejlhbpbaaGreatDoor.lx
namespace Go.Proofs.YtegnoaejlhbpbaaGreatDoor.lx
open Go.RowKit

theorem run_copy_rows {P : Program} (w : World) (dT sT ty elem : TypeId) (k n : Nat) (g o dLen dCap : Nat) (a : Addr) (sLen sCap : Nat) (cur : Array Value) (t : TypeId) (cs : List Value)
    (hu : P.underlying dT = some (.slice elem)) (hs : (P.info? elem).map (·.size) = some k)
    (hg : w.heap[g]? = some (.cells cur t (0, 0))) (hn : n = Nat.min sLen dLen) (hcs : cs.length = n * k)
    (hsrc : ∀ j v, cs[j]? = some v → w.cell? (a.add j) = some v) (hfit : o + cs.length ≤ cur.size) (h1 : ∀ v ∈ cs, v.oneCell' = true) :
    (Builtin.copy_ #[dT, sT] ty #[.slice (some ⟨g, o, none⟩) dLen dCap, .slice (some a) sLen sCap]).run P w =
      .ok (goInt n) (w.setRow g (cur.toList.take o ++ cs ++ cur.toList.drop (o + cs.length)).toArray) := by
  have hl := run_loadCells_list (P := P) w a cs hsrc
  have hst := run_storeCells_at P g o t cs 0 cur w hg (by simpa using hfit) h1
  rw [hcs] at hl
  cases hq : P.info? elem with
  | none => simp [hq] at hs
  | some i =>
    have hi : i.size = k := by simpa [hq] using hs
    simp [Builtin.copy_, run_underlying hu, Builtin.lenOf, Builtin.firstCells, sizeOf, typeInfo, hq, hi, ← hn, hl, hst]

def RepAt (g n m : Nat) (x : Stp) (w : World) : Prop := ∃ cur : Array Value, w.heap[g]? = some (.cells cur 29 (0, 0)) ∧ cur.size = n * 3 ∧ cur.toList.take (m * 3) = stpCells (List.replicate m x)
theorem RepAt.cell {g n m : Nat} {x : Stp} {w : World} (h : RepAt g n m x w) (j : Nat) (v : Value) (hj : (stpCells (List.replicate m x))[j]? = some v) : w.cell? ⟨g, j, none⟩ = some v := by
  obtain ⟨cur, hg, hs, ht⟩ := h
  rw [Lib.cell_of_heap hg]
  rw [← ht, List.getElem?_take] at hj
  split at hj
  · simpa using hj
  · cases hj
theorem infoSz : (Tryz.prog.info? 29).map (·.size) = some 3 := by kernel_rfl
theorem rep_prefix (x : Stp) {c m : Nat} (h : c ≤ m) {j : Nat} {v : Value} (hj : (stpCells (List.replicate c x))[j]? = some v) : (stpCells (List.replicate m x))[j]? = some v := by
  rw [show List.replicate m x = List.replicate c x ++ List.replicate (m - c) x by rw [List.replicate_append_replicate]; congr 1; omega, stpCells_append]
  rw [List.getElem?_append_left (List.getElem?_eq_some_iff.1 hj).1]
  exact hj
/-- a copy behind what is there -/
theorem rep_copy {g n m c sLen sCap : Nat} {a : Addr} {x : Stp} {w : World} (h : RepAt g n m x w) (hm : m + c ≤ n) (hc : c = Nat.min sLen (n - m)) (hsrc : ∀ j v, (stpCells (List.replicate c x))[j]? = some v → w.cell? (a.add j) = some v) :
    ∃ w', (∀ ty, (Builtin.copy_ #[23, 23] ty #[.slice (some ⟨g, m * 3, none⟩) (n - m) (n - m), .slice (some a) sLen sCap]).run Tryz.prog w = .ok (goInt c) w') ∧ RepAt g n (m + c) x w' ∧ Below g w w' := by
  obtain ⟨cur, hg, hs, ht⟩ := h
  have hl := stpCells_length (List.replicate c x)
  rw [List.length_replicate] at hl
  refine ⟨_, fun ty => run_copy_rows w _ _ ty 29 3 c g (m * 3) (n - m) (n - m) a sLen sCap cur 29 (stpCells (List.replicate c x)) Tryz.underlying23 infoSz hg hc hl hsrc (by omega) (stpCells_one _), ?_, ?_⟩
  · refine ⟨_, setRow_heap w g cur _ 29 _ hg, ?_, ?_⟩
    · simp [hl]; omega
    · have h1 : (cur.toList.take (m * 3)).length = m * 3 := by simp; omega
      rw [show (List.take (m * 3) cur.toList ++ stpCells (List.replicate c x) ++ List.drop (m * 3 + (stpCells (List.replicate c x)).length) cur.toList).toArray.toList = List.take (m * 3) cur.toList ++ stpCells (List.replicate c x) ++ List.drop (m * 3 + (stpCells (List.replicate c x)).length) cur.toList from rfl]
      rw [List.take_append_of_le_length (by rw [List.length_append, h1, hl]; omega), List.take_of_length_le (by rw [List.length_append, h1, hl]; omega), ht, ← stpCells_append, List.replicate_append_replicate]
  · refine ⟨rfl, rfl, rfl, by simp [World.setRow], fun k hk => ?_⟩
    simp [World.setRow, Array.getElem?_modify, show ¬ g = k by omega]

set_option maxHeartbeats 1000000 in
set_option maxRecDepth 100000 in
theorem repeat_any (bx : Nat) (x : Stp) (n : Nat) (w : World) (hn1 : 1 ≤ n) (hn : n ≤ 1099511627776) (hc : ∀ (j : Nat) v, x.cells[j]? = some v → w.cell? ⟨bx, j, none⟩ = some v) :
    Calls Tryz.prog 107 #[.slice (some ⟨bx, 0, none⟩) 1 1, .int .i64 n] w fun e w' => ∃ g, e = .returned (.slice (some ⟨g, 0, none⟩) n n) ∧ (∀ (j : Nat) u, (stpCells (List.replicate n x))[j]? = some u → w'.cell? ⟨g, 0 + j, none⟩ = some u) ∧ Below w.heap.size w w' := by
  have hmul := Tryz.bits_Mul 1 n (by decide) (by omega)
  rw [show 1 * n / 18446744073709551616 = 0 by omega, show 1 * n % 18446744073709551616 = n by omega] at hmul
  have hmul := fun w => (hmul w).mono fun e w' ⟨h1, h2⟩ => (⟨h1, h2.symm⟩ : e = _ ∧ w = w')
  have hnp : ¬ (n : Int) < 0 := by omega
  have hnm : ¬ (9223372036854775807 : Int) < (n : Int) := by omega
  obtain ⟨i0, hi0, hz0, hz1, hz2⟩ := info_parts infoS
  go_enter Tryz.func107, Tryz.ntmps107
  go_wp2_with (go_at_call 125; refine (hmul _).mono ?_; rintro e w2 ⟨rfl, rfl⟩; refine Hid.out ?_)
  refine Lib.hid ?_
  go_wp2_with (at_make; refine wpList_make_full _ rfl _ _ 23 rfl w.heap.size 29 i0 _ 3 Tryz.underlying23 hi0 hz0 hz1 .i64 .i64 _ _ n rfl rfl rfl rfl (by rw [hz2]; omega) (by unfold maxLen; omega) (Nat.le_refl _) ?_; intro w3 hown hg3; refine Hid.out ?_)
  refine Lib.hid ?_
  have hR0 : RepAt w.heap.size n 0 x w3 := by
    rcases hown.2 with ⟨hv, _⟩ | ⟨g, cap, cur, hv, hb, hgc, hcc, hmx, hs, ht⟩
    · cases hv
    · injection hv with h1 h2 h3
      injection h1 with h1
      injection h1 with h1
      subst h1
      subst h3
      exact ⟨cur, hgc, hs, by simp [stpCells]⟩
  have hb3 : Below w.heap.size w w3 := ⟨hg3.os, hg3.tape, hg3.output, hg3.size, fun k hk => hg3.block k hk (by simp)⟩
  obtain ⟨w4, r4, hR4, hb4⟩ := rep_copy (sCap := 1) hR0 (show 0 + 1 ≤ n by omega) (show 1 = Nat.min 1 (n - 0) by show 1 = min 1 (n - 0); omega) (a := ⟨bx, 0, none⟩) (fun j v hj => by
    have : x.cells[j]? = some v := by simpa [stpCells] using hj
    have h0 := keep_cellP hb3 (hc j v this)
    unfold Addr.add
    by_cases hj0 : j = 0
    · subst hj0; simpa using h0
    · simpa [hj0] using h0)
  simp only [Nat.zero_mul, Nat.sub_zero, Nat.zero_add] at r4 hR4
  have hb04 : Below w.heap.size w w4 := hb3.trans hb4
  clear hown hg3 hR0 hb3 hb4 hmul hi0 hz0 hz1 hz2
  unfold goInt at r4
  go_wp2_with fail
  go_loopw [8] (fun v wr => ∃ m : Nat, v = .int .i64 m ∧ 1 ≤ m ∧ m ≤ n ∧ RepAt w.heap.size n m x wr ∧ Below w.heap.size w wr) (fun v _ => n - (intOf v).toNat)
  case atStart => exact ⟨1, rfl, Nat.le_refl _, hn1, hR4, hb04⟩
  case round =>
    clear hR4 hb04 r4
    obtain ⟨m, rfl, hm1, hmn, hR, hb⟩ := hrel
    by_cases hlt : m < n
    · obtain ⟨c, hcd⟩ : ∃ c, Nat.min m (n - m) = c := ⟨_, rfl⟩
      have hc2 : c ≤ m ∧ c ≤ n - m ∧ 1 ≤ c := by
        have : min m (n - m) = c := hcd
        omega
      have hRd : RepAt w.heap.size n m x wr.drew := hR
      have hnm2 : ¬ n = m := by omega
      obtain ⟨w5, r5, hR5, hb5⟩ := rep_copy (sCap := n) hRd (show m + c ≤ n by omega) hcd.symm (a := ⟨w.heap.size, 0, none⟩) (fun j v hj => by
        have h0 := hRd.cell j v (rep_prefix x hc2.1 hj)
        unfold Addr.add
        by_cases hj0 : j = 0
        · subst hj0; simpa using h0
        · simpa [hj0] using h0)
      unfold goInt at r5
      have hbd : Below w.heap.size w wr.drew := ⟨hb.os, hb.tape, hb.output, hb.size, hb.block⟩
      have hbz := hbd.trans hb5
      clear hcd hR hRd hb hbd hb5
      go_wp2_with fail
      go_region
      all_goals go_wp2_with fail
      exact ⟨⟨m + c, by go_num, by omega, by omega, hR5, hbz⟩, by simp only [intOf]; omega⟩
    · obtain rfl : m = n := by omega
      go_wp2_with fail
      go_ret
      exact ⟨_, rfl, fun j u hj => by rw [Nat.zero_add]; exact hR.cell j u hj, hb⟩
end Go.Proofs.YtegnoaejlhbpbaaGreatDoor.lx
namespace Go.Proofs.YtegnoaejlhbpbaaGreatDoor.lx
open Go.RowKit

set_option maxRecDepth 100000 in
theorem opfn_any (s : ByteArray) (w : World) (hG : PGlob w) :
    Calls Tryz.prog 105 #[.string s] w fun e w' => e = .returned (.bool (isOp s)) ∧ Below w.heap.size w w' := by
  have hop := operators_any w hG
  have hcn := fun w2 (hS : SBlk w.heap.size opsL w2) => Tryz.slices_Contains_string w.heap.size 0 15 15 opsL s w2 (by decide) (by decide) hS
  rw [show opsL.take 15 = opsL from rfl] at hcn
  have HC := Lib.hid fun w2 hS => (hcn w2 hS).mono fun e w' ⟨h1, h2⟩ => (⟨h1, h2.symm⟩ : e = _ ∧ w2 = w')
  clear hcn
  go_enter Tryz.func105, Tryz.ntmps105
  go_wp2_with (go_at_call 27; refine hop.mono ?_; rintro e w2 ⟨rfl, hS, hb2⟩; refine Hid.out ?_)
  refine Lib.hid ?_
  go_wp2_with (go_at_call 54; refine (HC.out _ hS).mono ?_; rintro e w3 ⟨rfl, rfl⟩; refine Hid.out ?_)
  refine Lib.hid ?_
  go_wp2_with fail
  go_ret
  exact ⟨rfl, hb2⟩
theorem lets_op : Lets 105 isOp := ⟨enters_of Tryz.func105 (by kernel_rfl) rfl, fun s w hG _ => opfn_any s w hG⟩

theorem idx_range : ∀ (zs : List ByteArray) (x : ByteArray) (k : Nat), Lib.idxFromS zs x k = -1 ∨ ((k : Int) ≤ Lib.idxFromS zs x k ∧ Lib.idxFromS zs x k < k + zs.length) := by
  intro zs
  induction zs with
  | nil => intro x k; left; rfl
  | cons z zs ih =>
    intro x k
    unfold Lib.idxFromS
    split
    · right; simp; omega
    · rcases ih x (k + 1) with h | h
      · left; exact h
      · right; simp only [List.length_cons]; omega
theorem opK_range {s : ByteArray} (h : isOp s = true) : 7 ≤ opK s ∧ opK s ≤ 21 := by
  have h0 : 0 ≤ Lib.idxOfS opsL s := of_decide_eq_true h
  have h1 := idx_range opsL s 0
  have h2 : opsL.length = 15 := rfl
  unfold opK
  unfold Lib.idxOfS at h0 ⊢
  omega
theorem takeR_ok {fin k : Int} {p : ByteArray → Bool} {l l' : List Tok} {op op' : Int} (h : takeR fin k p l op = .ok (l', op')) (hk : k ≠ 0) : l' = l.tail ∧ (tokAt l fin).k = k ∧ p (tokAt l fin).s = true ∧ l'.length + 1 = l.length ∧ op - 1 ≤ op' ∧ op' ≤ op + 1 ∧ (k = 1 → op < 8) := by
  unfold takeR at h
  split at h
  · cases h
  rename_i h1
  split at h
  · cases h
  rename_i h2
  split at h
  · cases h
  rename_i h3
  injection h with h
  injection h with h4 h5
  have h2' := Classical.not_not.1 h2
  obtain ⟨t, rest, rfl⟩ := tok_cons h2' hk
  refine ⟨h4.symm, h2', by simpa using h3, by rw [← h4]; simp, ?_, ?_, ?_⟩
  · rw [← h5]; split <;> (try split) <;> omega
  · rw [← h5]; split <;> (try split) <;> omega
  · intro hk1
    by_cases h8 : op < 8
    · exact h8
    · exact absurd ⟨h2'.trans hk1, h8⟩ h1
theorem putR_ok {fin : Int} {l : List Tok} {st new st' : List Stp} (h : putR fin l st new = .ok st') : st'.length ≤ 64 := by
  unfold putR at h
  split at h
  · injection h with h; rw [← h, List.length_append]; omega
  · cases h
end Go.Proofs.YtegnoaejlhbpbaaGreatDoor.lx
namespace Go.Proofs.YtegnoaejlhbpbaaGreatDoor.lx
open Go.RowKit

theorem takeR_op {fin k : Int} {p : ByteArray → Bool} {l l' : List Tok} {op op' : Int} (h : takeR fin k p l op = .ok (l', op')) : op' = if k = 1 then op + 1 else if k = 2 then op - 1 else op := by
  unfold takeR at h
  by_cases c1 : (tokAt l fin).k = 1 ∧ ¬ op < 8
  · rw [if_pos c1] at h; cases h
  rw [if_neg c1] at h
  by_cases c2 : (tokAt l fin).k ≠ k
  · rw [if_pos c2] at h; cases h
  rw [if_neg c2] at h
  by_cases c3 : p (tokAt l fin).s = false
  · rw [if_pos c3] at h; cases h
  rw [if_neg c3] at h
  injection h with h
  injection h with _ h
  exact h.symm
/-- what a reading of an expression leaves -/
def Leaves' (l : List Tok) (op : Int) (s : PS) : Prop := s.1 <:+ l ∧ s.1.length < l.length ∧ s.2.2.length ≤ 64 ∧ s.2.1 = op
theorem leafR_ok {fin : Int} {l : List Tok} {op : Int} {st : List Stp} {s : PS} (h : leafR fin l op st = .ok s) : Leaves' l op s := by
  unfold leafR at h
  cases l with
  | nil => cases h
  | cons t rest =>
    revert h
    cases hl : leafS (tokAt (t :: rest) fin) with
    | none => intro h; cases h
    | some x =>
      cases hp : putR fin (t :: rest) st [x] with
      | bad y p => simp only [hp]; intro h; cases h
      | ok st' =>
        simp only [hp]
        intro h
        injection h with h
        subst h
        exact ⟨List.suffix_cons _ _, by simp, putR_ok hp, rfl⟩
theorem partsR_ok {f : List Tok → Int → List Stp → Res PS} {fin k : Int} (hf : ∀ l op st s, f l op st = .ok s → Leaves' l op s) : ∀ (m parts : Nat) (l : List Tok) (op : Int) (st : List Stp) (z : Nat × PS), (st.length ≤ 64 ∨ parts = 0) → partsR f fin k m parts l op st = .ok z →
    z.2.1 <:+ l ∧ z.2.2.2.length ≤ 64 ∧ z.2.2.1 = op ∧ z.1 + z.2.1.length ≤ parts + l.length ∧ 1 ≤ z.1 ∧ (10 < k → 2 ≤ z.1) := by
  intro m
  induction m with
  | zero => intro parts l op st z _ h; cases h
  | succ m ih =>
    intro parts l op st z hst h
    unfold partsR at h
    split at h
    · cases hfl : f l op st with
      | bad y p => rw [hfl] at h; cases h
      | ok s =>
        rw [hfl] at h
        obtain ⟨h1, h2, h3, h4⟩ := hf _ _ _ _ hfl
        obtain ⟨a, b, c, d, e, g⟩ := ih (parts + 1) s.1 s.2.1 s.2.2 z (.inl h3) h
        exact ⟨a.trans h1, b, c.trans h4, by omega, e, g⟩
    · rename_i hc
      injection h with h
      subst h
      refine ⟨List.suffix_refl _, hst.resolve_right (by omega), rfl, Nat.le_refl _, ?_, ?_⟩ <;> simp only <;> omega
theorem endR_ok {fin k : Int} {parts : Nat} {l : List Tok} {op : Int} {st : List Stp} {s : PS} (h : endR' fin k parts l op st = .ok s) : s.1 <:+ l ∧ s.1.length < l.length ∧ s.2.2.length ≤ 64 ∧ s.2.1 = op - 1 := by
  unfold endR' at h
  split at h
  · cases h
  · cases hp : putR fin l st (List.replicate (if 20 ≤ k then parts - 1 else 1) ⟨k, ⟨#[]⟩, 0⟩) with
    | bad y p => rw [hp] at h; cases h
    | ok st' =>
      rw [hp] at h
      simp only [Res.then] at h
      cases ht : takeR fin 2 (fun _ => true) l op with
      | bad y p => rw [ht] at h; cases h
      | ok x =>
        rw [ht] at h
        injection h with h
        subst h
        obtain ⟨l', op'⟩ := x
        obtain ⟨h1, h2, h3, h4, _⟩ := takeR_ok ht (by decide)
        refine ⟨by simp only; rw [h1]; exact List.tail_suffix _, by simp only; omega, putR_ok hp, ?_⟩
        exact takeR_op ht
theorem exprR_ok (fin : Int) : ∀ (n : Nat) (l : List Tok) (op : Int) (st : List Stp) (s : PS), exprR fin n l op st = .ok s → Leaves' l op s := by
  intro n
  induction n with
  | zero => intro l op st s h; cases h
  | succ n ih =>
    intro l op st s h
    unfold exprR at h
    split at h
    · exact leafR_ok h
    · cases h1 : takeR fin 1 (fun _ => true) l op with
      | bad y p => rw [h1] at h; cases h
      | ok x =>
        rw [h1] at h
        simp only [Res.then] at h
        cases h2 : takeR fin 3 isOp x.1 x.2 with
        | bad y p => rw [h2] at h; cases h
        | ok y =>
          rw [h2] at h
          simp only at h
          cases h3 : partsR (exprR fin n) fin (opK (tokAt x.1 fin).s) (y.1.length + 2) 0 y.1 y.2 st with
          | bad q p => rw [h3] at h; cases h
          | ok z =>
            rw [h3] at h
            simp only at h
            obtain ⟨l1, op1⟩ := x
            obtain ⟨l2, op2⟩ := y
            obtain ⟨a1, _, _, a2, _⟩ := takeR_ok h1 (by decide)
            obtain ⟨b1, _, _, b2, _⟩ := takeR_ok h2 (by decide)
            have hop1 : op1 = op + 1 := takeR_op h1
            have hop2 : op2 = op1 := takeR_op h2
            obtain ⟨c1, c2, c3, c4, _, _⟩ := partsR_ok ih _ _ _ _ _ _ (.inr rfl) h3
            obtain ⟨d1, d2, d3, d4⟩ := endR_ok h
            simp only at a1 a2 b1 b2 c1 c4
            refine ⟨((d1.trans c1).trans (by rw [b1]; exact List.tail_suffix _)).trans (by rw [a1]; exact List.tail_suffix _), ?_, d3, by omega⟩
            have := c1.length_le
            omega
end Go.Proofs.YtegnoaejlhbpbaaGreatDoor.lx
namespace Go.Proofs.YtegnoaejlhbpbaaGreatDoor.lx
open Go.RowKit

/-- what holds on the way through expr -/
structure ExS (A B : Nat) (l : List Tok) (fin op : Int) (sv : Value) (st : List Stp) (w wr : World) : Prop where
  at_ : AtW A l fin op sv wr
  kb : KB A B w wr
  own : wr.ownsRow B 29 3 sv st.length (stpCells st)
  hB : B ≤ w.heap.size
  hAB : A < B
  glob : PGlob wr
  hA8 : 11 ≤ A
theorem ExS.hBr {A B : Nat} {l : List Tok} {fin op : Int} {sv : Value} {st : List Stp} {w wr : World} (h : ExS A B l fin op sv st w wr) : B ≤ wr.heap.size := Nat.le_trans h.hB h.kb.size
theorem ExS.next {A B : Nat} {l : List Tok} {fin op : Int} {sv : Value} {st : List Stp} {w wr w' : World} (h : ExS A B l fin op sv st w wr) (hb : Below wr.heap.size wr w') : ExS A B l fin op sv st w w' :=
  ⟨h.at_.below hb, h.kb.trans (KB.of_below hb h.hBr), own_bel h.own hb, h.hB, h.hAB, h.glob.self hb, h.hA8⟩
theorem ExS.al {A B : Nat} {l : List Tok} {fin op : Int} {sv : Value} {st : List Stp} {w wr : World} (h : ExS A B l fin op sv st w wr) (o : Obj) : ExS A B l fin op sv st w (wr.alloc o) := h.next ((Below.refl _ _).alloc (Nat.le_refl _) _)
theorem ExS.gb {A B : Nat} {l l' : List Tok} {fin op op' : Int} {sv : Value} {st : List Stp} {w wr w' : World} (h : ExS A B l fin op sv st w wr) (ha : AtW A l' fin op' sv w') (hg : wr.grownBy w' (some A)) : ExS A B l' fin op' sv st w w' :=
  ⟨ha, h.kb.trans (KB.of_gb hg h.hBr), own_gbA h.own hg h.hAB, h.hB, h.hAB, h.glob.gb h.hA8 hg, h.hA8⟩
theorem ExS.kb' {A B : Nat} {l l' : List Tok} {fin op op' : Int} {sv sv' : Value} {st st' : List Stp} {w wr w' : World} (h : ExS A B l fin op sv st w wr) (ha : AtW A l' fin op' sv' w') (ho : w'.ownsRow B 29 3 sv' st'.length (stpCells st')) (hg : KB A B wr w') : ExS A B l' fin op' sv' st' w w' :=
  ⟨ha, h.kb.trans hg, ho, h.hB, h.hAB, hg.glob h.glob h.hA8 (by have := h.hA8; have := h.hAB; omega), h.hA8⟩
end Go.Proofs.YtegnoaejlhbpbaaGreatDoor.lx
