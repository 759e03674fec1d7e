/-
  potsherdref04.Find, scoped, Cols. Conditions: the tables lie there.
-/
import Derived.Test.YtgjfbbmachoolaaGreatDoorM19
import Derived.Test.YtgjfbbmachoolaaGreatDoorM16
namespace Go.Proofs.YtgjfbbmachoolaaGreatDoor.lx
open Go.RowKit
set_option linter.unusedVariables false
set_option linter.unusedSimpArgs false

/-- a table as a value -/
def TblV (t : Tbl) (v : Value) (w : World) : Prop := ∃ co cc ro rn rc, v = .agg #[.string t.nm, .slice co t.cols.length cc, .slice ro rn rc] ∧ ColRow co t.cols w ∧ t.cols.length ≤ cc ∧ cc ≤ 9223372036854775807
theorem TblV.self {t : Tbl} {v : Value} {w w' : World} (h : TblV t v w) (hb : Below w.heap.size w w') : TblV t v w' := by
 obtain ⟨co, cc, ro, rn, rc, h1, h2, h3, h4⟩ := h
 exact ⟨co, cc, ro, rn, rc, h1, h2.self hb, h3, h4⟩
theorem results_tbl {fn : Func} {p u : Tmp} (hf : fn.results = #[.cell p 53, .tmp u]) {tmps : Array Value} {A : Nat} {a b c x : Value} {w : World} (hc : w.heap[A]? = some (.cells #[a, b, c] 53 (0, 0))) (hq : tmps.getD p undef = .pointer (some ⟨A, 0, none⟩)) (hu : tmps.getD u undef = x) :
  (results fn tmps).run Tryz.prog w = .ok (.tuple #[.agg #[a, b, c], x]) w := by
 have c0 : w.cell? ⟨A, 0, none⟩ = some a := by rw [Lib.cell_of_heap hc]; rfl
 have c1 : w.cell? ⟨A, 1, none⟩ = some b := by rw [Lib.cell_of_heap hc]; rfl
 have c2 : w.cell? ⟨A, 2, none⟩ = some c := by rw [Lib.cell_of_heap hc]; rfl
 rw [results_cell_tmp hf, hq, hu]
 simp [go_sem, c0, c1, c2]
theorem findT_some {L : List Tbl} {n : ByteArray} {t : Tbl} (h : L.find? (fun t => eqS t.nm n) = some t) : findT L n = t := by unfold findT; rw [h]; rfl
theorem findT_no {L : List Tbl} {n : ByteArray} (h : L.find? (fun t => eqS t.nm n) = none) : findT L n = ⟨⟨#[]⟩, []⟩ := by unfold findT; rw [h]; rfl
theorem set3_ne {Q m : Nat} {a b c : Value} {w : World} (hm : m ≠ Q) : (set3 Q a b c w).heap[m]? = w.heap[m]? := by
 simp [set3, World.setCell, Array.getElem?_modify, Ne.symm hm]
theorem below3 {B Q : Nat} {a b c : Value} {w w' : World} (hb : Below B w w') (hQ : B ≤ Q) : Below B w (set3 Q a b c w') := by
 unfold set3
 refine Below.setCell (Below.setCell (Below.setCell hb ?_ _) ?_ _) ?_ _ <;> exact hQ

set_option maxHeartbeats 4000000 in
set_option maxRecDepth 100000 in
theorem Find_any {lo : Option Addr} {lcap : Nat} {L : List Tbl} {n : ByteArray} {w : World} (hL : TblRow lo L w) (hlen : L.length ≤ 1099511627776) :
  Calls Tryz.prog 33 #[.slice lo L.length lcap, .string n] w fun e w' => (∃ v b, e = .returned (.tuple #[v, .bool b]) ∧ TblV (findT L n) v w') ∧ Below w.heap.size w w' := by
 have HL := Lib.hid hL
 clear hL
 have hn0 := heap_alloc_new w (.cells #[.string ⟨#[]⟩, .slice none 0 0, .slice none 0 0] 53)
 have HB0 := Lib.hid ((Below.refl w.heap.size w).alloc (Nat.le_refl _) (.cells #[.string ⟨#[]⟩, .slice none 0 0, .slice none 0 0] 53))
 have HN0 := Lib.hid hn0
 clear hn0
 go_enter Tryz.func33, Tryz.ntmps33
 go_upto_region 1 with fail
 generalize w.alloc (.cells #[.string ⟨#[]⟩, .slice none 0 0, .slice none 0 0] 53) = W0 at *
 have hRW := (Array.getElem?_eq_some_iff.1 HN0.out).1
 generalize hRn : w.heap.size = R at *
 have HRN := Lib.hid hRn
 clear hRn
 go_wp2_with fail
 go_loopw [10] (fun v wr => ∃ k : Nat, v = .int .i64 k ∧ k ≤ L.length ∧ Below R w wr ∧ Hid (wr.heap[R]? = some (.cells #[.string ⟨#[]⟩, .slice none 0 0, .slice none 0 0] 53 (0, 0))) ∧ Hid ((L.take k).find? (fun t => eqS t.nm n) = none)) (fun v _ => L.length - (intOf v).toNat)
 case atStart => exact ⟨0, rfl, Nat.zero_le _, HB0.out, HN0, Lib.hid rfl⟩
 case round =>
  obtain ⟨k, rfl, hk, hb, HN, HT⟩ := hrel
  have hRwr := (Array.getElem?_eq_some_iff.1 HN.out).1
  by_cases hlt : k < L.length
  ·
   have hx : L[k]? = some L[k] := List.getElem?_eq_getElem hlt
   have hsn : eqS L[k].nm n = false → (L.take (k + 1)).find? (fun t => eqS t.nm n) = none := fun h => by
    rw [List.take_succ_eq_append_getElem hlt, List.find?_append, HT.out]
    simp [h]
   have hyes : eqS L[k].nm n = true → findT L n = L[k] := fun h => findT_some (find_at hx HT.out h)
   obtain ⟨b, o, rfl, co, cc, ro, rn, rc, c0, c1, c2, hcr, hc3, hc4⟩ := (HL.out.self (by rw [HRN.out]; exact hb)).at hx
   generalize L[k] = t at *
   clear hx HT
   go_upto_region 4 with fail
   have hbA := (Below.refl wr.heap.size wr).alloc (Nat.le_refl _) (.cells #[.string t.nm, .slice co t.cols.length cc, .slice ro rn rc] 53)
   have hn := heap_alloc_new wr (.cells #[.string t.nm, .slice co t.cols.length cc, .slice ro rn rc] 53)
   have HCR := Lib.hid (hcr.self hbA)
   have HBA := Lib.hid ((show Below R w wr from hb).trans (hbA.mono (Nat.le_of_lt hRwr)))
   have HNA := Lib.hid ((hbA.block R hRwr).trans HN.out)
   have hA : R < wr.heap.size := hRwr
   clear hcr c0 c1 c2
   generalize wr.alloc (.cells #[.string t.nm, .slice co t.cols.length cc, .slice ro rn rc] 53) = W at *
   have d0 : W.cell? ⟨wr.heap.size, 0, none⟩ = some (.string t.nm) := by rw [Lib.cell_of_heap hn]; rfl
   have d1 : W.cell? ⟨wr.heap.size, 1, none⟩ = some (.slice co t.cols.length cc) := by rw [Lib.cell_of_heap hn]; rfl
   have d2 : W.cell? ⟨wr.heap.size, 2, none⟩ = some (.slice ro rn rc) := by rw [Lib.cell_of_heap hn]; rfl
   generalize wr.heap.size = A at *
   have HS := Lib.hid hsn
   have HY := Lib.hid hyes
   clear hn hbA hsn hyes hb HN
   cases he : eqS t.nm n with
   | true =>
    have he2 : (t.nm.toList == n.toList) = true := he
    have HE := Lib.hid (HY.out he)
    have e0 : W.cell? ⟨R, 0, none⟩ = some (.string ⟨#[]⟩) := by rw [Lib.cell_of_heap HNA.out]; rfl
    have e1 : W.cell? ⟨R, 1, none⟩ = some (.slice none 0 0) := by rw [Lib.cell_of_heap HNA.out]; rfl
    have e2 : W.cell? ⟨R, 2, none⟩ = some (.slice none 0 0) := by rw [Lib.cell_of_heap HNA.out]; rfl
    have f2 := Lib.frozen_of_heap HNA.out
    clear HS HY he
    go_wp2_with fail
    refine bodyPost_ret (v := .tuple #[.agg #[.string t.nm, .slice co t.cols.length cc, .slice ro rn rc], .bool true]) (by exact results_tbl rfl (set3_at HNA.out) rfl rfl) rfl ⟨⟨_, _, rfl, by
     rw [HE.out]; exact ⟨co, cc, ro, rn, rc, rfl, HCR.out.off (zero_tbl HNA.out) fun k hk => set3_ne hk, hc3, hc4⟩⟩, by rw [HRN.out]; exact below3 HBA.out (Nat.le_refl _)⟩
   | false =>
    have he2 : (t.nm.toList == n.toList) = false := he
    have HS2 := Lib.hid (HS.out he)
    clear HS HY he
    go_wp2_with fail
    exact ⟨⟨k + 1, by go_num, by omega, HBA.out, HNA, HS2⟩, by simp [intOf]; omega⟩
  ·
   have hd : L.take k = L := List.take_of_length_le (by omega)
   have HE : Hid (findT L n = ⟨⟨#[]⟩, []⟩) := Lib.hid (findT_no (by have := HT.out; rwa [hd] at this))
   have HB := Lib.hid hb
   have e0 : wr.cell? ⟨R, 0, none⟩ = some (.string ⟨#[]⟩) := by rw [Lib.cell_of_heap HN.out]; rfl
   have e1 : wr.cell? ⟨R, 1, none⟩ = some (.slice none 0 0) := by rw [Lib.cell_of_heap HN.out]; rfl
   have e2 : wr.cell? ⟨R, 2, none⟩ = some (.slice none 0 0) := by rw [Lib.cell_of_heap HN.out]; rfl
   have f2 := Lib.frozen_of_heap HN.out
   clear HT hd hb
   go_wp2_with fail
   refine bodyPost_ret (v := .tuple #[.agg #[.string ⟨#[]⟩, .slice none 0 0, .slice none 0 0], .bool false]) (by exact results_tbl rfl (set3_at HN.out) rfl rfl) rfl ⟨⟨_, _, rfl, by
    rw [HE.out]; exact ⟨none, 0, none, 0, 0, rfl, .inl rfl, Nat.zero_le _, by decide⟩⟩, by rw [HRN.out]; exact below3 HB.out (Nat.le_refl _)⟩
/-- a query's names and columns, as the reference has them; what is written behind wS lies in block S or is new -/
structure RS (S : Nat) (wS : World) (ns : List ByteArray) (cs : List Clm) (tv cv : Value) (w : World) : Prop where
 blk : w.heap[S]? = some (.cells #[tv, cv] 83 (0, 0))
 n : w.ownsRow wS.heap.size 9 1 tv ns.length (ns.map Value.string)
 c : w.ownsRow wS.heap.size 47 2 cv cs.length (colCells cs)
 sep : ∀ k, tv.ownBlock = some k → cv.ownBlock = some k → False
 gb : wS.grownBy w (some S)
 hS : S < wS.heap.size
theorem RS.lt {S : Nat} {wS w : World} {ns : List ByteArray} {cs : List Clm} {tv cv : Value} (h : RS S wS ns cs tv cv w) : S < w.heap.size := (Array.getElem?_eq_some_iff.1 h.blk).1
theorem RS.next {S : Nat} {wS w w' : World} {ns : List ByteArray} {cs : List Clm} {tv cv : Value} (h : RS S wS ns cs tv cv w) (hb : Below w.heap.size w w') : RS S wS ns cs tv cv w' :=
 ⟨(hb.block S h.lt).trans h.blk, own_keepA h.n fun k _ hk => hb.block k hk, own_keepA h.c fun k _ hk => hb.block k hk, h.sep, gbb_below h.gb hb, h.hS⟩
theorem gb_ownS {S : Nat} {wS wx wy : World} {v : Value} (h : wS.grownBy wx (some S)) (hg : wx.grownBy wy v.ownBlock) (hv : ∀ k, v.ownBlock = some k → wS.heap.size ≤ k) : wS.grownBy wy (some S) :=
 have hs := h.size
 ⟨hg.os.trans h.os, hg.tape.trans h.tape, hg.output.trans h.output, Nat.le_trans hs hg.size, fun k hk hne => (hg.block k (by omega) (fun e => by have := hv k e.symm; omega)).trans (h.block k hk hne)⟩
/-- a name is appended, and put -/
theorem RS.putN {S : Nat} {wS w w' : World} {ns : List ByteArray} {cs : List Clm} {tv cv v' : Value} {s : ByteArray} (h : RS S wS ns cs tv cv w) (ho : w'.ownsRow wS.heap.size 9 1 v' (ns.length + 1) (ns.map Value.string ++ [.string s])) (hg : w.grownBy w' tv.ownBlock) (hat : v'.ownBlock = tv.ownBlock ∨ v'.ownBlock = some w.heap.size) :
  w'.heap[S]? = some (.cells #[tv, cv] 83 (0, 0)) ∧ RS S wS (ns ++ [s]) cs v' cv (w'.setCell ⟨S, 0, none⟩ v') := by
 have hlt := h.hS
 have hSb : w'.heap[S]? = some (.cells #[tv, cv] 83 (0, 0)) := (hg.block S h.lt (fun e => by have := own_base h.n S e.symm; omega)).trans h.blk
 have hkp : ∀ k, wS.heap.size ≤ k → (w'.setCell ⟨S, 0, none⟩ v').heap[k]? = w'.heap[k]? := fun k hk => Below.heap_setCell _ _ _ _ (by show k ≠ S; omega)
 refine ⟨hSb, by simp [World.setCell, Array.getElem?_modify, hSb], ?_, own_keepA (own_apart h.c hg h.sep) fun k hk _ => hkp k hk, fun b h1 h2 => ?_, gbb_trans (gb_ownS h.gb hg (own_base h.n)) setB_gb, hlt⟩
 ·
  rw [List.length_append, List.map_append]; exact own_keepA ho fun k hk _ => hkp k hk
 ·
  rcases hat with e | e
  ·
   exact h.sep b (e ▸ h1) h2
  ·
   have := own_lt h.c b h2
   rw [e] at h1
   injection h1 with h1
   omega
theorem colCells_app (cs : List Clm) (c : Clm) : colCells (cs ++ [c]) = colCells cs ++ [.string c.nm, .int .u8 c.k] := by simp [colCells, Clm.cells]
theorem RS.putC {S : Nat} {wS w w' : World} {ns : List ByteArray} {cs : List Clm} {tv cv v' : Value} {c : Clm} (h : RS S wS ns cs tv cv w) (ho : w'.ownsRow wS.heap.size 47 2 v' (cs.length + 1) (colCells cs ++ [.string c.nm, .int .u8 c.k])) (hg : w.grownBy w' cv.ownBlock) (hat : v'.ownBlock = cv.ownBlock ∨ v'.ownBlock = some w.heap.size) :
  w'.heap[S]? = some (.cells #[tv, cv] 83 (0, 0)) ∧ RS S wS ns (cs ++ [c]) tv v' (w'.setCell ⟨S, 1, none⟩ v') := by
 have hlt := h.hS
 have hSb : w'.heap[S]? = some (.cells #[tv, cv] 83 (0, 0)) := (hg.block S h.lt (fun e => by have := own_base h.c S e.symm; omega)).trans h.blk
 have hkp : ∀ k, wS.heap.size ≤ k → (w'.setCell ⟨S, 1, none⟩ v').heap[k]? = w'.heap[k]? := fun k hk => Below.heap_setCell _ _ _ _ (by show k ≠ S; omega)
 refine ⟨hSb, by simp [World.setCell, Array.getElem?_modify, hSb], own_keepA (own_apart h.n hg (fun b h1 h2 => h.sep b h2 h1)) fun k hk _ => hkp k hk, ?_, fun b h1 h2 => ?_, gbb_trans (gb_ownS h.gb hg (own_base h.c)) setB_gb, hlt⟩
 ·
  rw [List.length_append, colCells_app]; exact own_keepA ho fun k hk _ => hkp k hk
 ·
  rcases hat with e | e
  ·
   exact h.sep b h1 (e ▸ h2)
  ·
   have := own_lt h.n b h1
   rw [e] at h2
   injection h2 with h2
   omega
theorem results_rs {fn : Func} {p : Tmp} (hf : fn.results = #[.cell p 83]) {tmps : Array Value} {A : Nat} {a b : Value} {w : World} (hc : w.heap[A]? = some (.cells #[a, b] 83 (0, 0))) (hq : tmps.getD p undef = .pointer (some ⟨A, 0, none⟩)) :
  (results fn tmps).run Tryz.prog w = .ok (.agg #[a, b]) w := by
 have c0 : w.cell? ⟨A, 0, none⟩ = some a := by rw [Lib.cell_of_heap hc]; rfl
 have c1 : w.cell? ⟨A, 1, none⟩ = some b := by rw [Lib.cell_of_heap hc]; rfl
 simp [results, hf, go_sem]
 rw [show tmps[p]?.getD undef = tmps.getD p undef by simp, hq]
 simp [go_sem, c0, c1]
theorem lies_two {w : World} {a b : Value} {t : TypeId} (ha : a.oneCell' = true) (hb : b.oneCell' = true) : Lies 2 (some ⟨w.heap.size, 0, none⟩) 1 [a, b] (w.alloc (.cells #[a, b] t)) := by
 refine ⟨rfl, fun u hu => by simp at hu; rcases hu with rfl | rfl <;> assumption, .inr ⟨_, _, rfl, fun j u hj => ?_⟩⟩
 rw [Lib.cell_of_heap (heap_alloc_new w (.cells #[a, b] t)), Nat.zero_add]
 match j, hj with
 | 0, hj => exact hj
 | 1, hj => exact hj
 | (j + 2), hj => simp at hj
set_option maxHeartbeats 8000000 in
set_option maxRecDepth 100000 in
theorem scoped_any {a b : Tbl} {va vb : Value} {w : World} (hA : TblV a va w) (hB : TblV b vb w) (hla : a.cols.length ≤ 1099511627776) (hlb : b.cols.length ≤ 1099511627776) :
  Calls Tryz.prog 34 #[va, vb] w fun e w' => (∃ tv co cap, e = .returned (.agg #[tv, .slice co (a.cols ++ b.cols).length cap]) ∧ ColRow co (a.cols ++ b.cols) w') ∧ Below w.heap.size w w' := by
 obtain ⟨coa, cca, roa, rna, rca, rfl, hca, hc3, hc4⟩ := hA
 obtain ⟨cob, ccb, rob, rnb, rcb, rfl, hcb, hd3, hd4⟩ := hB
 obtain ⟨hz9, hb9, g0, g1, g2⟩ := alloc3 w (.cells #[.string a.nm, .slice coa a.cols.length cca, .slice roa rna rca] 53) (.cells #[.string b.nm, .slice cob b.cols.length ccb, .slice rob rnb rcb] 53) (.cells #[.slice none 0 0, .slice none 0 0] 83)
 obtain ⟨W9, hW9⟩ : ∃ W9, (((w.alloc (.cells #[.string a.nm, .slice coa a.cols.length cca, .slice roa rna rca] 53)).alloc (.cells #[.string b.nm, .slice cob b.cols.length ccb, .slice rob rnb rcb] 53)).alloc (.cells #[.slice none 0 0, .slice none 0 0] 83)) = W9 := ⟨_, rfl⟩
 rw [hW9] at hz9 hb9 g0 g1 g2
 obtain ⟨W0, hW0⟩ : ∃ W0, W9.alloc (.cells #[.slice none 0 0, .slice none 0 0] 83) = W0 := ⟨_, rfl⟩
 have hb90 := (Below.refl W9.heap.size W9).alloc (Nat.le_refl _) (.cells #[.slice none 0 0, .slice none 0 0] 83)
 have h3 := heap_alloc_new W9 (.cells #[.slice none 0 0, .slice none 0 0] 83)
 have hz : W0.heap.size = w.heap.size + 4 := by rw [← hW0, alloc_sz, hz9]
 rw [hW0] at hb90 h3
 rw [hz9] at h3
 have h0 := (hb90.block _ (show w.heap.size < W9.heap.size by omega)).trans g0
 have h1 := (hb90.block _ (show w.heap.size + 1 < W9.heap.size by omega)).trans g1
 have h2 := (hb90.block _ (show w.heap.size + 2 < W9.heap.size by omega)).trans g2
 have hb0 := below_self hb9 hb90
 have hbA := (Below.refl W0.heap.size W0).alloc (Nat.le_refl _) (.cells #[.string a.nm, .slice coa a.cols.length cca, .slice roa rna rca, .string b.nm, .slice cob b.cols.length ccb, .slice rob rnb rcb] 53)
 have hn6 := heap_alloc_new W0 (.cells #[.string a.nm, .slice coa a.cols.length cca, .slice roa rna rca, .string b.nm, .slice cob b.cols.length ccb, .slice rob rnb rcb] 53)
 obtain ⟨W1, hW1⟩ : ∃ W1, W0.alloc (.cells #[.string a.nm, .slice coa a.cols.length cca, .slice roa rna rca, .string b.nm, .slice cob b.cols.length ccb, .slice rob rnb rcb] 53) = W1 := ⟨_, rfl⟩
 rw [hW1] at hbA hn6
 have hs1 : W1.heap.size = w.heap.size + 5 := by rw [← hW1, alloc_sz, hz]
 rw [hz] at hn6
 have H3 := Lib.hid ((hbA.block _ (show w.heap.size + 3 < W0.heap.size by omega)).trans h3)
 have H2 := Lib.hid ((hbA.block _ (show w.heap.size + 2 < W0.heap.size by omega)).trans h2)
 have hb1 := below_self hb0 hbA
 have HTB : Hid (∀ (k : Nat) (t : Tbl), [a, b][k]? = some t → ∃ co cc ro rn rc, ∀ wx, W1.grownBy wx (some (w.heap.size + 3)) → wx.cell? ⟨w.heap.size + 4, k * 3, none⟩ = some (.string t.nm) ∧ wx.cell? ⟨w.heap.size + 4, k * 3 + 1, none⟩ = some (.slice co t.cols.length cc) ∧ wx.cell? ⟨w.heap.size + 4, k * 3 + 2, none⟩ = some (.slice ro rn rc) ∧ ColRow co t.cols wx) := Lib.hid fun k t ht => by
  have hk : ∀ wx, W1.grownBy wx (some (w.heap.size + 3)) → wx.heap[w.heap.size + 4]? = _ := fun wx hg => (hg.block (w.heap.size + 4) (by omega) (by intro e; injection e; omega)).trans hn6
  have hbx : ∀ wx, W1.grownBy wx (some (w.heap.size + 3)) → Below w.heap.size w wx := fun wx hg => below_gbB hb1 hg (by omega) hb1.size
  match k, ht with
  | 0, ht =>
   cases ht
   exact ⟨coa, cca, roa, rna, rca, fun wx hg => ⟨by rw [Lib.cell_of_heap (hk wx hg)]; rfl, by rw [Lib.cell_of_heap (hk wx hg)]; rfl, by rw [Lib.cell_of_heap (hk wx hg)]; rfl, hca.self (hbx wx hg)⟩⟩
  | 1, ht =>
   cases ht
   exact ⟨cob, ccb, rob, rnb, rcb, fun wx hg => ⟨by rw [Lib.cell_of_heap (hk wx hg)]; rfl, by rw [Lib.cell_of_heap (hk wx hg)]; rfl, by rw [Lib.cell_of_heap (hk wx hg)]; rfl, hcb.self (hbx wx hg)⟩⟩
  | k + 2, ht => cases ht
 have HRS : Hid (RS (w.heap.size + 3) W1 [] [] (.slice none 0 0) (.slice none 0 0) W1) := Lib.hid ⟨H3.out, World.ownsRow_nil _ _ _ _, World.ownsRow_nil _ _ _ _, (fun k h => by cases h), World.grownBy.refl _ _, by omega⟩
 have HB1 := Lib.hid hb1
 have HS1 := Lib.hid hs1
 have HL : Hid (∀ (k : Nat) (t : Tbl), [a, b][k]? = some t → t.cols.length ≤ 1099511627776) := Lib.hid fun k t ht => by
  match k, ht with
  | 0, ht => cases ht; exact hla
  | 1, ht => cases ht; exact hlb
  | k + 2, ht => cases ht
 have HE : Hid ([] ++ scopeR [a, b] = a.cols ++ b.cols) := Lib.hid (by simp [scopeR])
 generalize hgC : a.cols ++ b.cols = C at *
 have hlc : C.length ≤ 2199023255552 := by rw [← hgC, List.length_append]; omega
 have k0 : W0.cell? ⟨w.heap.size, 0, none⟩ = some (.string a.nm) := by rw [Lib.cell_of_heap h0]; rfl
 have k1 : W0.cell? ⟨w.heap.size, 1, none⟩ = some (.slice coa a.cols.length cca) := by rw [Lib.cell_of_heap h0]; rfl
 have k2 : W0.cell? ⟨w.heap.size, 2, none⟩ = some (.slice roa rna rca) := by rw [Lib.cell_of_heap h0]; rfl
 have m0 : W0.cell? ⟨w.heap.size + 1, 0, none⟩ = some (.string b.nm) := by rw [Lib.cell_of_heap h1]; rfl
 have m1 : W0.cell? ⟨w.heap.size + 1, 1, none⟩ = some (.slice cob b.cols.length ccb) := by rw [Lib.cell_of_heap h1]; rfl
 have m2 : W0.cell? ⟨w.heap.size + 1, 2, none⟩ = some (.slice rob rnb rcb) := by rw [Lib.cell_of_heap h1]; rfl
 have HZ := Lib.hid hz
 have HZ9 := Lib.hid hz9
 have HW9 := Lib.hid hW9
 have HW0 := Lib.hid hW0
 have HW1 := Lib.hid hW1
 clear hW9 hW0 hW1 hgC hca hcb hc3 hc4 hd3 hd4 hb0 h0 h1 h2 h3 hbA hn6 hs1 hb1 hz hla hlb hz9 hb9 g0 g1 g2 hb90
 go_enter Tryz.func34, Tryz.ntmps34
 go_upto_region 1 with fail
 rw [HW9.out]
 go_upto_region 2 with fail
 rw [HW0.out, HZ9.out]
 go_wp2_with fail
 rw [HW1.out, HZ.out]
 clear HW0 HW9 HW1 k0 k1 k2 m0 m1 m2
 generalize hSS : w.heap.size + 3 = S at *
 generalize hBB : w.heap.size + 4 = Bt at *
 have HSS := Lib.hid hSS
 have HBT := Lib.hid hBB
 clear hSS hBB HZ HZ9
 obtain ⟨i0, hi0, hz0, hz1, hz2⟩ := info_parts infoStr
 have HI := Lib.hid (And.intro hi0 (And.intro hz0 (And.intro hz1 hz2)))
 clear hi0 hz0 hz1 hz2
 obtain ⟨j0, hi0, hz0, hz1, hz2⟩ := info_parts infoCol
 have HJ := Lib.hid (And.intro hi0 (And.intro hz0 (And.intro hz1 hz2)))
 clear hi0 hz0 hz1 hz2
 go_loopw [15] (fun v wr => ∃ (k : Nat) (ns : List ByteArray) (cs : List Clm) (tv cv : Value), v = .int .i64 k ∧ k ≤ 2 ∧ ns.length ≤ cs.length ∧ Hid (RS S W1 ns cs tv cv wr) ∧ Hid (cs ++ scopeR ([a, b].drop k) = C)) (fun v _ => 2 - (intOf v).toNat)
 case atStart => exact ⟨0, [], [], _, _, rfl, Nat.zero_le _, Nat.le_refl _, HRS, HE⟩
 case round =>
  obtain ⟨k, ns, cs, tv, cv, rfl, hk, hnc, HR, HT⟩ := hrel
  by_cases hlt : k < 2
  ·
   obtain ⟨t, ht⟩ : ∃ t, [a, b][k]? = some t := ⟨_, List.getElem?_eq_getElem (by simpa using hlt)⟩
   have htl := HL.out k t ht
   have hdr : [a, b].drop k = t :: [a, b].drop (k + 1) := by
    rw [List.drop_eq_getElem_cons (by simpa using hlt)]
    congr 1
    exact (List.getElem?_eq_some_iff.1 ht).2
   have hT := HT.out
   rw [hdr, show scopeR (t :: [a, b].drop (k + 1)) = t.cols ++ scopeR ([a, b].drop (k + 1)) from by simp [scopeR]] at hT
   obtain ⟨co, cc, ro, rn, rc, HF⟩ := HTB.out k t ht
   obtain ⟨c0, c1, c2, _⟩ := HF wr HR.out.gb
   have HCO := Lib.hid fun (wx : World) (hg : W1.grownBy wx (some S)) => (HF wx hg).2.2.2
   have HT1 := Lib.hid hT
   have hlw := HR.out.lt
   have hkI : (k : Int) < 2 := by omega
   clear ht hdr hT HT
   go_upto_region 5 with fail
   have hbA := (Below.refl wr.heap.size wr).alloc (Nat.le_refl _) (.cells #[.string t.nm, .slice co t.cols.length cc, .slice ro rn rc] 53)
   have hnA := heap_alloc_new wr (.cells #[.string t.nm, .slice co t.cols.length cc, .slice ro rn rc] 53)
   have HRA := Lib.hid (HR.out.next hbA)
   have hAT : Hid (tv.ownBlock ≠ some wr.heap.size ∧ cv.ownBlock ≠ some wr.heap.size) := Lib.hid ⟨fun e => by have := own_lt HR.out.n _ e; omega, fun e => by have := own_lt HR.out.c _ e; omega⟩
   have hs1r := HR.out.gb.size
   generalize wr.alloc (.cells #[.string t.nm, .slice co t.cols.length cc, .slice ro rn rc] 53) = W2 at *
   have HNA := Lib.hid hnA
   have d1 : W2.cell? ⟨wr.heap.size, 1, none⟩ = some (.slice co t.cols.length cc) := by rw [Lib.cell_of_heap hnA]; rfl
   have HG2 : Hid (W1.grownBy W2 (some S)) := Lib.hid HRA.out.gb
   have hA2 := (Array.getElem?_eq_some_iff.1 hnA).1
   generalize wr.heap.size = A at *
   clear c0 c1 c2 HF hbA hnA HR hlw
   go_wp2_with fail
   clear d1
   go_loopw [22] (fun v wi => ∃ (j : Nat) (ns : List ByteArray) (cs : List Clm) (tv cv : Value), v = .int .i64 j ∧ j ≤ t.cols.length ∧ ns.length ≤ cs.length ∧ A < wi.heap.size ∧ Hid (RS S W1 ns cs tv cv wi) ∧ Hid (wi.heap[A]? = some (.cells #[.string t.nm, .slice co t.cols.length cc, .slice ro rn rc] 53 (0, 0))) ∧ Hid (tv.ownBlock ≠ some A ∧ cv.ownBlock ≠ some A) ∧ Hid (cs ++ (t.cols.drop j ++ scopeR ([a, b].drop (k + 1))) = C)) (fun v _ => t.cols.length - (intOf v).toNat)
   case atStart => exact ⟨0, ns, cs, tv, cv, rfl, Nat.zero_le _, hnc, hA2, HRA, HNA, hAT, HT1⟩
   case round =>
    obtain ⟨j, ns, cs, tv, cv, rfl, hj, hnc, hAi, HR, HN, HAT, HT⟩ := hrel
    by_cases hlj : j < t.cols.length
    ·
     have hx : t.cols[j]? = some t.cols[j] := List.getElem?_eq_getElem hlj
     have hT := HT.out
     rw [List.drop_eq_getElem_cons hlj] at hT
     obtain ⟨pb, pf, rfl, e0, e1⟩ := (HCO.out wr HR.out.gb).at hx
     generalize t.cols[j] = x at *
     have hT2 : cs ++ [x] ++ (t.cols.drop (j + 1) ++ scopeR ([a, b].drop (k + 1))) = C := by rw [← hT]; simp
     have HT2 := Lib.hid hT2
     have hcl : cs.length ≤ 2199023255552 := by
      have := congrArg List.length hT2
      simp only [List.length_append] at this
      omega
     obtain ⟨tn, tc, rfl⟩ := own_shape HR.out.n
     obtain ⟨cn, ccp, rfl⟩ := own_shape HR.out.c
     clear hx hT hT2 HT
     have hcI : (j : Int) < t.cols.length := by omega
     go_upto_region 8 with fail
     have hb9 := (Below.refl wr.heap.size wr).alloc (Nat.le_refl _) (.cells #[.string x.nm, .int .u8 x.k] 47)
     have hn9 := heap_alloc_new wr (.cells #[.string x.nm, .int .u8 x.k] 47)
     have HR9 := Lib.hid (HR.out.next hb9)
     have hN9 := (hb9.block A hAi).trans HN.out
     have hdT : Hid ((Value.slice tn ns.length tc).ownBlock ≠ some wr.heap.size ∧ (Value.slice cn cs.length ccp).ownBlock ≠ some wr.heap.size) := Lib.hid ⟨fun e => by have := own_lt HR.out.n _ e; omega, fun e => by have := own_lt HR.out.c _ e; omega⟩
     have hs1i := HR.out.gb.size
     generalize wr.alloc (.cells #[.string x.nm, .int .u8 x.k] 47) = W3 at *
     have hD3 := (Array.getElem?_eq_some_iff.1 hn9).1
     generalize wr.heap.size = D at *
     have s0 : W3.cell? ⟨S, 0, none⟩ = some (.slice tn ns.length tc) := by rw [Lib.cell_of_heap HR9.out.blk]; rfl
     have s1 : W3.cell? ⟨S, 1, none⟩ = some (.slice cn cs.length ccp) := by rw [Lib.cell_of_heap HR9.out.blk]; rfl
     have n0 : W3.cell? ⟨A, 0, none⟩ = some (.string t.nm) := by rw [Lib.cell_of_heap hN9]; rfl
     have hlS := HR9.out.hS
     have hA3 : A < W3.heap.size := (Array.getElem?_eq_some_iff.1 hN9).1
     have HN9 := Lib.hid hN9
     have HD9 := Lib.hid hn9
     have hsz3 := HR9.out.gb.size
     clear hb9 hn9 hN9 e0 e1 HN HR
     go_wp2_with (at_builtin; refine wpList_append_lying rfl _ _ 24 rfl W1.heap.size 9 i0 _ 1 16 Tryz.underlying24 HI.out.1 HI.out.2.1 HI.out.2.2.1 HI.out.2.2.2 rfl (by decide) (.slice tn ns.length tc) ns.length (ns.map Value.string) rfl (HR9.out.n.alloc _) (some ⟨W3.heap.size, 0, none⟩) 1 1 [.string t.nm] rfl (lies_one rfl) (by unfold maxLen; omega) (by omega) (by simp; omega) ?_)
     intro v5 w5 hown5 hg5 hat5
     have hbC := (Below.refl W3.heap.size W3).alloc (Nat.le_refl _) (.cells #[.string t.nm] 9)
     obtain ⟨so5, cap5, rfl⟩ := own_shape hown5
     obtain ⟨hSb, hRS⟩ := (HR9.out.next hbC).putN hown5 hg5 (hat5.imp id (fun h => h.trans (by simp)))
     have q0 : w5.cell? ⟨S, 0, none⟩ = some (.slice tn ns.length tc) := by rw [Lib.cell_of_heap hSb]; rfl
     have q1 := Lib.frozen_of_heap hSb 0
     have hN5 := (Below.heap_setCell w5 ⟨S, 0, none⟩ (.slice so5 (ns.length + 1) cap5) A (by show A ≠ S; omega)).trans ((hg5.block A (by rw [alloc_sz]; omega) (fun e => HAT.out.1 e.symm)).trans ((hbC.block A hA3).trans HN9.out))
     have hD5 := (Below.heap_setCell w5 ⟨S, 0, none⟩ (.slice so5 (ns.length + 1) cap5) D (by show D ≠ S; omega)).trans ((hg5.block D (by rw [alloc_sz]; omega) (fun e => hdT.out.1 e.symm)).trans ((hbC.block D hD3).trans HD9.out))
     have hnew5 : Hid ((Value.slice so5 (ns.length + 1) cap5).ownBlock ≠ some A) := Lib.hid fun e => by
      rcases hat5 with h | h
      ·
       exact HAT.out.1 (h.symm.trans e)
      ·
       have := h.symm.trans e
       injection this
       omega
     have HR5 := Lib.hid hRS
     clear hown5 hg5 hat5 hbC hSb hRS s0 s1 n0 HN9 HD9 HR9
     go_upto_region 9 with fail
     clear q0 q1
     generalize w5.setCell ⟨S, 0, none⟩ (.slice so5 (ns.length + 1) cap5) = W5 at *
     have s1 : W5.cell? ⟨S, 1, none⟩ = some (.slice cn cs.length ccp) := by rw [Lib.cell_of_heap HR5.out.blk]; rfl
     have m0 : W5.cell? ⟨D, 0, none⟩ = some (.string x.nm) := by rw [Lib.cell_of_heap hD5]; rfl
     have m1 : W5.cell? ⟨D, 1, none⟩ = some (.int .u8 x.k) := by rw [Lib.cell_of_heap hD5]; rfl
     have hsz5 := HR5.out.gb.size
     have hA5 : A < W5.heap.size := (Array.getElem?_eq_some_iff.1 hN5).1
     have HN5 := Lib.hid hN5
     clear hD5 hN5 hD3 hA3 hsz3
     go_wp2_with (at_builtin; refine wpList_append_lying rfl _ _ 43 rfl W1.heap.size 47 j0 _ 2 24 Tryz.underlying43 HJ.out.1 HJ.out.2.1 HJ.out.2.2.1 HJ.out.2.2.2 rfl (by decide) (.slice cn cs.length ccp) cs.length (colCells cs) rfl (HR5.out.c.alloc _) (some ⟨W5.heap.size, 0, none⟩) 1 1 [.string x.nm, .int .u8 x.k] rfl (lies_two rfl rfl) (by unfold maxLen; omega) (by omega) (by simp; omega) ?_)
     intro v6 w6 hown6 hg6 hat6
     have hbC := (Below.refl W5.heap.size W5).alloc (Nat.le_refl _) (.cells #[.string x.nm, .int .u8 x.k] 47)
     obtain ⟨so6, cap6, rfl⟩ := own_shape hown6
     obtain ⟨hSb, hRS⟩ := (HR5.out.next hbC).putC hown6 hg6 (hat6.imp id (fun h => h.trans (by simp)))
     have q0 : w6.cell? ⟨S, 1, none⟩ = some (.slice cn cs.length ccp) := by rw [Lib.cell_of_heap hSb]; rfl
     have q1 := Lib.frozen_of_heap hSb 1
     have HN6 := Lib.hid ((Below.heap_setCell w6 ⟨S, 1, none⟩ (.slice so6 (cs.length + 1) cap6) A (by show A ≠ S; omega)).trans ((hg6.block A (by rw [alloc_sz]; omega) (fun e => HAT.out.2 e.symm)).trans ((hbC.block A hA5).trans HN5.out)))
     have hA6 := (Array.getElem?_eq_some_iff.1 HN6.out).1
     have HAT6 : Hid ((Value.slice so5 (ns.length + 1) cap5).ownBlock ≠ some A ∧ (Value.slice so6 (cs.length + 1) cap6).ownBlock ≠ some A) := Lib.hid ⟨hnew5.out, fun e => by
      rcases hat6 with h | h
      ·
       exact HAT.out.2 (h.symm.trans e)
      ·
       have := h.symm.trans e
       injection this
       omega⟩
     have HR6 := Lib.hid hRS
     clear hown6 hg6 hat6 hbC hSb hRS s1 m0 m1 HN5 HR5 hnew5 HAT
     go_wp2_with fail
     go_roundw
     case rel => exact ⟨j + 1, ns ++ [t.nm], cs ++ [x], _, _, by go_num, by omega, by rw [List.length_append, List.length_append]; simp; omega, hA6, HR6, HN6, HAT6, HT2⟩
     case measure => simp [intOf]; omega
    ·
     obtain rfl : j = t.cols.length := by omega
     have HT2 : Hid (cs ++ scopeR ([a, b].drop (k + 1)) = C) := Lib.hid (by have := HT.out; rw [List.drop_length] at this; exact this)
     clear HT HN HAT
     go_wp2_with fail
     go_roundw
     case rel => exact ⟨k + 1, ns, cs, tv, cv, by go_num, by omega, hnc, HR, HT2⟩
     case measure => simp [intOf]; omega
  ·
   obtain rfl : k = 2 := by omega
   have HT2 : Hid (cs = C) := Lib.hid (by have := HT.out; simpa [scopeR] using this)
   have hs5 := HS1.out
   have hn2 : wr.heap[w.heap.size + 2]? = _ := (HR.out.gb.block (w.heap.size + 2) (by omega) (by intro e; injection e; have := HSS.out; omega)).trans H2.out
   have c0 : wr.cell? ⟨w.heap.size + 2, 0, none⟩ = some (.slice none 0 0) := by rw [Lib.cell_of_heap hn2]; rfl
   have c1 : wr.cell? ⟨w.heap.size + 2, 1, none⟩ = some (.slice none 0 0) := by rw [Lib.cell_of_heap hn2]; rfl
   have f2 := Lib.frozen_of_heap hn2
   have s0 : wr.cell? ⟨S, 0, none⟩ = some tv := by rw [Lib.cell_of_heap HR.out.blk]; rfl
   have s1 : wr.cell? ⟨S, 1, none⟩ = some cv := by rw [Lib.cell_of_heap HR.out.blk]; rfl
   obtain ⟨tn, tc, rfl⟩ := own_shape HR.out.n
   obtain ⟨cn, ccp, rfl⟩ := own_shape HR.out.c
   have hat : ((wr.setCell ⟨w.heap.size + 2, 0, none⟩ (.slice tn ns.length tc)).setCell ⟨w.heap.size + 2, 1, none⟩ (.slice cn cs.length ccp)).heap[w.heap.size + 2]? = some (.cells #[.slice tn ns.length tc, .slice cn cs.length ccp] 83 (0, 0)) := by
    simp [World.setCell, Array.getElem?_modify, hn2]
   have hkp : ∀ k, k ≠ w.heap.size + 2 → ((wr.setCell ⟨w.heap.size + 2, 0, none⟩ (.slice tn ns.length tc)).setCell ⟨w.heap.size + 2, 1, none⟩ (.slice cn cs.length ccp)).heap[k]? = wr.heap[k]? := fun k hk => (Below.heap_setCell _ _ _ _ hk).trans (Below.heap_setCell _ _ _ _ hk)
   obtain ⟨cn', ccp', hcv, hrow⟩ := own_clms (own_keepA HR.out.c fun k hk _ => hkp k (by omega))
   injection hcv with hc1 _ hc2
   subst hc1 hc2
   rw [HT2.out] at hrow
   have HROW := Lib.hid hrow
   have HAT := Lib.hid hat
   have HBB : Hid (Below w.heap.size w ((wr.setCell ⟨w.heap.size + 2, 0, none⟩ (.slice tn ns.length tc)).setCell ⟨w.heap.size + 2, 1, none⟩ (.slice cn cs.length ccp))) := Lib.hid (((below_gbB HB1.out HR.out.gb (by have := HSS.out; omega) HB1.out.size).setCell (p := ⟨w.heap.size + 2, 0, none⟩) (by show w.heap.size ≤ w.heap.size + 2; omega) _).setCell (p := ⟨w.heap.size + 2, 1, none⟩) (by show w.heap.size ≤ w.heap.size + 2; omega) _)
   have hcs : cs = C := HT2.out
   clear hn2 hat hkp hrow HT HT2 HR
   subst hcs
   go_wp2_with fail
   refine bodyPost_ret (v := .agg #[.slice tn ns.length tc, .slice cn cs.length ccp]) (by exact results_rs rfl HAT.out rfl) rfl ⟨⟨_, _, ⟨_, rfl⟩, HROW.out⟩, HBB.out⟩
set_option maxHeartbeats 4000000 in
set_option maxRecDepth 100000 in
theorem Cols_any {b : Bnd} {lo wo ga ia na ka : Option Addr} {lcap wc gc ic nc kc : Nat} {L : List Tbl} {w : World} (hL : TblRow lo L w) (hLo : TblsOk L) (hlen : L.length ≤ 1099511627776) :
  Calls Tryz.prog 13 #[.agg #[.string b.table, .string b.join, .int .i64 b.width, .int .i64 b.left, .int .i64 b.right, .slice wo b.wher.length wc, .slice ga b.group.length gc, .slice ia b.items.length ic, .bool b.grouped, .slice na b.names.length nc, .slice ka b.kinds.length kc], .slice lo L.length lcap] w fun e w' => (∃ co cap, e = .returned (.slice co (colsR b L).length cap) ∧ ColRow co (colsR b L) w') ∧ Below w.heap.size w w' := by
 obtain ⟨C, hC⟩ : ∃ C, colsR b L = C := ⟨_, rfl⟩
 rw [hC]
 have HCC := Lib.hid hC
 clear hC
 have hfl : ∀ n, (findT L n).cols.length ≤ 1099511627776 := fun n => by
  cases hf : L.find? (fun t => eqS t.nm n) with
  | none => rw [findT_no hf]; exact Nat.zero_le _
  | some t => rw [findT_some hf]; exact (hLo t (List.mem_of_find?_eq_some hf)).2.2
 have HF := Lib.hid hfl
 have HL := Lib.hid hL
 have hbA := (Below.refl w.heap.size w).alloc (Nat.le_refl _) (.cells #[.string b.table, .string b.join, .int .i64 b.width, .int .i64 b.left, .int .i64 b.right, .slice wo b.wher.length wc, .slice ga b.group.length gc, .slice ia b.items.length ic, .bool b.grouped, .slice na b.names.length nc, .slice ka b.kinds.length kc] 32)
 have hnA := heap_alloc_new w (.cells #[.string b.table, .string b.join, .int .i64 b.width, .int .i64 b.left, .int .i64 b.right, .slice wo b.wher.length wc, .slice ga b.group.length gc, .slice ia b.items.length ic, .bool b.grouped, .slice na b.names.length nc, .slice ka b.kinds.length kc] 32)
 have HB1 := Lib.hid hbA
 clear hL hLo hfl
 go_enter Tryz.func13, Tryz.ntmps13
 go_upto_region 1 with fail
 generalize w.alloc (.cells #[.string b.table, .string b.join, .int .i64 b.width, .int .i64 b.left, .int .i64 b.right, .slice wo b.wher.length wc, .slice ga b.group.length gc, .slice ia b.items.length ic, .bool b.grouped, .slice na b.names.length nc, .slice ka b.kinds.length kc] 32) = W1 at *
 have k0 : W1.cell? ⟨w.heap.size, 0, none⟩ = some (.string b.table) := by rw [Lib.cell_of_heap hnA]; rfl
 have k1 : W1.cell? ⟨w.heap.size, 1, none⟩ = some (.string b.join) := by rw [Lib.cell_of_heap hnA]; rfl
 have hlA := (Array.getElem?_eq_some_iff.1 hnA).1
 clear hbA hnA
 have HF1 := Lib.hid (Find_any (lcap := lcap) (n := b.table) (HL.out.self HB1.out) hlen)
 go_wp2_with (go_at_call 33; refine HF1.out.mono ?_; rintro e w2 ⟨⟨v, ok1, rfl, co, cc, ro, rn, rc, rfl, hcr, hc3, hc4⟩, hb2⟩; refine Hid.out ?_)
 refine Lib.hid ?_
 have k1 := keep_cellP hb2 k1
 have HB2 := Lib.hid (below_self HB1.out hb2)
 have HC2 := Lib.hid hcr
 clear hb2 hcr k0 HF1
 go_upto_region 2 with fail
 have hbB := (Below.refl w2.heap.size w2).alloc (Nat.le_refl _) (.cells #[.string (findT L b.table).nm, .slice co (findT L b.table).cols.length cc, .slice ro rn rc] 53)
 have hnB := heap_alloc_new w2 (.cells #[.string (findT L b.table).nm, .slice co (findT L b.table).cols.length cc, .slice ro rn rc] 53)
 have k1 := keep_cellP hbB k1
 have HC3 := Lib.hid (HC2.out.self hbB)
 have HB3 := Lib.hid (below_self HB2.out hbB)
 generalize w2.alloc (.cells #[.string (findT L b.table).nm, .slice co (findT L b.table).cols.length cc, .slice ro rn rc] 53) = W3 at *
 have HN3 := Lib.hid hnB
 have hB3 := (Array.getElem?_eq_some_iff.1 hnB).1
 generalize w2.heap.size = Q1 at *
 have HF2 := Lib.hid (Find_any (lcap := lcap) (n := b.join) (HL.out.self HB3.out) hlen)
 clear hbB hnB
 go_wp2_with (go_at_call 33; refine HF2.out.mono ?_; rintro e w4 ⟨⟨v, ok2, rfl, co2, cc2, ro2, rn2, rc2, rfl, hcr2, hd3, hd4⟩, hb4⟩; refine Hid.out ?_)
 refine Lib.hid ?_
 have hn4 := (hb4.block Q1 hB3).trans HN3.out
 have HB4 := Lib.hid (below_self HB3.out hb4)
 have HC4 := Lib.hid (HC3.out.self hb4)
 have HD4 := Lib.hid hcr2
 have hQ4 := Nat.lt_of_lt_of_le hB3 hb4.size
 clear hb4 hcr2 HF2 k1
 go_upto_region 3 with fail
 have hbC := (Below.refl w4.heap.size w4).alloc (Nat.le_refl _) (.cells #[.string (findT L b.join).nm, .slice co2 (findT L b.join).cols.length cc2, .slice ro2 rn2 rc2] 53)
 have hnC := heap_alloc_new w4 (.cells #[.string (findT L b.join).nm, .slice co2 (findT L b.join).cols.length cc2, .slice ro2 rn2 rc2] 53)
 have hn5 := (hbC.block Q1 hQ4).trans hn4
 have HB5 := Lib.hid (below_self HB4.out hbC)
 have hsc := scoped_any (a := findT L b.table) (b := findT L b.join) ⟨co, cc, ro, rn, rc, rfl, HC4.out.self hbC, hc3, hc4⟩ ⟨co2, cc2, ro2, rn2, rc2, rfl, HD4.out.self hbC, hd3, hd4⟩ (HF.out _) (HF.out _)
 have hCC : (findT L b.table).cols ++ (findT L b.join).cols = C := HCC.out
 rw [hCC] at hsc
 clear hCC
 generalize w4.alloc (.cells #[.string (findT L b.join).nm, .slice co2 (findT L b.join).cols.length cc2, .slice ro2 rn2 rc2] 53) = W5 at *
 have HSC := Lib.hid hsc
 have c0 : W5.cell? ⟨Q1, 0, none⟩ = some (.string (findT L b.table).nm) := by rw [Lib.cell_of_heap hn5]; rfl
 have c1 : W5.cell? ⟨Q1, 1, none⟩ = some (.slice co (findT L b.table).cols.length cc) := by rw [Lib.cell_of_heap hn5]; rfl
 have c2 : W5.cell? ⟨Q1, 2, none⟩ = some (.slice ro rn rc) := by rw [Lib.cell_of_heap hn5]; rfl
 have d0 : W5.cell? ⟨w4.heap.size, 0, none⟩ = some (.string (findT L b.join).nm) := by rw [Lib.cell_of_heap hnC]; rfl
 have d1 : W5.cell? ⟨w4.heap.size, 1, none⟩ = some (.slice co2 (findT L b.join).cols.length cc2) := by rw [Lib.cell_of_heap hnC]; rfl
 have d2 : W5.cell? ⟨w4.heap.size, 2, none⟩ = some (.slice ro2 rn2 rc2) := by rw [Lib.cell_of_heap hnC]; rfl
 generalize w4.heap.size = Q2 at *
 clear hbC hnC hn4 hn5 hsc
 go_wp2_with (go_at_call 34; refine HSC.out.mono ?_; rintro e w6 ⟨⟨tv, co6, cap6, rfl, hcr6⟩, hb6⟩; refine Hid.out ?_)
 refine Lib.hid ?_
 have HB6 := Lib.hid (below_self HB5.out hb6)
 have HC6 := Lib.hid hcr6
 have hfld : ∀ W, (Instr.field 83 (.agg #[tv, .slice co6 C.length cap6]) 1).run Tryz.prog W = .ok (.slice co6 C.length cap6) W := fun W => by kernel_rfl
 clear hb6 hcr6 c0 c1 c2 d0 d1 d2 HSC
 go_wp2_with fail
 go_ret
 exact ⟨⟨co6, cap6, rfl, HC6.out⟩, HB6.out⟩
end Go.Proofs.YtgjfbbmachoolaaGreatDoor.lx
