/-
  potsherdref03.Same of a query and itself, wherever the two lie. No condition but that they lie there. append of a row that may be nothing, onto a row of the call's own. No condition. potsherdref03.Copy: a query of the call's own memory. Conditions: the query lies there; it is no great one. ParseOwn's loops: they write into blocks from lo to below hi alone. No condition.
-/
import Derived.Test.YtegnoaejlhbpbaaGreatDoorM21
import Derived.BigQuiet
import Derived.Test.YtegnoaejlhbpbaaGreatDoorM20
import Derived.Deep.AppendSrc
import Derived.Deep.Upon
import Derived.Deep.RegionLaw
namespace Go.Proofs.YtegnoaejlhbpbaaGreatDoor.lx
open Go.RowKit

abbrev qryV (q : Qry) (io wo go : Option Addr) (ic wc gc : Nat) : Array Value := #[.slice io q.items.length ic, .string q.table, .string q.join, .string q.left, .string q.right, .slice wo q.wher.length wc, .slice go q.group.length gc]

set_option maxHeartbeats 4000000 in
set_option maxRecDepth 100000 in
theorem SameQ_any {q : Qry} {io wo go io' wo' go' : Option Addr} {ic wc gc ic' wc' gc' : Nat} {w : World} (hA : QryIn q io wo go w) (hC : QryIn q io' wo' go' w) (hil : q.items.length ≤ 1099511627776) (hwl : q.wher.length ≤ 1099511627776) (hgl : q.group.length ≤ 1099511627776) (hel : ∀ it ∈ q.items, it.e.length ≤ 1099511627776) :
    Calls Tryz.prog 19 #[.agg (qryV q io wo go ic wc gc), .agg (qryV q io' wo' go' ic' wc' gc')] w fun e w' => e = .returned (.bool true) ∧ Below w.heap.size w w' := by
  have hn1 := heap_alloc_new w (.cells (qryV q io wo go ic wc gc) 26)
  have hn2 := heap_alloc_new (w.alloc (.cells (qryV q io wo go ic wc gc) 26)) (.cells (qryV q io' wo' go' ic' wc' gc') 26)
  rw [alloc_sz] at hn2
  have hn1 := (Lib.alloc_old _ (.cells (qryV q io' wo' go' ic' wc' gc') 26) _ (Array.getElem?_eq_some_iff.1 hn1).1).trans hn1
  have hb : Below w.heap.size w ((w.alloc (.cells (qryV q io wo go ic wc gc) 26)).alloc (.cells (qryV q io' wo' go' ic' wc' gc') 26)) := ((Below.refl _ w).alloc (Nat.le_refl _) _).alloc (by simp) _
  have HB := Lib.hid hb
  have HA := Lib.hid (hA.self hb)
  have HC := Lib.hid (hC.self hb)
  have HEL := Lib.hid hel
  clear hA hC hb hel
  go_enter Tryz.func19, Tryz.ntmps19
  go_upto_region 1 with fail
  unfold qryV at *
  generalize ((w.alloc (.cells #[.slice io q.items.length ic, .string q.table, .string q.join, .string q.left, .string q.right, .slice wo q.wher.length wc, .slice go q.group.length gc] 26)).alloc (.cells #[.slice io' q.items.length ic', .string q.table, .string q.join, .string q.left, .string q.right, .slice wo' q.wher.length wc', .slice go' q.group.length gc'] 26)) = W1 at *
  have hcl : ∀ (j : Nat) v, (#[.slice io q.items.length ic, .string q.table, .string q.join, .string q.left, .string q.right, .slice wo q.wher.length wc, .slice go q.group.length gc] : Array Value)[j]? = some v → W1.cell? ⟨w.heap.size, j, none⟩ = some v := fun j v h => by rw [Lib.cell_of_heap hn1]; exact h
  have hcm : ∀ (j : Nat) v, (#[.slice io' q.items.length ic', .string q.table, .string q.join, .string q.left, .string q.right, .slice wo' q.wher.length wc', .slice go' q.group.length gc'] : Array Value)[j]? = some v → W1.cell? ⟨w.heap.size + 1, j, none⟩ = some v := fun j v h => by rw [Lib.cell_of_heap hn2]; exact h
  have k0 := hcl 0 _ rfl
  have k1 := hcl 1 _ rfl
  have k2 := hcl 2 _ rfl
  have k3 := hcl 3 _ rfl
  have k4 := hcl 4 _ rfl
  have k5 := hcl 5 _ rfl
  have k6 := hcl 6 _ rfl
  have m0 := hcm 0 _ rfl
  have m1 := hcm 1 _ rfl
  have m2 := hcm 2 _ rfl
  have m3 := hcm 3 _ rfl
  have m4 := hcm 4 _ rfl
  have m5 := hcm 5 _ rfl
  have m6 := hcm 6 _ rfl
  clear hcl hcm
  have HSS := Lib.hid (SameSteps_any q.wher q.wher wo wo' wc wc' W1 HA.out.wher HC.out.wher hwl)
  rw [decide_eq_true rfl] at HSS
  clear hn1 hn2
  go_wp2_with (go_at_call 43; refine HSS.out.mono ?_; rintro e w2 ⟨rfl, n2, rfl⟩; refine Hid.out ?_)
  refine Lib.hid ?_
  have HTX := Lib.hid (Texts_any q.group q.group go go' gc gc' (W1.drewN n2) HA.out.group HC.out.group hgl)
  rw [decide_eq_true rfl] at HTX
  go_wp2_with (go_at_call 44; refine HTX.out.mono ?_; rintro e w2 ⟨rfl, n3, rfl⟩; refine Hid.out ?_)
  refine Lib.hid ?_
  generalize n2 + n3 = n4
  clear HSS HTX
  go_wp2_with fail
  go_loopw [60] (fun v wr => ∃ k n : Nat, v = .int .i64 k ∧ k ≤ q.items.length ∧ wr = W1.drewN n) (fun v _ => q.items.length - (intOf v).toNat)
  case atStart => exact ⟨0, n4, rfl, Nat.zero_le _, rfl⟩
  case round =>
    obtain ⟨k, n, rfl, hk, rfl⟩ := hrel
    by_cases hlt : k < q.items.length
    · have hit : q.items[k]? = some q.items[k] := List.getElem?_eq_getElem hlt
      obtain ⟨b, o, rfl, hc⟩ := HA.out.items.resolve_left (by omega)
      obtain ⟨b', o', rfl, hc'⟩ := HC.out.items.resolve_left (by omega)
      obtain ⟨e1, x1, c0, c1, hr⟩ := hc k _ hit
      obtain ⟨e2, x2, d0, d1, hr'⟩ := hc' k _ hit
      have hle := HEL.out _ (List.getElem_mem hlt)
      generalize q.items[k] = it at *
      have HSS := Lib.hid fun m => Calls.mono (SameSteps_any it.e it.e e1 e2 x1 x2 (W1.drewN (n + m)) hr hr' hle) (R' := fun e w' => e = .returned (.bool true) ∧ ∃ j, w' = W1.drewN (n + j)) (by rintro e w' ⟨h, j, rfl⟩; exact ⟨by rw [h, decide_eq_true rfl], m + j, by rw [World.drewN_drewN, Nat.add_assoc]⟩)
      clear hit hc hc' hr hr' hle
      go_wp2_with fail
      go_quiet ((go_at_call 43; go_loud (exact HSS.out _)))
      go_wp2_with fail
      go_roundw
      case rel => exact ⟨k + 1, _, by go_num, by omega, rfl⟩
      case measure => simp [intOf]; omega
    · go_wp2_with fail
      go_ret
      exact ⟨rfl, bdn HB.out _⟩
end Go.Proofs.YtegnoaejlhbpbaaGreatDoor.lx
namespace Go.Proofs.YtegnoaejlhbpbaaGreatDoor.lx
open Go.RowKit

/-- cells that lie there, or are none -/
def Lies (size : Nat) (ao : Option Addr) (m : Nat) (news : List Value) (w : World) : Prop :=
  news.length = m * size ∧ (∀ u ∈ news, u.oneCell' = true) ∧ (m = 0 ∨ ∃ b o, ao = some ⟨b, o, none⟩ ∧ ∀ j u, news[j]? = some u → w.cell? ⟨b, o + j, none⟩ = some u)
theorem run_append_lying {P : Program} (w : World) (base : Nat) (t ty e : TypeId) (i : TypeInfo) (z : Value) (size bytes : Nat) (ht : P.underlying t = some (.slice e)) (hi : P.info? e = some i) (hz : i.zero = some z)
    (hsize : i.size = size) (hby : i.bytes = bytes) (hzs : z.cells.size = size) (hsz : 0 < size)
    (v : Value) (n : Nat) (xs : List Value) (hown : w.ownsRow base e size v n xs)
    (ao : Option Addr) (m c : Nat) (news : List Value) (hx : Lies size ao m news w) (h63 : n + m ≤ maxLen) (hbytes : (n + m) * bytes ≤ 140737488355328) (hbase : base ≤ w.heap.size) :
    ∃ v' w', (Builtin.append_ #[t, t] ty #[v, .slice ao m c]).run P w = .ok v' w' ∧ w'.ownsRow base e size v' (n + m) (xs ++ news) ∧ w.grownBy w' v.ownBlock ∧ (v'.ownBlock = v.ownBlock ∨ v'.ownBlock = some w.heap.size) := by
  obtain ⟨hl, h1, h0⟩ := hx
  have go : ∀ ad : Addr, ao = some ad → (∀ j u, news[j]? = some u → w.cell? (ad.add j) = some u) → ∃ v' w', (Builtin.append_ #[t, t] ty #[v, .slice ao m c]).run P w = .ok v' w' ∧ w'.ownsRow base e size v' (n + m) (xs ++ news) ∧ w.grownBy w' v.ownBlock ∧ (v'.ownBlock = v.ownBlock ∨ v'.ownBlock = some w.heap.size) := by
    intro ad he hc
    obtain ⟨v', w', hr, h2, h3, _, h5⟩ := run_append_own_at (P := P) w base t ty e i z size bytes ht hi hz hsize hby hzs hsz v n xs hown ad m c news hl hc h1 h63 hbytes hbase
    exact ⟨v', w', by rw [he]; exact hr, h2, h3, h5⟩
  rcases h0 with h0 | ⟨b, o, he, hc⟩
  · subst h0
    rw [Nat.zero_mul] at hl
    obtain rfl : news = [] := List.length_eq_zero_iff.1 hl
    cases ao with
    | some ad => exact go ad rfl (fun j u h => by simp at h)
    | none =>
      obtain ⟨ao', cap, hv, hle, _⟩ := own_cells hown
      subst hv
      refine ⟨.slice ao' n cap, w, ?_, by simpa using hown, World.grownBy.refl _ _, .inl rfl⟩
      refine run_append_nothing (P := P) w t t ty e i ht hi ao' n cap hle _ ⟨.inl ⟨e, ht⟩, fun w' => ?_, ?_, ?_, by simp, fun u hu => by cases hu⟩
      · simp [Builtin.lenOf]
      · simp [Builtin.firstCells]
      · simp [Builtin.firstCells]
  · refine go _ he fun j u h => ?_
    rw [show (⟨b, o, none⟩ : Addr).add j = ⟨b, o + j, none⟩ by unfold Addr.add; split <;> simp_all]
    exact hc j u h
theorem wpList_append_lying {P : Program} {w : World} {ops : Array Oper} {rest : List Oper} {o : Oper} {a : Act} {Q : Exit → Act → World → Prop} (hgd : o.guard = none) (s x : Operand) (t : TypeId)
    (ho : o.op = .call { callee := .builtin .append, args := #[s, x], argTypes := #[t, t] })
    (base : Nat) (e : TypeId) (i : TypeInfo) (z : Value) (size bytes : Nat) (ht : P.underlying t = some (.slice e)) (hi : P.info? e = some i) (hz : i.zero = some z)
    (hsize : i.size = size) (hby : i.bytes = bytes) (hzs : z.cells.size = size) (hsz : 0 < size)
    (v : Value) (n : Nat) (xs : List Value) (hs : a.eval s = v) (hown : w.ownsRow base e size v n xs)
    (ao : Option Addr) (m c : Nat) (news : List Value) (hx : a.eval x = .slice ao m c) (hl : Lies size ao m news w)
    (h63 : n + m ≤ maxLen) (hbytes : (n + m) * bytes ≤ 140737488355328) (hbase : base ≤ w.heap.size)
    (h : ∀ v' w', w'.ownsRow base e size v' (n + m) (xs ++ news) → w.grownBy w' v.ownBlock → (v'.ownBlock = v.ownBlock ∨ v'.ownBlock = some w.heap.size) → wpList P ops Q rest (a.put o.dst v') w') :
    wpList P ops Q (o :: rest) a w := by
  refine wpList_plain hgd fun K hK => ?_
  obtain ⟨v', w', hr, h2, h3, h5⟩ := run_append_lying (P := P) w base t o.type e i z size bytes ht hi hz hsize hby hzs hsz v n xs hown ao m c news hl h63 hbytes hbase
  unfold Oper.wp execOp
  simp only [ho, resolve, invoke, builtin, Sem.run_bind, Sem.run_pure, Result.andThen_ok, List.map_toArray, List.map_cons, List.map_nil, hs, hx, hr]
  exact hK _ _ (h v' w' h2 h3 h5)
theorem step_append_lying {P : Program} {ops : Array Oper} {o : Oper} {a : Act} {w : World} {K : Act → World → Prop} {Q : Exit → Act → World → Prop} {E : Prop}
    (hg : o.guard = none) (s x : Operand) (t : TypeId) (hop : o.op = Op.call { callee := Callee.builtin Builtin.append, args := #[s, x], argTypes := #[t, t] })
    (base : Nat) (e : TypeId) (i : TypeInfo) (z : Value) (size bytes : Nat) (ht : P.underlying t = some (.slice e)) (hi : P.info? e = some i) (hz : i.zero = some z) (hsize : i.size = size) (hby : i.bytes = bytes) (hzs : z.cells.size = size) (hsz : 0 < size)
    (v : Value) (n : Nat) (xs : List Value) (hs : a.eval s = v) (hown : w.ownsRow base e size v n xs)
    (ao : Option Addr) (m c : Nat) (news : List Value) (hx : a.eval x = .slice ao m c) (hl : Lies size ao m news w)
    (h63 : n + m ≤ maxLen) (hbytes : (n + m) * bytes ≤ 140737488355328) (hbase : base ≤ w.heap.size)
    (h : ∀ v' w', w'.ownsRow base e size v' (n + m) (xs ++ news) → w.grownBy w' v.ownBlock → (v'.ownBlock = v.ownBlock ∨ v'.ownBlock = some w.heap.size) → K (a.put o.dst v') w') :
    if Region.wanted o (yielded ops a.tmps) = true then Oper.wp P o a w K Q else E := by
  have hw : Region.wanted o (yielded ops a.tmps) = true := by simp [Region.wanted, hg]
  rw [if_pos hw]
  obtain ⟨v', w', hr, h2, h3, h5⟩ := run_append_lying (P := P) w base t o.type e i z size bytes ht hi hz hsize hby hzs hsz v n xs hown ao m c news hl h63 hbytes hbase
  unfold Oper.wp execOp
  simp only [hop, resolve, invoke, builtin, Sem.run_bind, Sem.run_pure, Result.andThen_ok, List.map_toArray, List.map_cons, List.map_nil, hs, hx, hr]
  exact h _ _ h2 h3 h5
theorem lies_stps {ao : Option Addr} {L : List Stp} {w : World} (h : StpRow ao L w) : Lies 3 ao L.length (stpCells L) w := by
  refine ⟨stpCells_length L, fun u hu => ?_, ?_⟩
  · obtain ⟨t, _, ht⟩ := List.mem_flatMap.1 hu
    simp only [Stp.cells, List.mem_cons, List.not_mem_nil, or_false] at ht
    rcases ht with rfl | rfl | rfl <;> rfl
  rcases h with h | ⟨b, o, h1, h2⟩
  · exact .inl h
  · refine .inr ⟨b, o, h1, fun j u hj => ?_⟩
    have hjl : j < L.length * 3 := by
      rw [← stpCells_length]
      exact (List.getElem?_eq_some_iff.1 hj).1
    have hi : j / 3 < L.length := by omega
    obtain ⟨c0, c1, c2⟩ := h2 (j / 3) _ (List.getElem?_eq_getElem hi)
    have hm : j % 3 < 3 := Nat.mod_lt _ (by decide)
    have e := (stpCells_at L (j / 3) _ (j % 3) (List.getElem?_eq_getElem hi) hm).symm.trans ((congrArg (fun k => (stpCells L)[k]?) (show j / 3 * 3 + j % 3 = j by omega)).trans hj)
    generalize L[j / 3] = t at *
    obtain h0 | h0 | h0 : j % 3 = 0 ∨ j % 3 = 1 ∨ j % 3 = 2 := by omega
    · rw [h0] at e; simp only [Stp.cells, List.getElem?_cons_zero, Option.some.injEq] at e; subst e
      rw [show o + j = o + j / 3 * 3 by omega]; exact c0
    · rw [h0] at e; simp only [Stp.cells, List.getElem?_cons_zero, List.getElem?_cons_succ, Option.some.injEq] at e; subst e
      rw [show o + j = o + j / 3 * 3 + 1 by omega]; exact c1
    · rw [h0] at e; simp only [Stp.cells, List.getElem?_cons_zero, List.getElem?_cons_succ, Option.some.injEq] at e; subst e
      rw [show o + j = o + j / 3 * 3 + 2 by omega]; exact c2
theorem lies_txts {ao : Option Addr} {L : List ByteArray} {w : World} (h : TxtRow ao L w) : Lies 1 ao L.length (L.map Value.string) w := by
  refine ⟨by simp, fun u hu => by obtain ⟨s, _, rfl⟩ := List.mem_map.1 hu; rfl, ?_⟩
  rcases h with h | ⟨b, o, h1, h2⟩
  · exact .inl h
  · refine .inr ⟨b, o, h1, fun j u hj => ?_⟩
    rw [List.getElem?_map] at hj
    obtain ⟨s, hs, rfl⟩ := Option.map_eq_some_iff.1 hj
    exact h2 j s hs
theorem own_empty {w : World} {t : TypeId} {size : Nat} : (w.alloc (.cells #[] t)).ownsRow w.heap.size t size (.slice (some ⟨w.heap.size, 0, none⟩) 0 0) 0 [] :=
  ⟨by simp, .inr ⟨w.heap.size, 0, _, rfl, Nat.le_refl _, heap_alloc_new w _, Nat.le_refl _, by unfold maxLen; omega, by simp, by simp⟩⟩
end Go.Proofs.YtegnoaejlhbpbaaGreatDoor.lx
namespace Go.Proofs.YtegnoaejlhbpbaaGreatDoor.lx
open Go.RowKit
set_option linter.unusedVariables false
set_option linter.unusedSimpArgs false

/-- how it stands: the query's cells, the result's, nothing else of old is written -/
structure CpS (q : Qry) (iv wv gv : Value) (w wr : World) : Prop where
  below : Below w.heap.size w wr
  box : wr.heap[w.heap.size]? = some (.cells #[iv, .string q.table, .string q.join, .string q.left, .string q.right, wv, gv] 26 (0, 0))
  res : wr.heap[w.heap.size + 1]? = some (.cells zeroQ 26 (0, 0))
theorem CpS.hw {q : Qry} {iv wv gv : Value} {w wr : World} (h : CpS q iv wv gv w wr) : w.heap.size + 1 < wr.heap.size := (Array.getElem?_eq_some_iff.1 h.res).1
theorem CpS.of {q : Qry} {iv wv gv : Value} {w wr w' : World} (h : CpS q iv wv gv w wr) (hb : Below w.heap.size w w') (h1 : w'.heap[w.heap.size]? = wr.heap[w.heap.size]?) (h2 : w'.heap[w.heap.size + 1]? = wr.heap[w.heap.size + 1]?) : CpS q iv wv gv w w' := ⟨hb, h1.trans h.box, h2.trans h.res⟩
theorem CpS.next {q : Qry} {iv wv gv : Value} {w wr w' : World} (h : CpS q iv wv gv w wr) (hb : Below wr.heap.size wr w') : CpS q iv wv gv w w' :=
  have := h.hw
  h.of (below_then h.below (by omega) hb) (hb.block _ (by omega)) (hb.block _ (by omega))
theorem CpS.grown {q : Qry} {iv wv gv v : Value} {w wr w' : World} (h : CpS q iv wv gv w wr) (hg : wr.grownBy w' v.ownBlock) (hv : ∀ k, v.ownBlock = some k → w.heap.size + 2 ≤ k) : CpS q iv wv gv w w' :=
  have := h.hw
  h.of (below_own h.below hg (fun k hk => by have := hv k hk; omega) (by omega)) (hg.block _ (by omega) (fun e => by have := hv _ e.symm; omega)) (hg.block _ (by omega) (fun e => by have := hv _ e.symm; omega))
theorem CpS.cell {q : Qry} {iv wv gv : Value} {w wr : World} (h : CpS q iv wv gv w wr) (j : Nat) (v : Value) (hv : #[iv, .string q.table, .string q.join, .string q.left, .string q.right, wv, gv][j]? = some v) : wr.cell? ⟨w.heap.size, j, none⟩ = some v := by rw [Lib.cell_of_heap h.box]; exact hv
theorem CpS.set5 {q : Qry} {iv wv gv : Value} {w wr : World} (h : CpS q iv wv gv w wr) (x : Value) : CpS q iv x gv w (wr.setCell ⟨w.heap.size, 5, none⟩ x) :=
  ⟨h.below.setCell (p := ⟨w.heap.size, 5, none⟩) (Nat.le_refl _) _, by simp [World.setCell, Array.getElem?_modify, h.box], by simp [World.setCell, Array.getElem?_modify, h.res]⟩
theorem CpS.set6 {q : Qry} {iv wv gv : Value} {w wr : World} (h : CpS q iv wv gv w wr) (x : Value) : CpS q iv wv x w (wr.setCell ⟨w.heap.size, 6, none⟩ x) :=
  ⟨h.below.setCell (p := ⟨w.heap.size, 6, none⟩) (Nat.le_refl _) _, by simp [World.setCell, Array.getElem?_modify, h.box], by simp [World.setCell, Array.getElem?_modify, h.res]⟩
theorem CpS.set0 {q : Qry} {iv wv gv : Value} {w wr : World} (h : CpS q iv wv gv w wr) (x : Value) : CpS q x wv gv w (wr.setCell ⟨w.heap.size, 0, none⟩ x) :=
  ⟨h.below.setCell (p := ⟨w.heap.size, 0, none⟩) (Nat.le_refl _) _, by simp [World.setCell, Array.getElem?_modify, h.box], by simp [World.setCell, Array.getElem?_modify, h.res]⟩

theorem lies_two {w : World} {a b : Value} {t : TypeId} (ha : a.oneCell' = true) (hb : b.oneCell' = true) : Lies 2 (some ⟨w.heap.size, 0, none⟩) 1 [a, b] (w.alloc (.cells #[a, b] t)) := by
  refine ⟨rfl, fun u hu => by simp at hu; rcases hu with rfl | rfl <;> assumption, .inr ⟨_, _, rfl, fun j u hj => ?_⟩⟩
  rw [Lib.cell_of_heap (heap_alloc_new w (.cells #[a, b] t)), Nat.zero_add]
  match j, hj with
  | 0, hj => exact hj
  | 1, hj => exact hj
  | (j + 2), hj => simp at hj

set_option maxHeartbeats 4000000 in
set_option maxRecDepth 100000 in
theorem Copy_any {q : Qry} {io wo go : Option Addr} {ic wc gc : Nat} {w : World} (hR : QryIn q io wo go w) (hil : q.items.length ≤ 1048576) (hwl : q.wher.length ≤ 1048576) (hgl : q.group.length ≤ 1048576) (hel : ∀ it ∈ q.items, it.e.length ≤ 1048576) :
    Calls Tryz.prog 20 #[.agg (qryV q io wo go ic wc gc)] w fun e w' => ∃ v, e = .returned v ∧ QryV w.heap.size q v w' ∧ Below w.heap.size w w' := by
  have hn1 := heap_alloc_new w (.cells (qryV q io wo go ic wc gc) 26)
  have hn2 := heap_alloc_new (w.alloc (.cells (qryV q io wo go ic wc gc) 26)) (.cells zeroQ 26)
  rw [alloc_sz] at hn2
  have hn1 := (Lib.alloc_old _ (.cells zeroQ 26) _ (Array.getElem?_eq_some_iff.1 hn1).1).trans hn1
  have HS : Hid (CpS q (.slice io q.items.length ic) (.slice wo q.wher.length wc) (.slice go q.group.length gc) w ((w.alloc (.cells (qryV q io wo go ic wc gc) 26)).alloc (.cells zeroQ 26))) := Lib.hid ⟨((Below.refl _ w).alloc (Nat.le_refl _) _).alloc (by simp) _, hn1, hn2⟩
  have HR := Lib.hid hR
  have HEL := Lib.hid hel
  clear hn1 hn2 hR hel
  go_enter Tryz.func20, Tryz.ntmps20
  go_upto_region 1 with fail
  unfold zeroQ at HS
  generalize ((w.alloc (.cells (qryV q io wo go ic wc gc) 26)).alloc (.cells #[.slice none 0 0, .string ⟨#[]⟩, .string ⟨#[]⟩, .string ⟨#[]⟩, .string ⟨#[]⟩, .slice none 0 0, .slice none 0 0] 26)) = W1 at *
  have k5 := HS.out.cell 5 _ rfl
  have hw1 := HS.out.hw
  have hw0 : w.heap.size < W1.heap.size := by omega
  have hLS : Lies 3 wo q.wher.length (stpCells q.wher) (W1.alloc (.cells #[] 29)) := lies_stps (HR.out.wher.self (below_then HS.out.below (by omega) ((Below.refl _ _).alloc (Nat.le_refl _) _)))
  obtain ⟨i0, hi0, hz0, hz1, hz2⟩ := info_parts infoS
  go_wp2_with (at_builtin; refine wpList_append_lying rfl _ _ 23 rfl W1.heap.size 29 i0 _ 3 32 Tryz.underlying23 hi0 hz0 hz1 hz2 rfl (by decide) (.slice (some ⟨W1.heap.size, 0, none⟩) 0 0) 0 [] rfl own_empty wo q.wher.length wc (stpCells q.wher) rfl hLS ?c1 ?c2 ?c3 ?_)
  case c1 => unfold maxLen; omega
  case c2 => omega
  case c3 => simp
  intro v5 w5 hown5 hg5 _
  obtain ⟨so5, cap5, rfl⟩ := own_shape hown5
  have HS5 := Lib.hid ((HS.out.next ((Below.refl _ _).alloc (Nat.le_refl _) _)).grown hg5 (fun k hk => by have e : W1.heap.size = k := Option.some.inj hk; omega))
  have HO5 := Lib.hid (own_le (B' := w.heap.size + 2) hown5 (by omega))
  clear hown5 hg5 hi0 hz0 hz1 hz2 hLS k5
  have k5 := HS5.out.cell 5 _ rfl
  have f5 := Lib.frozen_of_heap HS5.out.box 5
  have HS6 := Lib.hid (HS5.out.set5 (.slice so5 q.wher.length cap5))
  have hO5 := own_keepA (w' := w5.setCell ⟨w.heap.size, 5, none⟩ (.slice so5 q.wher.length cap5)) HO5.out (fun k hk _ => Below.heap_setCell _ _ _ _ (by show k ≠ w.heap.size; omega))
  go_upto_region 2 with fail
  clear k5 f5 HS5 HO5 HS
  generalize w5.setCell ⟨w.heap.size, 5, none⟩ (.slice so5 q.wher.length cap5) = W2 at *
  have HO5 := Lib.hid hO5
  clear hO5
  have k6 := HS6.out.cell 6 _ rfl
  have hw1 := HS6.out.hw
  have hw0 : w.heap.size < W2.heap.size := by omega
  have hLG : Lies 1 go q.group.length (q.group.map Value.string) (W2.alloc (.cells #[] 9)) := lies_txts (HR.out.group.self (below_then HS6.out.below (by omega) ((Below.refl _ _).alloc (Nat.le_refl _) _)))
  obtain ⟨i0, hi0, hz0, hz1, hz2⟩ := info_parts infoStr
  go_wp2_with (at_builtin; refine wpList_append_lying rfl _ _ 24 rfl W2.heap.size 9 i0 _ 1 16 Tryz.underlying24 hi0 hz0 hz1 hz2 rfl (by decide) (.slice (some ⟨W2.heap.size, 0, none⟩) 0 0) 0 [] rfl own_empty go q.group.length gc (q.group.map Value.string) rfl hLG ?d1 ?d2 ?d3 ?_)
  case d1 => unfold maxLen; omega
  case d2 => omega
  case d3 => simp
  intro v6 w6 hown6 hg6 _
  obtain ⟨so6, cap6, rfl⟩ := own_shape hown6
  have hb6 := below_own ((Below.refl W2.heap.size W2).alloc (Nat.le_refl _) _) hg6 (fun k hk => by have e : W2.heap.size = k := Option.some.inj hk; omega) (by simp)
  have HS7 := Lib.hid (HS6.out.next hb6)
  have HO6 := Lib.hid (own_le (B' := w.heap.size + 2) hown6 (by omega))
  have HO7 := Lib.hid (own_keepA HO5.out fun k _ hk => hb6.block k hk)
  clear hown6 hg6 hi0 hz0 hz1 hz2 hLG k6 hb6 HO5 HS6
  have k6 := HS7.out.cell 6 _ rfl
  have f6 := Lib.frozen_of_heap HS7.out.box 6
  have HS8 := Lib.hid (HS7.out.set6 (.slice so6 q.group.length cap6))
  have hO7 := own_keepA (w' := w6.setCell ⟨w.heap.size, 6, none⟩ (.slice so6 q.group.length cap6)) HO7.out (fun k hk _ => Below.heap_setCell _ _ _ _ (by show k ≠ w.heap.size; omega))
  have hO6 := own_keepA (w' := w6.setCell ⟨w.heap.size, 6, none⟩ (.slice so6 q.group.length cap6)) HO6.out (fun k hk _ => Below.heap_setCell _ _ _ _ (by show k ≠ w.heap.size; omega))
  go_upto_region 3 with fail
  clear k6 f6 HS7 HO6 HO7
  generalize w6.setCell ⟨w.heap.size, 6, none⟩ (.slice so6 q.group.length cap6) = W3 at *
  have HO6 := Lib.hid hO6
  have HO7 := Lib.hid hO7
  clear hO6 hO7
  have k0 := HS8.out.cell 0 _ rfl
  have hw3 := HS8.out.hw
  go_wp2_with fail
  go_loopw [3, 19] (fun v i wr => ∃ k : Nat, i = .int .i64 k ∧ k ≤ q.items.length ∧ IO W3.heap.size wr (q.items.take k) v ∧ Below W3.heap.size W3 wr) (fun _ i _ => q.items.length - (intOf i).toNat)
  case atStart => exact ⟨0, rfl, Nat.zero_le _, IO.nil _ _, Below.refl _ _⟩
  case round =>
    obtain ⟨k, rfl, hk, hIO, hbr⟩ := hrel
    by_cases hlt : k < q.items.length
    · have hit : q.items[k]? = some q.items[k] := List.getElem?_eq_getElem hlt
      have HSr := Lib.hid (HS8.out.next hbr)
      have hwr := HSr.out.hw
      obtain ⟨b, o, rfl, hcs⟩ := (HR.out.items.self HSr.out.below).resolve_left (by omega)
      obtain ⟨eo, ec, c0, c1, hst⟩ := hcs k _ hit
      have hle := HEL.out _ (List.getElem_mem hlt)
      have HSN : Hid (q.items.take (k + 1) = q.items.take k ++ [q.items[k]]) := Lib.hid (List.take_succ_eq_append_getElem hlt)
      have HTL : Hid ((q.items.take k).length = k) := Lib.hid (by rw [List.length_take]; omega)
      have HST := Lib.hid hst
      have HIO := Lib.hid hIO
      have HBR := Lib.hid hbr
      clear hcs hst hIO hbr
      generalize q.items[k] = it at *
      clear hit k0 HO6 HO7
      go_upto_region 7 with fail
      have hnA := heap_alloc_new wr (.cells #[.int .u8 it.agg, .slice eo it.e.length ec] 48)
      have hbA := (Below.refl wr.heap.size wr).alloc (Nat.le_refl _) (.cells #[.int .u8 it.agg, .slice eo it.e.length ec] 48)
      have hwA : wr.heap.size < (wr.alloc (.cells #[.int .u8 it.agg, .slice eo it.e.length ec] 48)).heap.size := (Array.getElem?_eq_some_iff.1 hnA).1
      have HLS := Lib.hid fun (W' : World) (hb : Below (wr.alloc (.cells #[.int .u8 it.agg, .slice eo it.e.length ec] 48)).heap.size (wr.alloc (.cells #[.int .u8 it.agg, .slice eo it.e.length ec] 48)) W') => lies_stps ((HST.out.self hbA).self hb)
      obtain ⟨vs, hvl, hvo, hve⟩ := HIO.out.kept (fun k _ hk => hbA.block k hk)
      rw [HTL.out] at hvo hvl
      have HVO := Lib.hid hvo
      have HVE := Lib.hid hve
      have HBA := Lib.hid hbA
      clear hvo hve hbA
      generalize wr.alloc (.cells #[.int .u8 it.agg, .slice eo it.e.length ec] 48) = wx at *
      have y0 : wx.cell? ⟨wr.heap.size, 0, none⟩ = some (.int .u8 it.agg) := by rw [Lib.cell_of_heap hnA]; rfl
      have y1 : wx.cell? ⟨wr.heap.size, 1, none⟩ = some (.slice eo it.e.length ec) := by rw [Lib.cell_of_heap hnA]; rfl
      clear hnA c0 c1
      obtain ⟨iu, cu, rfl⟩ := own_shape HVO.out
      obtain ⟨i0, hi0, hz0, hz1, hz2⟩ := info_parts infoS
      have HI := Lib.hid (And.intro hi0 (And.intro hz0 (And.intro hz1 hz2)))
      clear hi0 hz0 hz1 hz2
      obtain ⟨j0, hi0, hz0, hz1, hz2⟩ := info_parts infoItm
      have HJ := Lib.hid (And.intro hi0 (And.intro hz0 (And.intro hz1 hz2)))
      clear hi0 hz0 hz1 hz2
      go_region_law (first
        | (refine step_append_lying rfl (.tmp 26) (.tmp 28) 23 rfl wx.heap.size 29 i0 _ 3 32 Tryz.underlying23 HI.out.1 HI.out.2.1 HI.out.2.2.1 HI.out.2.2.2 rfl (by decide) (.slice (some ⟨wx.heap.size, 0, none⟩) 0 0) 0 [] (by simp [Act.eval]) own_empty eo it.e.length ec (stpCells it.e) (by simp [Act.eval]) (HLS.out _ (by first | exact (Below.refl _ _).alloc (Nat.le_refl _) _ | exact (Below.refl _ _).drew.alloc (Nat.le_refl _) _ | exact (Below.refl _ _).drew.drew.alloc (Nat.le_refl _) _ | exact ((Below.refl _ _).alloc (Nat.le_refl _) _).drew)) (by unfold maxLen; omega) (by omega) (by simp) ?_; intro v8 w8 hown8 hg8 hat8; rw [Nat.zero_add, List.nil_append] at hown8; obtain ⟨so8, cap8, rfl⟩ := own_shape hown8;
            have HO8 := Lib.hid hown8;
            have HB8 : Hid (Below wx.heap.size wx w8) := Lib.hid (below_own (by first | exact (Below.refl _ _).alloc (Nat.le_refl _) _ | exact (Below.refl _ _).drew.alloc (Nat.le_refl _) _ | exact (Below.refl _ _).drew.drew.alloc (Nat.le_refl _) _ | exact ((Below.refl _ _).alloc (Nat.le_refl _) _).drew) hg8 (fun k hk => by have e : wx.heap.size = k := Option.some.inj hk; omega) (by simp));
            have HV8 := Lib.hid (own_keepA HVO.out fun k _ hk => HB8.out.block k hk);
            have HE8 := Lib.hid (fun (i : Nat) it' u (h1 : (q.items.take k)[i]? = some it') (h2 : vs[i]? = some u) => And.intro (own_keepA (HVE.out i it' u h1 h2).1 fun k _ hk => HB8.out.block k hk) (HVE.out i it' u h1 h2).2);
            have g8 := keep_cellP HB8.out y0;
            clear hown8 hg8 hat8)
        | (refine step_append_lying rfl (.tmp 23) (.tmp 31) 22 rfl W3.heap.size 48 j0 _ 2 32 Tryz.underlying22 HJ.out.1 HJ.out.2.1 HJ.out.2.2.1 HJ.out.2.2.2 rfl (by decide) (.slice iu k cu) k (itmCells (q.items.take k) vs) (by simp [Act.eval]) (HV8.out.alloc _) (some ⟨w8.heap.size, 0, none⟩) 1 1 [.int .u8 it.agg, .slice so8 it.e.length cap8] (by simp [Act.eval]) (lies_two rfl rfl) (by unfold maxLen; omega) (by omega) (by have := HB8.out.size; have := HBA.out.size; have := HBR.out.size; simp; omega) ?_; intro v9 w9 hown9 hg9 hat9;
            have HI9 := Lib.hid (IO.app (its := q.items.take k) (it := it) (C := wx.heap.size) (by have := HBA.out.size; have := HBR.out.size; omega) (by rw [HTL.out]; exact hvl) (own_lt HVO.out) HE8.out HO8.out hg9 (by rw [HTL.out]; exact hown9) (by simpa using hat9));
            have hb1 := below_then HBR.out HBR.out.size HBA.out;
            have hb2 := below_then hb1 hb1.size HB8.out;
            have hb3 := below_then hb2 hb2.size ((Below.refl _ _).alloc (Nat.le_refl _) (.cells #[.int .u8 it.agg, .slice so8 it.e.length cap8] 48));
            have HB9 : Hid (Below W3.heap.size W3 w9) := Lib.hid (below_own hb3 hg9 (own_base HV8.out) hb3.size);
            clear hb1 hb2 hb3;
            clear hown9 hg9 hat9))
      all_goals (
        obtain ⟨iu9, cu9, rfl, _⟩ := HI9.out.row
        have HL9 : Hid ((q.items.take k ++ [it]).length = k + 1) := Lib.hid (by rw [List.length_append, HTL.out]; rfl)
        rw [HL9.out] at HI9 ⊢
        go_wp2_with fail
        go_roundw
        case rel => exact ⟨k + 1, by go_num, by omega, by rw [HSN.out]; exact HI9.out, HB9.out⟩
        case measure => simp [intOf]; omega)
    · obtain rfl : k = q.items.length := by omega
      rw [List.take_length] at hIO
      have hIO := hIO.le (C := w.heap.size + 2) (by omega)
      have HS9 := Lib.hid (HS8.out.next hbr)
      have HO8 := Lib.hid (own_keepA HO6.out fun k _ hk => hbr.block k hk)
      have HO9 := Lib.hid (own_keepA HO7.out fun k _ hk => hbr.block k hk)
      obtain ⟨io9, ic9, rfl, _⟩ := hIO.row
      have k0 := HS9.out.cell 0 _ rfl
      have f0 := Lib.frozen_of_heap HS9.out.box 0
      have HSA := Lib.hid (HS9.out.set0 (.slice io9 q.items.length ic9))
      have hOA := own_keepA (w' := wr.setCell ⟨w.heap.size, 0, none⟩ (.slice io9 q.items.length ic9)) HO9.out (fun k hk _ => Below.heap_setCell _ _ _ _ (by show k ≠ w.heap.size; omega))
      have hOB := own_keepA (w' := wr.setCell ⟨w.heap.size, 0, none⟩ (.slice io9 q.items.length ic9)) HO8.out (fun k hk _ => Below.heap_setCell _ _ _ _ (by show k ≠ w.heap.size; omega))
      have hIA := hIO.kept (w' := wr.setCell ⟨w.heap.size, 0, none⟩ (.slice io9 q.items.length ic9)) (fun k hk _ => Below.heap_setCell _ _ _ _ (by show k ≠ w.heap.size; omega))
      go_upto_region 10 with fail
      clear k0 f0 HS9 HO8 HO9 hIO HO6 HO7 HS8 hbr
      generalize wr.setCell ⟨w.heap.size, 0, none⟩ (.slice io9 q.items.length ic9) = U at *
      have HOA := Lib.hid hOA
      have HOB := Lib.hid hOB
      have HIA := Lib.hid hIA
      clear hOA hOB hIA
      have q0 := HSA.out.cell 0 _ rfl
      have q1 := HSA.out.cell 1 _ rfl
      have q2 := HSA.out.cell 2 _ rfl
      have q3 := HSA.out.cell 3 _ rfl
      have q4 := HSA.out.cell 4 _ rfl
      have q5 := HSA.out.cell 5 _ rfl
      have q6 := HSA.out.cell 6 _ rfl
      have hn := HSA.out.res
      unfold zeroQ at hn
      have p0 : U.cell? ⟨w.heap.size + 1, 0, none⟩ = some (.slice none 0 0) := by rw [Lib.cell_of_heap hn]; rfl
      have p1 : U.cell? ⟨w.heap.size + 1, 1, none⟩ = some (.string ⟨#[]⟩) := by rw [Lib.cell_of_heap hn]; rfl
      have p2 : U.cell? ⟨w.heap.size + 1, 2, none⟩ = some (.string ⟨#[]⟩) := by rw [Lib.cell_of_heap hn]; rfl
      have p3 : U.cell? ⟨w.heap.size + 1, 3, none⟩ = some (.string ⟨#[]⟩) := by rw [Lib.cell_of_heap hn]; rfl
      have p4 : U.cell? ⟨w.heap.size + 1, 4, none⟩ = some (.string ⟨#[]⟩) := by rw [Lib.cell_of_heap hn]; rfl
      have p5 : U.cell? ⟨w.heap.size + 1, 5, none⟩ = some (.slice none 0 0) := by rw [Lib.cell_of_heap hn]; rfl
      have p6 : U.cell? ⟨w.heap.size + 1, 6, none⟩ = some (.slice none 0 0) := by rw [Lib.cell_of_heap hn]; rfl
      have hfz : ∀ j, U.frozen? ⟨w.heap.size + 1, j, none⟩ = false := Lib.frozen_of_heap hn
      have HN := Lib.hid hn
      clear hn
      go_wp2_with fail
      refine bodyPost_ret (v := .agg #[.slice io9 q.items.length ic9, .string q.table, .string q.join, .string q.left, .string q.right, .slice so5 q.wher.length cap5, .slice so6 q.group.length cap6]) (resultsQ rfl (B := w.heap.size + 1) ?_ rfl) rfl ?_
      · exact set7_at HN.out
      · refine ⟨_, rfl, ⟨_, _, _, rfl, IO.le (HIA.out.kept fun k hk _ => set7_ne (by omega)) (Nat.le_add_right _ 2), own_le (own_keepA HOA.out fun k hk _ => set7_ne (by omega)) (Nat.le_add_right _ 2), own_le (own_keepA HOB.out fun k hk _ => set7_ne (by omega)) (Nat.le_add_right _ 2)⟩, ?_⟩
        exact (((((((HSA.out.below.setCell (p := ⟨w.heap.size + 1, 0, none⟩) (Nat.le_succ _) _).setCell (p := ⟨w.heap.size + 1, 1, none⟩) (Nat.le_succ _) _).setCell (p := ⟨w.heap.size + 1, 2, none⟩) (Nat.le_succ _) _).setCell (p := ⟨w.heap.size + 1, 3, none⟩) (Nat.le_succ _) _).setCell (p := ⟨w.heap.size + 1, 4, none⟩) (Nat.le_succ _) _).setCell (p := ⟨w.heap.size + 1, 5, none⟩) (Nat.le_succ _) _).setCell (p := ⟨w.heap.size + 1, 6, none⟩) (Nat.le_succ _) _)
end Go.Proofs.YtegnoaejlhbpbaaGreatDoor.lx
namespace Go.Proofs.YtegnoaejlhbpbaaGreatDoor.lx
open Go.RowKit

structure Mut (lo hi : Nat) (w wr : World) : Prop where
  below : Below lo w wr
  keep : ∀ k, hi ≤ k → k < w.heap.size → wr.heap[k]? = w.heap[k]?
theorem Mut.refl (lo hi : Nat) (w : World) : Mut lo hi w w := ⟨Below.refl _ _, fun _ _ _ => rfl⟩
theorem Mut.set {lo hi : Nat} {w wr : World} (h : Mut lo hi w wr) {p : Addr} (h1 : lo ≤ p.block) (h2 : p.block < hi) (u : Value) : Mut lo hi w (wr.setCell p u) :=
  ⟨h.below.setCell h1 u, fun k hk hk2 => (Below.heap_setCell _ _ _ _ (by omega)).trans (h.keep k hk hk2)⟩
theorem Mut.trans {lo hi : Nat} {w wr wx : World} (h : Mut lo hi w wr) (k : Mut lo hi wr wx) : Mut lo hi w wx :=
  ⟨h.below.trans k.below, fun j hj hj2 => (k.keep j hj (Nat.lt_of_lt_of_le hj2 h.below.size)).trans (h.keep j hj hj2)⟩
/-- a row of the call's own: where it lies, of what type its block is -/
theorem own_place {w : World} {B n : Nat} {e : TypeId} {size : Nat} {ao : Option Addr} {cap : Nat} {xs : List Value} (h : w.ownsRow B e size (.slice ao n cap) n xs) (hn : n ≠ 0) :
    ∃ g, ao = some ⟨g, 0, none⟩ ∧ B ≤ g ∧ g < w.heap.size ∧ ∃ cur, w.heap[g]? = some (.cells cur e (0, 0)) ∧ ∀ (j : Nat) u, xs[j]? = some u → cur[j]? = some u := by
  obtain ⟨ao', cap', hv, _, h0⟩ := own_cells h
  rcases h.2 with ⟨_, h1⟩ | ⟨g, c, cur, hv2, hb, hg, h1, h2, h3, h4⟩
  · exact absurd h1 hn
  · injection hv2 with e1 e2 e3
    refine ⟨g, e1, hb, (Array.getElem?_eq_some_iff.1 hg).1, cur, hg, fun j u hu => ?_⟩
    rw [← h4] at hu
    have hj : j < n * size := by
      by_cases hj : j < n * size
      · exact hj
      · rw [List.getElem?_eq_none (by rw [List.length_take]; omega)] at hu; cases hu
    rw [List.getElem?_take_of_lt hj] at hu
    simpa using hu
/-- a field of a row's elements, whatever it holds -/
def Fld (g : Nat) (T : TypeId) (n size off : Nat) (ok : Value → Prop) (w : World) : Prop :=
  ∃ cur, w.heap[g]? = some (.cells cur T (0, 0)) ∧ ∀ i, i < n → ∃ v, cur[i * size + off]? = some v ∧ ok v
theorem Fld.set {g : Nat} {T : TypeId} {n size off : Nat} {ok : Value → Prop} {w : World} (h : Fld g T n size off ok w) (j : Nat) {u : Value} (hu : ok u) : Fld g T n size off ok (w.setCell ⟨g, j, none⟩ u) := by
  obtain ⟨cur, h1, h2⟩ := h
  refine ⟨cur.setIfInBounds j u, by simp [World.setCell, Array.getElem?_modify, h1], fun i hi => ?_⟩
  obtain ⟨v, hv, ho⟩ := h2 i hi
  by_cases e : j = i * size + off
  · subst e
    exact ⟨u, by rw [Array.getElem?_setIfInBounds_self, if_pos (Array.getElem?_eq_some_iff.1 hv).1], hu⟩
  · exact ⟨v, by rw [Array.getElem?_setIfInBounds_ne e]; exact hv, ho⟩
theorem Fld.at {g : Nat} {T : TypeId} {n size off : Nat} {ok : Value → Prop} {w : World} (h : Fld g T n size off ok w) {i : Nat} (hi : i < n) : ∃ v, w.cell? ⟨g, i * size + off, none⟩ = some v ∧ ok v := by
  obtain ⟨cur, h1, h2⟩ := h
  obtain ⟨v, hv, ho⟩ := h2 i hi
  exact ⟨v, by rw [Lib.cell_of_heap h1]; exact hv, ho⟩
theorem Fld.free {g : Nat} {T : TypeId} {n size off : Nat} {ok : Value → Prop} {w : World} (h : Fld g T n size off ok w) (j : Nat) : w.frozen? ⟨g, j, none⟩ = false := by
  obtain ⟨cur, h1, _⟩ := h
  exact Lib.frozen_of_heap h1 j
theorem Fld.other {g : Nat} {T : TypeId} {n size off : Nat} {ok : Value → Prop} {w w' : World} (h : Fld g T n size off ok w) (hk : w'.heap[g]? = w.heap[g]?) : Fld g T n size off ok w' := by
  obtain ⟨cur, h1, h2⟩ := h
  exact ⟨cur, hk.trans h1, h2⟩
theorem Fld.ne {g g' : Nat} {T T' : TypeId} {n n' size size' off off' : Nat} {ok ok' : Value → Prop} {w : World} (h : Fld g T n size off ok w) (h' : Fld g' T' n' size' off' ok' w) (hT : T ≠ T') : g ≠ g' := by
  rintro rfl
  obtain ⟨cur, h1, _⟩ := h
  obtain ⟨cur', h1', _⟩ := h'
  rw [h1] at h1'
  injection h1' with e
  injection e with _ e2
  exact hT e2
def FldAt (lo hi : Nat) (ao : Option Addr) (T : TypeId) (n size off : Nat) (ok : Value → Prop) (w : World) : Prop :=
  n ≠ 0 → ∃ g, ao = some ⟨g, 0, none⟩ ∧ lo ≤ g ∧ g < hi ∧ Fld g T n size off ok w
theorem FldAt.set {lo hi g : Nat} {ao : Option Addr} {T : TypeId} {n size off : Nat} {ok : Value → Prop} {w : World} (h : FldAt lo hi ao T n size off ok w) (hg : ao = some ⟨g, 0, none⟩) (j : Nat) {u : Value} (hu : ok u) : FldAt lo hi ao T n size off ok (w.setCell ⟨g, j, none⟩ u) := fun hn => by
  obtain ⟨g', e, a, b, c⟩ := h hn
  rw [hg] at e
  injection e with e
  injection e with e
  subst e
  exact ⟨g, hg, a, b, c.set j hu⟩
theorem FldAt.far {lo hi g : Nat} {ao : Option Addr} {T T' : TypeId} {n n' size size' off off' : Nat} {ok ok' : Value → Prop} {w : World} (h : FldAt lo hi ao T n size off ok w) (h' : Fld g T' n' size' off' ok' w) (hT : T ≠ T') (j : Nat) (u : Value) : FldAt lo hi ao T n size off ok (w.setCell ⟨g, j, none⟩ u) := fun hn => by
  obtain ⟨g', e, a, b, c⟩ := h hn
  exact ⟨g', e, a, b, c.other (Below.heap_setCell _ _ _ _ (c.ne h' hT))⟩
def IsInt (k : IntKind) (v : Value) : Prop := ∃ x, v = .int k x
def IsStr (v : Value) : Prop := ∃ x, v = .string x
/-- a query's rows of the call's own, that may be written -/
structure Own3 (lo hi : Nat) (q : Qry) (io wo go : Option Addr) (w : World) : Prop where
  fi : FldAt lo hi io 48 q.items.length 2 0 (IsInt .u8) w
  fw : FldAt lo hi wo 29 q.wher.length 3 2 (IsInt .i64) w
  fg : FldAt lo hi go 9 q.group.length 1 0 IsStr w
theorem FldAt.of {lo : Nat} {ao : Option Addr} {T : TypeId} {n size off cap : Nat} {ok : Value → Prop} {w : World} {xs : List Value} (h : w.ownsRow lo T size (.slice ao n cap) n xs) (hx : ∀ i, i < n → ∃ v, xs[i * size + off]? = some v ∧ ok v) : FldAt lo w.heap.size ao T n size off ok w := fun hn => by
  obtain ⟨g, e, a, b, cur, hg, hc⟩ := own_place h hn
  refine ⟨g, e, a, b, cur, hg, fun i hi => ?_⟩
  obtain ⟨v, hv, ho⟩ := hx i hi
  exact ⟨v, hc _ _ hv, ho⟩
theorem FldAt.next {lo hi : Nat} {ao : Option Addr} {T : TypeId} {n size off : Nat} {ok : Value → Prop} {w w' : World} (h : FldAt lo hi ao T n size off ok w) (hh : hi ≤ w.heap.size) (hb : Below w.heap.size w w') : FldAt lo hi ao T n size off ok w' := fun hn => by
  obtain ⟨g, e, a, b, c⟩ := h hn
  exact ⟨g, e, a, b, c.other (hb.block g (by omega))⟩
theorem Own3.next {lo hi : Nat} {q : Qry} {io wo go : Option Addr} {w w' : World} (h : Own3 lo hi q io wo go w) (hh : hi ≤ w.heap.size) (hb : Below w.heap.size w w') : Own3 lo hi q io wo go w' := ⟨h.fi.next hh hb, h.fw.next hh hb, h.fg.next hh hb⟩
theorem own3_of {lo : Nat} {q : Qry} {io wo go : Option Addr} {ic wc gc : Nat} {w : World} (hi : IO lo w q.items (.slice io q.items.length ic)) (hw : w.ownsRow lo 29 3 (.slice wo q.wher.length wc) q.wher.length (stpCells q.wher)) (hg : w.ownsRow lo 9 1 (.slice go q.group.length gc) q.group.length (q.group.map Value.string)) : Own3 lo w.heap.size q io wo go w := by
  obtain ⟨vs, hl, ho, _⟩ := hi
  refine ⟨FldAt.of ho fun i h => ?_, FldAt.of hw fun i h => ?_, FldAt.of hg fun i h => ?_⟩
  · obtain ⟨v, hv⟩ : ∃ v, vs[i]? = some v := ⟨_, List.getElem?_eq_getElem (by omega)⟩
    exact ⟨_, (itmCells_at q.items vs i _ v (List.getElem?_eq_getElem h) hv).1, _, rfl⟩
  · exact ⟨_, stpCells_at q.wher i _ 2 (List.getElem?_eq_getElem h) (by decide), _, rfl⟩
  · refine ⟨.string q.group[i], ?_, _, rfl⟩
    rw [Nat.mul_one, Nat.add_zero, List.getElem?_map, List.getElem?_eq_getElem h]
    rfl
end Go.Proofs.YtegnoaejlhbpbaaGreatDoor.lx
