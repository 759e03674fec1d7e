/-
  bind's Right: the walk of what it does (Right$1). Conditions: the package-level variables are laid; the bound query and the tables lie there.
-/
import Derived.Test.YtgjfbbmachoolaaGreatDoorM16
namespace Go.Proofs.YtgjfbbmachoolaaGreatDoor.lx
open Go.RowKit
set_option linter.unusedVariables false
set_option linter.unusedSimpArgs false

section
variable {P : Program} {ops : Array Oper} {Q : Exit → Act → World → Prop} {md : Region.Mode} {S : World → Prop} {i : Nat} {oi : Oper} {v : Value} {fuel : Nat} {listed : Array Bool} {a : Act} {w : World}
/-- an operation is taken first, or passed over, where a condition holds -/
theorem tkH (hi : ops[i]? = some oi) (hy : ∀ w, S w → (execOp a.eval oi).run P w = .ok (.value v) w) (h : wpAnyH P md ops Q S fuel (listed.setIfInBounds i true) (a.put oi.dst v) w) (hs : Region.noSelect ops = true := by kernel_rfl) (hf : Region.free md ops listed i = true := by kernel_rfl)
  (hr : (Region.ready md ops listed).contains i = true := by kernel_rfl) (hw : Region.wanted oi (yielded ops a.tmps) = true := by kernel_rfl) (hQ : ∀ c a w, Q (.panic c) (a.put oi.dst v) w → Q (.panic c) a w := by exact fun _ _ _ h => h) (hS : S w := by assumption) : wpAnyH P md ops Q S (fuel + 1) listed a w :=
 wpAnyH_take hi hs hf hr hQ (.inl ⟨hw, hy⟩) hS h
theorem skH (hi : ops[i]? = some oi) (h : wpAnyH P md ops Q S fuel (listed.setIfInBounds i true) (a.put oi.dst undef) w) (hs : Region.noSelect ops = true := by kernel_rfl) (hf : Region.free md ops listed i = true := by kernel_rfl)
  (hr : (Region.ready md ops listed).contains i = true := by kernel_rfl) (hw : Region.wanted oi (yielded ops a.tmps) = false := by kernel_rfl) (hQ : ∀ c a w, Q (.panic c) (a.put oi.dst undef) w → Q (.panic c) a w := by exact fun _ _ _ h => h) (hS : S w := by assumption) : wpAnyH P md ops Q S (fuel + 1) listed a w :=
 wpAnyH_take hi hs hf hr hQ (.inr ⟨hw, rfl⟩) hS h
end
/-- a bound query whose numbers are a model's -/
structure BndOk (b : Bnd) : Prop where
 wher : StpsOk b.wher
 wlen : b.wher.length ≤ 1099511627776
 items : ItsOk b.items
 ilen : b.items.length ≤ 1099511627776
 glen : b.group.length ≤ 1099511627776
/-- how Right's checks end -/
def RtR (ok : Bool) (w : World) (y : Int) (w' : World) : Prop := decide (y = 0) = ok ∧ Below w.heap.size w w'
theorem rt_no {ok : Bool} {y : Int} {w w' : World} (h : ok = false) (hy : y ≠ 0) (hb : Below w.heap.size w w') : EndsP (RtR ok w) (.panicked [flE y]) w' := .inr ⟨y, rfl, by rw [h]; exact decide_eq_false hy, hb⟩
theorem rt_yes {ok : Bool} {w w' : World} (h : ok = true) (hb : Below w.heap.size w w') : EndsP (RtR ok w) (.returned (.tuple #[])) w' := .inl ⟨rfl, by rw [h]; rfl, hb⟩
/-- what is right, behind the tables -/
def lensOk (b : Bnd) : Bool := decide (b.group.length ≤ 8 ∧ 1 ≤ b.items.length ∧ b.items.length ≤ 8 ∧ b.names.length = b.items.length ∧ b.kinds.length = b.items.length)
def wherOk (ts : List Tbl) (b : Bnd) : Bool := decide (b.wher.length = 0) || flagK (kindOfR b.wher (scopeR ts))
def rightT (ts : List Tbl) (b : Bnd) : Bool :=
 joinOkR ts b && wherOk ts b && lensOk b && groupOkR (scopeR ts).length [] b.group && (b.grouped == groupedR b.group b.items) && outOkR b.group b.grouped (scopeR ts) b.items 0 b.names b.kinds
theorem rightB_cat {b : Bnd} {l : List Tbl} (h : catR l ≠ 0) : rightB b l = false := by unfold rightB; rw [decide_eq_false h]; rfl
theorem rightB_opn {b : Bnd} {l : List Tbl} {y : Int} (h : openR l (namesR b.table b.join) [] = .no y) : rightB b l = false := by unfold rightB; rw [h]; simp
theorem rightB_ok {b : Bnd} {l ts : List Tbl} (hc : catR l = 0) (h : openR l (namesR b.table b.join) [] = .ok ts) : rightB b l = rightT ts b := by unfold rightB; rw [h, decide_eq_true hc]; rfl
theorem rightT_join {ts : List Tbl} {b : Bnd} (h : joinOkR ts b = false) : rightT ts b = false := by simp [rightT, h]
theorem rightT_wher {ts : List Tbl} {b : Bnd} (h : wherOk ts b = false) : rightT ts b = false := by simp [rightT, h]
theorem rightT_lens {ts : List Tbl} {b : Bnd} (h : lensOk b = false) : rightT ts b = false := by simp [rightT, h]
theorem rightT_group {ts : List Tbl} {b : Bnd} (h : groupOkR (scopeR ts).length [] b.group = false) : rightT ts b = false := by simp [rightT, h]
theorem rightT_grouped {ts : List Tbl} {b : Bnd} (h : (b.grouped == groupedR b.group b.items) = false) : rightT ts b = false := by simp [rightT, h]
theorem rightT_out {ts : List Tbl} {b : Bnd} (h : outOkR b.group b.grouped (scopeR ts) b.items 0 b.names b.kinds = false) : rightT ts b = false := by simp [rightT, h]
theorem rightT_yes {ts : List Tbl} {b : Bnd} (h1 : joinOkR ts b = true) (h2 : wherOk ts b = true) (h3 : lensOk b = true) (h4 : groupOkR (scopeR ts).length [] b.group = true) (h5 : (b.grouped == groupedR b.group b.items) = true) (h6 : outOkR b.group b.grouped (scopeR ts) b.items 0 b.names b.kinds = true) : rightT ts b = true := by
 simp only [rightT, h1, h2, h3, h4, h5, h6]; rfl
set_option maxHeartbeats 8000000 in
set_option maxRecDepth 100000 in
theorem rightfn_any {b : Bnd} {wo ga ia na ka lo : Option Addr} {wcp gc ic nc kc lcap : Nat} {L : List Tbl} {Lb Bb : Nat} {w : World} (hG : PGlob w) (hbi : BndIn b wo ga ia na ka w) (hbk : BndOk b) (hgc : b.group.length ≤ gc)
  (hL : TblRow lo L w) (hLo : TblsOk L) (hll : L.length ≤ 1099511627776)
  (hl : w.heap[Lb]? = some (.cells #[.slice lo L.length lcap] 27 (0, 0)))
  (hb : w.heap[Bb]? = some (.cells (bndC b.table b.join b.width b.left b.right wo b.wher.length wcp ga b.group.length gc ia b.items.length ic b.grouped na b.names.length nc ka b.kinds.length kc) 32 (0, 0))) :
  Calls Tryz.prog 36 #[.pointer (some ⟨Lb, 0, none⟩), .pointer (some ⟨Bb, 0, none⟩)] w fun e w' => EndsP (RtR (rightB b L) w) e w' := by
 obtain ⟨R, hR⟩ : ∃ R, rightB b L = R := ⟨_, rfl⟩
 rw [hR]
 have hcell : ∀ (wx : World), Below w.heap.size w wx → ∀ (j : Nat) v, (bndC b.table b.join b.width b.left b.right wo b.wher.length wcp ga b.group.length gc ia b.items.length ic b.grouped na b.names.length nc ka b.kinds.length kc)[j]? = some v → wx.cell? ⟨Bb, j, none⟩ = some v := fun wx h j v hv => by
  rw [Lib.cell_of_heap ((h.block Bb (Array.getElem?_eq_some_iff.1 hb).1).trans hb)]; exact hv
 have hcl : ∀ (wx : World), Below w.heap.size w wx → wx.cell? ⟨Lb, 0, none⟩ = some (.slice lo L.length lcap) := fun wx h => by
  rw [Lib.cell_of_heap ((h.block Lb (Array.getElem?_eq_some_iff.1 hl).1).trans hl)]; rfl
 have HCB := Lib.hid hcell
 have HCL := Lib.hid hcl
 have HG := Lib.hid hG
 have HBI := Lib.hid hbi
 have HBK := Lib.hid hbk
 have HGC := Lib.hid hgc
 have HTR := Lib.hid hL
 have HTO := Lib.hid hLo
 have HYM := Lib.hid fun w3 y (is : Bool) (hi : is = true) => bmust_yes (w := w3) (why := y) hi
 have HNM := Lib.hid fun w3 y (is : Bool) (hi : is = false) => bmust_no (w := w3) (why := y) hi
 have l0 := hcl w (Below.refl _ _)
 have hca := Check_any (cap := lcap) w hG.glob hL hLo
 clear hcell hcl hl hb hG hbi hbk hL hLo hgc
 go_enter Tryz.func36, Tryz.ntmps36
 by_cases hc0 : catR L = 0
 rotate_left
 ·
  have HCK := Lib.hid hca
  have HRR : Hid (R = false) := Lib.hid (hR.symm.trans (rightB_cat hc0))
  have HC0 := Lib.hid hc0
  have HFN := Lib.hid fun w3 => fine_no (w := w3) hc0
  clear hca hc0 hR
  generalize catR L = V at *
  go_wp2_with (first
   | (go_at_call 14; refine HCK.out.mono ?_; rintro e w4 ⟨rfl, hb4⟩; refine Hid.out ?_)
   | (go_at_call 21; refine (HFN.out _).mono ?_; rintro e w3 ⟨rfl, rfl⟩; exact ⟨rfl, rt_no HRR.out HC0.out (by assumption)⟩))
  refine Lib.hid ?_
  go_wp2_with (go_at_call 21; refine (HFN.out _).mono ?_; rintro e w3 ⟨rfl, rfl⟩; exact ⟨rfl, rt_no HRR.out HC0.out hb4⟩)
 rw [hc0] at hca
 have HCA := Lib.hid hca
 have HC0 := Lib.hid hc0
 have HRR := Lib.hid hR
 clear hca hc0 hR
 go_wp2_with (go_at_call 14; refine HCA.out.mono ?_; rintro e w4 ⟨rfl, hb4⟩; refine Hid.out ?_)
 refine Lib.hid ?_
 have HB4 := Lib.hid hb4
 clear hb4 HCA l0
 go_wp2_with (go_at_call 21; refine fine_yes.mono ?_; rintro e w3 ⟨rfl, rfl⟩; refine Hid.out ?_)
 refine Lib.hid ?_
 have l0 := HCL.out w4 HB4.out
 have k1 : w4.cell? ⟨Bb, 0, none⟩ = some (.string b.table) := HCB.out w4 HB4.out 0 _ rfl
 have k2 : w4.cell? ⟨Bb, 1, none⟩ = some (.string b.join) := HCB.out w4 HB4.out 1 _ rfl
 have HKH := Lib.hid fun (wx : World) (hb : Below w4.heap.size w4 wx) => (show wx.cell? ⟨Lb, 0, none⟩ = some (.slice lo L.length lcap) ∧ wx.cell? ⟨Bb, 0, none⟩ = some (.string b.table) ∧ wx.cell? ⟨Bb, 1, none⟩ = some (.string b.join) from ⟨keep_cellP hb l0, keep_cellP hb k1, keep_cellP hb k2⟩)
 go_upto_region 1 with fail
 refine wp_region_held_drew (S := (fun wx => wx.cell? ⟨Lb, 0, none⟩ = some (.slice lo L.length lcap) ∧ wx.cell? ⟨Bb, 0, none⟩ = some (.string b.table) ∧ wx.cell? ⟨Bb, 1, none⟩ = some (.string b.join))) (by kernel_rfl) (HKH.out _ (Below.refl _ _).drew) (fun hHeld => ?_)
 refine tkH (i := 0) (v := ?_) opAt0 ?_ ?_; rotate_left; intro wq hSw; (try dsimp only at hSw); go_split_ands; go_simp <;> (with_reducible rfl); try simp only [Act.put, List.setIfInBounds_toArray, List.set_cons_zero, List.set_cons_succ]
 refine tkH (i := 1) (v := ?_) opAt1 ?_ ?_; rotate_left; intro wq hSw; (try dsimp only at hSw); go_split_ands; go_simp <;> (with_reducible rfl); try simp only [Act.put, List.setIfInBounds_toArray, List.set_cons_zero, List.set_cons_succ]
 refine tkH (i := 2) (v := ?_) opAt2 ?_ ?_; rotate_left; intro wq hSw; (try dsimp only at hSw); go_split_ands; go_simp <;> (with_reducible rfl); try simp only [Act.put, List.setIfInBounds_toArray, List.set_cons_zero, List.set_cons_succ]
 refine tkH (i := 3) (v := ?_) opAt3 ?_ ?_; rotate_left; intro wq hSw; (try dsimp only at hSw); go_split_ands; go_simp <;> (with_reducible rfl); try simp only [Act.put, List.setIfInBounds_toArray, List.set_cons_zero, List.set_cons_succ]
 refine tkH (i := 4) (v := ?_) opAt4 ?_ ?_; rotate_left; intro wq hSw; (try dsimp only at hSw); go_split_ands; go_simp <;> (with_reducible rfl); try simp only [Act.put, List.setIfInBounds_toArray, List.set_cons_zero, List.set_cons_succ]
 refine wpAnyH_ready (rs := [5]) (by kernel_rfl) (by simp) (AllReadyH.cons opAt5 (fun K hK => ?_) AllReadyH.nil)
 go_simp
 go_at_call 24
 refine (names_any b.table b.join _).mono ?_
 rintro e w5 ⟨⟨no, ncap, rfl, hnr⟩, hb5⟩
 have hb45 : Below w4.heap.size w4 w5 := below_self (Below.refl _ _).drew hb5
 refine hK.out _ _ (HKH.out _ hb45) (fun hHeld2 => ?_)
 clear hK K
 try simp only [Act.put, List.setIfInBounds_toArray, List.set_cons_zero, List.set_cons_succ]
 have HB5 := Lib.hid (below_self HB4.out hb45)
 have hop := open_any (lcap := lcap) (ncap := ncap) HB5.out HTR.out HTO.out hnr (by unfold namesR; split <;> simp) hll
 clear hnr hb5 l0 k1 k2
 cases hr : openR L (namesR b.table b.join) [] with
 | no y =>
  rw [hr] at hop
  have HRF : Hid (R = false) := Lib.hid (HRR.out.symm.trans (rightB_opn hr))
  have HY := Lib.hid (openR_nz hr)
  refine wpAnyH_ready (rs := [6]) (by kernel_rfl) (by simp) (AllReadyH.cons opAt6 (fun K hK => ?_) AllReadyH.nil)
  go_simp
  go_at_call 23
  refine hop.mono ?_
  rintro e w6 ⟨hb6, rfl⟩
  exact ⟨rfl, rt_no HRF.out HY.out (below_self HB5.out hb6)⟩
 | ok ts =>
  rw [hr] at hop
  have HRT : Hid (rightT ts b = R) := Lib.hid ((rightB_ok HC0.out hr).symm.trans HRR.out)
  have hB45 := Lib.hid hb45
  refine wpAnyH_ready (rs := [6]) (by kernel_rfl) (by simp) (AllReadyH.cons opAt6 (fun K hK => ?_) AllReadyH.nil)
  go_simp
  go_at_call 23
  refine hop.mono ?_
  rintro e w6 ⟨hb6, S, rfl, hS, hSw⟩
  refine hK.out _ _ (HKH.out _ (below_self hB45.out hb6)) (fun hHeld2 => ?_)
  clear hK K
  try simp only [Act.put, List.setIfInBounds_toArray, List.set_cons_zero, List.set_cons_succ]
  refine tkH (i := 7) (v := ?_) opAt7 ?_ ?_; rotate_left; intro wq hSw; (try dsimp only at hSw); go_split_ands; go_simp <;> (with_reducible rfl); try simp only [Act.put, List.setIfInBounds_toArray, List.set_cons_zero, List.set_cons_succ]
  refine wpAnyH_done (by kernel_rfl) ?_ _
  have HB6 := Lib.hid (below_self HB5.out hb6)
  have HSC := Lib.hid hS
  have HTS : Hid (ts.length = (namesR b.table b.join).length ∧ ∀ t ∈ ts, t ∈ L) := Lib.hid ⟨openR_len hr, openR_mem hr⟩
  have HSL : Hid ((scopeR ts).length ≤ 2199023255552 ∧ ts.length ≤ 2) := Lib.hid (by
   have h2 : ts.length ≤ 2 := by rw [openR_len hr]; unfold namesR; split <;> simp
   exact ⟨Nat.le_trans (scope_len fun t ht => (HTO.out t (openR_mem hr t ht)).2.2) (by omega), h2⟩)
  have HCK : Hid (∀ c ∈ scopeR ts, 0 ≤ c.k ∧ c.k ≤ 255) := Lib.hid (by
   intro c hc
   obtain ⟨t, ht, hc⟩ := List.mem_flatMap.1 hc
   exact ((HTO.out t (openR_mem hr t ht)).2.1 c hc).2)
  clear hb6 hS hSw hB45 HB5 HB4 hHeld hHeld2 hop hr HCL HRR HKH hb45
  have k1 : w6.cell? ⟨Bb, 1, none⟩ = some (.string b.join) := HCB.out w6 HB6.out 1 _ rfl
  go_upto_if 23 with fail
  clear k1
  go_cut [] (fun wx => Below w6.heap.size w6 wx ∧ Hid (joinOkR ts b = true))
  case first =>
   cases sj : b.join.toList.isEmpty with
   | true =>
    as_aux_lemma =>
     have hJ := show joinOkR ts b = _ from by unfold joinOkR emptyS; rw [if_pos sj]
     have k2 : w6.cell? ⟨Bb, 2, none⟩ = some (.int .i64 b.width) := HCB.out w6 HB6.out 2 _ rfl
     have k3 : w6.cell? ⟨Bb, 3, none⟩ = some (.int .i64 b.left) := HCB.out w6 HB6.out 3 _ rfl
     have k4 : w6.cell? ⟨Bb, 4, none⟩ = some (.int .i64 b.right) := HCB.out w6 HB6.out 4 _ rfl
     by_cases h1 : b.width = 0
     ·
      by_cases h2 : b.left = 0
      ·
       by_cases h3 : b.right = 0
       ·
        have HJ : Hid (joinOkR ts b = true) := Lib.hid (hJ.trans (decide_eq_true ⟨h1, h2, h3⟩))
        clear hJ
        go_wp2_with (go_at_call 26; refine (HYM.out _ _ _ (by first | (simp; done) | (simp; omega))).mono ?_; rintro e w9 ⟨rfl, rfl⟩; refine Hid.out ?_)
        refine Lib.hid ?_
        go_wp2_with fail
        go_meet
        exact ⟨Below.refl _ _, HJ⟩
       ·
        have HRF : Hid (R = false) := Lib.hid (HRT.out.symm.trans (rightT_join (hJ.trans (decide_eq_false fun h => h3 h.2.2))))
        clear hJ
        go_wp2_with (go_at_call 26; refine (HNM.out _ _ _ (by first | (simp; done) | (simp; omega))).mono ?_; rintro e w9 ⟨rfl, rfl⟩; exact ⟨rfl, rt_no HRF.out (by decide) (HB6.out)⟩)
      ·
       have HRF : Hid (R = false) := Lib.hid (HRT.out.symm.trans (rightT_join (hJ.trans (decide_eq_false fun h => h2 h.2.1))))
       clear hJ
       go_wp2_with (go_at_call 26; refine (HNM.out _ _ _ (by first | (simp; done) | (simp; omega))).mono ?_; rintro e w9 ⟨rfl, rfl⟩; exact ⟨rfl, rt_no HRF.out (by decide) (HB6.out)⟩)
     ·
      have HRF : Hid (R = false) := Lib.hid (HRT.out.symm.trans (rightT_join (hJ.trans (decide_eq_false fun h => h1 h.1))))
      clear hJ
      go_wp2_with (go_at_call 26; refine (HNM.out _ _ _ (by first | (simp; done) | (simp; omega))).mono ?_; rintro e w9 ⟨rfl, rfl⟩; exact ⟨rfl, rt_no HRF.out (by decide) (HB6.out)⟩)
   | false =>
    as_aux_lemma =>
     have hjt : ts.length = 2 := by have := HTS.out.1; unfold namesR emptyS at this; rw [sj] at this; exact this
     have hJ := show joinOkR ts b = _ from by unfold joinOkR emptyS; rw [if_neg (by rw [sj]; decide)]
     obtain ⟨t0, ht0⟩ : ∃ t, ts[0]? = some t := ⟨ts[0]'(by omega), List.getElem?_eq_getElem (by omega)⟩
     obtain ⟨t1, ht1⟩ : ∃ t, ts[1]? = some t := ⟨ts[1]'(by omega), List.getElem?_eq_getElem (by omega)⟩
     have hgd : ts.getD 0 ⟨⟨#[]⟩, []⟩ = t0 := by rw [List.getD_eq_getElem?_getD, ht0]; rfl
     have hgd1 : ts.getD 1 ⟨⟨#[]⟩, []⟩ = t1 := by rw [List.getD_eq_getElem?_getD, ht1]; rfl
     rw [hgd, hgd1] at hJ
     have hn0 : t0.cols.length ≤ 1099511627776 := (HTO.out _ (HTS.out.2 _ (List.mem_of_getElem? ht0))).2.2
     have hn1 : t1.cols.length ≤ 1099511627776 := (HTO.out _ (HTS.out.2 _ (List.mem_of_getElem? ht1))).2.2
     obtain ⟨ta, tc, co, cc, s0, s1, htr, hcr⟩ := HSC.out.read
     obtain ⟨tb, tf, rfl, co0, cc0, ro0, rn0, rc0, _, c1, _, hr0, _⟩ := htr.at ht0
     obtain ⟨tb', tf', hta, co1, cc1, ro1, rn1, rc1, _, d1, _, hr1, _⟩ := htr.at ht1
     injection hta with hta
     injection hta with ht1' ht2'
     subst ht1' ht2'
     simp only [Nat.zero_mul, Nat.one_mul, Nat.add_zero] at c1 d1
     have h0l : 0 < ts.length := by omega
     have h1l : 1 < ts.length := by omega
     have h0I : (0 : Int) < ts.length := by omega
     have h1I : (1 : Int) < ts.length := by omega
     have HR0 := Lib.hid hr0
     have HR1 := Lib.hid hr1
     generalize hC0 : t0.cols = C0 at *
     generalize hC1 : t1.cols = C1 at *
     have HJ := Lib.hid hJ
     clear hjt hJ ht0 ht1 hgd hgd1 htr hcr s1 hr0 hr1 hC0 hC1
     have HKT := Lib.hid fun (wx : World) (hb : Below w6.heap.size w6 wx) => (show wx.cell? ⟨S, 0, none⟩ = some (.slice (some ⟨tb, tf, none⟩) ts.length tc) ∧ wx.cell? ⟨tb, tf + 1, none⟩ = some (.slice co0 C0.length cc0) ∧ wx.cell? ⟨tb, tf + 3 + 1, none⟩ = some (.slice co1 C1.length cc1) from ⟨keep_cellP hb s0, keep_cellP hb c1, keep_cellP hb d1⟩)
     go_upto_region 4 with fail
     go_cut [3, 4] from 38 to 51 (fun x y wx => x = .slice co0 C0.length cc0 ∧ y = .slice co1 C1.length cc1 ∧ Below w6.heap.size w6 wx)
     case first =>
      refine wp_region_held_drew (S := (fun wx => wx.cell? ⟨S, 0, none⟩ = some (.slice (some ⟨tb, tf, none⟩) ts.length tc) ∧ wx.cell? ⟨tb, tf + 1, none⟩ = some (.slice co0 C0.length cc0) ∧ wx.cell? ⟨tb, tf + 3 + 1, none⟩ = some (.slice co1 C1.length cc1))) (by kernel_rfl) (HKT.out _ (Below.refl _ _).drew) (fun hHeld => ?_)
      refine tkH (i := 0) (v := ?_) opAt0 ?_ ?_; rotate_left; intro wq hSw; (try dsimp only at hSw); go_split_ands; go_simp <;> (with_reducible rfl); try simp only [Act.put, List.setIfInBounds_toArray, List.set_cons_zero, List.set_cons_succ]
      refine tkH (i := 1) (v := ?_) opAt1 ?_ ?_; rotate_left; intro wq hSw; (try dsimp only at hSw); go_split_ands; go_simp <;> (with_reducible rfl); try simp only [Act.put, List.setIfInBounds_toArray, List.set_cons_zero, List.set_cons_succ]
      refine tkH (i := 2) (v := ?_) opAt2 ?_ ?_; rotate_left; intro wq hSw; (try dsimp only at hSw); go_split_ands; go_simp <;> (with_reducible rfl); try simp only [Act.put, List.setIfInBounds_toArray, List.set_cons_zero, List.set_cons_succ]
      refine tkH (i := 3) (v := ?_) opAt3 ?_ ?_; rotate_left; intro wq hSw; (try dsimp only at hSw); go_split_ands; go_simp <;> (with_reducible rfl); try simp only [Act.put, List.setIfInBounds_toArray, List.set_cons_zero, List.set_cons_succ]
      refine tkH (i := 4) (v := ?_) opAt4 ?_ ?_; rotate_left; intro wq hSw; (try dsimp only at hSw); go_split_ands; go_simp <;> (with_reducible rfl); try simp only [Act.put, List.setIfInBounds_toArray, List.set_cons_zero, List.set_cons_succ]
      refine tkH (i := 5) (v := ?_) opAt5 ?_ ?_; rotate_left; intro wq hSw; (try dsimp only at hSw); go_split_ands; go_simp <;> (with_reducible rfl); try simp only [Act.put, List.setIfInBounds_toArray, List.set_cons_zero, List.set_cons_succ]
      refine tkH (i := 6) (v := ?_) opAt6 ?_ ?_; rotate_left; intro wq hSw; (try dsimp only at hSw); go_split_ands; go_simp <;> (with_reducible rfl); try simp only [Act.put, List.setIfInBounds_toArray, List.set_cons_zero, List.set_cons_succ]
      refine tkH (i := 7) (v := ?_) opAt7 ?_ ?_; rotate_left; intro wq hSw; (try dsimp only at hSw); go_split_ands; go_simp <;> (with_reducible rfl); try simp only [Act.put, List.setIfInBounds_toArray, List.set_cons_zero, List.set_cons_succ]
      refine tkH (i := 8) (v := ?_) opAt8 ?_ ?_; rotate_left; intro wq hSw; (try dsimp only at hSw); go_split_ands; go_simp <;> (with_reducible rfl); try simp only [Act.put, List.setIfInBounds_toArray, List.set_cons_zero, List.set_cons_succ]
      refine tkH (i := 9) (v := ?_) opAt9 ?_ ?_; rotate_left; intro wq hSw; (try dsimp only at hSw); go_split_ands; go_simp <;> (with_reducible rfl); try simp only [Act.put, List.setIfInBounds_toArray, List.set_cons_zero, List.set_cons_succ]
      refine tkH (i := 10) (v := ?_) opAt10 ?_ ?_; rotate_left; intro wq hSw; (try dsimp only at hSw); go_split_ands; go_simp <;> (with_reducible rfl); try simp only [Act.put, List.setIfInBounds_toArray, List.set_cons_zero, List.set_cons_succ]
      refine tkH (i := 11) (v := ?_) opAt11 ?_ ?_; rotate_left; intro wq hSw; (try dsimp only at hSw); go_split_ands; go_simp <;> (with_reducible rfl); try simp only [Act.put, List.setIfInBounds_toArray, List.set_cons_zero, List.set_cons_succ]
      refine tkH (i := 12) (v := ?_) opAt12 ?_ ?_; rotate_left; intro wq hSw; (try dsimp only at hSw); go_split_ands; go_simp <;> (with_reducible rfl); try simp only [Act.put, List.setIfInBounds_toArray, List.set_cons_zero, List.set_cons_succ]
      refine tkH (i := 13) (v := ?_) opAt13 ?_ ?_; rotate_left; intro wq hSw; (try dsimp only at hSw); go_split_ands; go_simp <;> (with_reducible rfl); try simp only [Act.put, List.setIfInBounds_toArray, List.set_cons_zero, List.set_cons_succ]
      refine tkH (i := 14) (v := ?_) opAt14 ?_ ?_; rotate_left; intro wq hSw; (try dsimp only at hSw); go_split_ands; go_simp <;> (with_reducible rfl); try simp only [Act.put, List.setIfInBounds_toArray, List.set_cons_zero, List.set_cons_succ]
      refine tkH (i := 15) (v := ?_) opAt15 ?_ ?_; rotate_left; intro wq hSw; (try dsimp only at hSw); go_split_ands; go_simp <;> (with_reducible rfl); try simp only [Act.put, List.setIfInBounds_toArray, List.set_cons_zero, List.set_cons_succ]
      refine wpAnyH_done (by kernel_rfl) ?_ _
      go_wp2_with fail
      go_meet
      exact ⟨rfl, rfl, (Below.refl _ _).drew⟩
     case rest =>
     obtain ⟨rfl, rfl, hb7⟩ := hcut
     generalize hwx : wc = W7 at *
     clear hwx s0 c1 d1
     have HB7 := Lib.hid (below_self HB6.out hb7)
     have HB67 := Lib.hid hb7
     have HR0b := Lib.hid (HR0.out.self hb7)
     have HR1b := Lib.hid (HR1.out.self hb7)
     have k0 : W7.cell? ⟨Bb, 0, none⟩ = some (.string b.table) := HCB.out W7 HB7.out 0 _ rfl
     have k1 : W7.cell? ⟨Bb, 1, none⟩ = some (.string b.join) := HCB.out W7 HB7.out 1 _ rfl
     have k2 : W7.cell? ⟨Bb, 2, none⟩ = some (.int .i64 b.width) := HCB.out W7 HB7.out 2 _ rfl
     have k3 : W7.cell? ⟨Bb, 3, none⟩ = some (.int .i64 b.left) := HCB.out W7 HB7.out 3 _ rfl
     have k4 : W7.cell? ⟨Bb, 4, none⟩ = some (.int .i64 b.right) := HCB.out W7 HB7.out 4 _ rfl
     clear hb7
     by_cases h1 : (b.join.toList == b.table.toList) = true
     ·
      have HRF : Hid (R = false) := Lib.hid (HRT.out.symm.trans (rightT_join (HJ.out.trans (by rw [show eqS b.join b.table = true from h1]; rfl))))
      go_wp2_with (go_at_call 26; refine (HNM.out _ _ _ (by first | (simp; done) | (simp; omega))).mono ?_; rintro e w9 ⟨rfl, rfl⟩; exact ⟨rfl, rt_no HRF.out (by decide) (HB7.out)⟩)
     have h1 : (b.join.toList == b.table.toList) = false := by simpa using h1
     have HJ2 : Hid (joinOkR ts b = (decide (b.width = C0.length ∧ 0 ≤ b.left ∧ b.left < C0.length ∧ 0 ≤ b.right ∧ b.right < C1.length) && decide ((C0.getD b.left.toNat ⟨⟨#[]⟩, 0⟩).k = (C1.getD b.right.toNat ⟨⟨#[]⟩, 0⟩).k))) := Lib.hid (HJ.out.trans (by rw [show eqS b.join b.table = false from h1]; rfl))
     clear HJ
     by_cases h2 : b.width = C0.length
     rotate_left
     ·
      have HRF : Hid (R = false) := Lib.hid (HRT.out.symm.trans (rightT_join (HJ2.out.trans (by rw [decide_eq_false fun h => h2 h.1]; rfl))))
      clear HJ2
      go_wp2_with (go_at_call 26; refine (HNM.out _ _ _ (by first | (simp; done) | (simp; omega))).mono ?_; rintro e w9 ⟨rfl, rfl⟩; exact ⟨rfl, rt_no HRF.out (by decide) (HB7.out)⟩)
     by_cases h3 : 0 ≤ b.left
     rotate_left
     ·
      have HRF : Hid (R = false) := Lib.hid (HRT.out.symm.trans (rightT_join (HJ2.out.trans (by rw [decide_eq_false fun h => h3 h.2.1]; rfl))))
      clear HJ2
      go_wp2_with (go_at_call 26; refine (HNM.out _ _ _ (by first | (simp; done) | (simp; omega))).mono ?_; rintro e w9 ⟨rfl, rfl⟩; exact ⟨rfl, rt_no HRF.out (by decide) (HB7.out)⟩)
     by_cases h4 : b.left < C0.length
     rotate_left
     ·
      have HRF : Hid (R = false) := Lib.hid (HRT.out.symm.trans (rightT_join (HJ2.out.trans (by rw [decide_eq_false fun h => h4 h.2.2.1]; rfl))))
      clear HJ2
      go_wp2_with (go_at_call 26; refine (HNM.out _ _ _ (by first | (simp; done) | (simp; omega))).mono ?_; rintro e w9 ⟨rfl, rfl⟩; exact ⟨rfl, rt_no HRF.out (by decide) (HB7.out)⟩)
     by_cases h5 : 0 ≤ b.right
     rotate_left
     ·
      have HRF : Hid (R = false) := Lib.hid (HRT.out.symm.trans (rightT_join (HJ2.out.trans (by rw [decide_eq_false fun h => h5 h.2.2.2.1]; rfl))))
      clear HJ2
      go_wp2_with (go_at_call 26; refine (HNM.out _ _ _ (by first | (simp; done) | (simp; omega))).mono ?_; rintro e w9 ⟨rfl, rfl⟩; exact ⟨rfl, rt_no HRF.out (by decide) (HB7.out)⟩)
     by_cases h6 : b.right < C1.length
     rotate_left
     ·
      have HRF : Hid (R = false) := Lib.hid (HRT.out.symm.trans (rightT_join (HJ2.out.trans (by rw [decide_eq_false fun h => h6 h.2.2.2.2]; rfl))))
      clear HJ2
      go_wp2_with (go_at_call 26; refine (HNM.out _ _ _ (by first | (simp; done) | (simp; omega))).mono ?_; rintro e w9 ⟨rfl, rfl⟩; exact ⟨rfl, rt_no HRF.out (by decide) (HB7.out)⟩)
     obtain ⟨X, hX⟩ : ∃ X : Nat, b.left = X := ⟨b.left.toNat, by omega⟩
     obtain ⟨Y, hY⟩ : ∃ Y : Nat, b.right = Y := ⟨b.right.toNat, by omega⟩
     rw [hX] at h3 h4 k3
     rw [hY] at h5 h6 k4
     have hXn : X < C0.length := by omega
     have hYn : Y < C1.length := by omega
     obtain ⟨ca, hca⟩ : ∃ c, C0[X]? = some c := ⟨_, List.getElem?_eq_getElem hXn⟩
     obtain ⟨cb_, hcb⟩ : ∃ c, C1[Y]? = some c := ⟨_, List.getElem?_eq_getElem hYn⟩
     have HJ3 : Hid (joinOkR ts b = decide (ca.k = cb_.k)) := Lib.hid (HJ2.out.trans (by
      rw [decide_eq_true ⟨h2, by omega, by omega, by omega, by omega⟩, hX, hY]
      simp [List.getD_eq_getElem?_getD, hca, hcb]))
     have HW2 := Lib.hid h2
     rw [h2] at k2
     obtain ⟨pb, pf, rfl, a0, a1⟩ := HR0b.out.at hca
     obtain ⟨pb', pf', rfl, e0, e1⟩ := HR1b.out.at hcb
     clear HJ2 h2 hX hY
     go_wp2_with (go_at_call 26; refine (HYM.out _ _ _ (by first | (simp; done) | (simp; omega))).mono ?_; rintro e w9 ⟨rfl, rfl⟩; refine Hid.out ?_)
     refine Lib.hid ?_
     generalize ca.k = ka_ at *
     generalize cb_.k = kb_ at *
     have HKX := Lib.hid fun (wx : World) (hb : Below W7.heap.size W7 wx) => (show wx.cell? ⟨Bb, 3, none⟩ = some (.int .i64 X) ∧ wx.cell? ⟨Bb, 4, none⟩ = some (.int .i64 Y) ∧ wx.cell? ⟨pb, pf + X * 2 + 1, none⟩ = some (.int .u8 ka_) ∧ wx.cell? ⟨pb', pf' + Y * 2 + 1, none⟩ = some (.int .u8 kb_) from ⟨keep_cellP hb k3, keep_cellP hb k4, keep_cellP hb a1, keep_cellP hb e1⟩)
     clear hca hcb k0 k1 k2 k3 k4 a0 a1 e0 e1
     go_upto_region 6 with fail
     cases hk : (ka_ == kb_) with
     | false =>
      have HRF : Hid (R = false) := Lib.hid (HRT.out.symm.trans (rightT_join (HJ3.out.trans (decide_eq_false (beq_eq_false_iff_ne.1 hk)))))
      refine wp_region_held_drew (S := (fun wx => wx.cell? ⟨Bb, 3, none⟩ = some (.int .i64 X) ∧ wx.cell? ⟨Bb, 4, none⟩ = some (.int .i64 Y) ∧ wx.cell? ⟨pb, pf + X * 2 + 1, none⟩ = some (.int .u8 ka_) ∧ wx.cell? ⟨pb', pf' + Y * 2 + 1, none⟩ = some (.int .u8 kb_))) (by kernel_rfl) (HKX.out _ (Below.refl _ _).drew) (fun hHeld => ?_)
      refine tkH (i := 0) (v := ?_) opAt0 ?_ ?_; rotate_left; intro wq hSw; (try dsimp only at hSw); go_split_ands; go_simp <;> (with_reducible rfl); try simp only [Act.put, List.setIfInBounds_toArray, List.set_cons_zero, List.set_cons_succ]
      refine tkH (i := 1) (v := ?_) opAt1 ?_ ?_; rotate_left; intro wq hSw; (try dsimp only at hSw); go_split_ands; go_simp <;> (with_reducible rfl); try simp only [Act.put, List.setIfInBounds_toArray, List.set_cons_zero, List.set_cons_succ]
      refine tkH (i := 2) (v := ?_) opAt2 ?_ ?_; rotate_left; intro wq hSw; (try dsimp only at hSw); go_split_ands; go_simp <;> (with_reducible rfl); try simp only [Act.put, List.setIfInBounds_toArray, List.set_cons_zero, List.set_cons_succ]
      refine tkH (i := 3) (v := ?_) opAt3 ?_ ?_; rotate_left; intro wq hSw; (try dsimp only at hSw); go_split_ands; go_simp <;> (with_reducible rfl); try simp only [Act.put, List.setIfInBounds_toArray, List.set_cons_zero, List.set_cons_succ]
      refine tkH (i := 4) (v := ?_) opAt4 ?_ ?_; rotate_left; intro wq hSw; (try dsimp only at hSw); go_split_ands; go_simp <;> (with_reducible rfl); try simp only [Act.put, List.setIfInBounds_toArray, List.set_cons_zero, List.set_cons_succ]
      refine tkH (i := 5) (v := ?_) opAt5 ?_ ?_; rotate_left; intro wq hSw; (try dsimp only at hSw); go_split_ands; go_simp <;> (with_reducible rfl); try simp only [Act.put, List.setIfInBounds_toArray, List.set_cons_zero, List.set_cons_succ]
      refine tkH (i := 6) (v := ?_) opAt6 ?_ ?_; rotate_left; intro wq hSw; (try dsimp only at hSw); go_split_ands; go_simp <;> (with_reducible rfl); try simp only [Act.put, List.setIfInBounds_toArray, List.set_cons_zero, List.set_cons_succ]
      refine tkH (i := 7) (v := ?_) opAt7 ?_ ?_; rotate_left; intro wq hSw; (try dsimp only at hSw); go_split_ands; go_simp <;> (with_reducible rfl); try simp only [Act.put, List.setIfInBounds_toArray, List.set_cons_zero, List.set_cons_succ]
      refine tkH (i := 8) (v := ?_) opAt8 ?_ ?_; rotate_left; intro wq hSw; (try dsimp only at hSw); go_split_ands; go_simp <;> (with_reducible rfl); try simp only [Act.put, List.setIfInBounds_toArray, List.set_cons_zero, List.set_cons_succ]
      refine tkH (i := 9) (v := ?_) opAt9 ?_ ?_; rotate_left; intro wq hSw; (try dsimp only at hSw); go_split_ands; go_simp <;> (with_reducible rfl); try simp only [Act.put, List.setIfInBounds_toArray, List.set_cons_zero, List.set_cons_succ]
      refine tkH (i := 10) (v := ?_) opAt10 ?_ ?_; rotate_left; intro wq hSw; (try dsimp only at hSw); go_split_ands; go_simp <;> (with_reducible rfl); try simp only [Act.put, List.setIfInBounds_toArray, List.set_cons_zero, List.set_cons_succ]
      refine tkH (i := 11) (v := ?_) opAt11 ?_ ?_; rotate_left; intro wq hSw; (try dsimp only at hSw); go_split_ands; go_simp <;> (with_reducible rfl); try simp only [Act.put, List.setIfInBounds_toArray, List.set_cons_zero, List.set_cons_succ]
      refine tkH (i := 12) (v := ?_) opAt12 ?_ ?_; rotate_left; intro wq hSw; (try dsimp only at hSw); go_split_ands; go_simp <;> (with_reducible rfl); try simp only [Act.put, List.setIfInBounds_toArray, List.set_cons_zero, List.set_cons_succ]
      refine wpAnyH_ready (rs := [13]) (by kernel_rfl) (by simp) (AllReadyH.cons opAt13 (fun K hK => ?_) AllReadyH.nil)
      go_simp
      go_at_call 26
      refine (HNM.out _ _ _ (by first | (simp; done) | (simp; omega))).mono ?_
      rintro e w9 ⟨rfl, rfl⟩
      exact ⟨rfl, rt_no HRF.out (by decide) (below_self HB7.out (Below.refl _ _).drew)⟩
     | true =>
      have HJ4 : Hid (joinOkR ts b = true) := Lib.hid (HJ3.out.trans (decide_eq_true (beq_iff_eq.1 hk)))
      refine wp_region_held_drew (S := (fun wx => wx.cell? ⟨Bb, 3, none⟩ = some (.int .i64 X) ∧ wx.cell? ⟨Bb, 4, none⟩ = some (.int .i64 Y) ∧ wx.cell? ⟨pb, pf + X * 2 + 1, none⟩ = some (.int .u8 ka_) ∧ wx.cell? ⟨pb', pf' + Y * 2 + 1, none⟩ = some (.int .u8 kb_))) (by kernel_rfl) (HKX.out _ (Below.refl _ _).drew) (fun hHeld => ?_)
      refine tkH (i := 0) (v := ?_) opAt0 ?_ ?_; rotate_left; intro wq hSw; (try dsimp only at hSw); go_split_ands; go_simp <;> (with_reducible rfl); try simp only [Act.put, List.setIfInBounds_toArray, List.set_cons_zero, List.set_cons_succ]
      refine tkH (i := 1) (v := ?_) opAt1 ?_ ?_; rotate_left; intro wq hSw; (try dsimp only at hSw); go_split_ands; go_simp <;> (with_reducible rfl); try simp only [Act.put, List.setIfInBounds_toArray, List.set_cons_zero, List.set_cons_succ]
      refine tkH (i := 2) (v := ?_) opAt2 ?_ ?_; rotate_left; intro wq hSw; (try dsimp only at hSw); go_split_ands; go_simp <;> (with_reducible rfl); try simp only [Act.put, List.setIfInBounds_toArray, List.set_cons_zero, List.set_cons_succ]
      refine tkH (i := 3) (v := ?_) opAt3 ?_ ?_; rotate_left; intro wq hSw; (try dsimp only at hSw); go_split_ands; go_simp <;> (with_reducible rfl); try simp only [Act.put, List.setIfInBounds_toArray, List.set_cons_zero, List.set_cons_succ]
      refine tkH (i := 4) (v := ?_) opAt4 ?_ ?_; rotate_left; intro wq hSw; (try dsimp only at hSw); go_split_ands; go_simp <;> (with_reducible rfl); try simp only [Act.put, List.setIfInBounds_toArray, List.set_cons_zero, List.set_cons_succ]
      refine tkH (i := 5) (v := ?_) opAt5 ?_ ?_; rotate_left; intro wq hSw; (try dsimp only at hSw); go_split_ands; go_simp <;> (with_reducible rfl); try simp only [Act.put, List.setIfInBounds_toArray, List.set_cons_zero, List.set_cons_succ]
      refine tkH (i := 6) (v := ?_) opAt6 ?_ ?_; rotate_left; intro wq hSw; (try dsimp only at hSw); go_split_ands; go_simp <;> (with_reducible rfl); try simp only [Act.put, List.setIfInBounds_toArray, List.set_cons_zero, List.set_cons_succ]
      refine tkH (i := 7) (v := ?_) opAt7 ?_ ?_; rotate_left; intro wq hSw; (try dsimp only at hSw); go_split_ands; go_simp <;> (with_reducible rfl); try simp only [Act.put, List.setIfInBounds_toArray, List.set_cons_zero, List.set_cons_succ]
      refine tkH (i := 8) (v := ?_) opAt8 ?_ ?_; rotate_left; intro wq hSw; (try dsimp only at hSw); go_split_ands; go_simp <;> (with_reducible rfl); try simp only [Act.put, List.setIfInBounds_toArray, List.set_cons_zero, List.set_cons_succ]
      refine tkH (i := 9) (v := ?_) opAt9 ?_ ?_; rotate_left; intro wq hSw; (try dsimp only at hSw); go_split_ands; go_simp <;> (with_reducible rfl); try simp only [Act.put, List.setIfInBounds_toArray, List.set_cons_zero, List.set_cons_succ]
      refine tkH (i := 10) (v := ?_) opAt10 ?_ ?_; rotate_left; intro wq hSw; (try dsimp only at hSw); go_split_ands; go_simp <;> (with_reducible rfl); try simp only [Act.put, List.setIfInBounds_toArray, List.set_cons_zero, List.set_cons_succ]
      refine tkH (i := 11) (v := ?_) opAt11 ?_ ?_; rotate_left; intro wq hSw; (try dsimp only at hSw); go_split_ands; go_simp <;> (with_reducible rfl); try simp only [Act.put, List.setIfInBounds_toArray, List.set_cons_zero, List.set_cons_succ]
      refine tkH (i := 12) (v := ?_) opAt12 ?_ ?_; rotate_left; intro wq hSw; (try dsimp only at hSw); go_split_ands; go_simp <;> (with_reducible rfl); try simp only [Act.put, List.setIfInBounds_toArray, List.set_cons_zero, List.set_cons_succ]
      refine wpAnyH_ready (rs := [13]) (by kernel_rfl) (by simp) (AllReadyH.cons opAt13 (fun K hK => ?_) AllReadyH.nil)
      go_simp
      go_at_call 26
      refine (HYM.out _ _ _ (by first | (simp; done) | (simp; omega))).mono ?_
      rintro e w9 ⟨rfl, rfl⟩
      refine hK.out _ _ (HKX.out _ (Below.refl _ _).drew) (fun hHeld2 => ?_)
      clear hK K
      try simp only [Act.put, List.setIfInBounds_toArray, List.set_cons_zero, List.set_cons_succ]
      refine wpAnyH_done (by kernel_rfl) ?_ _
      go_wp2_with fail
      go_meet
      exact ⟨below_self HB67.out (Below.refl _ _).drew, HJ4⟩
  case rest =>
  obtain ⟨hb7, HJ⟩ := hcut
  generalize hwx : wc = W7 at *
  clear hwx
  have HB7 := Lib.hid (below_self HB6.out hb7)
  have HS7 := Lib.hid (HSC.out.next hb7)
  clear HB6 HSC hb7
  obtain ⟨ta, tc, co, cc, _, s1, _, hcr⟩ := HS7.out.read
  have HCR := Lib.hid hcr
  have HK1 := Lib.hid fun (wx : World) (hb : Below W7.heap.size W7 wx) => keep_cellP hb s1
  clear hcr s1
  have hsl := HSL.out.1
  go_upto_region 7 with fail
  go_cut [] from 103 to 117 (fun wx => Below W7.heap.size W7 wx ∧ Hid (wherOk ts b = true))
  case first =>
   as_aux_lemma =>
    have HWH : Hid (StpRow wo b.wher w) := Lib.hid HBI.out.wher
    have HWO := Lib.hid HBK.out.wher
    have hwl := HBK.out.wlen
    have HWK : Hid (wherOk ts b = (decide (b.wher.length = 0) || flagK (kindOfR b.wher (scopeR ts)))) := Lib.hid rfl
    have k5 : W7.cell? ⟨Bb, 5, none⟩ = some (.slice wo b.wher.length wcp) := HCB.out W7 HB7.out 5 _ rfl
    generalize b.wher = wh at HWH HWO hwl HWK k5
    have HK7 := Lib.hid fun (wx : World) (hb : Below W7.heap.size W7 wx) => (show wx.cell? ⟨Bb, 5, none⟩ = some (.slice wo wh.length wcp) ∧ wx.cell? ⟨S, 1, none⟩ = some (.slice co (scopeR ts).length cc) from ⟨keep_cellP hb k5, HK1.out wx hb⟩)
    clear k5
    by_cases h0 : wh = []
    ·
     subst h0
     have HW : Hid (wherOk ts b = true) := Lib.hid (HWK.out.trans rfl)
     refine wp_region_held_drew (S := (fun wx => wx.cell? ⟨Bb, 5, none⟩ = some (.slice wo 0 wcp) ∧ wx.cell? ⟨S, 1, none⟩ = some (.slice co (scopeR ts).length cc))) (by kernel_rfl) (HK7.out _ (Below.refl _ _).drew) (fun hHeld => ?_)
     refine tkH (i := 0) (v := ?_) opAt0 ?_ ?_; rotate_left; intro wq hSw; (try dsimp only at hSw); go_split_ands; go_simp <;> (with_reducible rfl); try simp only [Act.put, List.setIfInBounds_toArray, List.set_cons_zero, List.set_cons_succ]
     refine tkH (i := 1) (v := ?_) opAt1 ?_ ?_; rotate_left; intro wq hSw; (try dsimp only at hSw); go_split_ands; go_simp <;> (with_reducible rfl); try simp only [Act.put, List.setIfInBounds_toArray, List.set_cons_zero, List.set_cons_succ]
     refine tkH (i := 2) (v := ?_) opAt2 ?_ ?_; rotate_left; intro wq hSw; (try dsimp only at hSw); go_split_ands; go_simp <;> (with_reducible rfl); try simp only [Act.put, List.setIfInBounds_toArray, List.set_cons_zero, List.set_cons_succ]
     refine tkH (i := 3) (v := ?_) opAt3 ?_ ?_; rotate_left; intro wq hSw; (try dsimp only at hSw); go_split_ands; go_simp <;> (with_reducible rfl); try simp only [Act.put, List.setIfInBounds_toArray, List.set_cons_zero, List.set_cons_succ]
     refine tkH (i := 4) (v := ?_) opAt4 ?_ ?_; rotate_left; intro wq hSw; (try dsimp only at hSw); go_split_ands; go_simp <;> (with_reducible rfl); try simp only [Act.put, List.setIfInBounds_toArray, List.set_cons_zero, List.set_cons_succ]
     refine skH (i := 5) opAt5 ?_; try simp only [Act.put, List.setIfInBounds_toArray, List.set_cons_zero, List.set_cons_succ]
     refine skH (i := 6) opAt6 ?_; try simp only [Act.put, List.setIfInBounds_toArray, List.set_cons_zero, List.set_cons_succ]
     refine skH (i := 7) opAt7 ?_; try simp only [Act.put, List.setIfInBounds_toArray, List.set_cons_zero, List.set_cons_succ]
     refine skH (i := 8) opAt8 ?_; try simp only [Act.put, List.setIfInBounds_toArray, List.set_cons_zero, List.set_cons_succ]
     refine skH (i := 9) opAt9 ?_; try simp only [Act.put, List.setIfInBounds_toArray, List.set_cons_zero, List.set_cons_succ]
     refine skH (i := 10) opAt10 ?_; try simp only [Act.put, List.setIfInBounds_toArray, List.set_cons_zero, List.set_cons_succ]
     refine skH (i := 11) opAt11 ?_; try simp only [Act.put, List.setIfInBounds_toArray, List.set_cons_zero, List.set_cons_succ]
     refine skH (i := 12) opAt12 ?_; try simp only [Act.put, List.setIfInBounds_toArray, List.set_cons_zero, List.set_cons_succ]
     refine tkH (i := 13) (v := ?_) opAt13 ?_ ?_; rotate_left; intro wq hSw; (try dsimp only at hSw); go_split_ands; go_simp <;> (with_reducible rfl); try simp only [Act.put, List.setIfInBounds_toArray, List.set_cons_zero, List.set_cons_succ]
     refine wpAnyH_ready (rs := [14]) (by kernel_rfl) (by simp) (AllReadyH.cons opAt14 (fun K hK => ?_) AllReadyH.nil)
     go_simp
     go_at_call 26
     refine (HYM.out _ _ _ (by first | (simp; done) | (simp; omega))).mono ?_
     rintro e w9 ⟨rfl, rfl⟩
     refine hK.out _ _ (HK7.out _ (Below.refl _ _).drew) (fun hHeld2 => ?_)
     clear hK K
     try simp only [Act.put, List.setIfInBounds_toArray, List.set_cons_zero, List.set_cons_succ]
     refine wpAnyH_done (by kernel_rfl) ?_ _
     go_wp2_with fail
     go_meet
     exact ⟨(Below.refl _ _).drew, HW⟩
    ·
     have h0N : ¬ wh.length = 0 := fun h => h0 (List.length_eq_zero_iff.1 h)
     have h0I : ¬ (wh.length : Int) = 0 := by omega
     have h0B : ((wh.length : Int) == (0 : Int)) = false := beq_eq_false_iff_ne.2 h0I
     have hko := fun (wx : World) (hb : Below W7.heap.size W7 wx) => kindOf_any (cap := wcp) (ccap := cc) (HG.out.self (below_self HB7.out hb)) (HWH.out.self (below_self HB7.out hb)) HWO.out (HCR.out.self hb) HCK.out hwl (by omega)
     cases hr : kindOfR wh (scopeR ts) with
     | no y =>
      have HRF : Hid (R = false) := Lib.hid (HRT.out.symm.trans (rightT_wher (HWK.out.trans (by rw [hr, decide_eq_false h0N]; rfl))))
      have HY := Lib.hid (kindOfR_nz hr)
      have HKO := Lib.hid fun wx hb => calls_bad hr (hko wx hb)
      clear hko hr
      refine wp_region_held_drew (S := (fun wx => wx.cell? ⟨Bb, 5, none⟩ = some (.slice wo wh.length wcp) ∧ wx.cell? ⟨S, 1, none⟩ = some (.slice co (scopeR ts).length cc))) (by kernel_rfl) (HK7.out _ (Below.refl _ _).drew) (fun hHeld => ?_)
      refine tkH (i := 0) (v := ?_) opAt0 ?_ ?_; rotate_left; intro wq hSw; (try dsimp only at hSw); go_split_ands; go_simp <;> (with_reducible rfl); try simp only [Act.put, List.setIfInBounds_toArray, List.set_cons_zero, List.set_cons_succ]
      refine tkH (i := 1) (v := ?_) opAt1 ?_ ?_; rotate_left; intro wq hSw; (try dsimp only at hSw); go_split_ands; go_simp <;> (with_reducible rfl); try simp only [Act.put, List.setIfInBounds_toArray, List.set_cons_zero, List.set_cons_succ]
      refine tkH (i := 2) (v := ?_) opAt2 ?_ ?_; rotate_left; intro wq hSw; (try dsimp only at hSw); go_split_ands; go_simp <;> (with_reducible rfl); try simp only [Act.put, List.setIfInBounds_toArray, List.set_cons_zero, List.set_cons_succ]
      refine tkH (i := 3) (v := ?_) opAt3 ?_ ?_; rotate_left; intro wq hSw; (try dsimp only at hSw); go_split_ands; go_simp <;> (with_reducible rfl); try simp only [Act.put, List.setIfInBounds_toArray, List.set_cons_zero, List.set_cons_succ]
      refine tkH (i := 4) (v := ?_) opAt4 ?_ ?_; rotate_left; intro wq hSw; (try dsimp only at hSw); go_split_ands; go_simp <;> (with_reducible rfl); try simp only [Act.put, List.setIfInBounds_toArray, List.set_cons_zero, List.set_cons_succ]
      refine tkH (i := 5) (v := ?_) opAt5 ?_ ?_; rotate_left; intro wq hSw; (try dsimp only at hSw); go_split_ands; go_simp <;> (with_reducible rfl); try simp only [Act.put, List.setIfInBounds_toArray, List.set_cons_zero, List.set_cons_succ]
      refine tkH (i := 6) (v := ?_) opAt6 ?_ ?_; rotate_left; intro wq hSw; (try dsimp only at hSw); go_split_ands; go_simp <;> (with_reducible rfl); try simp only [Act.put, List.setIfInBounds_toArray, List.set_cons_zero, List.set_cons_succ]
      refine tkH (i := 7) (v := ?_) opAt7 ?_ ?_; rotate_left; intro wq hSw; (try dsimp only at hSw); go_split_ands; go_simp <;> (with_reducible rfl); try simp only [Act.put, List.setIfInBounds_toArray, List.set_cons_zero, List.set_cons_succ]
      refine tkH (i := 8) (v := ?_) opAt8 ?_ ?_; rotate_left; intro wq hSw; (try dsimp only at hSw); go_split_ands; go_simp <;> (with_reducible rfl); try simp only [Act.put, List.setIfInBounds_toArray, List.set_cons_zero, List.set_cons_succ]
      refine tkH (i := 9) (v := ?_) opAt9 ?_ ?_; rotate_left; intro wq hSw; (try dsimp only at hSw); go_split_ands; go_simp <;> (with_reducible rfl); try simp only [Act.put, List.setIfInBounds_toArray, List.set_cons_zero, List.set_cons_succ]
      refine tkH (i := 10) (v := ?_) opAt10 ?_ ?_; rotate_left; intro wq hSw; (try dsimp only at hSw); go_split_ands; go_simp <;> (with_reducible rfl); try simp only [Act.put, List.setIfInBounds_toArray, List.set_cons_zero, List.set_cons_succ]
      refine wpAnyH_ready (rs := [11]) (by kernel_rfl) (by simp) (AllReadyH.cons opAt11 (fun K hK => ?_) AllReadyH.nil)
      go_simp
      go_at_call 37
      refine (HKO.out _ (Below.refl _ _).drew).mono ?_
      rintro e w8 ⟨rfl, hb8⟩
      exact ⟨rfl, rt_no HRF.out HY.out (below_self HB7.out (below_self (Below.refl _ _).drew hb8))⟩
     | ok kk =>
      have HKO := Lib.hid fun wx hb => calls_ok hr (hko wx hb)
      have HW : Hid (wherOk ts b = decide (kk ≤ 1)) := Lib.hid (HWK.out.trans (by rw [hr, decide_eq_false h0N]; rfl))
      clear hko hr
      by_cases hk1 : kk ≤ 1
      ·
       have HW2 : Hid (wherOk ts b = true) := Lib.hid (HW.out.trans (decide_eq_true hk1))
       refine wp_region_held_drew (S := (fun wx => wx.cell? ⟨Bb, 5, none⟩ = some (.slice wo wh.length wcp) ∧ wx.cell? ⟨S, 1, none⟩ = some (.slice co (scopeR ts).length cc))) (by kernel_rfl) (HK7.out _ (Below.refl _ _).drew) (fun hHeld => ?_)
       refine tkH (i := 0) (v := ?_) opAt0 ?_ ?_; rotate_left; intro wq hSw; (try dsimp only at hSw); go_split_ands; go_simp <;> (with_reducible rfl); try simp only [Act.put, List.setIfInBounds_toArray, List.set_cons_zero, List.set_cons_succ]
       refine tkH (i := 1) (v := ?_) opAt1 ?_ ?_; rotate_left; intro wq hSw; (try dsimp only at hSw); go_split_ands; go_simp <;> (with_reducible rfl); try simp only [Act.put, List.setIfInBounds_toArray, List.set_cons_zero, List.set_cons_succ]
       refine tkH (i := 2) (v := ?_) opAt2 ?_ ?_; rotate_left; intro wq hSw; (try dsimp only at hSw); go_split_ands; go_simp <;> (with_reducible rfl); try simp only [Act.put, List.setIfInBounds_toArray, List.set_cons_zero, List.set_cons_succ]
       refine tkH (i := 3) (v := ?_) opAt3 ?_ ?_; rotate_left; intro wq hSw; (try dsimp only at hSw); go_split_ands; go_simp <;> (with_reducible rfl); try simp only [Act.put, List.setIfInBounds_toArray, List.set_cons_zero, List.set_cons_succ]
       refine tkH (i := 4) (v := ?_) opAt4 ?_ ?_; rotate_left; intro wq hSw; (try dsimp only at hSw); go_split_ands; go_simp <;> (with_reducible rfl); try simp only [Act.put, List.setIfInBounds_toArray, List.set_cons_zero, List.set_cons_succ]
       refine tkH (i := 5) (v := ?_) opAt5 ?_ ?_; rotate_left; intro wq hSw; (try dsimp only at hSw); go_split_ands; go_simp <;> (with_reducible rfl); try simp only [Act.put, List.setIfInBounds_toArray, List.set_cons_zero, List.set_cons_succ]
       refine tkH (i := 6) (v := ?_) opAt6 ?_ ?_; rotate_left; intro wq hSw; (try dsimp only at hSw); go_split_ands; go_simp <;> (with_reducible rfl); try simp only [Act.put, List.setIfInBounds_toArray, List.set_cons_zero, List.set_cons_succ]
       refine tkH (i := 7) (v := ?_) opAt7 ?_ ?_; rotate_left; intro wq hSw; (try dsimp only at hSw); go_split_ands; go_simp <;> (with_reducible rfl); try simp only [Act.put, List.setIfInBounds_toArray, List.set_cons_zero, List.set_cons_succ]
       refine tkH (i := 8) (v := ?_) opAt8 ?_ ?_; rotate_left; intro wq hSw; (try dsimp only at hSw); go_split_ands; go_simp <;> (with_reducible rfl); try simp only [Act.put, List.setIfInBounds_toArray, List.set_cons_zero, List.set_cons_succ]
       refine tkH (i := 9) (v := ?_) opAt9 ?_ ?_; rotate_left; intro wq hSw; (try dsimp only at hSw); go_split_ands; go_simp <;> (with_reducible rfl); try simp only [Act.put, List.setIfInBounds_toArray, List.set_cons_zero, List.set_cons_succ]
       refine tkH (i := 10) (v := ?_) opAt10 ?_ ?_; rotate_left; intro wq hSw; (try dsimp only at hSw); go_split_ands; go_simp <;> (with_reducible rfl); try simp only [Act.put, List.setIfInBounds_toArray, List.set_cons_zero, List.set_cons_succ]
       refine wpAnyH_ready (rs := [11]) (by kernel_rfl) (by simp) (AllReadyH.cons opAt11 (fun K hK => ?_) AllReadyH.nil)
       go_simp
       go_at_call 37
       refine (HKO.out _ (Below.refl _ _).drew).mono ?_
       rintro e w8 ⟨rfl, hb8⟩
       have hb78 : Below W7.heap.size W7 w8 := below_self (Below.refl _ _).drew hb8
       refine hK.out _ _ (HK7.out _ hb78) (fun hHeld2 => ?_)
       clear hK K
       try simp only [Act.put, List.setIfInBounds_toArray, List.set_cons_zero, List.set_cons_succ]
       refine tkH (i := 12) (v := ?_) opAt12 ?_ ?_; rotate_left; intro wq hSw; (try dsimp only at hSw); go_split_ands; go_simp <;> (with_reducible rfl); try simp only [Act.put, List.setIfInBounds_toArray, List.set_cons_zero, List.set_cons_succ]
       refine tkH (i := 13) (v := ?_) opAt13 ?_ ?_; rotate_left; intro wq hSw; (try dsimp only at hSw); go_split_ands; go_simp <;> (with_reducible rfl); try simp only [Act.put, List.setIfInBounds_toArray, List.set_cons_zero, List.set_cons_succ]
       refine wpAnyH_ready (rs := [14]) (by kernel_rfl) (by simp) (AllReadyH.cons opAt14 (fun K hK => ?_) AllReadyH.nil)
       go_simp
       go_at_call 26
       refine (HYM.out _ _ _ (by first | (simp; done) | (simp; omega))).mono ?_
       rintro e w9 ⟨rfl, rfl⟩
       refine hK.out _ _ (HK7.out _ hb78) (fun hHeld2 => ?_)
       clear hK K
       try simp only [Act.put, List.setIfInBounds_toArray, List.set_cons_zero, List.set_cons_succ]
       refine wpAnyH_done (by kernel_rfl) ?_ _
       go_wp2_with fail
       go_meet
       exact ⟨hb78, HW2⟩
      ·
       have HRF : Hid (R = false) := Lib.hid (HRT.out.symm.trans (rightT_wher (HW.out.trans (decide_eq_false hk1))))
       refine wp_region_held_drew (S := (fun wx => wx.cell? ⟨Bb, 5, none⟩ = some (.slice wo wh.length wcp) ∧ wx.cell? ⟨S, 1, none⟩ = some (.slice co (scopeR ts).length cc))) (by kernel_rfl) (HK7.out _ (Below.refl _ _).drew) (fun hHeld => ?_)
       refine tkH (i := 0) (v := ?_) opAt0 ?_ ?_; rotate_left; intro wq hSw; (try dsimp only at hSw); go_split_ands; go_simp <;> (with_reducible rfl); try simp only [Act.put, List.setIfInBounds_toArray, List.set_cons_zero, List.set_cons_succ]
       refine tkH (i := 1) (v := ?_) opAt1 ?_ ?_; rotate_left; intro wq hSw; (try dsimp only at hSw); go_split_ands; go_simp <;> (with_reducible rfl); try simp only [Act.put, List.setIfInBounds_toArray, List.set_cons_zero, List.set_cons_succ]
       refine tkH (i := 2) (v := ?_) opAt2 ?_ ?_; rotate_left; intro wq hSw; (try dsimp only at hSw); go_split_ands; go_simp <;> (with_reducible rfl); try simp only [Act.put, List.setIfInBounds_toArray, List.set_cons_zero, List.set_cons_succ]
       refine tkH (i := 3) (v := ?_) opAt3 ?_ ?_; rotate_left; intro wq hSw; (try dsimp only at hSw); go_split_ands; go_simp <;> (with_reducible rfl); try simp only [Act.put, List.setIfInBounds_toArray, List.set_cons_zero, List.set_cons_succ]
       refine tkH (i := 4) (v := ?_) opAt4 ?_ ?_; rotate_left; intro wq hSw; (try dsimp only at hSw); go_split_ands; go_simp <;> (with_reducible rfl); try simp only [Act.put, List.setIfInBounds_toArray, List.set_cons_zero, List.set_cons_succ]
       refine tkH (i := 5) (v := ?_) opAt5 ?_ ?_; rotate_left; intro wq hSw; (try dsimp only at hSw); go_split_ands; go_simp <;> (with_reducible rfl); try simp only [Act.put, List.setIfInBounds_toArray, List.set_cons_zero, List.set_cons_succ]
       refine tkH (i := 6) (v := ?_) opAt6 ?_ ?_; rotate_left; intro wq hSw; (try dsimp only at hSw); go_split_ands; go_simp <;> (with_reducible rfl); try simp only [Act.put, List.setIfInBounds_toArray, List.set_cons_zero, List.set_cons_succ]
       refine tkH (i := 7) (v := ?_) opAt7 ?_ ?_; rotate_left; intro wq hSw; (try dsimp only at hSw); go_split_ands; go_simp <;> (with_reducible rfl); try simp only [Act.put, List.setIfInBounds_toArray, List.set_cons_zero, List.set_cons_succ]
       refine tkH (i := 8) (v := ?_) opAt8 ?_ ?_; rotate_left; intro wq hSw; (try dsimp only at hSw); go_split_ands; go_simp <;> (with_reducible rfl); try simp only [Act.put, List.setIfInBounds_toArray, List.set_cons_zero, List.set_cons_succ]
       refine tkH (i := 9) (v := ?_) opAt9 ?_ ?_; rotate_left; intro wq hSw; (try dsimp only at hSw); go_split_ands; go_simp <;> (with_reducible rfl); try simp only [Act.put, List.setIfInBounds_toArray, List.set_cons_zero, List.set_cons_succ]
       refine tkH (i := 10) (v := ?_) opAt10 ?_ ?_; rotate_left; intro wq hSw; (try dsimp only at hSw); go_split_ands; go_simp <;> (with_reducible rfl); try simp only [Act.put, List.setIfInBounds_toArray, List.set_cons_zero, List.set_cons_succ]
       refine wpAnyH_ready (rs := [11]) (by kernel_rfl) (by simp) (AllReadyH.cons opAt11 (fun K hK => ?_) AllReadyH.nil)
       go_simp
       go_at_call 37
       refine (HKO.out _ (Below.refl _ _).drew).mono ?_
       rintro e w8 ⟨rfl, hb8⟩
       have hb78 : Below W7.heap.size W7 w8 := below_self (Below.refl _ _).drew hb8
       refine hK.out _ _ (HK7.out _ hb78) (fun hHeld2 => ?_)
       clear hK K
       try simp only [Act.put, List.setIfInBounds_toArray, List.set_cons_zero, List.set_cons_succ]
       refine tkH (i := 12) (v := ?_) opAt12 ?_ ?_; rotate_left; intro wq hSw; (try dsimp only at hSw); go_split_ands; go_simp <;> (with_reducible rfl); try simp only [Act.put, List.setIfInBounds_toArray, List.set_cons_zero, List.set_cons_succ]
       refine tkH (i := 13) (v := ?_) opAt13 ?_ ?_; rotate_left; intro wq hSw; (try dsimp only at hSw); go_split_ands; go_simp <;> (with_reducible rfl); try simp only [Act.put, List.setIfInBounds_toArray, List.set_cons_zero, List.set_cons_succ]
       refine wpAnyH_ready (rs := [14]) (by kernel_rfl) (by simp) (AllReadyH.cons opAt14 (fun K hK => ?_) AllReadyH.nil)
       go_simp
       go_at_call 26
       refine (HNM.out _ _ _ (by first | (simp; done) | (simp; omega))).mono ?_
       rintro e w9 ⟨rfl, rfl⟩
       exact ⟨rfl, rt_no HRF.out (by decide) (below_self HB7.out hb78)⟩
  case rest =>
  obtain ⟨hb8, HW⟩ := hcut
  generalize hwx : wc = W8 at *
  clear hwx
  have HB8 := Lib.hid (below_self HB7.out hb8)
  have HS8 := Lib.hid (HS7.out.next hb8)
  have HCR8 := Lib.hid (HCR.out.self hb8)
  have HK8 := Lib.hid fun (wx : World) (hb : Below W8.heap.size W8 wx) => HK1.out wx (below_self hb8 hb)
  clear hb8 HB7 HS7 HCR HK1
  go_upto_region 8 with fail
  go_cut [] from 118 to 152 (fun wx => wx = W8 ∧ Hid (lensOk b = true))
  case first =>
   as_aux_lemma =>
    have k6 : W8.cell? ⟨Bb, 6, none⟩ = some (.slice ga b.group.length gc) := HCB.out W8 HB8.out 6 _ rfl
    have k7 : W8.cell? ⟨Bb, 7, none⟩ = some (.slice ia b.items.length ic) := HCB.out W8 HB8.out 7 _ rfl
    have k9 : W8.cell? ⟨Bb, 9, none⟩ = some (.slice na b.names.length nc) := HCB.out W8 HB8.out 9 _ rfl
    have k10 : W8.cell? ⟨Bb, 10, none⟩ = some (.slice ka b.kinds.length kc) := HCB.out W8 HB8.out 10 _ rfl
    have HL : Hid (lensOk b = decide (b.group.length ≤ 8 ∧ 1 ≤ b.items.length ∧ b.items.length ≤ 8 ∧ b.names.length = b.items.length ∧ b.kinds.length = b.items.length)) := Lib.hid rfl
    generalize b.group.length = gl at k6 HL
    generalize b.items.length = il at k7 HL
    generalize b.names.length = nl at k9 HL
    generalize b.kinds.length = kl at k10 HL
    by_cases h1 : gl ≤ 8
    rotate_left
    ·
     have HRF : Hid (R = false) := Lib.hid (HRT.out.symm.trans (rightT_lens (HL.out.trans (decide_eq_false fun h => h1 h.1))))
     have h1I : ¬ (gl : Int) ≤ 8 := by omega
     go_wp2_with (go_at_call 26; refine (HNM.out _ _ _ (by first | (simp; done) | (simp; omega))).mono ?_; rintro e w9 ⟨rfl, rfl⟩; exact ⟨rfl, rt_no HRF.out (by decide) (HB8.out)⟩)
    have h1I : (gl : Int) ≤ 8 := by omega
    by_cases h2 : 1 ≤ il
    rotate_left
    ·
     have HRF : Hid (R = false) := Lib.hid (HRT.out.symm.trans (rightT_lens (HL.out.trans (decide_eq_false fun h => h2 h.2.1))))
     have h2I : ¬ (1 : Int) ≤ il := by omega
     go_wp2_with (go_at_call 26; refine (HNM.out _ _ _ (by first | (simp; done) | (simp; omega))).mono ?_; rintro e w9 ⟨rfl, rfl⟩; exact ⟨rfl, rt_no HRF.out (by decide) (HB8.out)⟩)
    have h2I : (1 : Int) ≤ il := by omega
    by_cases h3 : il ≤ 8
    rotate_left
    ·
     have HRF : Hid (R = false) := Lib.hid (HRT.out.symm.trans (rightT_lens (HL.out.trans (decide_eq_false fun h => h3 h.2.2.1))))
     have h3I : ¬ (il : Int) ≤ 8 := by omega
     go_wp2_with (go_at_call 26; refine (HNM.out _ _ _ (by first | (simp; done) | (simp; omega))).mono ?_; rintro e w9 ⟨rfl, rfl⟩; exact ⟨rfl, rt_no HRF.out (by decide) (HB8.out)⟩)
    have h3I : (il : Int) ≤ 8 := by omega
    by_cases h4 : nl = il
    rotate_left
    ·
     have HRF : Hid (R = false) := Lib.hid (HRT.out.symm.trans (rightT_lens (HL.out.trans (decide_eq_false fun h => h4 h.2.2.2.1))))
     have h4I : ¬ (nl : Int) = il := by omega
     go_wp2_with (go_at_call 26; refine (HNM.out _ _ _ (by first | (simp; done) | (simp; omega))).mono ?_; rintro e w9 ⟨rfl, rfl⟩; exact ⟨rfl, rt_no HRF.out (by decide) (HB8.out)⟩)
    subst h4
    by_cases h5 : kl = nl
    rotate_left
    ·
     have HRF : Hid (R = false) := Lib.hid (HRT.out.symm.trans (rightT_lens (HL.out.trans (decide_eq_false fun h => h5 h.2.2.2.2))))
     have h5I : ¬ (kl : Int) = nl := by omega
     go_wp2_with (go_at_call 26; refine (HNM.out _ _ _ (by first | (simp; done) | (simp; omega))).mono ?_; rintro e w9 ⟨rfl, rfl⟩; exact ⟨rfl, rt_no HRF.out (by decide) (HB8.out)⟩)
    subst h5
    have HL2 : Hid (lensOk b = true) := Lib.hid (HL.out.trans (decide_eq_true ⟨h1, h2, h3, rfl, rfl⟩))
    go_wp2_with (go_at_call 26; refine (HYM.out _ _ _ (by first | (simp; done) | (simp; omega))).mono ?_; rintro e w9 ⟨rfl, rfl⟩; refine Hid.out ?_)
    refine Lib.hid ?_
    go_wp2_with fail
    go_meet
    exact ⟨rfl, HL2⟩
  case rest =>
  obtain ⟨hw8, HLE⟩ := hcut
  have hw8 := hw8.symm
  subst hw8
  have HLN : Hid (b.group.length ≤ 8 ∧ 1 ≤ b.items.length ∧ b.items.length ≤ 8 ∧ b.names.length = b.items.length ∧ b.kinds.length = b.items.length) := Lib.hid (of_decide_eq_true HLE.out)
  have HGR : Hid (IntRow ga b.group w) := Lib.hid HBI.out.group
  have k6 : W8.cell? ⟨Bb, 6, none⟩ = some (.slice ga b.group.length gc) := HCB.out W8 HB8.out 6 _ rfl
  have HTG : Hid (∀ z, groupOkR (scopeR ts).length [] b.group = z → z = false → R = false) := Lib.hid fun z h hz => HRT.out.symm.trans (rightT_group (h.trans hz))
  have HG0 : Hid (∃ z, groupOkR (scopeR ts).length [] b.group = z) := Lib.hid ⟨_, rfl⟩
  obtain ⟨GZ, hGZ⟩ := HG0.out
  have HGZ := Lib.hid hGZ
  have HTG2 : Hid (GZ = false → R = false) := Lib.hid (HTG.out GZ hGZ)
  have hgc2 := HGC.out
  have hg8 := HLN.out.1
  go_wp2_with fail
  clear k6
  go_loopw [156] (fun v wr => ∃ k : Nat, v = .int .i64 k ∧ k ≤ b.group.length ∧ wr = W8 ∧ Hid (groupOkR (scopeR ts).length (b.group.take k) (b.group.drop k) = GZ)) (fun v _ => b.group.length - (intOf v).toNat)
  case atStart => exact ⟨0, rfl, Nat.zero_le _, rfl, HGZ⟩
  case round =>
   obtain ⟨k, rfl, hk, hwr, HT⟩ := hrel
   have hwr := hwr.symm
   subst hwr
   by_cases hlt : k < b.group.length
   ·
    as_aux_lemma =>
     have hx : b.group[k]? = some b.group[k] := List.getElem?_eq_getElem hlt
     have hT := HT.out
     rw [List.drop_eq_getElem_cons hlt, groupOkR] at hT
     have htk : b.group.take (k + 1) = b.group.take k ++ [b.group[k]] := List.take_succ_eq_append_getElem hlt
     rw [← htk] at hT
     obtain ⟨gb, gf, rfl, d0⟩ := (show ∃ b' o, ga = some ⟨b', o, none⟩ ∧ W8.cell? ⟨b', o + k, none⟩ = some (.int .i64 b.group[k]) from by
      rcases HGR.out.self HB8.out with h | ⟨b', o, h1, h2⟩
      ·
       omega
      ·
       exact ⟨b', o, h1, h2 k _ hx⟩)
     have hrow : IntRow (some ⟨gb, gf, none⟩) (b.group.take k) W8 := .inr ⟨gb, gf, rfl, fun i t ht => by
      rcases HGR.out.self HB8.out with h | ⟨b', o, h1, h2⟩
      ·
       omega
      ·
       injection h1 with h1
       injection h1 with h1 h3
       subst h1 h3
       exact h2 i t (by rw [List.getElem?_take] at ht; split at ht <;> first | exact ht | cases ht)⟩
     have hct := contains_any (cap := gc) (x := b.group[k]) hrow (by rw [List.length_take]; omega)
     have hlk : (b.group.take k).length = k := by rw [List.length_take]; omega
     rw [hlk] at hct
     have k6 : W8.cell? ⟨Bb, 6, none⟩ = some (.slice (some ⟨gb, gf, none⟩) b.group.length gc) := HCB.out W8 HB8.out 6 _ rfl
     have s1 := HK8.out W8 (Below.refl _ _)
     have hkc : k ≤ gc := by omega
     have hkcI : (k : Int) ≤ gc := by omega
     generalize b.group[k] = x at *
     have HT1 := Lib.hid hT
     clear hx hT HT htk hrow hlk
     by_cases h1 : 0 ≤ x
     rotate_left
     ·
      have HRF : Hid (R = false) := Lib.hid (HTG2.out (HT1.out.symm.trans (by rw [decide_eq_false h1]; rfl)))
      clear hct
      go_wp2_with (go_at_call 26; refine (HNM.out _ _ _ (by first | (simp; done) | (simp; omega))).mono ?_; rintro e w9 ⟨rfl, rfl⟩; exact ⟨rfl, rt_no HRF.out (by decide) (HB8.out)⟩)
     by_cases h2 : x < (scopeR ts).length
     rotate_left
     ·
      have HRF : Hid (R = false) := Lib.hid (HTG2.out (HT1.out.symm.trans (by rw [decide_eq_false h2]; simp)))
      clear hct
      go_wp2_with (go_at_call 26; refine (HNM.out _ _ _ (by first | (simp; done) | (simp; omega))).mono ?_; rintro e w9 ⟨rfl, rfl⟩; exact ⟨rfl, rt_no HRF.out (by decide) (HB8.out)⟩)
     by_cases h3 : x ∈ b.group.take k
     ·
      have HRF : Hid (R = false) := Lib.hid (HTG2.out (HT1.out.symm.trans (by rw [decide_eq_true h3]; simp)))
      rw [decide_eq_true h3] at hct
      have HCT := Lib.hid hct
      clear hct h3
      go_wp2_with (go_at_call 28; refine HCT.out.mono ?_; rintro e w9 ⟨rfl, hw⟩; have hw := hw.symm; subst hw; refine Hid.out ?_)
      refine Lib.hid ?_
      go_wp2_with (go_at_call 26; refine (HNM.out _ _ _ (by first | (simp; done) | (simp; omega))).mono ?_; rintro e w9 ⟨rfl, rfl⟩; exact ⟨rfl, rt_no HRF.out (by decide) (HB8.out)⟩)
     ·
      have HT2 : Hid (groupOkR (scopeR ts).length (b.group.take (k + 1)) (b.group.drop (k + 1)) = GZ) := Lib.hid (by
       have := HT1.out
       rw [decide_eq_true h1, decide_eq_true h2, decide_eq_false h3] at this
       exact this)
      rw [decide_eq_false h3] at hct
      have HCT := Lib.hid hct
      clear hct h3
      go_wp2_with (go_at_call 28; refine HCT.out.mono ?_; rintro e w9 ⟨rfl, hw⟩; have hw := hw.symm; subst hw; refine Hid.out ?_)
      refine Lib.hid ?_
      go_wp2_with (go_at_call 26; refine (HYM.out _ _ _ (by first | (simp; done) | (simp; omega))).mono ?_; rintro e w9 ⟨rfl, rfl⟩; refine Hid.out ?_)
      refine Lib.hid ?_
      go_wp2_with fail
      go_roundw
      case rel => exact ⟨k + 1, by go_num, by omega, (by first | rfl | trivial), HT2⟩
      case measure => simp [intOf]; omega
   ·
    obtain rfl : k = b.group.length := by omega
    have HGT : Hid (groupOkR (scopeR ts).length [] b.group = true) := Lib.hid (by
     have h := HT.out
     rw [List.drop_length] at h
     exact HGZ.out.trans (h.symm.trans rfl))
    clear HT hlt hk HTG HTG2 HG0 hGZ HGZ
    go_upto_region 14 with fail
    generalize W8 = W9 at *
    go_cut [] from 183 to 191 (fun wx => Below W9.heap.size W9 wx ∧ Hid ((b.grouped == groupedR b.group b.items) = true))
    case first =>
     as_aux_lemma =>
      have k6 : W9.cell? ⟨Bb, 6, none⟩ = some (.slice ga b.group.length gc) := HCB.out W9 HB8.out 6 _ rfl
      have k7 : W9.cell? ⟨Bb, 7, none⟩ = some (.slice ia b.items.length ic) := HCB.out W9 HB8.out 7 _ rfl
      have k8 : W9.cell? ⟨Bb, 8, none⟩ = some (.bool b.grouped) := HCB.out W9 HB8.out 8 _ rfl
      have hgrp := fun (wx : World) (hb : Below W9.heap.size W9 wx) => grouped_any (ga := ga) (gc := gc) (ic := ic) (G := b.group) (HBI.out.items.self (below_self HB8.out hb)) (by have := HBK.out.ilen; omega)
      have HGF : Hid ((b.grouped == groupedR b.group b.items) = false → R = false) := Lib.hid fun h => HRT.out.symm.trans (rightT_grouped h)
      have HKX := Lib.hid fun (wx : World) (hb : Below W9.heap.size W9 wx) => (show wx.cell? ⟨Bb, 8, none⟩ = some (.bool b.grouped) ∧ wx.cell? ⟨Bb, 6, none⟩ = some (.slice ga b.group.length gc) ∧ wx.cell? ⟨Bb, 7, none⟩ = some (.slice ia b.items.length ic) from ⟨keep_cellP hb k8, keep_cellP hb k6, keep_cellP hb k7⟩)
      have HGP := Lib.hid hgrp
      clear k6 k7 k8 hgrp
      generalize groupedR b.group b.items = y at *
      generalize b.grouped = x at *
      cases hxy : (x == y) with
      | false =>
       have HRF : Hid (R = false) := Lib.hid (HGF.out hxy)
       refine wp_region_held_drew (S := (fun wx => wx.cell? ⟨Bb, 8, none⟩ = some (.bool x) ∧ wx.cell? ⟨Bb, 6, none⟩ = some (.slice ga b.group.length gc) ∧ wx.cell? ⟨Bb, 7, none⟩ = some (.slice ia b.items.length ic))) (by kernel_rfl) (HKX.out _ (Below.refl _ _).drew) (fun hHeld => ?_)
       refine tkH (i := 0) (v := ?_) opAt0 ?_ ?_; rotate_left; intro wq hSw; (try dsimp only at hSw); go_split_ands; go_simp <;> (with_reducible rfl); try simp only [Act.put, List.setIfInBounds_toArray, List.set_cons_zero, List.set_cons_succ]
       refine tkH (i := 1) (v := ?_) opAt1 ?_ ?_; rotate_left; intro wq hSw; (try dsimp only at hSw); go_split_ands; go_simp <;> (with_reducible rfl); try simp only [Act.put, List.setIfInBounds_toArray, List.set_cons_zero, List.set_cons_succ]
       refine tkH (i := 2) (v := ?_) opAt2 ?_ ?_; rotate_left; intro wq hSw; (try dsimp only at hSw); go_split_ands; go_simp <;> (with_reducible rfl); try simp only [Act.put, List.setIfInBounds_toArray, List.set_cons_zero, List.set_cons_succ]
       refine tkH (i := 3) (v := ?_) opAt3 ?_ ?_; rotate_left; intro wq hSw; (try dsimp only at hSw); go_split_ands; go_simp <;> (with_reducible rfl); try simp only [Act.put, List.setIfInBounds_toArray, List.set_cons_zero, List.set_cons_succ]
       refine tkH (i := 4) (v := ?_) opAt4 ?_ ?_; rotate_left; intro wq hSw; (try dsimp only at hSw); go_split_ands; go_simp <;> (with_reducible rfl); try simp only [Act.put, List.setIfInBounds_toArray, List.set_cons_zero, List.set_cons_succ]
       refine tkH (i := 5) (v := ?_) opAt5 ?_ ?_; rotate_left; intro wq hSw; (try dsimp only at hSw); go_split_ands; go_simp <;> (with_reducible rfl); try simp only [Act.put, List.setIfInBounds_toArray, List.set_cons_zero, List.set_cons_succ]
       refine wpAnyH_ready (rs := [6]) (by kernel_rfl) (by simp) (AllReadyH.cons opAt6 (fun K hK => ?_) AllReadyH.nil)
       go_simp
       go_at_call 29
       refine (HGP.out _ (Below.refl _ _).drew).mono ?_
       rintro e w8 ⟨rfl, hb8⟩
       have hb98 : Below W9.heap.size W9 w8 := below_self (Below.refl _ _).drew hb8
       refine hK.out _ _ (HKX.out _ hb98) (fun hHeld2 => ?_)
       clear hK K
       try simp only [Act.put, List.setIfInBounds_toArray, List.set_cons_zero, List.set_cons_succ]
       refine tkH (i := 7) (v := ?_) opAt7 ?_ ?_; rotate_left; intro wq hSw; (try dsimp only at hSw); go_split_ands; go_simp <;> (with_reducible rfl); try simp only [Act.put, List.setIfInBounds_toArray, List.set_cons_zero, List.set_cons_succ]
       refine wpAnyH_ready (rs := [8]) (by kernel_rfl) (by simp) (AllReadyH.cons opAt8 (fun K hK => ?_) AllReadyH.nil)
       go_simp
       go_at_call 26
       refine (HNM.out _ _ _ (by first | exact hxy | (cases x <;> cases y <;> first | rfl | cases hxy) | (simp; done))).mono ?_
       rintro e w9 ⟨rfl, rfl⟩
       exact ⟨rfl, rt_no HRF.out (by decide) (below_self HB8.out hb98)⟩
      | true =>
       refine wp_region_held_drew (S := (fun wx => wx.cell? ⟨Bb, 8, none⟩ = some (.bool x) ∧ wx.cell? ⟨Bb, 6, none⟩ = some (.slice ga b.group.length gc) ∧ wx.cell? ⟨Bb, 7, none⟩ = some (.slice ia b.items.length ic))) (by kernel_rfl) (HKX.out _ (Below.refl _ _).drew) (fun hHeld => ?_)
       refine tkH (i := 0) (v := ?_) opAt0 ?_ ?_; rotate_left; intro wq hSw; (try dsimp only at hSw); go_split_ands; go_simp <;> (with_reducible rfl); try simp only [Act.put, List.setIfInBounds_toArray, List.set_cons_zero, List.set_cons_succ]
       refine tkH (i := 1) (v := ?_) opAt1 ?_ ?_; rotate_left; intro wq hSw; (try dsimp only at hSw); go_split_ands; go_simp <;> (with_reducible rfl); try simp only [Act.put, List.setIfInBounds_toArray, List.set_cons_zero, List.set_cons_succ]
       refine tkH (i := 2) (v := ?_) opAt2 ?_ ?_; rotate_left; intro wq hSw; (try dsimp only at hSw); go_split_ands; go_simp <;> (with_reducible rfl); try simp only [Act.put, List.setIfInBounds_toArray, List.set_cons_zero, List.set_cons_succ]
       refine tkH (i := 3) (v := ?_) opAt3 ?_ ?_; rotate_left; intro wq hSw; (try dsimp only at hSw); go_split_ands; go_simp <;> (with_reducible rfl); try simp only [Act.put, List.setIfInBounds_toArray, List.set_cons_zero, List.set_cons_succ]
       refine tkH (i := 4) (v := ?_) opAt4 ?_ ?_; rotate_left; intro wq hSw; (try dsimp only at hSw); go_split_ands; go_simp <;> (with_reducible rfl); try simp only [Act.put, List.setIfInBounds_toArray, List.set_cons_zero, List.set_cons_succ]
       refine tkH (i := 5) (v := ?_) opAt5 ?_ ?_; rotate_left; intro wq hSw; (try dsimp only at hSw); go_split_ands; go_simp <;> (with_reducible rfl); try simp only [Act.put, List.setIfInBounds_toArray, List.set_cons_zero, List.set_cons_succ]
       refine wpAnyH_ready (rs := [6]) (by kernel_rfl) (by simp) (AllReadyH.cons opAt6 (fun K hK => ?_) AllReadyH.nil)
       go_simp
       go_at_call 29
       refine (HGP.out _ (Below.refl _ _).drew).mono ?_
       rintro e w8 ⟨rfl, hb8⟩
       have hb98 : Below W9.heap.size W9 w8 := below_self (Below.refl _ _).drew hb8
       refine hK.out _ _ (HKX.out _ hb98) (fun hHeld2 => ?_)
       clear hK K
       try simp only [Act.put, List.setIfInBounds_toArray, List.set_cons_zero, List.set_cons_succ]
       refine tkH (i := 7) (v := ?_) opAt7 ?_ ?_; rotate_left; intro wq hSw; (try dsimp only at hSw); go_split_ands; go_simp <;> (with_reducible rfl); try simp only [Act.put, List.setIfInBounds_toArray, List.set_cons_zero, List.set_cons_succ]
       refine wpAnyH_ready (rs := [8]) (by kernel_rfl) (by simp) (AllReadyH.cons opAt8 (fun K hK => ?_) AllReadyH.nil)
       go_simp
       go_at_call 26
       refine (HYM.out _ _ _ (by first | exact hxy | (cases x <;> cases y <;> first | rfl | cases hxy) | (simp; done))).mono ?_
       rintro e w9 ⟨rfl, rfl⟩
       refine hK.out _ _ (HKX.out _ hb98) (fun hHeld2 => ?_)
       clear hK K
       try simp only [Act.put, List.setIfInBounds_toArray, List.set_cons_zero, List.set_cons_succ]
       refine wpAnyH_done (by kernel_rfl) ?_ _
       go_wp2_with fail
       go_meet
       exact ⟨hb98, Lib.hid (by first | exact hxy | rfl)⟩
    case rest =>
    obtain ⟨hb10, HGD⟩ := hcut
    generalize hwx : wc = W10 at *
    clear hwx
    have HB10 := Lib.hid (below_self HB8.out hb10)
    have HCR10 := Lib.hid (HCR8.out.self hb10)
    have HK10 := Lib.hid fun (wx : World) (hb : Below W10.heap.size W10 wx) => HK8.out wx (below_self hb10 hb)
    have k7 : W10.cell? ⟨Bb, 7, none⟩ = some (.slice ia b.items.length ic) := HCB.out W10 HB10.out 7 _ rfl
    obtain ⟨OZ, hOZ⟩ : ∃ z, outOkR b.group b.grouped (scopeR ts) b.items 0 b.names b.kinds = z := ⟨_, rfl⟩
    have HOZ := Lib.hid hOZ
    have HTO2 : Hid (OZ = false → R = false) := Lib.hid fun h => HRT.out.symm.trans (rightT_out (hOZ.trans h))
    have hi8 := HLN.out.2.2.1
    have hn8 := HLN.out.2.2.2.1
    have hk8 := HLN.out.2.2.2.2
    have HN8 := Lib.hid hn8
    have HK88 := Lib.hid hk8
    clear hb10 HB8 HS8 HCR8 HK8 hOZ hn8 hk8
    go_wp2_with fail
    clear k7
    go_loopw [195] (fun v wr => ∃ k : Nat, v = .int .i64 k ∧ k ≤ b.items.length ∧ Below W10.heap.size W10 wr ∧ Hid (outOkR b.group b.grouped (scopeR ts) (b.items.drop k) k b.names b.kinds = OZ)) (fun v _ => b.items.length - (intOf v).toNat)
    case atStart => exact ⟨0, rfl, Nat.zero_le _, Below.refl _ _, HOZ⟩
    case round =>
     obtain ⟨k, rfl, hk, hbr, HT⟩ := hrel
     have HBr := Lib.hid (below_self HB10.out hbr)
     by_cases hlt : k < b.items.length
     ·
      as_aux_lemma =>
       have hx : b.items[k]? = some b.items[k] := List.getElem?_eq_getElem hlt
       obtain ⟨hxo, hxl, hxa⟩ := HBK.out.items _ (List.getElem_mem hlt)
       have hT := HT.out
       rw [List.drop_eq_getElem_cons hlt, outOkR] at hT
       obtain ⟨ib, io, hia, eo, ec, c0, c1, hxr⟩ := (HBI.out.items.self HBr.out).at hx
       subst hia
       obtain ⟨nm, hnm⟩ : ∃ s, b.names[k]? = some s := ⟨b.names[k]'(by have := HN8.out; omega), List.getElem?_eq_getElem _⟩
       obtain ⟨kd, hkd⟩ : ∃ s, b.kinds[k]? = some s := ⟨b.kinds[k]'(by have := HK88.out; omega), List.getElem?_eq_getElem _⟩
       rw [show b.names.getD k ⟨#[]⟩ = nm from by rw [List.getD_eq_getElem?_getD, hnm]; rfl, show b.kinds.getD k 0 = kd from by rw [List.getD_eq_getElem?_getD, hkd]; rfl] at hT
       obtain ⟨nb, nf, hna, n0⟩ := (show ∃ b' o, na = some ⟨b', o, none⟩ ∧ w.cell? ⟨b', o + k, none⟩ = some (.string nm) from by
        rcases HBI.out.names with h | ⟨b', o, h1, h2⟩
        ·
         have := HN8.out; omega
        ·
         exact ⟨b', o, h1, h2 k _ hnm⟩)
       obtain ⟨kb, kf, hka, q0⟩ := HBI.out.kinds.at hkd
       subst hna hka
       have HN0 := Lib.hid fun (wx : World) (hb : Below w.heap.size w wx) => keep_cellP hb n0
       have HQ0 := Lib.hid fun (wx : World) (hb : Below w.heap.size w wx) => keep_cellP hb q0
       have hkn : k < b.names.length := by have := HN8.out; omega
       have hkk : k < b.kinds.length := by have := HK88.out; omega
       have hgl2 := HLN.out.1
       generalize b.items[k] = x at *
       have HT1 := Lib.hid hT
       have hsr := HBr.out.size
       clear hx hT HT hnm hkd n0 q0
       go_upto_region 18 with fail
       have hbA := (Below.refl wr.heap.size wr).alloc (Nat.le_refl _) (.cells #[.int .u8 x.agg, .slice eo x.e.length ec] 40)
       have hnA := heap_alloc_new wr (.cells #[.int .u8 x.agg, .slice eo x.e.length ec] 40)
       have hxr2 := hxr.self hbA
       have HBA := Lib.hid (below_self HBr.out hbA)
       have hcr2 := HCR10.out.self (below_self hbr hbA)
       have s1 := HK10.out _ (below_self hbr hbA)
       generalize wr.alloc (.cells #[.int .u8 x.agg, .slice eo x.e.length ec] 40) = W12 at *
       have x0 : W12.cell? ⟨wr.heap.size, 0, none⟩ = some (.int .u8 x.agg) := by rw [Lib.cell_of_heap hnA]; rfl
       have x1 : W12.cell? ⟨wr.heap.size, 1, none⟩ = some (.slice eo x.e.length ec) := by rw [Lib.cell_of_heap hnA]; rfl
       have HB1012 := Lib.hid (below_self hbr hbA)
       have hci := fun (wx : World) (hb : Below W12.heap.size W12 wx) => checkItem_any (t := b.table) (j := b.join) (wd := b.width) (lf := b.left) (rt := b.right) (wo := wo) (wn := b.wher.length) (wc := wcp) (ga := ga) (G := b.group) (gc := gc) (ia := some ⟨ib, io, none⟩) (im := b.items.length) (ic := ic) (gr := b.grouped) (na := some ⟨nb, nf, none⟩) (nn := b.names.length) (nc := nc) (ka := some ⟨kb, kf, none⟩) (kn := b.kinds.length) (kc := kc) (x := x) (eo := eo) (ec := ec) (co := co) (cc := cc) (C := scopeR ts) (i := k) (HG.out.self (below_self HBA.out hb)) (hxr2.self hb) hxo hxl hxa (hcr2.self hb) HCK.out (by omega) (HGR.out.self (below_self HBA.out hb)) (by omega) (by omega)
       unfold bndV at hci
       generalize wr.heap.size = A at *
       have HKC := Lib.hid fun (wx : World) (hb : Below W12.heap.size W12 wx) => (show wx.cell? ⟨Bb, 0, none⟩ = some (.string b.table) ∧ wx.cell? ⟨Bb, 1, none⟩ = some (.string b.join) ∧ wx.cell? ⟨Bb, 2, none⟩ = some (.int .i64 b.width) ∧ wx.cell? ⟨Bb, 3, none⟩ = some (.int .i64 b.left) ∧ wx.cell? ⟨Bb, 4, none⟩ = some (.int .i64 b.right) ∧ wx.cell? ⟨Bb, 5, none⟩ = some (.slice wo b.wher.length wcp) ∧ wx.cell? ⟨Bb, 6, none⟩ = some (.slice ga b.group.length gc) ∧ wx.cell? ⟨Bb, 7, none⟩ = some (.slice (some ⟨ib, io, none⟩) b.items.length ic) ∧ wx.cell? ⟨Bb, 8, none⟩ = some (.bool b.grouped) ∧ wx.cell? ⟨Bb, 9, none⟩ = some (.slice (some ⟨nb, nf, none⟩) b.names.length nc) ∧ wx.cell? ⟨Bb, 10, none⟩ = some (.slice (some ⟨kb, kf, none⟩) b.kinds.length kc) ∧ wx.cell? ⟨A, 0, none⟩ = some (.int .u8 x.agg) ∧ wx.cell? ⟨A, 1, none⟩ = some (.slice eo x.e.length ec) ∧ wx.cell? ⟨S, 1, none⟩ = some (.slice co (scopeR ts).length cc) from ⟨HCB.out wx (below_self HBA.out hb) 0 _ rfl, HCB.out wx (below_self HBA.out hb) 1 _ rfl, HCB.out wx (below_self HBA.out hb) 2 _ rfl, HCB.out wx (below_self HBA.out hb) 3 _ rfl, HCB.out wx (below_self HBA.out hb) 4 _ rfl, HCB.out wx (below_self HBA.out hb) 5 _ rfl, HCB.out wx (below_self HBA.out hb) 6 _ rfl, HCB.out wx (below_self HBA.out hb) 7 _ rfl, HCB.out wx (below_self HBA.out hb) 8 _ rfl, HCB.out wx (below_self HBA.out hb) 9 _ rfl, HCB.out wx (below_self HBA.out hb) 10 _ rfl, keep_cellP hb x0, keep_cellP hb x1, keep_cellP hb s1⟩)
       clear hcr2 s1 x0 x1 hbA hnA hxr hxr2 c0 c1 hbr
       cases hri : itemB b.group b.grouped x (scopeR ts) k with
       | no y =>
        have HRF : Hid (R = false) := Lib.hid (HTO2.out (HT1.out.symm.trans (by rw [hri])))
        have HY := Lib.hid (itemB_nz hri)
        have HCI := Lib.hid fun wx hb => citem_bad hri (hci wx hb)
        clear hci hri HT1
        refine wp_region_held_drew (S := (fun wx => wx.cell? ⟨Bb, 0, none⟩ = some (.string b.table) ∧ wx.cell? ⟨Bb, 1, none⟩ = some (.string b.join) ∧ wx.cell? ⟨Bb, 2, none⟩ = some (.int .i64 b.width) ∧ wx.cell? ⟨Bb, 3, none⟩ = some (.int .i64 b.left) ∧ wx.cell? ⟨Bb, 4, none⟩ = some (.int .i64 b.right) ∧ wx.cell? ⟨Bb, 5, none⟩ = some (.slice wo b.wher.length wcp) ∧ wx.cell? ⟨Bb, 6, none⟩ = some (.slice ga b.group.length gc) ∧ wx.cell? ⟨Bb, 7, none⟩ = some (.slice (some ⟨ib, io, none⟩) b.items.length ic) ∧ wx.cell? ⟨Bb, 8, none⟩ = some (.bool b.grouped) ∧ wx.cell? ⟨Bb, 9, none⟩ = some (.slice (some ⟨nb, nf, none⟩) b.names.length nc) ∧ wx.cell? ⟨Bb, 10, none⟩ = some (.slice (some ⟨kb, kf, none⟩) b.kinds.length kc) ∧ wx.cell? ⟨A, 0, none⟩ = some (.int .u8 x.agg) ∧ wx.cell? ⟨A, 1, none⟩ = some (.slice eo x.e.length ec) ∧ wx.cell? ⟨S, 1, none⟩ = some (.slice co (scopeR ts).length cc))) (by kernel_rfl) (HKC.out _ (Below.refl _ _).drew) (fun hHeld => ?_)
        refine tkH (i := 0) (v := ?_) opAt0 ?_ ?_; rotate_left; intro wq hSw; (try dsimp only at hSw); go_split_ands; go_simp <;> (with_reducible rfl); try simp only [Act.put, List.setIfInBounds_toArray, List.set_cons_zero, List.set_cons_succ]
        refine tkH (i := 1) (v := ?_) opAt1 ?_ ?_; rotate_left; intro wq hSw; (try dsimp only at hSw); go_split_ands; go_simp <;> (with_reducible rfl); try simp only [Act.put, List.setIfInBounds_toArray, List.set_cons_zero, List.set_cons_succ]
        refine tkH (i := 2) (v := ?_) opAt2 ?_ ?_; rotate_left; intro wq hSw; (try dsimp only at hSw); go_split_ands; go_simp <;> (with_reducible rfl); try simp only [Act.put, List.setIfInBounds_toArray, List.set_cons_zero, List.set_cons_succ]
        refine tkH (i := 3) (v := ?_) opAt3 ?_ ?_; rotate_left; intro wq hSw; (try dsimp only at hSw); go_split_ands; go_simp <;> (with_reducible rfl); try simp only [Act.put, List.setIfInBounds_toArray, List.set_cons_zero, List.set_cons_succ]
        refine tkH (i := 4) (v := ?_) opAt4 ?_ ?_; rotate_left; intro wq hSw; (try dsimp only at hSw); go_split_ands; go_simp <;> (with_reducible rfl); try simp only [Act.put, List.setIfInBounds_toArray, List.set_cons_zero, List.set_cons_succ]
        refine tkH (i := 5) (v := ?_) opAt5 ?_ ?_; rotate_left; intro wq hSw; (try dsimp only at hSw); go_split_ands; go_simp <;> (with_reducible rfl); try simp only [Act.put, List.setIfInBounds_toArray, List.set_cons_zero, List.set_cons_succ]
        refine tkH (i := 6) (v := ?_) opAt6 ?_ ?_; rotate_left; intro wq hSw; (try dsimp only at hSw); go_split_ands; go_simp <;> (with_reducible rfl); try simp only [Act.put, List.setIfInBounds_toArray, List.set_cons_zero, List.set_cons_succ]
        refine wpAnyH_ready (rs := [7]) (by kernel_rfl) (by simp) (AllReadyH.cons opAt7 (fun K hK => ?_) AllReadyH.nil)
        go_simp
        go_at_call 30
        refine (HCI.out _ (Below.refl _ _).drew).mono ?_
        rintro e w9 ⟨rfl, hb9⟩
        exact ⟨rfl, rt_no HRF.out HY.out (below_self HBA.out (below_self (Below.refl _ _).drew hb9))⟩
       | ok nk =>
        obtain ⟨nm', kd'⟩ := nk
        have HT2 : Hid ((eqS nm' nm && decide (kd' = kd) && outOkR b.group b.grouped (scopeR ts) (b.items.drop (k + 1)) (k + 1) b.names b.kinds) = OZ) := Lib.hid (by have := HT1.out; rw [hri] at this; exact this)
        have HCI := Lib.hid fun wx hb => citem_ok hri (hci wx hb)
        clear hci hri HT1
        refine wp_region_held_drew (S := (fun wx => wx.cell? ⟨Bb, 0, none⟩ = some (.string b.table) ∧ wx.cell? ⟨Bb, 1, none⟩ = some (.string b.join) ∧ wx.cell? ⟨Bb, 2, none⟩ = some (.int .i64 b.width) ∧ wx.cell? ⟨Bb, 3, none⟩ = some (.int .i64 b.left) ∧ wx.cell? ⟨Bb, 4, none⟩ = some (.int .i64 b.right) ∧ wx.cell? ⟨Bb, 5, none⟩ = some (.slice wo b.wher.length wcp) ∧ wx.cell? ⟨Bb, 6, none⟩ = some (.slice ga b.group.length gc) ∧ wx.cell? ⟨Bb, 7, none⟩ = some (.slice (some ⟨ib, io, none⟩) b.items.length ic) ∧ wx.cell? ⟨Bb, 8, none⟩ = some (.bool b.grouped) ∧ wx.cell? ⟨Bb, 9, none⟩ = some (.slice (some ⟨nb, nf, none⟩) b.names.length nc) ∧ wx.cell? ⟨Bb, 10, none⟩ = some (.slice (some ⟨kb, kf, none⟩) b.kinds.length kc) ∧ wx.cell? ⟨A, 0, none⟩ = some (.int .u8 x.agg) ∧ wx.cell? ⟨A, 1, none⟩ = some (.slice eo x.e.length ec) ∧ wx.cell? ⟨S, 1, none⟩ = some (.slice co (scopeR ts).length cc))) (by kernel_rfl) (HKC.out _ (Below.refl _ _).drew) (fun hHeld => ?_)
        refine tkH (i := 0) (v := ?_) opAt0 ?_ ?_; rotate_left; intro wq hSw; (try dsimp only at hSw); go_split_ands; go_simp <;> (with_reducible rfl); try simp only [Act.put, List.setIfInBounds_toArray, List.set_cons_zero, List.set_cons_succ]
        refine tkH (i := 1) (v := ?_) opAt1 ?_ ?_; rotate_left; intro wq hSw; (try dsimp only at hSw); go_split_ands; go_simp <;> (with_reducible rfl); try simp only [Act.put, List.setIfInBounds_toArray, List.set_cons_zero, List.set_cons_succ]
        refine tkH (i := 2) (v := ?_) opAt2 ?_ ?_; rotate_left; intro wq hSw; (try dsimp only at hSw); go_split_ands; go_simp <;> (with_reducible rfl); try simp only [Act.put, List.setIfInBounds_toArray, List.set_cons_zero, List.set_cons_succ]
        refine tkH (i := 3) (v := ?_) opAt3 ?_ ?_; rotate_left; intro wq hSw; (try dsimp only at hSw); go_split_ands; go_simp <;> (with_reducible rfl); try simp only [Act.put, List.setIfInBounds_toArray, List.set_cons_zero, List.set_cons_succ]
        refine tkH (i := 4) (v := ?_) opAt4 ?_ ?_; rotate_left; intro wq hSw; (try dsimp only at hSw); go_split_ands; go_simp <;> (with_reducible rfl); try simp only [Act.put, List.setIfInBounds_toArray, List.set_cons_zero, List.set_cons_succ]
        refine tkH (i := 5) (v := ?_) opAt5 ?_ ?_; rotate_left; intro wq hSw; (try dsimp only at hSw); go_split_ands; go_simp <;> (with_reducible rfl); try simp only [Act.put, List.setIfInBounds_toArray, List.set_cons_zero, List.set_cons_succ]
        refine tkH (i := 6) (v := ?_) opAt6 ?_ ?_; rotate_left; intro wq hSw; (try dsimp only at hSw); go_split_ands; go_simp <;> (with_reducible rfl); try simp only [Act.put, List.setIfInBounds_toArray, List.set_cons_zero, List.set_cons_succ]
        refine wpAnyH_ready (rs := [7]) (by kernel_rfl) (by simp) (AllReadyH.cons opAt7 (fun K hK => ?_) AllReadyH.nil)
        go_simp
        go_at_call 30
        refine (HCI.out _ (Below.refl _ _).drew).mono ?_
        rintro e w9 ⟨rfl, hb9⟩
        have hb99 : Below W12.heap.size W12 w9 := below_self (Below.refl _ _).drew hb9
        refine hK.out _ _ (HKC.out _ hb99) (fun hHeld2 => ?_)
        clear hK K
        try simp only [Act.put, List.setIfInBounds_toArray, List.set_cons_zero, List.set_cons_succ]
        refine tkH (i := 8) (v := ?_) opAt8 ?_ ?_; rotate_left; intro wq hSw; (try dsimp only at hSw); go_split_ands; go_simp <;> (with_reducible rfl); try simp only [Act.put, List.setIfInBounds_toArray, List.set_cons_zero, List.set_cons_succ]
        refine tkH (i := 9) (v := ?_) opAt9 ?_ ?_; rotate_left; intro wq hSw; (try dsimp only at hSw); go_split_ands; go_simp <;> (with_reducible rfl); try simp only [Act.put, List.setIfInBounds_toArray, List.set_cons_zero, List.set_cons_succ]
        refine tkH (i := 10) (v := ?_) opAt10 ?_ ?_; rotate_left; intro wq hSw; (try dsimp only at hSw); go_split_ands; go_simp <;> (with_reducible rfl); try simp only [Act.put, List.setIfInBounds_toArray, List.set_cons_zero, List.set_cons_succ]
        refine tkH (i := 11) (v := ?_) opAt11 ?_ ?_; rotate_left; intro wq hSw; (try dsimp only at hSw); go_split_ands; go_simp <;> (with_reducible rfl); try simp only [Act.put, List.setIfInBounds_toArray, List.set_cons_zero, List.set_cons_succ]
        refine tkH (i := 12) (v := ?_) opAt12 ?_ ?_; rotate_left; intro wq hSw; (try dsimp only at hSw); go_split_ands; go_simp <;> (with_reducible rfl); try simp only [Act.put, List.setIfInBounds_toArray, List.set_cons_zero, List.set_cons_succ]
        refine wpAnyH_done (by kernel_rfl) ?_ _
        have HB13 := Lib.hid (below_self HBA.out hb99)
        have HB14 := Lib.hid (below_self HB1012.out hb99)
        have y9 : w9.cell? ⟨Bb, 9, none⟩ = some (.slice (some ⟨nb, nf, none⟩) b.names.length nc) := HCB.out w9 HB13.out 9 _ rfl
        have y10 : w9.cell? ⟨Bb, 10, none⟩ = some (.slice (some ⟨kb, kf, none⟩) b.kinds.length kc) := HCB.out w9 HB13.out 10 _ rfl
        have z0 := HN0.out w9 HB13.out
        have z1 := HQ0.out w9 HB13.out
        have hknI : (k : Int) < b.names.length := by omega
        have hkkI : (k : Int) < b.kinds.length := by omega
        clear hb9 hb99 hHeld hHeld2 HKC HCI
        cases e1 : (nm'.toList == nm.toList) with
        | false =>
         have HRF : Hid (R = false) := Lib.hid (HTO2.out (HT2.out.symm.trans (by rw [show eqS nm' nm = false from e1]; rfl)))
         go_wp2_with (go_at_call 26; refine (HNM.out _ _ _ (by first | (simp; done) | (simp; omega))).mono ?_; rintro e w9 ⟨rfl, rfl⟩; exact ⟨rfl, rt_no HRF.out (by decide) (HB13.out)⟩)
        | true =>
         cases e2 : (kd' == kd) with
         | false =>
          have HRF : Hid (R = false) := Lib.hid (HTO2.out (HT2.out.symm.trans (by rw [decide_eq_false (beq_eq_false_iff_ne.1 e2)]; simp)))
          go_wp2_with (go_at_call 26; refine (HNM.out _ _ _ (by first | (simp; done) | (simp; omega))).mono ?_; rintro e w9 ⟨rfl, rfl⟩; exact ⟨rfl, rt_no HRF.out (by decide) (HB13.out)⟩)
         | true =>
          have HT3 : Hid (outOkR b.group b.grouped (scopeR ts) (b.items.drop (k + 1)) (k + 1) b.names b.kinds = OZ) := Lib.hid (by
           have := HT2.out
           rw [show eqS nm' nm = true from e1, decide_eq_true (beq_iff_eq.1 e2)] at this
           exact this)
          go_wp2_with (go_at_call 26; refine (HYM.out _ _ _ (by first | (simp; done) | (simp; omega))).mono ?_; rintro e w9 ⟨rfl, rfl⟩; refine Hid.out ?_)
          refine Lib.hid ?_
          go_wp2_with fail
          go_roundw
          case rel => exact ⟨k + 1, by go_num, by omega, HB14.out, HT3⟩
          case measure => simp [intOf]; omega
     ·
      obtain rfl : k = b.items.length := by omega
      have HRY : Hid (R = true) := Lib.hid (by
       have h := HT.out
       rw [List.drop_length] at h
       exact HRT.out.symm.trans (rightT_yes HJ.out HW.out HLE.out HGT.out HGD.out (HOZ.out.trans (h.symm.trans rfl))))
      clear HT
      go_wp2_with fail
      exact bodyPost_end (results_none rfl _ _ _) rfl (rt_yes HRY.out HBr.out)
end Go.Proofs.YtgjfbbmachoolaaGreatDoor.lx
