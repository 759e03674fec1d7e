/-
  bind's Bind: its walk. Conditions: the package-level variables are laid; the query and the tables lie there.
-/
import Derived.Test.YtgjfbbmachoolaaGreatDoorM17
namespace Go.Proofs.YtgjfbbmachoolaaGreatDoor.lx
open Go.RowKit
set_option linter.unusedVariables false
set_option linter.unusedSimpArgs false

set_option maxHeartbeats 8000000 in
set_option maxRecDepth 100000 in
theorem bindfn_any {q : Qry} {io wo go lo : Option Addr} {icp wcp gcp lcap : Nat} {L : List Tbl} {Q Lb Bb : Nat} {w00 w : World} (h00 : Below w00.heap.size w00 w) (hG : PGlob w00) (hqi : QryIn q io wo go w00) (hqo : QryOk q) (hwl : q.wher.length ≤ 1099511627776) (hxl : ∀ it ∈ q.items, it.e.length ≤ 1099511627776)
  (hL : TblRow lo L w00) (hLo : TblsOk L) (hll : L.length ≤ 1099511627776) (hQ : w00.heap.size ≤ Q) (hLb : w00.heap.size ≤ Lb) (hBb : w00.heap.size ≤ Bb) (hQB : Q ≠ Bb) (hLB : Lb ≠ Bb)
  (hq : w.heap[Q]? = some (.cells (qryC q io icp wo wcp go gcp) 26 (0, 0))) (hl : w.heap[Lb]? = some (.cells #[.slice lo L.length lcap] 27 (0, 0)))
  (hb : w.heap[Bb]? = some (.cells (bndC ⟨#[]⟩ ⟨#[]⟩ 0 0 0 none 0 0 none 0 0 none 0 0 false none 0 0 none 0 0) 32 (0, 0))) :
  Calls Tryz.prog 20 #[.pointer (some ⟨Q, 0, none⟩), .pointer (some ⟨Lb, 0, none⟩), .pointer (some ⟨Bb, 0, none⟩)] w fun e w' => EndsP (fun y w' => BndR w.heap.size (bindR q L) Bb y w' ∧ w.grownBy w' (some Bb)) e w' := by
 obtain ⟨R, hR⟩ : ∃ R, bindR q L = R := ⟨_, rfl⟩
 rw [hR]
 unfold bindR at hR
 have hcell : ∀ (wx : World), Below w.heap.size w wx → ∀ (j : Nat) v, (qryC q io icp wo wcp go gcp)[j]? = some v → wx.cell? ⟨Q, j, none⟩ = some v := fun wx hb j v hv => by
  rw [Lib.cell_of_heap ((hb.block Q (Array.getElem?_eq_some_iff.1 hq).1).trans hq)]; exact hv
 have hcl : ∀ (wx : World), Below w.heap.size w wx → wx.cell? ⟨Lb, 0, none⟩ = some (.slice lo L.length lcap) := fun wx hb => by
  rw [Lib.cell_of_heap ((hb.block Lb (Array.getElem?_eq_some_iff.1 hl).1).trans hl)]; rfl
 have HCQ := Lib.hid hcell
 have HCL := Lib.hid hcl
 have HQ := Lib.hid hq
 have HLL := Lib.hid hl
 have HBB := Lib.hid hb
 have H00 := Lib.hid h00
 have HG := Lib.hid hG
 have HQI := Lib.hid hqi
 have HQO := Lib.hid hqo
 have HXL := Lib.hid hxl
 have HTR := Lib.hid hL
 have HTO := Lib.hid hLo
 have HBW := Lib.hid fun (wx : World) (hg : w.grownBy wx (some Bb)) => below_gbB h00 hg hBb h00.size
 have HR := Lib.hid hR
 have HYM := Lib.hid fun w3 y (is : Bool) (hi : is = true) => bmust_yes (w := w3) (why := y) hi
 have HNM := Lib.hid fun w3 y (is : Bool) (hi : is = false) => bmust_no (w := w3) (why := y) hi
 have k0 : w.cell? ⟨Q, 0, none⟩ = some (.slice io q.items.length icp) := hcell w (Below.refl _ _) 0 _ rfl
 have k1 : w.cell? ⟨Q, 1, none⟩ = some (.string q.table) := hcell w (Below.refl _ _) 1 _ rfl
 have k2 : w.cell? ⟨Q, 2, none⟩ = some (.string q.join) := hcell w (Below.refl _ _) 2 _ rfl
 have k3 : w.cell? ⟨Q, 3, none⟩ = some (.string q.left) := hcell w (Below.refl _ _) 3 _ rfl
 have k4 : w.cell? ⟨Q, 4, none⟩ = some (.string q.right) := hcell w (Below.refl _ _) 4 _ rfl
 have k5 : w.cell? ⟨Q, 5, none⟩ = some (.slice wo q.wher.length wcp) := hcell w (Below.refl _ _) 5 _ rfl
 have k6 : w.cell? ⟨Q, 6, none⟩ = some (.slice go q.group.length gcp) := hcell w (Below.refl _ _) 6 _ rfl
 have hck := check_any (q := q) (icap := icp) (wcap := wcp) (gcap := gcp) (hG.self h00) (hqi.self h00) hqo
 have hbl := (Array.getElem?_eq_some_iff.1 hb).1
 clear hcell hcl hq hl hb h00 hG hqi hqo hL hLo hR hxl
 go_enter Tryz.func20, Tryz.ntmps20
 by_cases hc0 : checkR q = 0
 rotate_left
 ·
  have HCK := Lib.hid hck
  have HRR : Hid (Ex.no (checkR q) = R) := Lib.hid (by have := HR.out; rwa [if_pos hc0] at this)
  have HFN := Lib.hid fun w3 => fine_no (w := w3) hc0
  clear hck hc0
  generalize checkR q = V at *
  go_wp2_with (first
   | (go_at_call 22; refine HCK.out.mono ?_; rintro e w2 ⟨rfl, hb2⟩; refine Hid.out ?_)
   | (go_at_call 21; refine (HFN.out _).mono ?_; rintro e w3 ⟨rfl, rfl⟩; exact ⟨rfl, ends_no HRR.out (below_gb (by assumption))⟩))
  refine Lib.hid ?_
  go_wp2_with (go_at_call 21; refine (HFN.out _).mono ?_; rintro e w3 ⟨rfl, rfl⟩; exact ⟨rfl, ends_no HRR.out (below_gb hb2)⟩)
 rw [hc0] at hck
 have HCK := Lib.hid hck
 have HC0 := Lib.hid hc0
 have HR1 := Lib.hid (by have := HR.out; rwa [if_neg (by simp [hc0])] at this)
 clear hck hc0 HR
 go_wp2_with (go_at_call 22; refine HCK.out.mono ?_; rintro e w2 ⟨rfl, hb2⟩; refine Hid.out ?_)
 refine Lib.hid ?_
 have HB2 := Lib.hid hb2
 have l0 := HCL.out w2 hb2
 clear hb2 HCK k0 k1 k2 k3 k4 k5 k6
 go_wp2_with (go_at_call 21; refine fine_yes.mono ?_; rintro e w3 ⟨rfl, rfl⟩; refine Hid.out ?_)
 refine Lib.hid ?_
 have hca := Check_any (cap := lcap) w2 (HG.out.self (below_self H00.out HB2.out)).glob (HTR.out.self (below_self H00.out HB2.out)) HTO.out
 by_cases hc0 : catR L = 0
 rotate_left
 ·
  have HCK := Lib.hid hca
  have HRR : Hid (Ex.no (catR L) = R) := Lib.hid (by have := HR1.out; rwa [if_pos hc0] at this)
  have HFN := Lib.hid fun w3 => fine_no (w := w3) hc0
  clear hca hc0
  generalize catR L = V at *
  go_wp2_with (go_at_call 14; refine HCK.out.mono ?_; rintro e w4 ⟨rfl, hb4⟩; refine Hid.out ?_)
  refine Lib.hid ?_
  go_wp2_with (go_at_call 21; refine (HFN.out _).mono ?_; rintro e w3 ⟨rfl, rfl⟩; exact ⟨rfl, ends_no HRR.out (below_gb (below_self HB2.out hb4))⟩)
 rw [hc0] at hca
 have HCA := Lib.hid hca
 have HR2 := Lib.hid (by have := HR1.out; rwa [if_neg (by simp [hc0])] at this)
 clear hca hc0 HR1
 go_wp2_with (go_at_call 14; refine HCA.out.mono ?_; rintro e w4 ⟨rfl, hb4⟩; refine Hid.out ?_)
 refine Lib.hid ?_
 have HB4 := Lib.hid (below_self HB2.out hb4)
 clear hb4 HCA l0 HB2
 go_wp2_with (go_at_call 21; refine fine_yes.mono ?_; rintro e w3 ⟨rfl, rfl⟩; refine Hid.out ?_)
 refine Lib.hid ?_
 have l0 := HCL.out w4 HB4.out
 have k1 : w4.cell? ⟨Q, 1, none⟩ = some (.string q.table) := HCQ.out w4 HB4.out 1 _ rfl
 have k2 : w4.cell? ⟨Q, 2, none⟩ = some (.string q.join) := HCQ.out w4 HB4.out 2 _ rfl
 have HKH := Lib.hid fun (wx : World) (hb : Below w4.heap.size w4 wx) => (show wx.cell? ⟨Lb, 0, none⟩ = some (.slice lo L.length lcap) ∧ wx.cell? ⟨Q, 1, none⟩ = some (.string q.table) ∧ wx.cell? ⟨Q, 2, none⟩ = some (.string q.join) from ⟨keep_cellP hb l0, keep_cellP hb k1, keep_cellP hb k2⟩)
 go_upto_region 2 with fail
 refine wp_region_held_drew (S := (fun wx => wx.cell? ⟨Lb, 0, none⟩ = some (.slice lo L.length lcap) ∧ wx.cell? ⟨Q, 1, none⟩ = some (.string q.table) ∧ wx.cell? ⟨Q, 2, none⟩ = some (.string q.join))) (by kernel_rfl) (HKH.out _ (Below.refl _ _).drew) (fun hHeld => ?_)
 refine wpAnyH_take (i := 0) (v := ?_) opAt0 (by kernel_rfl) (by kernel_rfl) (by kernel_rfl) (fun _ _ _ h => h) (Or.inl ⟨by kernel_rfl, ?_⟩) (by assumption) ?_; rotate_left; intro wq hSw; (try dsimp only at hSw); go_split_ands; go_simp <;> (with_reducible rfl); try simp only [Act.put, List.setIfInBounds_toArray, List.set_cons_zero, List.set_cons_succ]
 refine wpAnyH_take (i := 1) (v := ?_) opAt1 (by kernel_rfl) (by kernel_rfl) (by kernel_rfl) (fun _ _ _ h => h) (Or.inl ⟨by kernel_rfl, ?_⟩) (by assumption) ?_; rotate_left; intro wq hSw; (try dsimp only at hSw); go_split_ands; go_simp <;> (with_reducible rfl); try simp only [Act.put, List.setIfInBounds_toArray, List.set_cons_zero, List.set_cons_succ]
 refine wpAnyH_take (i := 2) (v := ?_) opAt2 (by kernel_rfl) (by kernel_rfl) (by kernel_rfl) (fun _ _ _ h => h) (Or.inl ⟨by kernel_rfl, ?_⟩) (by assumption) ?_; rotate_left; intro wq hSw; (try dsimp only at hSw); go_split_ands; go_simp <;> (with_reducible rfl); try simp only [Act.put, List.setIfInBounds_toArray, List.set_cons_zero, List.set_cons_succ]
 refine wpAnyH_take (i := 3) (v := ?_) opAt3 (by kernel_rfl) (by kernel_rfl) (by kernel_rfl) (fun _ _ _ h => h) (Or.inl ⟨by kernel_rfl, ?_⟩) (by assumption) ?_; rotate_left; intro wq hSw; (try dsimp only at hSw); go_split_ands; go_simp <;> (with_reducible rfl); try simp only [Act.put, List.setIfInBounds_toArray, List.set_cons_zero, List.set_cons_succ]
 refine wpAnyH_take (i := 4) (v := ?_) opAt4 (by kernel_rfl) (by kernel_rfl) (by kernel_rfl) (fun _ _ _ h => h) (Or.inl ⟨by kernel_rfl, ?_⟩) (by assumption) ?_; rotate_left; intro wq hSw; (try dsimp only at hSw); go_split_ands; go_simp <;> (with_reducible rfl); try simp only [Act.put, List.setIfInBounds_toArray, List.set_cons_zero, List.set_cons_succ]
 refine wpAnyH_ready (rs := [5]) (by kernel_rfl) (by simp) (AllReadyH.cons opAt5 (fun K hK => ?_) AllReadyH.nil)
 go_simp
 go_at_call 24
 refine (names_any q.table q.join _).mono ?_
 rintro e w5 ⟨⟨no, ncap, rfl, hnr⟩, hb5⟩
 have hb45 : Below w4.heap.size w4 w5 := below_self (Below.refl _ _).drew hb5
 refine hK.out _ _ (HKH.out _ hb45) (fun hHeld2 => ?_)
 clear hK K
 try simp only [Act.put, List.setIfInBounds_toArray, List.set_cons_zero, List.set_cons_succ]
 have HB5 := Lib.hid (below_self HB4.out hb45)
 have hop := open_any (lcap := lcap) (ncap := ncap) (below_self H00.out HB5.out) HTR.out HTO.out hnr (by unfold namesR; split <;> simp) hll
 clear hnr hb5 l0 k1 k2
 cases hr : openR L (namesR q.table q.join) [] with
 | no y =>
  rw [hr] at hop
  have HRR : Hid (Ex.no y = R) := Lib.hid (by have := HR2.out; rw [hr] at this; exact this)
  refine wpAnyH_ready (rs := [6]) (by kernel_rfl) (by simp) (AllReadyH.cons opAt6 (fun K hK => ?_) AllReadyH.nil)
  go_simp
  go_at_call 23
  refine hop.mono ?_
  rintro e w6 ⟨hb6, rfl⟩
  exact ⟨rfl, ends_no HRR.out (below_gb (below_self HB5.out hb6))⟩
 | ok ts =>
  rw [hr] at hop
  have hr3 := HR2.out
  rw [hr] at hr3
  have HR3 : Hid ((joinB' ts q).then (bindJ ts q) = R) := Lib.hid hr3
  have hB45 := Lib.hid hb45
  clear hr3 HR2
  refine wpAnyH_ready (rs := [6]) (by kernel_rfl) (by simp) (AllReadyH.cons opAt6 (fun K hK => ?_) AllReadyH.nil)
  go_simp
  go_at_call 23
  refine hop.mono ?_
  rintro e w6 ⟨hb6, S, rfl, hS, hSw⟩
  refine hK.out _ _ (HKH.out _ (below_self hB45.out hb6)) (fun hHeld2 => ?_)
  clear hK K
  try simp only [Act.put, List.setIfInBounds_toArray, List.set_cons_zero, List.set_cons_succ]
  refine wpAnyH_take (i := 7) (v := ?_) opAt7 (by kernel_rfl) (by kernel_rfl) (by kernel_rfl) (fun _ _ _ h => h) (Or.inl ⟨by kernel_rfl, ?_⟩) (by assumption) ?_; rotate_left; intro wq hSw; (try dsimp only at hSw); go_split_ands; go_simp <;> (with_reducible rfl); try simp only [Act.put, List.setIfInBounds_toArray, List.set_cons_zero, List.set_cons_succ]
  refine wpAnyH_done (by kernel_rfl) ?_ _
  have HB6 := Lib.hid (below_self HB5.out hb6)
  have HSC := Lib.hid hS
  have hBS : Bb < S := by have := HB5.out.size; omega
  have hn6 := (HB6.out.block Bb hbl).trans HBB.out
  have f6 := Lib.frozen_of_heap hn6
  have b0 : w6.cell? ⟨Bb, 0, none⟩ = some (.string ⟨#[]⟩) := by rw [Lib.cell_of_heap hn6]; rfl
  have b1 : w6.cell? ⟨Bb, 1, none⟩ = some (.string ⟨#[]⟩) := by rw [Lib.cell_of_heap hn6]; rfl
  have k1 : w6.cell? ⟨Q, 1, none⟩ = some (.string q.table) := HCQ.out w6 HB6.out 1 _ rfl
  have k2 : w6.cell? ⟨Q, 2, none⟩ = some (.string q.join) := HCQ.out w6 HB6.out 2 _ rfl
  have HG0 : Hid (w.grownBy ((w6.setCell ⟨Bb, 0, none⟩ (.string q.table)).setCell ⟨Bb, 1, none⟩ (.string q.join)) (some Bb)) := Lib.hid (gbb_trans (gbb_trans (below_gb HB6.out) setB_gb) setB_gb)
  have HN0 : Hid (((w6.setCell ⟨Bb, 0, none⟩ (.string q.table)).setCell ⟨Bb, 1, none⟩ (.string q.join)).heap[Bb]? = some (.cells (bndC q.table q.join 0 0 0 none 0 0 none 0 0 none 0 0 false none 0 0 none 0 0) 32 (0, 0))) := Lib.hid (by simp [World.setCell, Array.getElem?_modify, hn6, bndC])
  have HS0 := Lib.hid ((HSC.out.gb (setB_gb (b := Bb) (j := 0) (v := .string q.table)) hBb hBS).gb (setB_gb (b := Bb) (j := 1) (v := .string q.join)) hBb hBS)
  have HTS : Hid (ts.length = (namesR q.table q.join).length ∧ ∀ t ∈ ts, t ∈ L) := Lib.hid ⟨openR_len hr, openR_mem hr⟩
  have HSL : Hid ((scopeR ts).length ≤ 2199023255552 ∧ ts.length ≤ 2) := Lib.hid (by
   have h2 : ts.length ≤ 2 := by rw [openR_len hr]; unfold namesR; split <;> simp
   exact ⟨Nat.le_trans (scope_len fun t ht => (HTO.out t (openR_mem hr t ht)).2.2) (by omega), h2⟩)
  have HCK : Hid (∀ c ∈ scopeR ts, 0 ≤ c.k ∧ c.k ≤ 255) := Lib.hid (by
   intro c hc
   obtain ⟨t, ht, hc⟩ := List.mem_flatMap.1 hc
   exact ((HTO.out t (openR_mem hr t ht)).2.1 c hc).2)
  have HQC := Lib.hid fun (wx : World) (hg : w.grownBy wx (some Bb)) (j : Nat) v (hv : (qryC q io icp wo wcp go gcp)[j]? = some v) => (show wx.cell? ⟨Q, j, none⟩ = some v from by
   rw [Lib.cell_of_heap ((hg.block Q (Array.getElem?_eq_some_iff.1 HQ.out).1 (by intro e; injection e; omega)).trans HQ.out)]; exact hv)
  clear hb6 hS hn6 hSw HSC HB6 hB45 HB5 HB4 hHeld hHeld2 hop hr HCQ HCL HQ HLL HBB
  go_upto_if 39 with fail
  clear k1 k2 b0 b1 f6
  generalize (w6.setCell ⟨Bb, 0, none⟩ (.string q.table)).setCell ⟨Bb, 1, none⟩ (.string q.join) = W3 at *
  have HB3 : Hid (BSt Bb W3 (bndC q.table q.join 0 0 0 none 0 0 none 0 0 none 0 0 false none 0 0 none 0 0) W3) := Lib.hid ⟨World.grownBy.refl _ _, HN0.out⟩
  have hbW3 := HB3.out.lt
  clear HN0
  go_cut [] (fun wx => ∃ wd lf rt : Int, Hid (joinB' ts q = .ok (wd, lf, rt)) ∧ Hid (BSt Bb W3 (bndC q.table q.join wd lf rt none 0 0 none 0 0 none 0 0 false none 0 0 none 0 0) wx))
  case first =>
   cases sj : q.join.toList.isEmpty with
   | true =>
    have HJ : Hid (joinB' ts q = .ok (0, 0, 0)) := Lib.hid (by unfold joinB' emptyS; rw [if_pos sj])
    go_wp2_with fail
    go_meet
    exact ⟨0, 0, 0, HJ, HB3⟩
   | false =>
    as_aux_lemma =>
     have hjt : ts.length = 2 := by have := HTS.out.1; unfold namesR emptyS at this; rw [sj] at this; exact this
     have hJ := show joinB' ts q = _ from by unfold joinB' emptyS; rw [if_neg (by rw [sj]; decide)]
     have hno : ∀ z, joinB' ts q = .no z → Ex.no z = R := fun z h => by have := HR3.out; rw [h] at this; exact this
     obtain ⟨t0, ht0⟩ : ∃ t, ts[0]? = some t := ⟨ts[0]'(by omega), List.getElem?_eq_getElem (by omega)⟩
     have hgd : ts.getD 0 ⟨⟨#[]⟩, []⟩ = t0 := by rw [List.getD_eq_getElem?_getD, ht0]; rfl
     rw [hgd] at hJ
     have hn0 : t0.cols.length ≤ 1099511627776 := (HTO.out _ (HTS.out.2 _ (List.mem_of_getElem? ht0))).2.2
     obtain ⟨ta, tc, co, cc, s0, s1, htr, hcr⟩ := HS0.out.read
     obtain ⟨tb, tf, rfl, co0, cc0, ro0, rn0, rc0, c0, c1, c2, _⟩ := htr.at ht0
     simp only [Nat.zero_mul, Nat.add_zero] at c1
     have b2 := HB3.out.cell 2 (.int .i64 0) rfl
     have f3 := HB3.out.free
     have h0l : 0 < ts.length := by omega
     generalize t0.cols.length = n0 at *
     have HJ := Lib.hid hJ
     have HNO := Lib.hid hno
     have HB4 : Hid (BSt Bb W3 (bndC q.table q.join n0 0 0 none 0 0 none 0 0 none 0 0 false none 0 0 none 0 0) (W3.setCell ⟨Bb, 2, none⟩ (.int .i64 n0))) := Lib.hid ((HB3.out.set 2 (.int .i64 n0)).eq rfl)
     have HS4 := Lib.hid (HS0.out.gb (setB_gb (b := Bb) (j := 2) (v := .int .i64 n0)) hBb hBS)
     have HG4 := Lib.hid (gbb_trans HG0.out HB4.out.gb)
     clear hjt hJ hno ht0 hgd htr hcr s1 c0 c2
     go_upto_region 6 with fail
     clear b2 f3 s0 c1 h0l
     generalize W3.setCell ⟨Bb, 2, none⟩ (.int .i64 n0) = W4 at *
     have q3 : W4.cell? ⟨Q, 3, none⟩ = some (.string q.left) := HQC.out W4 HG4.out 3 _ rfl
     have q4 : W4.cell? ⟨Q, 4, none⟩ = some (.string q.right) := HQC.out W4 HG4.out 4 _ rfl
     have HKF := Lib.hid fun (wx : World) (hb : Below W4.heap.size W4 wx) => (show wx.cell? ⟨Q, 3, none⟩ = some (.string q.left) ∧ wx.cell? ⟨Q, 4, none⟩ = some (.string q.right) from ⟨keep_cellP hb q3, keep_cellP hb q4⟩)
     have hfl := fun (wx : World) (hb : Below W4.heap.size W4 wx) => find_any (HS4.out.next hb) (HG.out.self (HBW.out wx (gbb_below HG4.out hb))) HQO.out.left (by have := HSL.out.1; omega) (by have := HSL.out.2; omega)
     have hfr := fun (wx : World) (hb : Below W4.heap.size W4 wx) => find_any (HS4.out.next hb) (HG.out.self (HBW.out wx (gbb_below HG4.out hb))) HQO.out.right (by have := HSL.out.1; omega) (by have := HSL.out.2; omega)
     cases hl : findR ts q.left with
     | no y =>
      obtain rfl := findR_14 hl
      have HRR : Hid (Ex.no 14 = R) := Lib.hid (HNO.out 14 (by rw [HJ.out, hl]; rfl))
      have HFL := Lib.hid fun wx hb => calls64_bad hl (hfl wx hb)
      clear hfl hfr hl
      refine wp_region_held_drew (S := (fun wx => wx.cell? ⟨Q, 3, none⟩ = some (.string q.left) ∧ wx.cell? ⟨Q, 4, none⟩ = some (.string q.right))) (by kernel_rfl) (HKF.out _ (Below.refl _ _).drew) (fun hHeld => ?_)
      refine wpAnyH_take (i := 0) (v := ?_) opAt0 (by kernel_rfl) (by kernel_rfl) (by kernel_rfl) (fun _ _ _ h => h) (Or.inl ⟨by kernel_rfl, ?_⟩) (by assumption) ?_; rotate_left; intro wq hSw; (try dsimp only at hSw); go_split_ands; go_simp <;> (with_reducible rfl); try simp only [Act.put, List.setIfInBounds_toArray, List.set_cons_zero, List.set_cons_succ]
      refine wpAnyH_take (i := 1) (v := ?_) opAt1 (by kernel_rfl) (by kernel_rfl) (by kernel_rfl) (fun _ _ _ h => h) (Or.inl ⟨by kernel_rfl, ?_⟩) (by assumption) ?_; rotate_left; intro wq hSw; (try dsimp only at hSw); go_split_ands; go_simp <;> (with_reducible rfl); try simp only [Act.put, List.setIfInBounds_toArray, List.set_cons_zero, List.set_cons_succ]
      refine wpAnyH_take (i := 2) (v := ?_) opAt2 (by kernel_rfl) (by kernel_rfl) (by kernel_rfl) (fun _ _ _ h => h) (Or.inl ⟨by kernel_rfl, ?_⟩) (by assumption) ?_; rotate_left; intro wq hSw; (try dsimp only at hSw); go_split_ands; go_simp <;> (with_reducible rfl); try simp only [Act.put, List.setIfInBounds_toArray, List.set_cons_zero, List.set_cons_succ]
      refine wpAnyH_take (i := 4) (v := ?_) opAt4 (by kernel_rfl) (by kernel_rfl) (by kernel_rfl) (fun _ _ _ h => h) (Or.inl ⟨by kernel_rfl, ?_⟩) (by assumption) ?_; rotate_left; intro wq hSw; (try dsimp only at hSw); go_split_ands; go_simp <;> (with_reducible rfl); try simp only [Act.put, List.setIfInBounds_toArray, List.set_cons_zero, List.set_cons_succ]
      refine wpAnyH_take (i := 5) (v := ?_) opAt5 (by kernel_rfl) (by kernel_rfl) (by kernel_rfl) (fun _ _ _ h => h) (Or.inl ⟨by kernel_rfl, ?_⟩) (by assumption) ?_; rotate_left; intro wq hSw; (try dsimp only at hSw); go_split_ands; go_simp <;> (with_reducible rfl); try simp only [Act.put, List.setIfInBounds_toArray, List.set_cons_zero, List.set_cons_succ]
      refine wpAnyH_take (i := 6) (v := ?_) opAt6 (by kernel_rfl) (by kernel_rfl) (by kernel_rfl) (fun _ _ _ h => h) (Or.inl ⟨by kernel_rfl, ?_⟩) (by assumption) ?_; rotate_left; intro wq hSw; (try dsimp only at hSw); go_split_ands; go_simp <;> (with_reducible rfl); try simp only [Act.put, List.setIfInBounds_toArray, List.set_cons_zero, List.set_cons_succ]
      refine wpAnyH_ready (rs := [3]) (by kernel_rfl) (by simp) (AllReadyH.cons opAt3 (fun K hK => ?_) AllReadyH.nil)
      go_simp
      go_at_call 25
      refine (HFL.out _ (Below.refl _ _).drew).mono ?_
      rintro e w8 ⟨rfl, hb8⟩
      have hb48 : Below W4.heap.size W4 w8 := below_self (Below.refl _ _).drew hb8
      exact ⟨rfl, ends_no HRR.out (gbb_below HG4.out hb48)⟩
     | ok x =>
      have HFL := Lib.hid fun wx hb => calls64_ok hl (hfl wx hb)
      cases hr : findR ts q.right with
      | no y =>
       obtain rfl := findR_14 hr
       have HRR : Hid (Ex.no 14 = R) := Lib.hid (HNO.out 14 (by rw [HJ.out, hl]; show (findR ts q.right).then _ = _; rw [hr]; try rfl))
       have HFR := Lib.hid fun wx hb => calls64_bad hr (hfr wx hb)
       clear hfl hfr hl hr
       refine wp_region_held_drew (S := (fun wx => wx.cell? ⟨Q, 3, none⟩ = some (.string q.left) ∧ wx.cell? ⟨Q, 4, none⟩ = some (.string q.right))) (by kernel_rfl) (HKF.out _ (Below.refl _ _).drew) (fun hHeld => ?_)
       refine wpAnyH_take (i := 0) (v := ?_) opAt0 (by kernel_rfl) (by kernel_rfl) (by kernel_rfl) (fun _ _ _ h => h) (Or.inl ⟨by kernel_rfl, ?_⟩) (by assumption) ?_; rotate_left; intro wq hSw; (try dsimp only at hSw); go_split_ands; go_simp <;> (with_reducible rfl); try simp only [Act.put, List.setIfInBounds_toArray, List.set_cons_zero, List.set_cons_succ]
       refine wpAnyH_take (i := 1) (v := ?_) opAt1 (by kernel_rfl) (by kernel_rfl) (by kernel_rfl) (fun _ _ _ h => h) (Or.inl ⟨by kernel_rfl, ?_⟩) (by assumption) ?_; rotate_left; intro wq hSw; (try dsimp only at hSw); go_split_ands; go_simp <;> (with_reducible rfl); try simp only [Act.put, List.setIfInBounds_toArray, List.set_cons_zero, List.set_cons_succ]
       refine wpAnyH_take (i := 2) (v := ?_) opAt2 (by kernel_rfl) (by kernel_rfl) (by kernel_rfl) (fun _ _ _ h => h) (Or.inl ⟨by kernel_rfl, ?_⟩) (by assumption) ?_; rotate_left; intro wq hSw; (try dsimp only at hSw); go_split_ands; go_simp <;> (with_reducible rfl); try simp only [Act.put, List.setIfInBounds_toArray, List.set_cons_zero, List.set_cons_succ]
       refine wpAnyH_take (i := 4) (v := ?_) opAt4 (by kernel_rfl) (by kernel_rfl) (by kernel_rfl) (fun _ _ _ h => h) (Or.inl ⟨by kernel_rfl, ?_⟩) (by assumption) ?_; rotate_left; intro wq hSw; (try dsimp only at hSw); go_split_ands; go_simp <;> (with_reducible rfl); try simp only [Act.put, List.setIfInBounds_toArray, List.set_cons_zero, List.set_cons_succ]
       refine wpAnyH_take (i := 5) (v := ?_) opAt5 (by kernel_rfl) (by kernel_rfl) (by kernel_rfl) (fun _ _ _ h => h) (Or.inl ⟨by kernel_rfl, ?_⟩) (by assumption) ?_; rotate_left; intro wq hSw; (try dsimp only at hSw); go_split_ands; go_simp <;> (with_reducible rfl); try simp only [Act.put, List.setIfInBounds_toArray, List.set_cons_zero, List.set_cons_succ]
       refine wpAnyH_take (i := 6) (v := ?_) opAt6 (by kernel_rfl) (by kernel_rfl) (by kernel_rfl) (fun _ _ _ h => h) (Or.inl ⟨by kernel_rfl, ?_⟩) (by assumption) ?_; rotate_left; intro wq hSw; (try dsimp only at hSw); go_split_ands; go_simp <;> (with_reducible rfl); try simp only [Act.put, List.setIfInBounds_toArray, List.set_cons_zero, List.set_cons_succ]
       refine wpAnyH_ready (rs := [3]) (by kernel_rfl) (by simp) (AllReadyH.cons opAt3 (fun K hK => ?_) AllReadyH.nil)
       go_simp
       go_at_call 25
       refine (HFL.out _ (Below.refl _ _).drew).mono ?_
       rintro e w8 ⟨rfl, hb8⟩
       have hb48 : Below W4.heap.size W4 w8 := below_self (Below.refl _ _).drew hb8
       refine hK.out _ _ (HKF.out _ hb48) (fun hHeld2 => ?_)
       clear hK K
       try simp only [Act.put, List.setIfInBounds_toArray, List.set_cons_zero, List.set_cons_succ]
       refine wpAnyH_ready (rs := [7]) (by kernel_rfl) (by simp) (AllReadyH.cons opAt7 (fun K hK => ?_) AllReadyH.nil)
       go_simp
       go_at_call 25
       refine (HFR.out _ hb48).mono ?_
       rintro e w9 ⟨rfl, hb9⟩
       have hb49 : Below W4.heap.size W4 w9 := below_self hb48 hb9
       exact ⟨rfl, ends_no HRR.out (gbb_below HG4.out hb49)⟩
      | ok y =>
       have HFR := Lib.hid fun wx hb => calls64_ok hr (hfr wx hb)
       have hJ2 := HJ.out
       rw [hl] at hJ2
       have hJ2 := hJ2.trans (show (findR ts q.right).then _ = _ by (rw [hr]; try rfl))
       have hrx := findR_range hl
       have hry := findR_range hr
       have HJ2 := Lib.hid hJ2
       clear hfl hfr hl hr hJ2 HJ
       go_cut [4, 5] from 49 to 56 (fun a b wx => a = .int .i64 x ∧ b = .int .i64 y ∧ Below W4.heap.size W4 wx)
       case first =>
        refine wp_region_held_drew (S := (fun wx => wx.cell? ⟨Q, 3, none⟩ = some (.string q.left) ∧ wx.cell? ⟨Q, 4, none⟩ = some (.string q.right))) (by kernel_rfl) (HKF.out _ (Below.refl _ _).drew) (fun hHeld => ?_)
        refine wpAnyH_take (i := 0) (v := ?_) opAt0 (by kernel_rfl) (by kernel_rfl) (by kernel_rfl) (fun _ _ _ h => h) (Or.inl ⟨by kernel_rfl, ?_⟩) (by assumption) ?_; rotate_left; intro wq hSw; (try dsimp only at hSw); go_split_ands; go_simp <;> (with_reducible rfl); try simp only [Act.put, List.setIfInBounds_toArray, List.set_cons_zero, List.set_cons_succ]
        refine wpAnyH_take (i := 1) (v := ?_) opAt1 (by kernel_rfl) (by kernel_rfl) (by kernel_rfl) (fun _ _ _ h => h) (Or.inl ⟨by kernel_rfl, ?_⟩) (by assumption) ?_; rotate_left; intro wq hSw; (try dsimp only at hSw); go_split_ands; go_simp <;> (with_reducible rfl); try simp only [Act.put, List.setIfInBounds_toArray, List.set_cons_zero, List.set_cons_succ]
        refine wpAnyH_take (i := 2) (v := ?_) opAt2 (by kernel_rfl) (by kernel_rfl) (by kernel_rfl) (fun _ _ _ h => h) (Or.inl ⟨by kernel_rfl, ?_⟩) (by assumption) ?_; rotate_left; intro wq hSw; (try dsimp only at hSw); go_split_ands; go_simp <;> (with_reducible rfl); try simp only [Act.put, List.setIfInBounds_toArray, List.set_cons_zero, List.set_cons_succ]
        refine wpAnyH_take (i := 4) (v := ?_) opAt4 (by kernel_rfl) (by kernel_rfl) (by kernel_rfl) (fun _ _ _ h => h) (Or.inl ⟨by kernel_rfl, ?_⟩) (by assumption) ?_; rotate_left; intro wq hSw; (try dsimp only at hSw); go_split_ands; go_simp <;> (with_reducible rfl); try simp only [Act.put, List.setIfInBounds_toArray, List.set_cons_zero, List.set_cons_succ]
        refine wpAnyH_take (i := 5) (v := ?_) opAt5 (by kernel_rfl) (by kernel_rfl) (by kernel_rfl) (fun _ _ _ h => h) (Or.inl ⟨by kernel_rfl, ?_⟩) (by assumption) ?_; rotate_left; intro wq hSw; (try dsimp only at hSw); go_split_ands; go_simp <;> (with_reducible rfl); try simp only [Act.put, List.setIfInBounds_toArray, List.set_cons_zero, List.set_cons_succ]
        refine wpAnyH_take (i := 6) (v := ?_) opAt6 (by kernel_rfl) (by kernel_rfl) (by kernel_rfl) (fun _ _ _ h => h) (Or.inl ⟨by kernel_rfl, ?_⟩) (by assumption) ?_; rotate_left; intro wq hSw; (try dsimp only at hSw); go_split_ands; go_simp <;> (with_reducible rfl); try simp only [Act.put, List.setIfInBounds_toArray, List.set_cons_zero, List.set_cons_succ]
        refine wpAnyH_ready (rs := [3]) (by kernel_rfl) (by simp) (AllReadyH.cons opAt3 (fun K hK => ?_) AllReadyH.nil)
        go_simp
        go_at_call 25
        refine (HFL.out _ (Below.refl _ _).drew).mono ?_
        rintro e w8 ⟨rfl, hb8⟩
        have hb48 : Below W4.heap.size W4 w8 := below_self (Below.refl _ _).drew hb8
        refine hK.out _ _ (HKF.out _ hb48) (fun hHeld2 => ?_)
        clear hK K
        try simp only [Act.put, List.setIfInBounds_toArray, List.set_cons_zero, List.set_cons_succ]
        refine wpAnyH_ready (rs := [7]) (by kernel_rfl) (by simp) (AllReadyH.cons opAt7 (fun K hK => ?_) AllReadyH.nil)
        go_simp
        go_at_call 25
        refine (HFR.out _ hb48).mono ?_
        rintro e w9 ⟨rfl, hb9⟩
        have hb49 : Below W4.heap.size W4 w9 := below_self hb48 hb9
        refine hK.out _ _ (HKF.out _ hb49) (fun hHeld2 => ?_)
        clear hK K
        try simp only [Act.put, List.setIfInBounds_toArray, List.set_cons_zero, List.set_cons_succ]
        refine wpAnyH_take (i := 8) (v := ?_) opAt8 (by kernel_rfl) (by kernel_rfl) (by kernel_rfl) (fun _ _ _ h => h) (Or.inl ⟨by kernel_rfl, ?_⟩) (by assumption) ?_; rotate_left; intro wq hSw; (try dsimp only at hSw); go_split_ands; go_simp <;> (with_reducible rfl); try simp only [Act.put, List.setIfInBounds_toArray, List.set_cons_zero, List.set_cons_succ]
        refine wpAnyH_take (i := 9) (v := ?_) opAt9 (by kernel_rfl) (by kernel_rfl) (by kernel_rfl) (fun _ _ _ h => h) (Or.inl ⟨by kernel_rfl, ?_⟩) (by assumption) ?_; rotate_left; intro wq hSw; (try dsimp only at hSw); go_split_ands; go_simp <;> (with_reducible rfl); try simp only [Act.put, List.setIfInBounds_toArray, List.set_cons_zero, List.set_cons_succ]
        refine wpAnyH_done (by kernel_rfl) ?_ _
        go_wp2_with fail
        go_meet
        exact ⟨rfl, rfl, hb49⟩
       case rest =>
       obtain ⟨rfl, rfl, hb5⟩ := hcut
       generalize hwx : wc = W5 at *
       clear hwx
       have HB5 := Lib.hid (HB4.out.next hb5)
       have HS5 := Lib.hid (HS4.out.next hb5)
       have HG5 := Lib.hid (gbb_below HG4.out hb5)
       obtain ⟨X, hX⟩ : ∃ X : Nat, min x y = X := ⟨(min x y).toNat, by omega⟩
       obtain ⟨Y, hY⟩ : ∃ Y : Nat, max x y = Y := ⟨(max x y).toNat, by omega⟩
       have hXn : X < (scopeR ts).length := by omega
       have hYn : Y < (scopeR ts).length := by omega
       obtain ⟨ca, hca⟩ : ∃ c, (scopeR ts)[X]? = some c := ⟨_, List.getElem?_eq_getElem hXn⟩
       obtain ⟨cb_, hcb⟩ : ∃ c, (scopeR ts)[Y]? = some c := ⟨_, List.getElem?_eq_getElem hYn⟩
       have hJ3 : joinB' ts q = if (X : Int) < n0 ∧ (n0 : Int) ≤ Y ∧ ca.k = cb_.k then .ok ((n0 : Int), (X : Int), (Y : Int) - n0) else .no 5 := by
        refine HJ2.out.trans ?_
        simp only [Ex.then, hX, hY, Int.toNat_natCast, List.getD_eq_getElem?_getD, hca, hcb, Option.getD_some]
       obtain ⟨ta, tc, co, cc, s0, s1, htr, hcr⟩ := HS5.out.read
       obtain ⟨cb, cf, rfl, a0, a1⟩ := hcr.at hca
       obtain ⟨cb', cf', hcc, e0, e1⟩ := hcr.at hcb
       injection hcc with hcc
       injection hcc with hc1 hc2
       subst hc1 hc2
       have hmin : ∀ W, (Builtin.min_ #[3, 3] 3 #[.int .i64 x, .int .i64 y]).run Tryz.prog W = .ok (.int .i64 X) W := fun W => by
        rw [← hX]
        simp [Builtin.min_, Builtin.min2, go_sem]
        try omega
       have hmax : ∀ W, (Builtin.max_ #[3, 3] 3 #[.int .i64 x, .int .i64 y]).run Tryz.prog W = .ok (.int .i64 Y) W := fun W => by
        rw [← hY]
        simp [Builtin.max_, Builtin.max2, go_sem]
        try omega
       have b2 : W5.cell? ⟨Bb, 2, none⟩ = some (.int .i64 n0) := HB5.out.cell 2 _ rfl
       generalize ca.k = ka at *
       generalize cb_.k = kb at *
       have HKX := Lib.hid fun (wx : World) (hb : Below W5.heap.size W5 wx) => (show wx.cell? ⟨Bb, 2, none⟩ = some (.int .i64 n0) ∧ wx.cell? ⟨S, 1, none⟩ = some (.slice (some ⟨cb, cf, none⟩) (scopeR ts).length cc) ∧ wx.cell? ⟨cb, cf + X * 2 + 1, none⟩ = some (.int .u8 ka) ∧ wx.cell? ⟨cb, cf + Y * 2 + 1, none⟩ = some (.int .u8 kb) from ⟨keep_cellP hb b2, keep_cellP hb s1, keep_cellP hb a1, keep_cellP hb e1⟩)
       have HJ3 := Lib.hid hJ3
       clear hJ3 hca hcb HJ2 s0 htr hcr a0 a1 e0 e1 s1 b2 q3 q4 hX hY hrx hry
       go_upto_region 8 with fail
       clear hmin hmax
       by_cases hc1 : X < n0
       rotate_left
       ·
        have HRR : Hid (Ex.no 5 = R) := Lib.hid (HNO.out 5 (HJ3.out.trans (if_neg (by omega))))
        refine wp_region_held_drew (S := (fun wx => wx.cell? ⟨Bb, 2, none⟩ = some (.int .i64 n0) ∧ wx.cell? ⟨S, 1, none⟩ = some (.slice (some ⟨cb, cf, none⟩) (scopeR ts).length cc) ∧ wx.cell? ⟨cb, cf + X * 2 + 1, none⟩ = some (.int .u8 ka) ∧ wx.cell? ⟨cb, cf + Y * 2 + 1, none⟩ = some (.int .u8 kb))) (by kernel_rfl) (HKX.out _ (Below.refl _ _).drew) (fun hHeld => ?_)
        refine wpAnyH_take (i := 0) (v := ?_) opAt0 (by kernel_rfl) (by kernel_rfl) (by kernel_rfl) (fun _ _ _ h => h) (Or.inl ⟨by kernel_rfl, ?_⟩) (by assumption) ?_; rotate_left; intro wq hSw; (try dsimp only at hSw); go_split_ands; go_simp <;> (with_reducible rfl); try simp only [Act.put, List.setIfInBounds_toArray, List.set_cons_zero, List.set_cons_succ]
        refine wpAnyH_take (i := 1) (v := ?_) opAt1 (by kernel_rfl) (by kernel_rfl) (by kernel_rfl) (fun _ _ _ h => h) (Or.inl ⟨by kernel_rfl, ?_⟩) (by assumption) ?_; rotate_left; intro wq hSw; (try dsimp only at hSw); go_split_ands; go_simp <;> (with_reducible rfl); try simp only [Act.put, List.setIfInBounds_toArray, List.set_cons_zero, List.set_cons_succ]
        refine wpAnyH_take (i := 2) (v := ?_) opAt2 (by kernel_rfl) (by kernel_rfl) (by kernel_rfl) (fun _ _ _ h => h) (Or.inl ⟨by kernel_rfl, ?_⟩) (by assumption) ?_; rotate_left; intro wq hSw; (try dsimp only at hSw); go_split_ands; go_simp <;> (with_reducible rfl); try simp only [Act.put, List.setIfInBounds_toArray, List.set_cons_zero, List.set_cons_succ]
        refine wpAnyH_take (i := 3) (v := ?_) opAt3 (by kernel_rfl) (by kernel_rfl) (by kernel_rfl) (fun _ _ _ h => h) (Or.inl ⟨by kernel_rfl, ?_⟩) (by assumption) ?_; rotate_left; intro wq hSw; (try dsimp only at hSw); go_split_ands; go_simp <;> (with_reducible rfl); try simp only [Act.put, List.setIfInBounds_toArray, List.set_cons_zero, List.set_cons_succ]
        refine wpAnyH_take (i := 4) (v := ?_) opAt4 (by kernel_rfl) (by kernel_rfl) (by kernel_rfl) (fun _ _ _ h => h) (Or.inl ⟨by kernel_rfl, ?_⟩) (by assumption) ?_; rotate_left; intro wq hSw; (try dsimp only at hSw); go_split_ands; go_simp <;> (with_reducible rfl); try simp only [Act.put, List.setIfInBounds_toArray, List.set_cons_zero, List.set_cons_succ]
        refine wpAnyH_take (i := 5) (v := undef) opAt5 (by kernel_rfl) (by kernel_rfl) (by kernel_rfl) (fun _ _ _ h => h) (Or.inr ⟨by kernel_rfl, rfl⟩) (by assumption) ?_; try simp only [Act.put, List.setIfInBounds_toArray, List.set_cons_zero, List.set_cons_succ]
        refine wpAnyH_take (i := 6) (v := undef) opAt6 (by kernel_rfl) (by kernel_rfl) (by kernel_rfl) (fun _ _ _ h => h) (Or.inr ⟨by kernel_rfl, rfl⟩) (by assumption) ?_; try simp only [Act.put, List.setIfInBounds_toArray, List.set_cons_zero, List.set_cons_succ]
        refine wpAnyH_take (i := 7) (v := undef) opAt7 (by kernel_rfl) (by kernel_rfl) (by kernel_rfl) (fun _ _ _ h => h) (Or.inr ⟨by kernel_rfl, rfl⟩) (by assumption) ?_; try simp only [Act.put, List.setIfInBounds_toArray, List.set_cons_zero, List.set_cons_succ]
        refine wpAnyH_take (i := 8) (v := undef) opAt8 (by kernel_rfl) (by kernel_rfl) (by kernel_rfl) (fun _ _ _ h => h) (Or.inr ⟨by kernel_rfl, rfl⟩) (by assumption) ?_; try simp only [Act.put, List.setIfInBounds_toArray, List.set_cons_zero, List.set_cons_succ]
        refine wpAnyH_take (i := 9) (v := ?_) opAt9 (by kernel_rfl) (by kernel_rfl) (by kernel_rfl) (fun _ _ _ h => h) (Or.inl ⟨by kernel_rfl, ?_⟩) (by assumption) ?_; rotate_left; intro wq hSw; (try dsimp only at hSw); go_split_ands; go_simp <;> (with_reducible rfl); try simp only [Act.put, List.setIfInBounds_toArray, List.set_cons_zero, List.set_cons_succ]
        refine wpAnyH_take (i := 10) (v := ?_) opAt10 (by kernel_rfl) (by kernel_rfl) (by kernel_rfl) (fun _ _ _ h => h) (Or.inl ⟨by kernel_rfl, ?_⟩) (by assumption) ?_; rotate_left; intro wq hSw; (try dsimp only at hSw); go_split_ands; go_simp <;> (with_reducible rfl); try simp only [Act.put, List.setIfInBounds_toArray, List.set_cons_zero, List.set_cons_succ]
        refine wpAnyH_take (i := 11) (v := undef) opAt11 (by kernel_rfl) (by kernel_rfl) (by kernel_rfl) (fun _ _ _ h => h) (Or.inr ⟨by kernel_rfl, rfl⟩) (by assumption) ?_; try simp only [Act.put, List.setIfInBounds_toArray, List.set_cons_zero, List.set_cons_succ]
        refine wpAnyH_take (i := 12) (v := undef) opAt12 (by kernel_rfl) (by kernel_rfl) (by kernel_rfl) (fun _ _ _ h => h) (Or.inr ⟨by kernel_rfl, rfl⟩) (by assumption) ?_; try simp only [Act.put, List.setIfInBounds_toArray, List.set_cons_zero, List.set_cons_succ]
        refine wpAnyH_take (i := 13) (v := undef) opAt13 (by kernel_rfl) (by kernel_rfl) (by kernel_rfl) (fun _ _ _ h => h) (Or.inr ⟨by kernel_rfl, rfl⟩) (by assumption) ?_; try simp only [Act.put, List.setIfInBounds_toArray, List.set_cons_zero, List.set_cons_succ]
        refine wpAnyH_take (i := 14) (v := undef) opAt14 (by kernel_rfl) (by kernel_rfl) (by kernel_rfl) (fun _ _ _ h => h) (Or.inr ⟨by kernel_rfl, rfl⟩) (by assumption) ?_; try simp only [Act.put, List.setIfInBounds_toArray, List.set_cons_zero, List.set_cons_succ]
        refine wpAnyH_take (i := 15) (v := undef) opAt15 (by kernel_rfl) (by kernel_rfl) (by kernel_rfl) (fun _ _ _ h => h) (Or.inr ⟨by kernel_rfl, rfl⟩) (by assumption) ?_; try simp only [Act.put, List.setIfInBounds_toArray, List.set_cons_zero, List.set_cons_succ]
        refine wpAnyH_take (i := 16) (v := undef) opAt16 (by kernel_rfl) (by kernel_rfl) (by kernel_rfl) (fun _ _ _ h => h) (Or.inr ⟨by kernel_rfl, rfl⟩) (by assumption) ?_; try simp only [Act.put, List.setIfInBounds_toArray, List.set_cons_zero, List.set_cons_succ]
        refine wpAnyH_take (i := 17) (v := undef) opAt17 (by kernel_rfl) (by kernel_rfl) (by kernel_rfl) (fun _ _ _ h => h) (Or.inr ⟨by kernel_rfl, rfl⟩) (by assumption) ?_; try simp only [Act.put, List.setIfInBounds_toArray, List.set_cons_zero, List.set_cons_succ]
        refine wpAnyH_take (i := 18) (v := undef) opAt18 (by kernel_rfl) (by kernel_rfl) (by kernel_rfl) (fun _ _ _ h => h) (Or.inr ⟨by kernel_rfl, rfl⟩) (by assumption) ?_; try simp only [Act.put, List.setIfInBounds_toArray, List.set_cons_zero, List.set_cons_succ]
        refine wpAnyH_take (i := 19) (v := undef) opAt19 (by kernel_rfl) (by kernel_rfl) (by kernel_rfl) (fun _ _ _ h => h) (Or.inr ⟨by kernel_rfl, rfl⟩) (by assumption) ?_; try simp only [Act.put, List.setIfInBounds_toArray, List.set_cons_zero, List.set_cons_succ]
        refine wpAnyH_take (i := 20) (v := undef) opAt20 (by kernel_rfl) (by kernel_rfl) (by kernel_rfl) (fun _ _ _ h => h) (Or.inr ⟨by kernel_rfl, rfl⟩) (by assumption) ?_; try simp only [Act.put, List.setIfInBounds_toArray, List.set_cons_zero, List.set_cons_succ]
        refine wpAnyH_take (i := 21) (v := undef) opAt21 (by kernel_rfl) (by kernel_rfl) (by kernel_rfl) (fun _ _ _ h => h) (Or.inr ⟨by kernel_rfl, rfl⟩) (by assumption) ?_; try simp only [Act.put, List.setIfInBounds_toArray, List.set_cons_zero, List.set_cons_succ]
        refine wpAnyH_take (i := 22) (v := undef) opAt22 (by kernel_rfl) (by kernel_rfl) (by kernel_rfl) (fun _ _ _ h => h) (Or.inr ⟨by kernel_rfl, rfl⟩) (by assumption) ?_; try simp only [Act.put, List.setIfInBounds_toArray, List.set_cons_zero, List.set_cons_succ]
        refine wpAnyH_take (i := 23) (v := undef) opAt23 (by kernel_rfl) (by kernel_rfl) (by kernel_rfl) (fun _ _ _ h => h) (Or.inr ⟨by kernel_rfl, rfl⟩) (by assumption) ?_; try simp only [Act.put, List.setIfInBounds_toArray, List.set_cons_zero, List.set_cons_succ]
        refine wpAnyH_take (i := 24) (v := undef) opAt24 (by kernel_rfl) (by kernel_rfl) (by kernel_rfl) (fun _ _ _ h => h) (Or.inr ⟨by kernel_rfl, rfl⟩) (by assumption) ?_; try simp only [Act.put, List.setIfInBounds_toArray, List.set_cons_zero, List.set_cons_succ]
        refine wpAnyH_take (i := 25) (v := undef) opAt25 (by kernel_rfl) (by kernel_rfl) (by kernel_rfl) (fun _ _ _ h => h) (Or.inr ⟨by kernel_rfl, rfl⟩) (by assumption) ?_; try simp only [Act.put, List.setIfInBounds_toArray, List.set_cons_zero, List.set_cons_succ]
        refine wpAnyH_take (i := 26) (v := undef) opAt26 (by kernel_rfl) (by kernel_rfl) (by kernel_rfl) (fun _ _ _ h => h) (Or.inr ⟨by kernel_rfl, rfl⟩) (by assumption) ?_; try simp only [Act.put, List.setIfInBounds_toArray, List.set_cons_zero, List.set_cons_succ]
        refine wpAnyH_take (i := 27) (v := undef) opAt27 (by kernel_rfl) (by kernel_rfl) (by kernel_rfl) (fun _ _ _ h => h) (Or.inr ⟨by kernel_rfl, rfl⟩) (by assumption) ?_; try simp only [Act.put, List.setIfInBounds_toArray, List.set_cons_zero, List.set_cons_succ]
        refine wpAnyH_take (i := 28) (v := ?_) opAt28 (by kernel_rfl) (by kernel_rfl) (by kernel_rfl) (fun _ _ _ h => h) (Or.inl ⟨by kernel_rfl, ?_⟩) (by assumption) ?_; rotate_left; intro wq hSw; (try dsimp only at hSw); go_split_ands; go_simp <;> (with_reducible rfl); try simp only [Act.put, List.setIfInBounds_toArray, List.set_cons_zero, List.set_cons_succ]
        refine wpAnyH_ready (rs := [29]) (by kernel_rfl) (by simp) (AllReadyH.cons opAt29 (fun K hK => ?_) AllReadyH.nil)
        go_simp
        go_at_call 26
        refine (HNM.out _ _ _ (by first | (simp; done) | (simp; omega))).mono ?_
        rintro e w9 ⟨rfl, rfl⟩
        exact ⟨rfl, ends_no HRR.out (gbb_below HG5.out (Below.refl _ _).drew)⟩
       by_cases hc2 : n0 ≤ Y
       rotate_left
       ·
        have HRR : Hid (Ex.no 5 = R) := Lib.hid (HNO.out 5 (HJ3.out.trans (if_neg (by omega))))
        refine wp_region_held_drew (S := (fun wx => wx.cell? ⟨Bb, 2, none⟩ = some (.int .i64 n0) ∧ wx.cell? ⟨S, 1, none⟩ = some (.slice (some ⟨cb, cf, none⟩) (scopeR ts).length cc) ∧ wx.cell? ⟨cb, cf + X * 2 + 1, none⟩ = some (.int .u8 ka) ∧ wx.cell? ⟨cb, cf + Y * 2 + 1, none⟩ = some (.int .u8 kb))) (by kernel_rfl) (HKX.out _ (Below.refl _ _).drew) (fun hHeld => ?_)
        refine wpAnyH_take (i := 0) (v := ?_) opAt0 (by kernel_rfl) (by kernel_rfl) (by kernel_rfl) (fun _ _ _ h => h) (Or.inl ⟨by kernel_rfl, ?_⟩) (by assumption) ?_; rotate_left; intro wq hSw; (try dsimp only at hSw); go_split_ands; go_simp <;> (with_reducible rfl); try simp only [Act.put, List.setIfInBounds_toArray, List.set_cons_zero, List.set_cons_succ]
        refine wpAnyH_take (i := 1) (v := ?_) opAt1 (by kernel_rfl) (by kernel_rfl) (by kernel_rfl) (fun _ _ _ h => h) (Or.inl ⟨by kernel_rfl, ?_⟩) (by assumption) ?_; rotate_left; intro wq hSw; (try dsimp only at hSw); go_split_ands; go_simp <;> (with_reducible rfl); try simp only [Act.put, List.setIfInBounds_toArray, List.set_cons_zero, List.set_cons_succ]
        refine wpAnyH_take (i := 2) (v := ?_) opAt2 (by kernel_rfl) (by kernel_rfl) (by kernel_rfl) (fun _ _ _ h => h) (Or.inl ⟨by kernel_rfl, ?_⟩) (by assumption) ?_; rotate_left; intro wq hSw; (try dsimp only at hSw); go_split_ands; go_simp <;> (with_reducible rfl); try simp only [Act.put, List.setIfInBounds_toArray, List.set_cons_zero, List.set_cons_succ]
        refine wpAnyH_take (i := 3) (v := ?_) opAt3 (by kernel_rfl) (by kernel_rfl) (by kernel_rfl) (fun _ _ _ h => h) (Or.inl ⟨by kernel_rfl, ?_⟩) (by assumption) ?_; rotate_left; intro wq hSw; (try dsimp only at hSw); go_split_ands; go_simp <;> (with_reducible rfl); try simp only [Act.put, List.setIfInBounds_toArray, List.set_cons_zero, List.set_cons_succ]
        refine wpAnyH_take (i := 4) (v := ?_) opAt4 (by kernel_rfl) (by kernel_rfl) (by kernel_rfl) (fun _ _ _ h => h) (Or.inl ⟨by kernel_rfl, ?_⟩) (by assumption) ?_; rotate_left; intro wq hSw; (try dsimp only at hSw); go_split_ands; go_simp <;> (with_reducible rfl); try simp only [Act.put, List.setIfInBounds_toArray, List.set_cons_zero, List.set_cons_succ]
        refine wpAnyH_take (i := 5) (v := ?_) opAt5 (by kernel_rfl) (by kernel_rfl) (by kernel_rfl) (fun _ _ _ h => h) (Or.inl ⟨by kernel_rfl, ?_⟩) (by assumption) ?_; rotate_left; intro wq hSw; (try dsimp only at hSw); go_split_ands; go_simp <;> (with_reducible rfl); try simp only [Act.put, List.setIfInBounds_toArray, List.set_cons_zero, List.set_cons_succ]
        refine wpAnyH_take (i := 6) (v := ?_) opAt6 (by kernel_rfl) (by kernel_rfl) (by kernel_rfl) (fun _ _ _ h => h) (Or.inl ⟨by kernel_rfl, ?_⟩) (by assumption) ?_; rotate_left; intro wq hSw; (try dsimp only at hSw); go_split_ands; go_simp <;> (with_reducible rfl); try simp only [Act.put, List.setIfInBounds_toArray, List.set_cons_zero, List.set_cons_succ]
        refine wpAnyH_take (i := 7) (v := ?_) opAt7 (by kernel_rfl) (by kernel_rfl) (by kernel_rfl) (fun _ _ _ h => h) (Or.inl ⟨by kernel_rfl, ?_⟩) (by assumption) ?_; rotate_left; intro wq hSw; (try dsimp only at hSw); go_split_ands; go_simp <;> (with_reducible rfl); try simp only [Act.put, List.setIfInBounds_toArray, List.set_cons_zero, List.set_cons_succ]
        refine wpAnyH_take (i := 8) (v := ?_) opAt8 (by kernel_rfl) (by kernel_rfl) (by kernel_rfl) (fun _ _ _ h => h) (Or.inl ⟨by kernel_rfl, ?_⟩) (by assumption) ?_; rotate_left; intro wq hSw; (try dsimp only at hSw); go_split_ands; go_simp <;> (with_reducible rfl); try simp only [Act.put, List.setIfInBounds_toArray, List.set_cons_zero, List.set_cons_succ]
        refine wpAnyH_take (i := 9) (v := ?_) opAt9 (by kernel_rfl) (by kernel_rfl) (by kernel_rfl) (fun _ _ _ h => h) (Or.inl ⟨by kernel_rfl, ?_⟩) (by assumption) ?_; rotate_left; intro wq hSw; (try dsimp only at hSw); go_split_ands; go_simp <;> (with_reducible rfl); try simp only [Act.put, List.setIfInBounds_toArray, List.set_cons_zero, List.set_cons_succ]
        refine wpAnyH_take (i := 10) (v := ?_) opAt10 (by kernel_rfl) (by kernel_rfl) (by kernel_rfl) (fun _ _ _ h => h) (Or.inl ⟨by kernel_rfl, ?_⟩) (by assumption) ?_; rotate_left; intro wq hSw; (try dsimp only at hSw); go_split_ands; go_simp <;> (with_reducible rfl); try simp only [Act.put, List.setIfInBounds_toArray, List.set_cons_zero, List.set_cons_succ]
        refine wpAnyH_take (i := 11) (v := undef) opAt11 (by kernel_rfl) (by kernel_rfl) (by kernel_rfl) (fun _ _ _ h => h) (Or.inr ⟨by kernel_rfl, rfl⟩) (by assumption) ?_; try simp only [Act.put, List.setIfInBounds_toArray, List.set_cons_zero, List.set_cons_succ]
        refine wpAnyH_take (i := 12) (v := undef) opAt12 (by kernel_rfl) (by kernel_rfl) (by kernel_rfl) (fun _ _ _ h => h) (Or.inr ⟨by kernel_rfl, rfl⟩) (by assumption) ?_; try simp only [Act.put, List.setIfInBounds_toArray, List.set_cons_zero, List.set_cons_succ]
        refine wpAnyH_take (i := 13) (v := undef) opAt13 (by kernel_rfl) (by kernel_rfl) (by kernel_rfl) (fun _ _ _ h => h) (Or.inr ⟨by kernel_rfl, rfl⟩) (by assumption) ?_; try simp only [Act.put, List.setIfInBounds_toArray, List.set_cons_zero, List.set_cons_succ]
        refine wpAnyH_take (i := 14) (v := undef) opAt14 (by kernel_rfl) (by kernel_rfl) (by kernel_rfl) (fun _ _ _ h => h) (Or.inr ⟨by kernel_rfl, rfl⟩) (by assumption) ?_; try simp only [Act.put, List.setIfInBounds_toArray, List.set_cons_zero, List.set_cons_succ]
        refine wpAnyH_take (i := 15) (v := undef) opAt15 (by kernel_rfl) (by kernel_rfl) (by kernel_rfl) (fun _ _ _ h => h) (Or.inr ⟨by kernel_rfl, rfl⟩) (by assumption) ?_; try simp only [Act.put, List.setIfInBounds_toArray, List.set_cons_zero, List.set_cons_succ]
        refine wpAnyH_take (i := 16) (v := undef) opAt16 (by kernel_rfl) (by kernel_rfl) (by kernel_rfl) (fun _ _ _ h => h) (Or.inr ⟨by kernel_rfl, rfl⟩) (by assumption) ?_; try simp only [Act.put, List.setIfInBounds_toArray, List.set_cons_zero, List.set_cons_succ]
        refine wpAnyH_take (i := 17) (v := undef) opAt17 (by kernel_rfl) (by kernel_rfl) (by kernel_rfl) (fun _ _ _ h => h) (Or.inr ⟨by kernel_rfl, rfl⟩) (by assumption) ?_; try simp only [Act.put, List.setIfInBounds_toArray, List.set_cons_zero, List.set_cons_succ]
        refine wpAnyH_take (i := 18) (v := undef) opAt18 (by kernel_rfl) (by kernel_rfl) (by kernel_rfl) (fun _ _ _ h => h) (Or.inr ⟨by kernel_rfl, rfl⟩) (by assumption) ?_; try simp only [Act.put, List.setIfInBounds_toArray, List.set_cons_zero, List.set_cons_succ]
        refine wpAnyH_take (i := 19) (v := undef) opAt19 (by kernel_rfl) (by kernel_rfl) (by kernel_rfl) (fun _ _ _ h => h) (Or.inr ⟨by kernel_rfl, rfl⟩) (by assumption) ?_; try simp only [Act.put, List.setIfInBounds_toArray, List.set_cons_zero, List.set_cons_succ]
        refine wpAnyH_take (i := 20) (v := undef) opAt20 (by kernel_rfl) (by kernel_rfl) (by kernel_rfl) (fun _ _ _ h => h) (Or.inr ⟨by kernel_rfl, rfl⟩) (by assumption) ?_; try simp only [Act.put, List.setIfInBounds_toArray, List.set_cons_zero, List.set_cons_succ]
        refine wpAnyH_take (i := 21) (v := undef) opAt21 (by kernel_rfl) (by kernel_rfl) (by kernel_rfl) (fun _ _ _ h => h) (Or.inr ⟨by kernel_rfl, rfl⟩) (by assumption) ?_; try simp only [Act.put, List.setIfInBounds_toArray, List.set_cons_zero, List.set_cons_succ]
        refine wpAnyH_take (i := 22) (v := undef) opAt22 (by kernel_rfl) (by kernel_rfl) (by kernel_rfl) (fun _ _ _ h => h) (Or.inr ⟨by kernel_rfl, rfl⟩) (by assumption) ?_; try simp only [Act.put, List.setIfInBounds_toArray, List.set_cons_zero, List.set_cons_succ]
        refine wpAnyH_take (i := 23) (v := undef) opAt23 (by kernel_rfl) (by kernel_rfl) (by kernel_rfl) (fun _ _ _ h => h) (Or.inr ⟨by kernel_rfl, rfl⟩) (by assumption) ?_; try simp only [Act.put, List.setIfInBounds_toArray, List.set_cons_zero, List.set_cons_succ]
        refine wpAnyH_take (i := 24) (v := undef) opAt24 (by kernel_rfl) (by kernel_rfl) (by kernel_rfl) (fun _ _ _ h => h) (Or.inr ⟨by kernel_rfl, rfl⟩) (by assumption) ?_; try simp only [Act.put, List.setIfInBounds_toArray, List.set_cons_zero, List.set_cons_succ]
        refine wpAnyH_take (i := 25) (v := undef) opAt25 (by kernel_rfl) (by kernel_rfl) (by kernel_rfl) (fun _ _ _ h => h) (Or.inr ⟨by kernel_rfl, rfl⟩) (by assumption) ?_; try simp only [Act.put, List.setIfInBounds_toArray, List.set_cons_zero, List.set_cons_succ]
        refine wpAnyH_take (i := 26) (v := undef) opAt26 (by kernel_rfl) (by kernel_rfl) (by kernel_rfl) (fun _ _ _ h => h) (Or.inr ⟨by kernel_rfl, rfl⟩) (by assumption) ?_; try simp only [Act.put, List.setIfInBounds_toArray, List.set_cons_zero, List.set_cons_succ]
        refine wpAnyH_take (i := 27) (v := undef) opAt27 (by kernel_rfl) (by kernel_rfl) (by kernel_rfl) (fun _ _ _ h => h) (Or.inr ⟨by kernel_rfl, rfl⟩) (by assumption) ?_; try simp only [Act.put, List.setIfInBounds_toArray, List.set_cons_zero, List.set_cons_succ]
        refine wpAnyH_take (i := 28) (v := ?_) opAt28 (by kernel_rfl) (by kernel_rfl) (by kernel_rfl) (fun _ _ _ h => h) (Or.inl ⟨by kernel_rfl, ?_⟩) (by assumption) ?_; rotate_left; intro wq hSw; (try dsimp only at hSw); go_split_ands; go_simp <;> (with_reducible rfl); try simp only [Act.put, List.setIfInBounds_toArray, List.set_cons_zero, List.set_cons_succ]
        refine wpAnyH_ready (rs := [29]) (by kernel_rfl) (by simp) (AllReadyH.cons opAt29 (fun K hK => ?_) AllReadyH.nil)
        go_simp
        go_at_call 26
        refine (HNM.out _ _ _ (by first | (simp; done) | (simp; omega))).mono ?_
        rintro e w9 ⟨rfl, rfl⟩
        exact ⟨rfl, ends_no HRR.out (gbb_below HG5.out (Below.refl _ _).drew)⟩
       cases hk : (ka == kb) with
       | false =>
        have HRR : Hid (Ex.no 5 = R) := Lib.hid (HNO.out 5 (HJ3.out.trans (if_neg fun h => (beq_eq_false_iff_ne.1 hk) h.2.2)))
        refine wp_region_held_drew (S := (fun wx => wx.cell? ⟨Bb, 2, none⟩ = some (.int .i64 n0) ∧ wx.cell? ⟨S, 1, none⟩ = some (.slice (some ⟨cb, cf, none⟩) (scopeR ts).length cc) ∧ wx.cell? ⟨cb, cf + X * 2 + 1, none⟩ = some (.int .u8 ka) ∧ wx.cell? ⟨cb, cf + Y * 2 + 1, none⟩ = some (.int .u8 kb))) (by kernel_rfl) (HKX.out _ (Below.refl _ _).drew) (fun hHeld => ?_)
        refine wpAnyH_take (i := 0) (v := ?_) opAt0 (by kernel_rfl) (by kernel_rfl) (by kernel_rfl) (fun _ _ _ h => h) (Or.inl ⟨by kernel_rfl, ?_⟩) (by assumption) ?_; rotate_left; intro wq hSw; (try dsimp only at hSw); go_split_ands; go_simp <;> (with_reducible rfl); try simp only [Act.put, List.setIfInBounds_toArray, List.set_cons_zero, List.set_cons_succ]
        refine wpAnyH_take (i := 1) (v := ?_) opAt1 (by kernel_rfl) (by kernel_rfl) (by kernel_rfl) (fun _ _ _ h => h) (Or.inl ⟨by kernel_rfl, ?_⟩) (by assumption) ?_; rotate_left; intro wq hSw; (try dsimp only at hSw); go_split_ands; go_simp <;> (with_reducible rfl); try simp only [Act.put, List.setIfInBounds_toArray, List.set_cons_zero, List.set_cons_succ]
        refine wpAnyH_take (i := 2) (v := ?_) opAt2 (by kernel_rfl) (by kernel_rfl) (by kernel_rfl) (fun _ _ _ h => h) (Or.inl ⟨by kernel_rfl, ?_⟩) (by assumption) ?_; rotate_left; intro wq hSw; (try dsimp only at hSw); go_split_ands; go_simp <;> (with_reducible rfl); try simp only [Act.put, List.setIfInBounds_toArray, List.set_cons_zero, List.set_cons_succ]
        refine wpAnyH_take (i := 3) (v := ?_) opAt3 (by kernel_rfl) (by kernel_rfl) (by kernel_rfl) (fun _ _ _ h => h) (Or.inl ⟨by kernel_rfl, ?_⟩) (by assumption) ?_; rotate_left; intro wq hSw; (try dsimp only at hSw); go_split_ands; go_simp <;> (with_reducible rfl); try simp only [Act.put, List.setIfInBounds_toArray, List.set_cons_zero, List.set_cons_succ]
        refine wpAnyH_take (i := 4) (v := ?_) opAt4 (by kernel_rfl) (by kernel_rfl) (by kernel_rfl) (fun _ _ _ h => h) (Or.inl ⟨by kernel_rfl, ?_⟩) (by assumption) ?_; rotate_left; intro wq hSw; (try dsimp only at hSw); go_split_ands; go_simp <;> (with_reducible rfl); try simp only [Act.put, List.setIfInBounds_toArray, List.set_cons_zero, List.set_cons_succ]
        refine wpAnyH_take (i := 5) (v := ?_) opAt5 (by kernel_rfl) (by kernel_rfl) (by kernel_rfl) (fun _ _ _ h => h) (Or.inl ⟨by kernel_rfl, ?_⟩) (by assumption) ?_; rotate_left; intro wq hSw; (try dsimp only at hSw); go_split_ands; go_simp <;> (with_reducible rfl); try simp only [Act.put, List.setIfInBounds_toArray, List.set_cons_zero, List.set_cons_succ]
        refine wpAnyH_take (i := 6) (v := ?_) opAt6 (by kernel_rfl) (by kernel_rfl) (by kernel_rfl) (fun _ _ _ h => h) (Or.inl ⟨by kernel_rfl, ?_⟩) (by assumption) ?_; rotate_left; intro wq hSw; (try dsimp only at hSw); go_split_ands; go_simp <;> (with_reducible rfl); try simp only [Act.put, List.setIfInBounds_toArray, List.set_cons_zero, List.set_cons_succ]
        refine wpAnyH_take (i := 7) (v := ?_) opAt7 (by kernel_rfl) (by kernel_rfl) (by kernel_rfl) (fun _ _ _ h => h) (Or.inl ⟨by kernel_rfl, ?_⟩) (by assumption) ?_; rotate_left; intro wq hSw; (try dsimp only at hSw); go_split_ands; go_simp <;> (with_reducible rfl); try simp only [Act.put, List.setIfInBounds_toArray, List.set_cons_zero, List.set_cons_succ]
        refine wpAnyH_take (i := 8) (v := ?_) opAt8 (by kernel_rfl) (by kernel_rfl) (by kernel_rfl) (fun _ _ _ h => h) (Or.inl ⟨by kernel_rfl, ?_⟩) (by assumption) ?_; rotate_left; intro wq hSw; (try dsimp only at hSw); go_split_ands; go_simp <;> (with_reducible rfl); try simp only [Act.put, List.setIfInBounds_toArray, List.set_cons_zero, List.set_cons_succ]
        refine wpAnyH_take (i := 9) (v := ?_) opAt9 (by kernel_rfl) (by kernel_rfl) (by kernel_rfl) (fun _ _ _ h => h) (Or.inl ⟨by kernel_rfl, ?_⟩) (by assumption) ?_; rotate_left; intro wq hSw; (try dsimp only at hSw); go_split_ands; go_simp <;> (with_reducible rfl); try simp only [Act.put, List.setIfInBounds_toArray, List.set_cons_zero, List.set_cons_succ]
        refine wpAnyH_take (i := 10) (v := ?_) opAt10 (by kernel_rfl) (by kernel_rfl) (by kernel_rfl) (fun _ _ _ h => h) (Or.inl ⟨by kernel_rfl, ?_⟩) (by assumption) ?_; rotate_left; intro wq hSw; (try dsimp only at hSw); go_split_ands; go_simp <;> (with_reducible rfl); try simp only [Act.put, List.setIfInBounds_toArray, List.set_cons_zero, List.set_cons_succ]
        refine wpAnyH_take (i := 11) (v := ?_) opAt11 (by kernel_rfl) (by kernel_rfl) (by kernel_rfl) (fun _ _ _ h => h) (Or.inl ⟨by kernel_rfl, ?_⟩) (by assumption) ?_; rotate_left; intro wq hSw; (try dsimp only at hSw); go_split_ands; go_simp <;> (with_reducible rfl); try simp only [Act.put, List.setIfInBounds_toArray, List.set_cons_zero, List.set_cons_succ]
        refine wpAnyH_take (i := 12) (v := ?_) opAt12 (by kernel_rfl) (by kernel_rfl) (by kernel_rfl) (fun _ _ _ h => h) (Or.inl ⟨by kernel_rfl, ?_⟩) (by assumption) ?_; rotate_left; intro wq hSw; (try dsimp only at hSw); go_split_ands; go_simp <;> (with_reducible rfl); try simp only [Act.put, List.setIfInBounds_toArray, List.set_cons_zero, List.set_cons_succ]
        refine wpAnyH_take (i := 13) (v := ?_) opAt13 (by kernel_rfl) (by kernel_rfl) (by kernel_rfl) (fun _ _ _ h => h) (Or.inl ⟨by kernel_rfl, ?_⟩) (by assumption) ?_; rotate_left; intro wq hSw; (try dsimp only at hSw); go_split_ands; go_simp <;> (with_reducible rfl); try simp only [Act.put, List.setIfInBounds_toArray, List.set_cons_zero, List.set_cons_succ]
        refine wpAnyH_take (i := 14) (v := ?_) opAt14 (by kernel_rfl) (by kernel_rfl) (by kernel_rfl) (fun _ _ _ h => h) (Or.inl ⟨by kernel_rfl, ?_⟩) (by assumption) ?_; rotate_left; intro wq hSw; (try dsimp only at hSw); go_split_ands; go_simp <;> (with_reducible rfl); try simp only [Act.put, List.setIfInBounds_toArray, List.set_cons_zero, List.set_cons_succ]
        refine wpAnyH_take (i := 15) (v := ?_) opAt15 (by kernel_rfl) (by kernel_rfl) (by kernel_rfl) (fun _ _ _ h => h) (Or.inl ⟨by kernel_rfl, ?_⟩) (by assumption) ?_; rotate_left; intro wq hSw; (try dsimp only at hSw); go_split_ands; go_simp <;> (with_reducible rfl); try simp only [Act.put, List.setIfInBounds_toArray, List.set_cons_zero, List.set_cons_succ]
        refine wpAnyH_take (i := 16) (v := ?_) opAt16 (by kernel_rfl) (by kernel_rfl) (by kernel_rfl) (fun _ _ _ h => h) (Or.inl ⟨by kernel_rfl, ?_⟩) (by assumption) ?_; rotate_left; intro wq hSw; (try dsimp only at hSw); go_split_ands; go_simp <;> (with_reducible rfl); try simp only [Act.put, List.setIfInBounds_toArray, List.set_cons_zero, List.set_cons_succ]
        refine wpAnyH_take (i := 17) (v := ?_) opAt17 (by kernel_rfl) (by kernel_rfl) (by kernel_rfl) (fun _ _ _ h => h) (Or.inl ⟨by kernel_rfl, ?_⟩) (by assumption) ?_; rotate_left; intro wq hSw; (try dsimp only at hSw); go_split_ands; go_simp <;> (with_reducible rfl); try simp only [Act.put, List.setIfInBounds_toArray, List.set_cons_zero, List.set_cons_succ]
        refine wpAnyH_take (i := 18) (v := ?_) opAt18 (by kernel_rfl) (by kernel_rfl) (by kernel_rfl) (fun _ _ _ h => h) (Or.inl ⟨by kernel_rfl, ?_⟩) (by assumption) ?_; rotate_left; intro wq hSw; (try dsimp only at hSw); go_split_ands; go_simp <;> (with_reducible rfl); try simp only [Act.put, List.setIfInBounds_toArray, List.set_cons_zero, List.set_cons_succ]
        refine wpAnyH_take (i := 19) (v := ?_) opAt19 (by kernel_rfl) (by kernel_rfl) (by kernel_rfl) (fun _ _ _ h => h) (Or.inl ⟨by kernel_rfl, ?_⟩) (by assumption) ?_; rotate_left; intro wq hSw; (try dsimp only at hSw); go_split_ands; go_simp <;> (with_reducible rfl); try simp only [Act.put, List.setIfInBounds_toArray, List.set_cons_zero, List.set_cons_succ]
        refine wpAnyH_take (i := 20) (v := ?_) opAt20 (by kernel_rfl) (by kernel_rfl) (by kernel_rfl) (fun _ _ _ h => h) (Or.inl ⟨by kernel_rfl, ?_⟩) (by assumption) ?_; rotate_left; intro wq hSw; (try dsimp only at hSw); go_split_ands; go_simp <;> (with_reducible rfl); try simp only [Act.put, List.setIfInBounds_toArray, List.set_cons_zero, List.set_cons_succ]
        refine wpAnyH_take (i := 21) (v := ?_) opAt21 (by kernel_rfl) (by kernel_rfl) (by kernel_rfl) (fun _ _ _ h => h) (Or.inl ⟨by kernel_rfl, ?_⟩) (by assumption) ?_; rotate_left; intro wq hSw; (try dsimp only at hSw); go_split_ands; go_simp <;> (with_reducible rfl); try simp only [Act.put, List.setIfInBounds_toArray, List.set_cons_zero, List.set_cons_succ]
        refine wpAnyH_take (i := 22) (v := ?_) opAt22 (by kernel_rfl) (by kernel_rfl) (by kernel_rfl) (fun _ _ _ h => h) (Or.inl ⟨by kernel_rfl, ?_⟩) (by assumption) ?_; rotate_left; intro wq hSw; (try dsimp only at hSw); go_split_ands; go_simp <;> (with_reducible rfl); try simp only [Act.put, List.setIfInBounds_toArray, List.set_cons_zero, List.set_cons_succ]
        refine wpAnyH_take (i := 23) (v := ?_) opAt23 (by kernel_rfl) (by kernel_rfl) (by kernel_rfl) (fun _ _ _ h => h) (Or.inl ⟨by kernel_rfl, ?_⟩) (by assumption) ?_; rotate_left; intro wq hSw; (try dsimp only at hSw); go_split_ands; go_simp <;> (with_reducible rfl); try simp only [Act.put, List.setIfInBounds_toArray, List.set_cons_zero, List.set_cons_succ]
        refine wpAnyH_take (i := 24) (v := ?_) opAt24 (by kernel_rfl) (by kernel_rfl) (by kernel_rfl) (fun _ _ _ h => h) (Or.inl ⟨by kernel_rfl, ?_⟩) (by assumption) ?_; rotate_left; intro wq hSw; (try dsimp only at hSw); go_split_ands; go_simp <;> (with_reducible rfl); try simp only [Act.put, List.setIfInBounds_toArray, List.set_cons_zero, List.set_cons_succ]
        refine wpAnyH_take (i := 25) (v := ?_) opAt25 (by kernel_rfl) (by kernel_rfl) (by kernel_rfl) (fun _ _ _ h => h) (Or.inl ⟨by kernel_rfl, ?_⟩) (by assumption) ?_; rotate_left; intro wq hSw; (try dsimp only at hSw); go_split_ands; go_simp <;> (with_reducible rfl); try simp only [Act.put, List.setIfInBounds_toArray, List.set_cons_zero, List.set_cons_succ]
        refine wpAnyH_take (i := 26) (v := ?_) opAt26 (by kernel_rfl) (by kernel_rfl) (by kernel_rfl) (fun _ _ _ h => h) (Or.inl ⟨by kernel_rfl, ?_⟩) (by assumption) ?_; rotate_left; intro wq hSw; (try dsimp only at hSw); go_split_ands; go_simp <;> (with_reducible rfl); try simp only [Act.put, List.setIfInBounds_toArray, List.set_cons_zero, List.set_cons_succ]
        refine wpAnyH_take (i := 27) (v := ?_) opAt27 (by kernel_rfl) (by kernel_rfl) (by kernel_rfl) (fun _ _ _ h => h) (Or.inl ⟨by kernel_rfl, ?_⟩) (by assumption) ?_; rotate_left; intro wq hSw; (try dsimp only at hSw); go_split_ands; go_simp <;> (with_reducible rfl); try simp only [Act.put, List.setIfInBounds_toArray, List.set_cons_zero, List.set_cons_succ]
        refine wpAnyH_take (i := 28) (v := ?_) opAt28 (by kernel_rfl) (by kernel_rfl) (by kernel_rfl) (fun _ _ _ h => h) (Or.inl ⟨by kernel_rfl, ?_⟩) (by assumption) ?_; rotate_left; intro wq hSw; (try dsimp only at hSw); go_split_ands; go_simp <;> (with_reducible rfl); try simp only [Act.put, List.setIfInBounds_toArray, List.set_cons_zero, List.set_cons_succ]
        refine wpAnyH_ready (rs := [29]) (by kernel_rfl) (by simp) (AllReadyH.cons opAt29 (fun K hK => ?_) AllReadyH.nil)
        go_simp
        go_at_call 26
        refine (HNM.out _ _ _ (by first | (simp; done) | (simp; omega))).mono ?_
        rintro e w9 ⟨rfl, rfl⟩
        exact ⟨rfl, ends_no HRR.out (gbb_below HG5.out (Below.refl _ _).drew)⟩
       | true =>
        obtain ⟨D, hD⟩ : ∃ D : Nat, Y = n0 + D := ⟨Y - n0, by omega⟩
        have HJ4 : Hid (joinB' ts q = .ok ((n0 : Int), (X : Int), (D : Int))) := Lib.hid (HJ3.out.trans ((if_pos ⟨by omega, by omega, beq_iff_eq.1 hk⟩).trans (by rw [show (Y : Int) - n0 = D by omega])))
        have hwD : IntKind.i64.wrap ((Y : Int) - n0) = D := by rw [show (Y : Int) - n0 = D by omega]; exact IntWalk.i64_in _ (by have := HSL.out.1; omega)
        clear hD
        refine wp_region_held_drew (S := (fun wx => wx.cell? ⟨Bb, 2, none⟩ = some (.int .i64 n0) ∧ wx.cell? ⟨S, 1, none⟩ = some (.slice (some ⟨cb, cf, none⟩) (scopeR ts).length cc) ∧ wx.cell? ⟨cb, cf + X * 2 + 1, none⟩ = some (.int .u8 ka) ∧ wx.cell? ⟨cb, cf + Y * 2 + 1, none⟩ = some (.int .u8 kb))) (by kernel_rfl) (HKX.out _ (Below.refl _ _).drew) (fun hHeld => ?_)
        refine wpAnyH_take (i := 0) (v := ?_) opAt0 (by kernel_rfl) (by kernel_rfl) (by kernel_rfl) (fun _ _ _ h => h) (Or.inl ⟨by kernel_rfl, ?_⟩) (by assumption) ?_; rotate_left; intro wq hSw; (try dsimp only at hSw); go_split_ands; go_simp <;> (with_reducible rfl); try simp only [Act.put, List.setIfInBounds_toArray, List.set_cons_zero, List.set_cons_succ]
        refine wpAnyH_take (i := 1) (v := ?_) opAt1 (by kernel_rfl) (by kernel_rfl) (by kernel_rfl) (fun _ _ _ h => h) (Or.inl ⟨by kernel_rfl, ?_⟩) (by assumption) ?_; rotate_left; intro wq hSw; (try dsimp only at hSw); go_split_ands; go_simp <;> (with_reducible rfl); try simp only [Act.put, List.setIfInBounds_toArray, List.set_cons_zero, List.set_cons_succ]
        refine wpAnyH_take (i := 2) (v := ?_) opAt2 (by kernel_rfl) (by kernel_rfl) (by kernel_rfl) (fun _ _ _ h => h) (Or.inl ⟨by kernel_rfl, ?_⟩) (by assumption) ?_; rotate_left; intro wq hSw; (try dsimp only at hSw); go_split_ands; go_simp <;> (with_reducible rfl); try simp only [Act.put, List.setIfInBounds_toArray, List.set_cons_zero, List.set_cons_succ]
        refine wpAnyH_take (i := 3) (v := ?_) opAt3 (by kernel_rfl) (by kernel_rfl) (by kernel_rfl) (fun _ _ _ h => h) (Or.inl ⟨by kernel_rfl, ?_⟩) (by assumption) ?_; rotate_left; intro wq hSw; (try dsimp only at hSw); go_split_ands; go_simp <;> (with_reducible rfl); try simp only [Act.put, List.setIfInBounds_toArray, List.set_cons_zero, List.set_cons_succ]
        refine wpAnyH_take (i := 4) (v := ?_) opAt4 (by kernel_rfl) (by kernel_rfl) (by kernel_rfl) (fun _ _ _ h => h) (Or.inl ⟨by kernel_rfl, ?_⟩) (by assumption) ?_; rotate_left; intro wq hSw; (try dsimp only at hSw); go_split_ands; go_simp <;> (with_reducible rfl); try simp only [Act.put, List.setIfInBounds_toArray, List.set_cons_zero, List.set_cons_succ]
        refine wpAnyH_take (i := 5) (v := ?_) opAt5 (by kernel_rfl) (by kernel_rfl) (by kernel_rfl) (fun _ _ _ h => h) (Or.inl ⟨by kernel_rfl, ?_⟩) (by assumption) ?_; rotate_left; intro wq hSw; (try dsimp only at hSw); go_split_ands; go_simp <;> (with_reducible rfl); try simp only [Act.put, List.setIfInBounds_toArray, List.set_cons_zero, List.set_cons_succ]
        refine wpAnyH_take (i := 6) (v := ?_) opAt6 (by kernel_rfl) (by kernel_rfl) (by kernel_rfl) (fun _ _ _ h => h) (Or.inl ⟨by kernel_rfl, ?_⟩) (by assumption) ?_; rotate_left; intro wq hSw; (try dsimp only at hSw); go_split_ands; go_simp <;> (with_reducible rfl); try simp only [Act.put, List.setIfInBounds_toArray, List.set_cons_zero, List.set_cons_succ]
        refine wpAnyH_take (i := 7) (v := ?_) opAt7 (by kernel_rfl) (by kernel_rfl) (by kernel_rfl) (fun _ _ _ h => h) (Or.inl ⟨by kernel_rfl, ?_⟩) (by assumption) ?_; rotate_left; intro wq hSw; (try dsimp only at hSw); go_split_ands; go_simp <;> (with_reducible rfl); try simp only [Act.put, List.setIfInBounds_toArray, List.set_cons_zero, List.set_cons_succ]
        refine wpAnyH_take (i := 8) (v := ?_) opAt8 (by kernel_rfl) (by kernel_rfl) (by kernel_rfl) (fun _ _ _ h => h) (Or.inl ⟨by kernel_rfl, ?_⟩) (by assumption) ?_; rotate_left; intro wq hSw; (try dsimp only at hSw); go_split_ands; go_simp <;> (with_reducible rfl); try simp only [Act.put, List.setIfInBounds_toArray, List.set_cons_zero, List.set_cons_succ]
        refine wpAnyH_take (i := 9) (v := ?_) opAt9 (by kernel_rfl) (by kernel_rfl) (by kernel_rfl) (fun _ _ _ h => h) (Or.inl ⟨by kernel_rfl, ?_⟩) (by assumption) ?_; rotate_left; intro wq hSw; (try dsimp only at hSw); go_split_ands; go_simp <;> (with_reducible rfl); try simp only [Act.put, List.setIfInBounds_toArray, List.set_cons_zero, List.set_cons_succ]
        refine wpAnyH_take (i := 10) (v := ?_) opAt10 (by kernel_rfl) (by kernel_rfl) (by kernel_rfl) (fun _ _ _ h => h) (Or.inl ⟨by kernel_rfl, ?_⟩) (by assumption) ?_; rotate_left; intro wq hSw; (try dsimp only at hSw); go_split_ands; go_simp <;> (with_reducible rfl); try simp only [Act.put, List.setIfInBounds_toArray, List.set_cons_zero, List.set_cons_succ]
        refine wpAnyH_take (i := 11) (v := ?_) opAt11 (by kernel_rfl) (by kernel_rfl) (by kernel_rfl) (fun _ _ _ h => h) (Or.inl ⟨by kernel_rfl, ?_⟩) (by assumption) ?_; rotate_left; intro wq hSw; (try dsimp only at hSw); go_split_ands; go_simp <;> (with_reducible rfl); try simp only [Act.put, List.setIfInBounds_toArray, List.set_cons_zero, List.set_cons_succ]
        refine wpAnyH_take (i := 12) (v := ?_) opAt12 (by kernel_rfl) (by kernel_rfl) (by kernel_rfl) (fun _ _ _ h => h) (Or.inl ⟨by kernel_rfl, ?_⟩) (by assumption) ?_; rotate_left; intro wq hSw; (try dsimp only at hSw); go_split_ands; go_simp <;> (with_reducible rfl); try simp only [Act.put, List.setIfInBounds_toArray, List.set_cons_zero, List.set_cons_succ]
        refine wpAnyH_take (i := 13) (v := ?_) opAt13 (by kernel_rfl) (by kernel_rfl) (by kernel_rfl) (fun _ _ _ h => h) (Or.inl ⟨by kernel_rfl, ?_⟩) (by assumption) ?_; rotate_left; intro wq hSw; (try dsimp only at hSw); go_split_ands; go_simp <;> (with_reducible rfl); try simp only [Act.put, List.setIfInBounds_toArray, List.set_cons_zero, List.set_cons_succ]
        refine wpAnyH_take (i := 14) (v := ?_) opAt14 (by kernel_rfl) (by kernel_rfl) (by kernel_rfl) (fun _ _ _ h => h) (Or.inl ⟨by kernel_rfl, ?_⟩) (by assumption) ?_; rotate_left; intro wq hSw; (try dsimp only at hSw); go_split_ands; go_simp <;> (with_reducible rfl); try simp only [Act.put, List.setIfInBounds_toArray, List.set_cons_zero, List.set_cons_succ]
        refine wpAnyH_take (i := 15) (v := ?_) opAt15 (by kernel_rfl) (by kernel_rfl) (by kernel_rfl) (fun _ _ _ h => h) (Or.inl ⟨by kernel_rfl, ?_⟩) (by assumption) ?_; rotate_left; intro wq hSw; (try dsimp only at hSw); go_split_ands; go_simp <;> (with_reducible rfl); try simp only [Act.put, List.setIfInBounds_toArray, List.set_cons_zero, List.set_cons_succ]
        refine wpAnyH_take (i := 16) (v := ?_) opAt16 (by kernel_rfl) (by kernel_rfl) (by kernel_rfl) (fun _ _ _ h => h) (Or.inl ⟨by kernel_rfl, ?_⟩) (by assumption) ?_; rotate_left; intro wq hSw; (try dsimp only at hSw); go_split_ands; go_simp <;> (with_reducible rfl); try simp only [Act.put, List.setIfInBounds_toArray, List.set_cons_zero, List.set_cons_succ]
        refine wpAnyH_take (i := 17) (v := ?_) opAt17 (by kernel_rfl) (by kernel_rfl) (by kernel_rfl) (fun _ _ _ h => h) (Or.inl ⟨by kernel_rfl, ?_⟩) (by assumption) ?_; rotate_left; intro wq hSw; (try dsimp only at hSw); go_split_ands; go_simp <;> (with_reducible rfl); try simp only [Act.put, List.setIfInBounds_toArray, List.set_cons_zero, List.set_cons_succ]
        refine wpAnyH_take (i := 18) (v := ?_) opAt18 (by kernel_rfl) (by kernel_rfl) (by kernel_rfl) (fun _ _ _ h => h) (Or.inl ⟨by kernel_rfl, ?_⟩) (by assumption) ?_; rotate_left; intro wq hSw; (try dsimp only at hSw); go_split_ands; go_simp <;> (with_reducible rfl); try simp only [Act.put, List.setIfInBounds_toArray, List.set_cons_zero, List.set_cons_succ]
        refine wpAnyH_take (i := 19) (v := ?_) opAt19 (by kernel_rfl) (by kernel_rfl) (by kernel_rfl) (fun _ _ _ h => h) (Or.inl ⟨by kernel_rfl, ?_⟩) (by assumption) ?_; rotate_left; intro wq hSw; (try dsimp only at hSw); go_split_ands; go_simp <;> (with_reducible rfl); try simp only [Act.put, List.setIfInBounds_toArray, List.set_cons_zero, List.set_cons_succ]
        refine wpAnyH_take (i := 20) (v := ?_) opAt20 (by kernel_rfl) (by kernel_rfl) (by kernel_rfl) (fun _ _ _ h => h) (Or.inl ⟨by kernel_rfl, ?_⟩) (by assumption) ?_; rotate_left; intro wq hSw; (try dsimp only at hSw); go_split_ands; go_simp <;> (with_reducible rfl); try simp only [Act.put, List.setIfInBounds_toArray, List.set_cons_zero, List.set_cons_succ]
        refine wpAnyH_take (i := 21) (v := ?_) opAt21 (by kernel_rfl) (by kernel_rfl) (by kernel_rfl) (fun _ _ _ h => h) (Or.inl ⟨by kernel_rfl, ?_⟩) (by assumption) ?_; rotate_left; intro wq hSw; (try dsimp only at hSw); go_split_ands; go_simp <;> (with_reducible rfl); try simp only [Act.put, List.setIfInBounds_toArray, List.set_cons_zero, List.set_cons_succ]
        refine wpAnyH_take (i := 22) (v := ?_) opAt22 (by kernel_rfl) (by kernel_rfl) (by kernel_rfl) (fun _ _ _ h => h) (Or.inl ⟨by kernel_rfl, ?_⟩) (by assumption) ?_; rotate_left; intro wq hSw; (try dsimp only at hSw); go_split_ands; go_simp <;> (with_reducible rfl); try simp only [Act.put, List.setIfInBounds_toArray, List.set_cons_zero, List.set_cons_succ]
        refine wpAnyH_take (i := 23) (v := ?_) opAt23 (by kernel_rfl) (by kernel_rfl) (by kernel_rfl) (fun _ _ _ h => h) (Or.inl ⟨by kernel_rfl, ?_⟩) (by assumption) ?_; rotate_left; intro wq hSw; (try dsimp only at hSw); go_split_ands; go_simp <;> (with_reducible rfl); try simp only [Act.put, List.setIfInBounds_toArray, List.set_cons_zero, List.set_cons_succ]
        refine wpAnyH_take (i := 24) (v := ?_) opAt24 (by kernel_rfl) (by kernel_rfl) (by kernel_rfl) (fun _ _ _ h => h) (Or.inl ⟨by kernel_rfl, ?_⟩) (by assumption) ?_; rotate_left; intro wq hSw; (try dsimp only at hSw); go_split_ands; go_simp <;> (with_reducible rfl); try simp only [Act.put, List.setIfInBounds_toArray, List.set_cons_zero, List.set_cons_succ]
        refine wpAnyH_take (i := 25) (v := ?_) opAt25 (by kernel_rfl) (by kernel_rfl) (by kernel_rfl) (fun _ _ _ h => h) (Or.inl ⟨by kernel_rfl, ?_⟩) (by assumption) ?_; rotate_left; intro wq hSw; (try dsimp only at hSw); go_split_ands; go_simp <;> (with_reducible rfl); try simp only [Act.put, List.setIfInBounds_toArray, List.set_cons_zero, List.set_cons_succ]
        refine wpAnyH_take (i := 26) (v := ?_) opAt26 (by kernel_rfl) (by kernel_rfl) (by kernel_rfl) (fun _ _ _ h => h) (Or.inl ⟨by kernel_rfl, ?_⟩) (by assumption) ?_; rotate_left; intro wq hSw; (try dsimp only at hSw); go_split_ands; go_simp <;> (with_reducible rfl); try simp only [Act.put, List.setIfInBounds_toArray, List.set_cons_zero, List.set_cons_succ]
        refine wpAnyH_take (i := 27) (v := ?_) opAt27 (by kernel_rfl) (by kernel_rfl) (by kernel_rfl) (fun _ _ _ h => h) (Or.inl ⟨by kernel_rfl, ?_⟩) (by assumption) ?_; rotate_left; intro wq hSw; (try dsimp only at hSw); go_split_ands; go_simp <;> (with_reducible rfl); try simp only [Act.put, List.setIfInBounds_toArray, List.set_cons_zero, List.set_cons_succ]
        refine wpAnyH_take (i := 28) (v := ?_) opAt28 (by kernel_rfl) (by kernel_rfl) (by kernel_rfl) (fun _ _ _ h => h) (Or.inl ⟨by kernel_rfl, ?_⟩) (by assumption) ?_; rotate_left; intro wq hSw; (try dsimp only at hSw); go_split_ands; go_simp <;> (with_reducible rfl); try simp only [Act.put, List.setIfInBounds_toArray, List.set_cons_zero, List.set_cons_succ]
        refine wpAnyH_ready (rs := [29]) (by kernel_rfl) (by simp) (AllReadyH.cons opAt29 (fun K hK => ?_) AllReadyH.nil)
        go_simp
        go_at_call 26
        refine (HYM.out _ _ _ (by first | (simp; done) | (simp; omega))).mono ?_
        rintro e w9 ⟨rfl, rfl⟩
        refine hK.out _ _ (HKX.out _ (Below.refl _ _).drew) (fun hHeld2 => ?_)
        clear hK K
        try simp only [Act.put, List.setIfInBounds_toArray, List.set_cons_zero, List.set_cons_succ]
        refine wpAnyH_done (by kernel_rfl) ?_ _
        have HB6 := Lib.hid (HB5.out.next (Below.refl W5.heap.size W5).drew)
        have b2 : W5.cell? ⟨Bb, 2, none⟩ = some (.int .i64 n0) := HB5.out.cell 2 _ rfl
        have b3 : W5.cell? ⟨Bb, 3, none⟩ = some (.int .i64 0) := HB5.out.cell 3 _ rfl
        have b4 : W5.cell? ⟨Bb, 4, none⟩ = some (.int .i64 0) := HB5.out.cell 4 _ rfl
        have f5 := HB5.out.free
        go_wp2_with fail
        go_meet
        exact ⟨n0, X, D, HJ4, Lib.hid (((HB6.out.set 3 (.int .i64 X)).set 4 (.int .i64 D)).eq rfl)⟩
  case rest =>
  obtain ⟨wd, lf, rt, HJ, HB⟩ := hcut
  generalize hwx : wc = W4 at *
  clear hwx
  have HR4 : Hid (bindJ ts q (wd, lf, rt) = R) := Lib.hid (by have := HR3.out; rw [HJ.out] at this; exact this)
  have HG4 := Lib.hid (gbb_trans HG0.out HB.out.gb)
  have HS4 := Lib.hid (HS0.out.gb HB.out.gb hBb hBS)
  have hs34 := HB.out.gb.size
  have q5 : W4.cell? ⟨Q, 5, none⟩ = some (.slice wo q.wher.length wcp) := HQC.out W4 HG4.out 5 _ rfl
  clear HJ HR3
  go_upto_if 103 with fail
  go_cut [] (fun wx => ∃ (wh : List Stp) (ao : Option Addr) (acap : Nat), Hid (whereR ts q.wher = .ok wh) ∧ Hid (BSt Bb W3 (bndC q.table q.join wd lf rt ao wh.length acap none 0 0 none 0 0 false none 0 0 none 0 0) wx) ∧ Hid (wx.ownsRow W3.heap.size 50 3 (.slice ao wh.length acap) wh.length (stpCells wh)))
  case first =>
   as_aux_lemma =>
    by_cases h0 : q.wher.length = 0
    ·
     have HW : Hid (whereR ts q.wher = .ok []) := Lib.hid (by unfold whereR; rw [if_pos h0])
     have h0N : ¬ 0 < q.wher.length := by omega
     have h0I : ¬ (0 : Int) < q.wher.length := by omega
     clear h0
     go_wp2_with fail
     go_meet
     exact ⟨[], none, 0, HW, HB, Lib.hid (World.ownsRow_nil _ _ _ _)⟩
    ·
     have h0N : 0 < q.wher.length := by omega
     have h0I : (0 : Int) < q.wher.length := by omega
     have hbi := bind_any (lcap := wcp) HS4.out (HG.out.self (HBW.out W4 HG4.out)) (HQI.out.self (HBW.out W4 HG4.out)).wher HQO.out.wher hwl (by have := HSL.out.1; omega) HCK.out (by have := HSL.out.2; omega)
     have hwr : whereR ts q.wher = (sbindR ts q.wher).then fun e => if e.2 ≤ 1 then .ok e.1 else .no 5 := by unfold whereR; rw [if_neg h0]
     have hno : ∀ z, whereR ts q.wher = .no z → Ex.no z = R := fun z h => by have := HR4.out; unfold bindJ at this; rw [h] at this; exact this
     cases hr : sbindR ts q.wher with
     | no y =>
      rw [hr] at hbi hwr
      have HRR : Hid (Ex.no y = R) := Lib.hid (hno y hwr)
      have HBI := Lib.hid hbi
      clear hbi hr hwr hno h0
      go_wp2_with (go_at_call 27; refine HBI.out.mono ?_; rintro e w8 ⟨hb8, rfl⟩; exact ⟨rfl, ends_no HRR.out (gbb_below HG4.out hb8)⟩)
     | ok ek =>
      obtain ⟨el, kk⟩ := ek
      rw [hr] at hbi hwr
      have HBI := Lib.hid hbi
      have HWR := Lib.hid hwr
      have HNO := Lib.hid hno
      clear hbi hr hwr hno h0
      go_wp2_with (go_at_call 27; refine HBI.out.mono ?_; rintro e w8 ⟨hb8, v8, rfl, ho8⟩; refine Hid.out ?_)
      refine Lib.hid ?_
      have HB8 := Lib.hid (HB.out.next hb8)
      have HG8 := Lib.hid (gbb_below HG4.out hb8)
      have hb5 : w8.cell? ⟨Bb, 5, none⟩ = some (.slice none 0 0) := HB8.out.cell 5 _ rfl
      have f8 := HB8.out.free
      obtain ⟨ao, acap, rfl⟩ := own_shape ho8
      have HO8 := Lib.hid (own_gbb (own_mono ho8 (C := W3.heap.size) hs34) (setB_gb (b := Bb) (j := 5) (v := .slice ao el.length acap)) hbW3)
      clear hb8 ho8 q5 HBI
      by_cases hk1 : kk ≤ 1
      ·
       have HW : Hid (whereR ts q.wher = .ok el) := Lib.hid (HWR.out.trans (if_pos hk1))
       go_wp2_with (go_at_call 26; refine (HYM.out _ _ _ (by first | (simp; done) | (simp; omega))).mono ?_; rintro e w4 ⟨rfl, rfl⟩; refine Hid.out ?_)
       refine Lib.hid ?_
       go_wp2_with fail
       go_meet
       exact ⟨el, ao, acap, HW, Lib.hid ((HB8.out.set 5 (.slice ao el.length acap)).eq rfl), HO8⟩
      ·
       have HRR : Hid (Ex.no 5 = R) := Lib.hid (HNO.out 5 (HWR.out.trans (if_neg hk1)))
       go_wp2_with (go_at_call 26; refine (HNM.out _ _ _ (by first | (simp; done) | (simp; omega))).mono ?_; rintro e w4 ⟨rfl, rfl⟩; exact ⟨rfl, ends_no HRR.out HG8.out⟩)
  case rest =>
  obtain ⟨wh, ao, acap, HW, HB5, HWO⟩ := hcut
  generalize hwx : wc = W5 at *
  clear hwx
  have HR5 : Hid (bindW ts q (wd, lf, rt) wh = R) := Lib.hid (by have := HR4.out; unfold bindJ at this; rw [HW.out] at this; exact this)
  have HG5 := Lib.hid (gbb_trans HG0.out HB5.out.gb)
  have HSZ5 := Lib.hid HG5.out.size
  have HS5 := Lib.hid (HS0.out.gb HB5.out.gb hBb hBS)
  have hs35 := HB5.out.gb.size
  have q6 : W5.cell? ⟨Q, 6, none⟩ = some (.slice go q.group.length gcp) := HQC.out W5 HG5.out 6 _ rfl
  have HB5s : Hid (BSt Bb W5 (bndC q.table q.join wd lf rt ao wh.length acap none 0 0 none 0 0 false none 0 0 none 0 0) W5) := Lib.hid ⟨World.grownBy.refl _ _, HB5.out.at_⟩
  have hbW5 := HB5s.out.lt
  have hgl : q.group.length ≤ 8 := by
   have := HC0.out
   unfold checkR at this
   split at this
   ·
    cases this
   ·
    rename_i h; simp only [not_or] at h; omega
  have hil : q.items.length ≤ 8 := by
   have := HC0.out
   unfold checkR at this
   split at this
   ·
    cases this
   ·
    rename_i h; simp only [not_or] at h; omega
  clear HB HS4 HG4 HR4 q5 HW hs34
  go_wp2_with fail
  go_loopw [119] (fun v wr => ∃ (k : Nat) (g : List Int) (ga : Option Addr) (gcap : Nat), v = .int .i64 k ∧ k ≤ q.group.length ∧ g.length ≤ k ∧ Hid (BSt Bb W5 (bndC q.table q.join wd lf rt ao wh.length acap ga g.length gcap none 0 0 false none 0 0 none 0 0) wr) ∧ wr.ownsRow W5.heap.size 3 1 (.slice ga g.length gcap) g.length (iCells g) ∧ Hid ((groupR ts (q.group.drop k) g).then (bindG ts q (wd, lf, rt) wh) = R)) (fun v _ => q.group.length - (intOf v).toNat)
  case atStart => exact ⟨0, [], none, 0, rfl, Nat.zero_le _, Nat.le_refl _, HB5s, World.ownsRow_nil _ _ _ _, Lib.hid HR5.out⟩
  case round =>
   obtain ⟨k, g, ga, gcap, rfl, hk, hgk, HBr, ho, HT⟩ := hrel
   have HGr := Lib.hid (gbb_trans HG5.out HBr.out.gb)
   have HSr := Lib.hid (HS5.out.gb HBr.out.gb hBb hBS)
   have hsr := HBr.out.gb.size
   by_cases hlt : k < q.group.length
   ·
    as_aux_lemma =>
     have hx : q.group[k]? = some q.group[k] := List.getElem?_eq_getElem hlt
     have hxs := HQO.out.group _ (List.getElem_mem hlt)
     have hT := HT.out
     rw [List.drop_eq_getElem_cons hlt, groupR] at hT
     obtain ⟨nb, nf, rfl, d0⟩ := (show ∃ b o, go = some ⟨b, o, none⟩ ∧ wr.cell? ⟨b, o + k, none⟩ = some (.string q.group[k]) from by
      rcases (HQI.out.self (HBW.out wr HGr.out)).group with h | ⟨b, o, h1, h2⟩
      ·
       omega
      ·
       exact ⟨b, o, h1, h2 k _ hx⟩)
     have hfn := find_any HSr.out (HG.out.self (HBW.out wr HGr.out)) hxs (by have := HSL.out.1; omega) (by have := HSL.out.2; omega)
     generalize q.group[k] = x at *
     cases hr : findR ts x with
     | no y =>
      rw [hr] at hT
      have HRR : Hid (Ex.no y = R) := Lib.hid hT
      have HFN := Lib.hid (calls64_bad hr hfn)
      clear hfn hr hT hx HT ho
      go_wp2_with (go_at_call 25; refine HFN.out.mono ?_; rintro e w8 ⟨rfl, hb8⟩; exact ⟨rfl, ends_no HRR.out (gbb_below HGr.out hb8)⟩)
     | ok n =>
      rw [hr] at hT
      have hT : ((if n ∈ g then Ex.no 15 else groupR ts (q.group.drop (k + 1)) (g ++ [n])).then (bindG ts q (wd, lf, rt) wh)) = R := hT
      have HFN := Lib.hid (calls64_ok hr hfn)
      have HO := Lib.hid ho
      clear hfn hr hx HT ho
      go_wp2_with (go_at_call 25; refine HFN.out.mono ?_; rintro e w8 ⟨rfl, hb8⟩; refine Hid.out ?_)
      refine Lib.hid ?_
      have HB8 := Lib.hid (HBr.out.next hb8)
      have HG8 := Lib.hid (gbb_below HGr.out hb8)
      have HO8 := Lib.hid (own_keepA HO.out fun j hj hj2 => hb8.block j hj2)
      have hb6 : w8.cell? ⟨Bb, 6, none⟩ = some (.slice ga g.length gcap) := HB8.out.cell 6 _ rfl
      have f8 := HB8.out.free
      have hs8 := hb8.size
      obtain ⟨gq, gcq, hgv, hgrow⟩ := own_ints HO8.out
      injection hgv with hgv1 _ hgv2
      subst hgv1 hgv2
      have hct := contains_any (cap := gcap) (x := n) hgrow (by omega)
      clear hb8 hgrow d0 HFN HO
      by_cases hm : n ∈ g
      ·
       rw [if_pos hm] at hT
       rw [decide_eq_true hm] at hct
       have HRR : Hid (Ex.no 15 = R) := Lib.hid hT
       have HCT := Lib.hid hct
       clear hm hT hct
       go_wp2_with (go_at_call 28; refine HCT.out.mono ?_; rintro e w9 ⟨rfl, rfl⟩; refine Hid.out ?_)
       refine Lib.hid ?_
       go_wp2_with (go_at_call 26; refine (HNM.out _ _ _ (by first | (simp; done) | (simp; omega))).mono ?_; rintro e w4 ⟨rfl, rfl⟩; exact ⟨rfl, ends_no HRR.out HG8.out⟩)
      ·
       rw [if_neg hm] at hT
       rw [decide_eq_false hm] at hct
       have HT2 := Lib.hid hT
       have HCT := Lib.hid hct
       clear hm hT hct
       go_wp2_with (go_at_call 28; refine HCT.out.mono ?_; rintro e w9 ⟨rfl, hw⟩; have hw := hw.symm; subst hw; refine Hid.out ?_)
       refine Lib.hid ?_
       go_wp2_with (go_at_call 26; refine (HYM.out _ _ _ (by first | (simp; done) | (simp; omega))).mono ?_; rintro e w4 ⟨rfl, rfl⟩; refine Hid.out ?_)
       refine Lib.hid ?_
       obtain ⟨i0, hi0, hz0, hz1, hz2⟩ := info_parts infoInt
       go_wp2_with (at_builtin; refine wpList_append_lying rfl _ _ 29 rfl W5.heap.size 3 i0 _ 1 8 Tryz.underlying29 hi0 hz0 hz1 hz2 rfl (by decide) (.slice ga g.length gcap) g.length (iCells g) rfl (HO8.out.alloc _) (some ⟨w8.heap.size, 0, none⟩) 1 1 [.int .i64 n] rfl (lies_one rfl) (by unfold maxLen; omega) (by omega) (by simp; omega) ?_)
       intro v5 w5 hown5 hg5 hat5
       have hbC := (Below.refl w8.heap.size w8).alloc (Nat.le_refl _) (.cells #[.int .i64 n] 3)
       have HB5' := Lib.hid ((HB8.out.next hbC).own hg5 (own_base HO8.out) hbW5)
       obtain ⟨so5, cap5, rfl⟩ := own_shape hown5
       have HO5 := Lib.hid (own_gbb hown5 (setB_gb (b := Bb) (j := 6) (v := .slice so5 (g.length + 1) cap5)) hbW5)
       have c6 : w5.cell? ⟨Bb, 6, none⟩ = some (.slice ga g.length gcap) := HB5'.out.cell 6 _ rfl
       have f5 := HB5'.out.free
       clear hown5 hg5 hat5 hbC hi0 hz0 hz1 hz2 hb6 f8
       go_wp2_with fail
       go_roundw
       case rel => exact ⟨k + 1, g ++ [n], so5, cap5, by go_num, by omega, by rw [List.length_append]; simp; omega, (by rw [List.length_append]; exact Lib.hid ((HB5'.out.set 6 (.slice so5 (g.length + 1) cap5)).eq rfl)), (by rw [List.length_append]; unfold iCells; rw [List.map_append]; exact HO5.out), HT2⟩
       case measure => simp [intOf]; omega
   ·
    obtain rfl : k = q.group.length := by omega
    have hT := HT.out
    rw [List.drop_length, groupR] at hT
    have HR6 : Hid (bindG ts q (wd, lf, rt) wh g = R) := Lib.hid hT
    have hgrp := grouped_any (ga := ga) (gc := gcap) (ic := icp) (G := g) (HQI.out.self (HBW.out wr HGr.out)).items (by omega)
    have q0 : wr.cell? ⟨Q, 0, none⟩ = some (.slice io q.items.length icp) := HQC.out wr HGr.out 0 _ rfl
    have b6 : wr.cell? ⟨Bb, 6, none⟩ = some (.slice ga g.length gcap) := HBr.out.cell 6 _ rfl
    obtain ⟨gr, hgr⟩ : ∃ gr, groupedR g q.items = gr := ⟨_, rfl⟩
    rw [hgr] at hgrp
    have HGP := Lib.hid hgrp
    have HO := Lib.hid ho
    have HGE := Lib.hid hgr
    have hgl8 : g.length ≤ 8 := by omega
    clear hT HT hgrp hgr ho hlt hk hgk HR5 q6 HB5s
    go_wp2_with (go_at_call 29; refine HGP.out.mono ?_; rintro e w8 ⟨rfl, hb8⟩; refine Hid.out ?_)
    refine Lib.hid ?_
    have HB8 := Lib.hid (HBr.out.next hb8)
    have b8 : w8.cell? ⟨Bb, 8, none⟩ = some (.bool false) := HB8.out.cell 8 _ rfl
    have f8 := HB8.out.free
    have HB6 : Hid (BSt Bb W5 (bndC q.table q.join wd lf rt ao wh.length acap ga g.length gcap none 0 0 gr none 0 0 none 0 0) (w8.setCell ⟨Bb, 8, none⟩ (.bool gr))) := Lib.hid ((HB8.out.set 8 (.bool gr)).eq rfl)
    have HGO := Lib.hid (own_gbb (own_keepA HO.out fun j hj hj2 => hb8.block j hj2) (setB_gb (b := Bb) (j := 8) (v := .bool gr)) hbW5)
    clear hb8 HGP HO b6 q0
    go_upto_region 22 with fail
    clear b8 f8 HB8 HBr HGr HSr hsr
    generalize w8.setCell ⟨Bb, 8, none⟩ (.bool gr) = W6 at *
    have HG6 := Lib.hid (gbb_trans HG5.out HB6.out.gb)
    have HS6 := Lib.hid (HS5.out.gb HB6.out.gb hBb hBS)
    have HWO6 := Lib.hid (own_gbb HWO.out HB6.out.gb hbW3)
    have hs56 := HB6.out.gb.size
    have HB6s : Hid (BSt Bb W6 (bndC q.table q.join wd lf rt ao wh.length acap ga g.length gcap none 0 0 gr none 0 0 none 0 0) W6) := Lib.hid ⟨World.grownBy.refl _ _, HB6.out.at_⟩
    have hbW6 := HB6s.out.lt
    have q0 : W6.cell? ⟨Q, 0, none⟩ = some (.slice io q.items.length icp) := HQC.out W6 HG6.out 0 _ rfl
    obtain ⟨ta, tc, co, cc, s0, s1, htr, hcr⟩ := HS6.out.read
    clear s0 htr hcr HWO HS5 hs35
    go_cut [] from 145 to 157 (fun wx => wx = W6 ∧ Hid (¬ (q.items.length = 0 ∧ 8 < (scopeR ts).length)))
    case first =>
     by_cases hz : q.items.length = 0
     ·
      rw [hz] at q0
      by_cases h8 : (scopeR ts).length ≤ 8
      ·
       have HN8 : Hid (¬ (q.items.length = 0 ∧ 8 < (scopeR ts).length)) := Lib.hid (by omega)
       have h8I : ((scopeR ts).length : Int) ≤ 8 := by omega
       clear hz
       go_wp2_with (go_at_call 26; refine (HYM.out _ _ _ (by first | (simp; done) | (simp; omega))).mono ?_; rintro e w9 ⟨rfl, hw⟩; have hw := hw.symm; subst hw; refine Hid.out ?_)
       refine Lib.hid ?_
       go_wp2_with fail
       go_meet
       exact ⟨rfl, HN8⟩
      ·
       have HRR : Hid (Ex.no 3 = R) := Lib.hid (by have := HR6.out; unfold bindG at this; rwa [if_pos ⟨hz, by omega⟩] at this)
       have h8I : ¬ ((scopeR ts).length : Int) ≤ 8 := by omega
       clear hz
       go_wp2_with (go_at_call 26; refine (HNM.out _ _ _ (by first | (simp; done) | (simp; omega))).mono ?_; rintro e w9 ⟨rfl, rfl⟩; exact ⟨rfl, ends_no HRR.out HG6.out⟩)
     ·
      have HN8 : Hid (¬ (q.items.length = 0 ∧ 8 < (scopeR ts).length)) := Lib.hid (by omega)
      have hzN : 0 < q.items.length := by omega
      have hzI : (0 : Int) < q.items.length := by omega
      clear hz
      go_wp2_with (go_at_call 26; refine (HYM.out _ _ _ (by first | (simp; done) | (simp; omega))).mono ?_; rintro e w9 ⟨rfl, hw⟩; have hw := hw.symm; subst hw; refine Hid.out ?_)
      refine Lib.hid ?_
      go_wp2_with fail
      go_meet
      exact ⟨rfl, HN8⟩
    case rest =>
    obtain ⟨hwx, HN8⟩ := hcut
    have hwx := hwx.symm
    subst hwx
    have HR7 : Hid (((if q.items.length = 0 then Ex.ok (allItems (scopeR ts).length) else itemsB ts g gr q.items []).then (bindO ts q (wd, lf, rt) wh g gr)) = R) := Lib.hid (by
     have := HR6.out
     unfold bindG at this
     rw [if_neg HN8.out, HGE.out] at this
     exact this)
    have HZ8 : Hid (q.items.length = 0 → (scopeR ts).length ≤ 8) := Lib.hid fun h => by have := HN8.out; omega
    clear HR6 HGE HN8 HB5
    go_wp2_with fail
    have hsl := HSL.out.1
    go_loopw [163] (fun v wr => ∃ (k : Nat) (its : List Itm) (ia : Option Addr) (icap : Nat), v = .int .i64 k ∧ k ≤ (scopeR ts).length ∧ its.length ≤ k ∧ Hid (BSt Bb W6 (bndC q.table q.join wd lf rt ao wh.length acap ga g.length gcap ia its.length icap gr none 0 0 none 0 0) wr) ∧ Hid (ItB W6.heap.size Bb wr its (.slice ia its.length icap)) ∧ Hid (its = if q.items.length = 0 then allItems k else []) ∧ Hid (ItsOk its)) (fun v _ => (scopeR ts).length - (intOf v).toNat)
    case atStart => exact ⟨0, [], none, 0, rfl, Nat.zero_le _, Nat.le_refl _, HB6s, Lib.hid ItB.nil, Lib.hid (by simp [allItems]), Lib.hid (fun it h => by cases h)⟩
    case round =>
     obtain ⟨k, its, ia, icap, rfl, hk, hik, HBr, HIr, HE, HOKI⟩ := hrel
     have HGr := Lib.hid (gbb_trans HG6.out HBr.out.gb)
     have hsr := HBr.out.gb.size
     have q0 : wr.cell? ⟨Q, 0, none⟩ = some (.slice io q.items.length icp) := HQC.out wr HGr.out 0 _ rfl
     by_cases hlt : k < (scopeR ts).length
     ·
      as_aux_lemma =>
       by_cases hz : q.items.length = 0
       ·
        have HE2 : Hid (its ++ [Itm.mk 0 [Stp.mk 6 ⟨#[]⟩ (k : Int)]] = if q.items.length = 0 then allItems (k + 1) else []) := Lib.hid (by have := HE.out; rw [if_pos hz] at this ⊢; rw [this, allItems_succ])
        rw [hz] at q0
        obtain ⟨vs, hvl, hvo, hvx⟩ := HIr.out
        have b7 : wr.cell? ⟨Bb, 7, none⟩ = some (.slice ia its.length icap) := HBr.out.cell 7 _ rfl
        have f7 := HBr.out.free
        have hbA := (Below.refl wr.heap.size wr).alloc (Nat.le_refl _) (.cells #[.int .u8 6, .string ⟨#[]⟩, .int .i64 k] 50)
        have hbB := hbA.alloc (by rw [alloc_sz]; omega) (.cells #[.int .u8 0, .slice (some ⟨wr.heap.size, 0, none⟩) 1 1] 40)
        have hly := lies_twoB (w := wr.alloc (.cells #[.int .u8 6, .string ⟨#[]⟩, .int .i64 k] 50)) (a := .int .u8 0) (b := .slice (some ⟨wr.heap.size, 0, none⟩) 1 1) (t := 40) (alloc_sz _ _) rfl rfl
        have hmd := ExP.made (Bb := Bb) (w := wr) (iv := .slice ia its.length icap) (k := k) (w' := (wr.alloc (.cells #[.int .u8 6, .string ⟨#[]⟩, .int .i64 k] 50)).alloc (.cells #[.int .u8 0, .slice (some ⟨wr.heap.size, 0, none⟩) 1 1] 40)) HBr.out.lt (own_lt hvo) ((Below.refl _ _).alloc (by rw [alloc_sz]; exact Nat.le_refl _) _)
        have HLY := Lib.hid hly
        have HMD := Lib.hid hmd
        have HVO := Lib.hid hvo
        have HVX := Lib.hid fun i it v h1 h2 => (hvx i it v h1 h2).next hbB
        have HVL := Lib.hid hvl
        have HBB2 := Lib.hid (HBr.out.next hbB)
        have hbl2 := HBr.out.lt
        obtain ⟨i0, hi0, hz0, hz1, hz2⟩ := info_parts infoItm
        clear hvl hvo hvx hbA hbB hly hmd hz HIr HE
        go_wp2_with (at_builtin; refine wpList_append_lying rfl _ _ 22 rfl W6.heap.size 40 i0 _ 2 32 Tryz.underlying22 hi0 hz0 hz1 hz2 rfl (by decide) (.slice ia its.length icap) its.length (itmCells its vs) rfl ((HVO.out.alloc _).alloc _) (some ⟨wr.heap.size + 1, 0, none⟩) 1 1 [.int .u8 0, .slice (some ⟨wr.heap.size, 0, none⟩) 1 1] rfl HLY.out (by unfold maxLen; omega) (by omega) (by simp; omega) ?_)
        intro v5 w5 hown5 hg5 hat5
        obtain ⟨so5, cap5, rfl⟩ := own_shape hown5
        have HB5' := Lib.hid (HBB2.out.own hg5 (own_base HVO.out) hbW6)
        have HI5 := Lib.hid ((ItB.app HVL.out HVX.out HMD.out hown5 hg5 (hat5.imp id fun h => h.trans (by rw [alloc_sz, alloc_sz]))).far (setB_gb (b := Bb) (j := 7) (v := .slice so5 (its.length + 1) cap5)) hbW6)
        have c7 : w5.cell? ⟨Bb, 7, none⟩ = some (.slice ia its.length icap) := HB5'.out.cell 7 _ rfl
        have f5 := HB5'.out.free
        clear hown5 hg5 hat5 hi0 hz0 hz1 hz2 b7 f7 q0
        go_wp2_with fail
        go_roundw
        case rel => exact ⟨k + 1, its ++ [Itm.mk 0 [Stp.mk 6 ⟨#[]⟩ (k : Int)]], so5, cap5, by go_num, by omega, by rw [List.length_append]; simp; omega, (by rw [List.length_append]; exact Lib.hid ((HB5'.out.set 7 (.slice so5 (its.length + 1) cap5)).eq rfl)), (by rw [List.length_append]; exact HI5), HE2, Lib.hid (HOKI.out.snoc (itsOk_col _))⟩
        case measure => simp [intOf]; omega
       ·
        have HE2 : Hid (its = if q.items.length = 0 then allItems (k + 1) else []) := Lib.hid (by have := HE.out; rw [if_neg hz] at this ⊢; exact this)
        have e0 : ((q.items.length : Int) == 0) = false := beq_eq_false_iff_ne.2 (by omega)
        clear hz HE
        go_wp2_with fail
        exact ⟨⟨k + 1, its, ia, icap, by go_num, by omega, by omega, HBr, HIr, HE2, HOKI⟩, by simp [intOf]; omega⟩
     ·
      obtain rfl : k = (scopeR ts).length := by omega
      have HR8 : Hid ((if q.items.length = 0 then Ex.ok its else itemsB ts g gr (q.items.drop 0) its).then (bindO ts q (wd, lf, rt) wh g gr) = R) := Lib.hid (by
       have h1 := HR7.out
       have h2 := HE.out
       by_cases hz : q.items.length = 0
       ·
        rw [if_pos hz] at h1 h2 ⊢; rw [h2]; exact h1
       ·
        rw [if_neg hz] at h1 h2 ⊢; rw [h2]; exact h1)
      have HI8 : Hid (its.length ≤ 0 ∨ (q.items.length = 0 ∧ its.length ≤ 8)) := Lib.hid (by
       have h2 := HE.out
       by_cases hz : q.items.length = 0
       ·
        exact .inr ⟨hz, by have := HZ8.out hz; omega⟩
       ·
        rw [if_neg hz] at h2; rw [h2]; exact .inl (Nat.le_refl _))
      clear HE HR7 hlt hk hik
      go_wp2_with fail
      go_loopw [183] (fun v wy => ∃ (m : Nat) (its : List Itm) (ia : Option Addr) (icap : Nat), v = .int .i64 m ∧ m ≤ q.items.length ∧ Hid (its.length ≤ m ∨ (q.items.length = 0 ∧ its.length ≤ 8)) ∧ Hid (BSt Bb W6 (bndC q.table q.join wd lf rt ao wh.length acap ga g.length gcap ia its.length icap gr none 0 0 none 0 0) wy) ∧ Hid (ItB W6.heap.size Bb wy its (.slice ia its.length icap)) ∧ Hid ((if q.items.length = 0 then Ex.ok its else itemsB ts g gr (q.items.drop m) its).then (bindO ts q (wd, lf, rt) wh g gr) = R) ∧ Hid (ItsOk its)) (fun v _ => q.items.length - (intOf v).toNat)
      case atStart => exact ⟨0, its, ia, icap, rfl, Nat.zero_le _, HI8, HBr, HIr, HR8, HOKI⟩
      case round =>
       clear HBr HIr HI8 HR8 HGr hsr q0 HOKI
       obtain ⟨m, its, ia, icap, rfl, hm, HIL, HBy, HIy, HT, HOKI⟩ := hrel
       have HGy := Lib.hid (gbb_trans HG6.out HBy.out.gb)
       have HSy := Lib.hid (HS6.out.gb HBy.out.gb hBb hBS)
       have hsy := HBy.out.gb.size
       by_cases hlm : m < q.items.length
       ·
        as_aux_lemma =>
         have hil8 : its.length ≤ 8 := by have := HIL.out; omega
         have him : its.length ≤ m := by have := HIL.out; omega
         have hx : q.items[m]? = some q.items[m] := List.getElem?_eq_getElem hlm
         have hxo := HQO.out.items _ (List.getElem_mem hlm)
         have hxl := HXL.out _ (List.getElem_mem hlm)
         have hT := HT.out
         rw [if_neg (by omega), List.drop_eq_getElem_cons hlm, itemsB_step] at hT
         have hx0 := HQI.out.items.at hx
         generalize q.items[m] = x at *
         obtain ⟨xb, xo, rfl, eo, ec, z0, z1, hxr⟩ := hx0
         have c0 := keep_cellP (HBW.out wr HGy.out) z0
         have c1 := keep_cellP (HBW.out wr HGy.out) z1
         have HXR := Lib.hid hxr
         have HT2 := Lib.hid hT
         clear hx hT HT z0 z1 hxr HIL
         go_upto_region 32 with fail
         have hbA := (Below.refl wr.heap.size wr).alloc (Nat.le_refl _) (.cells #[.int .u8 x.agg, .slice eo x.e.length ec] 40)
         have hn := heap_alloc_new wr (.cells #[.int .u8 x.agg, .slice eo x.e.length ec] 40)
         have hAW : wr.heap.size < (wr.alloc (.cells #[.int .u8 x.agg, .slice eo x.e.length ec] 40)).heap.size := by rw [alloc_sz]; omega
         have hvl : ∀ g, (Value.slice ia its.length icap).ownBlock = some g → W6.heap.size ≤ g ∧ g < wr.heap.size := fun g hg => by
          obtain ⟨vs, _, hvo, _⟩ := HIy.out
          exact ⟨own_base hvo g hg, own_lt hvo g hg⟩
         have hws : w00.heap.size ≤ W6.heap.size := Nat.le_trans H00.out.size HG6.out.size
         generalize wr.alloc (.cells #[.int .u8 x.agg, .slice eo x.e.length ec] 40) = W8 at *
         have d0 : W8.cell? ⟨wr.heap.size, 0, none⟩ = some (.int .u8 x.agg) := by rw [Lib.cell_of_heap hn]; rfl
         have d1 : W8.cell? ⟨wr.heap.size, 1, none⟩ = some (.slice eo x.e.length ec) := by rw [Lib.cell_of_heap hn]; rfl
         have HBA := Lib.hid (HBy.out.next hbA)
         have HGA := Lib.hid (gbb_below HGy.out hbA)
         have HSA := Lib.hid (HSy.out.next hbA)
         have HN := Lib.hid hn
         have HbA := Lib.hid hbA
         have HVL := Lib.hid hvl
         clear hn hbA c0 c1 hvl
         obtain ⟨A, hA⟩ : ∃ A, wr.heap.size = A := ⟨_, rfl⟩
         have HAE := Lib.hid hA
         rw [hA] at d0 d1 hAW HN HVL
         try rw [hA]
         clear hA
         have hbA2 : Bb < A := by have := HBy.out.lt; have := HAE.out; omega
         have hcA : W6.heap.size ≤ A := by have := HAE.out; omega
         go_upto_if 189 with fail
         go_cut [] (fun wx => ∃ (el : List Stp) (kk : Int) (eq : Option Addr) (ecq : Nat), Hid ((if x.agg = 1 then Ex.ok (x.e, 0) else sbindR ts x.e) = .ok (el, kk)) ∧ Hid (Below wr.heap.size wr wx) ∧ Hid (wx.heap[A]? = some (.cells #[.int .u8 x.agg, .slice eq el.length ecq] 40 (0, 0))) ∧ Hid (StpsOk el) ∧ el.length ≤ 1099511627776 ∧ Hid (ExP Bb wx (.slice ia its.length icap) ⟨x.agg, el⟩ (.slice eq el.length ecq)))
         case first =>
          by_cases h1 : x.agg = 1
          ·
           have e1 : (x.agg != 1) = false := by simp [h1]
           have HIF : Hid ((if x.agg = 1 then Ex.ok (x.e, 0) else sbindR ts x.e) = .ok (x.e, 0)) := Lib.hid (if_pos h1)
           clear h1
           go_wp2_with fail
           go_meet
           exact ⟨x.e, 0, eo, ec, HIF, HbA, HN, Lib.hid hxo.e, hxl, Lib.hid (ExP.came (it := ⟨x.agg, x.e⟩) HXR.out (HBW.out _ HGA.out) hBb (fun g hg => by have := (HVL.out g hg).1; omega))⟩
          ·
           have e1 : (x.agg != 1) = true := by simp [h1]
           have hbi := bind_any (lcap := ec) HSA.out (HG.out.self (HBW.out W8 HGA.out)) (HXR.out.self (HBW.out W8 HGA.out)) hxo.e hxl (by have := HSL.out.1; omega) HCK.out (by have := HSL.out.2; omega)
           cases hr : sbindR ts x.e with
           | no y =>
            rw [hr] at hbi
            have HRR : Hid (Ex.no y = R) := Lib.hid (by have := HT2.out; rw [if_neg h1, hr] at this; exact this)
            have HBI := Lib.hid hbi
            clear hbi hr h1
            go_wp2_with (go_at_call 27; refine HBI.out.mono ?_; rintro e w8 ⟨hb8, rfl⟩; exact ⟨rfl, ends_no HRR.out (gbb_below HGA.out hb8)⟩)
           | ok ek =>
            obtain ⟨el, kk⟩ := ek
            rw [hr] at hbi
            obtain ⟨hel, hell⟩ := sbindR_okB hr hxo.e
            have HEL := Lib.hid hel
            have HELL := Lib.hid hell
            have HIF : Hid ((if x.agg = 1 then Ex.ok (x.e, 0) else sbindR ts x.e) = .ok (el, kk)) := Lib.hid ((if_neg h1).trans hr)
            have HBI := Lib.hid hbi
            clear hbi hr h1 hel hell
            go_wp2_with (go_at_call 27; refine HBI.out.mono ?_; rintro e w8 ⟨hb8, v8, rfl, ho8⟩; refine Hid.out ?_)
            refine Lib.hid ?_
            obtain ⟨eq, ecq, rfl⟩ := own_shape ho8
            have hn8 := (hb8.block A hAW).trans HN.out
            have x1 : w8.cell? ⟨A, 1, none⟩ = some (.slice eo x.e.length ec) := by rw [Lib.cell_of_heap hn8]; rfl
            have fA := Lib.frozen_of_heap hn8
            have HX1 : Hid (ExP Bb (w8.setCell ⟨A, 1, none⟩ (.slice eq el.length ecq)) (.slice ia its.length icap) ⟨x.agg, el⟩ (.slice eq el.length ecq)) := Lib.hid (ExP.bound (B := W8.heap.size) (it := ⟨x.agg, el⟩) (own_gbb ho8 setB_gb (by omega)) (by omega) (fun g hg => by have := (HVL.out g hg).2; omega))
            have HHA : Hid ((w8.setCell ⟨A, 1, none⟩ (.slice eq el.length ecq)).heap[A]? = some (.cells #[.int .u8 x.agg, .slice eq el.length ecq] 40 (0, 0))) := Lib.hid (by simp [World.setCell, Array.getElem?_modify, hn8])
            have HbB : Hid (Below wr.heap.size wr (w8.setCell ⟨A, 1, none⟩ (.slice eq el.length ecq))) := Lib.hid ((below_self HbA.out hb8).setCell (p := ⟨A, 1, none⟩) (by show wr.heap.size ≤ A; have := HAE.out; omega) _)
            clear hb8 ho8 hn8 HBI
            go_wp2_with fail
            go_meet
            exact ⟨el, kk, eq, ecq, HIF, HbB, HHA, HEL, (by have := HELL.out; omega), HX1⟩
         case rest =>
         obtain ⟨el, kk, eq, ecq, HIF, Hb9, HA9, HEL, hell, HX9⟩ := hcut
         generalize hwx9 : wc = W9 at *
         clear hwx9
         have HT3 : Hid (((itemB g gr ⟨x.agg, el⟩ (scopeR ts) 0).then fun _ => itemsB ts g gr (q.items.drop (m + 1)) (its ++ [⟨x.agg, el⟩])).then (bindO ts q (wd, lf, rt) wh g gr) = R) := Lib.hid (by have := HT2.out; rw [HIF.out] at this; exact this)
         have HB9 := Lib.hid (HBy.out.next Hb9.out)
         have HI9 := Lib.hid (HIy.out.next Hb9.out hbW6)
         clear HT2 HIF HBA HGA HSA HN HbA d0 d1 HBy HIy HSy HXR
         obtain ⟨vs, hvs, hvo, hvx⟩ := HI9.out
         have x0 : W9.cell? ⟨A, 0, none⟩ = some (.int .u8 x.agg) := by rw [Lib.cell_of_heap HA9.out]; rfl
         have x1 : W9.cell? ⟨A, 1, none⟩ = some (.slice eq el.length ecq) := by rw [Lib.cell_of_heap HA9.out]; rfl
         have b7 : W9.cell? ⟨Bb, 7, none⟩ = some (.slice ia its.length icap) := HB9.out.cell 7 _ rfl
         have f7 := HB9.out.free
         have hbC := (Below.refl W9.heap.size W9).alloc (Nat.le_refl _) (.cells #[.int .u8 x.agg, .slice eq el.length ecq] 40)
         have HVS := Lib.hid hvs
         have HVO := Lib.hid hvo
         have HVX := Lib.hid fun i it v h1 h2 => (hvx i it v h1 h2).next hbC
         have HX10 := Lib.hid (HX9.out.next hbC)
         have HBC := Lib.hid (HB9.out.next hbC)
         have hA9 := (Array.getElem?_eq_some_iff.1 HA9.out).1
         have hs9 := HB9.out.gb.size
         obtain ⟨i0, hi0, hz0, hz1, hz2⟩ := info_parts infoItm
         clear hvs hvo hvx hbC HI9
         go_wp2_with (at_builtin; refine wpList_append_lying rfl _ _ 22 rfl W6.heap.size 40 i0 _ 2 32 Tryz.underlying22 hi0 hz0 hz1 hz2 rfl (by decide) (.slice ia its.length icap) its.length (itmCells its vs) rfl (HVO.out.alloc _) (some ⟨W9.heap.size, 0, none⟩) 1 1 [.int .u8 x.agg, .slice eq el.length ecq] rfl (lies_twoB rfl rfl rfl) (by unfold maxLen; omega) (by omega) (by simp; omega) ?_)
         intro v5 w5 hown5 hg5 hat5
         obtain ⟨so5, cap5, rfl⟩ := own_shape hown5
         have HB5' := Lib.hid (HBC.out.own hg5 (own_base HVO.out) hbW6)
         have hia := ItB.app HVS.out HVX.out HX10.out hown5 hg5 (hat5.imp id fun h => h.trans (by rw [alloc_sz]))
         have HI5 := Lib.hid (hia.far (setB_gb (b := Bb) (j := 7) (v := .slice so5 (its.length + 1) cap5)) hbW6)
         have HA5 : Hid ((w5.setCell ⟨Bb, 7, none⟩ (.slice so5 (its.length + 1) cap5)).heap[A]? = some (.cells #[.int .u8 x.agg, .slice eq el.length ecq] 40 (0, 0))) := Lib.hid ((Below.heap_setCell _ _ _ _ (by show A ≠ Bb; omega)).trans ((hg5.block A (by rw [alloc_sz]; omega) (fun e => by have := (HVL.out A e.symm).2; omega)).trans ((heap_alloc_old _ _ hA9).trans HA9.out)))
         have HX5 : Hid (StpRow eq el (w5.setCell ⟨Bb, 7, none⟩ (.slice so5 (its.length + 1) cap5))) := Lib.hid (by
          obtain ⟨eq', ecq', he, hr, hs⟩ := HX10.out
          injection he with he1 _ he2
          subst he1 he2
          have h1 := hr.far (fun b o h3 h4 => ⟨(hs b o h3 h4).1, (hs b o h3 h4).2.1⟩) hg5
          exact h1.far (fun b o h3 h4 => ⟨Nat.lt_of_lt_of_le (hs b o h3 h4).1 hg5.size, fun e => (hs b o h3 h4).2.2 (Option.some.inj e).symm⟩) (setB_gb (b := Bb) (j := 7) (v := .slice so5 (its.length + 1) cap5)))
         have c7 : w5.cell? ⟨Bb, 7, none⟩ = some (.slice ia its.length icap) := HB5'.out.cell 7 _ rfl
         have f5 := HB5'.out.free
         have HB10 : Hid (BSt Bb W6 (bndC q.table q.join wd lf rt ao wh.length acap ga g.length gcap so5 (its.length + 1) cap5 gr none 0 0 none 0 0) (w5.setCell ⟨Bb, 7, none⟩ (.slice so5 (its.length + 1) cap5))) := Lib.hid ((HB5'.out.set 7 (.slice so5 (its.length + 1) cap5)).eq rfl)
         clear hown5 hg5 hat5 hia hi0 hz0 hz1 hz2 b7 f7 x0 x1 HX10 HX9
         as_aux_lemma =>
          go_upto_region 35 with fail
          clear c7 f5 HB5' HBC
          generalize w5.setCell ⟨Bb, 7, none⟩ (.slice so5 (its.length + 1) cap5) = W10 at *
          have HG10 := Lib.hid (gbb_trans HG6.out HB10.out.gb)
          have HS10 := Lib.hid (HS6.out.gb HB10.out.gb hBb hBS)
          obtain ⟨ta2, tc2, co2, cc2, s02, s12, _, hcr2⟩ := HS10.out.read
          obtain ⟨gq, gcq, hgv, hgrow⟩ := own_ints (own_gbb HGO.out HB10.out.gb hbW5)
          injection hgv with hgv1 _ hgv2
          subst hgv1 hgv2
          have hci := fun (wx : World) (hb : Below W10.heap.size W10 wx) => checkItem_any (t := q.table) (j := q.join) (wd := wd) (lf := lf) (rt := rt) (wo := ao) (wn := wh.length) (wc := acap) (ga := ga) (G := g) (gc := gcap) (ia := so5) (im := its.length + 1) (ic := cap5) (gr := gr) (na := none) (nn := 0) (nc := 0) (ka := none) (kn := 0) (kc := 0) (x := ⟨x.agg, el⟩) (eo := eq) (ec := ecq) (co := co2) (cc := cc2) (C := scopeR ts) (i := 0) (HG.out.self (HBW.out wx (gbb_below HG10.out hb))) (HX5.out.self hb) HEL.out hell hxo.lo (hcr2.self hb) HCK.out (by omega) (hgrow.self hb) (by omega) (by omega)
          unfold bndV at hci
          have b0 : W10.cell? ⟨Bb, 0, none⟩ = some (.string q.table) := HB10.out.cell 0 _ rfl
          have b1 : W10.cell? ⟨Bb, 1, none⟩ = some (.string q.join) := HB10.out.cell 1 _ rfl
          have b2 : W10.cell? ⟨Bb, 2, none⟩ = some (.int .i64 wd) := HB10.out.cell 2 _ rfl
          have b3 : W10.cell? ⟨Bb, 3, none⟩ = some (.int .i64 lf) := HB10.out.cell 3 _ rfl
          have b4 : W10.cell? ⟨Bb, 4, none⟩ = some (.int .i64 rt) := HB10.out.cell 4 _ rfl
          have b5 : W10.cell? ⟨Bb, 5, none⟩ = some (.slice ao wh.length acap) := HB10.out.cell 5 _ rfl
          have b6 : W10.cell? ⟨Bb, 6, none⟩ = some (.slice ga g.length gcap) := HB10.out.cell 6 _ rfl
          have b7 : W10.cell? ⟨Bb, 7, none⟩ = some (.slice so5 (its.length + 1) cap5) := HB10.out.cell 7 _ rfl
          have b8 : W10.cell? ⟨Bb, 8, none⟩ = some (.bool gr) := HB10.out.cell 8 _ rfl
          have b9 : W10.cell? ⟨Bb, 9, none⟩ = some (.slice none 0 0) := HB10.out.cell 9 _ rfl
          have b10 : W10.cell? ⟨Bb, 10, none⟩ = some (.slice none 0 0) := HB10.out.cell 10 _ rfl
          have x0 : W10.cell? ⟨A, 0, none⟩ = some (.int .u8 x.agg) := by rw [Lib.cell_of_heap HA5.out]; rfl
          have x1 : W10.cell? ⟨A, 1, none⟩ = some (.slice eq el.length ecq) := by rw [Lib.cell_of_heap HA5.out]; rfl
          have HKC := Lib.hid fun (wx : World) (hb : Below W10.heap.size W10 wx) => (show wx.cell? ⟨Bb, 0, none⟩ = some (.string q.table) ∧ wx.cell? ⟨Bb, 1, none⟩ = some (.string q.join) ∧ wx.cell? ⟨Bb, 2, none⟩ = some (.int .i64 wd) ∧ wx.cell? ⟨Bb, 3, none⟩ = some (.int .i64 lf) ∧ wx.cell? ⟨Bb, 4, none⟩ = some (.int .i64 rt) ∧ wx.cell? ⟨Bb, 5, none⟩ = some (.slice ao wh.length acap) ∧ wx.cell? ⟨Bb, 6, none⟩ = some (.slice ga g.length gcap) ∧ wx.cell? ⟨Bb, 7, none⟩ = some (.slice so5 (its.length + 1) cap5) ∧ wx.cell? ⟨Bb, 8, none⟩ = some (.bool gr) ∧ wx.cell? ⟨Bb, 9, none⟩ = some (.slice none 0 0) ∧ wx.cell? ⟨Bb, 10, none⟩ = some (.slice none 0 0) ∧ wx.cell? ⟨A, 0, none⟩ = some (.int .u8 x.agg) ∧ wx.cell? ⟨A, 1, none⟩ = some (.slice eq el.length ecq) ∧ wx.cell? ⟨S, 1, none⟩ = some (.slice co2 (scopeR ts).length cc2) from ⟨keep_cellP hb b0, keep_cellP hb b1, keep_cellP hb b2, keep_cellP hb b3, keep_cellP hb b4, keep_cellP hb b5, keep_cellP hb b6, keep_cellP hb b7, keep_cellP hb b8, keep_cellP hb b9, keep_cellP hb b10, keep_cellP hb x0, keep_cellP hb x1, keep_cellP hb s12⟩)
          clear s02 hcr2 hgrow b0 b1 b2 b3 b4 b5 b6 b7 b8 b9 b10 x0 x1
          cases hri : itemB g gr ⟨x.agg, el⟩ (scopeR ts) 0 with
          | no y =>
           have HRR : Hid (Ex.no y = R) := Lib.hid (by have := HT3.out; rw [hri] at this; exact this)
           have HCI := Lib.hid fun wx hb => citem_bad hri (hci wx hb)
           clear hci hri HT3
           refine wp_region_held_drew (S := (fun wx => wx.cell? ⟨Bb, 0, none⟩ = some (.string q.table) ∧ wx.cell? ⟨Bb, 1, none⟩ = some (.string q.join) ∧ wx.cell? ⟨Bb, 2, none⟩ = some (.int .i64 wd) ∧ wx.cell? ⟨Bb, 3, none⟩ = some (.int .i64 lf) ∧ wx.cell? ⟨Bb, 4, none⟩ = some (.int .i64 rt) ∧ wx.cell? ⟨Bb, 5, none⟩ = some (.slice ao wh.length acap) ∧ wx.cell? ⟨Bb, 6, none⟩ = some (.slice ga g.length gcap) ∧ wx.cell? ⟨Bb, 7, none⟩ = some (.slice so5 (its.length + 1) cap5) ∧ wx.cell? ⟨Bb, 8, none⟩ = some (.bool gr) ∧ wx.cell? ⟨Bb, 9, none⟩ = some (.slice none 0 0) ∧ wx.cell? ⟨Bb, 10, none⟩ = some (.slice none 0 0) ∧ wx.cell? ⟨A, 0, none⟩ = some (.int .u8 x.agg) ∧ wx.cell? ⟨A, 1, none⟩ = some (.slice eq el.length ecq) ∧ wx.cell? ⟨S, 1, none⟩ = some (.slice co2 (scopeR ts).length cc2))) (by kernel_rfl) (HKC.out _ (Below.refl _ _).drew) (fun hHeld => ?_)
           refine wpAnyH_take (i := 0) (v := ?_) opAt0 (by kernel_rfl) (by kernel_rfl) (by kernel_rfl) (fun _ _ _ h => h) (Or.inl ⟨by kernel_rfl, ?_⟩) (by assumption) ?_; rotate_left; intro wq hSw; (try dsimp only at hSw); go_split_ands; go_simp <;> (with_reducible rfl); try simp only [Act.put, List.setIfInBounds_toArray, List.set_cons_zero, List.set_cons_succ]
           refine wpAnyH_take (i := 1) (v := ?_) opAt1 (by kernel_rfl) (by kernel_rfl) (by kernel_rfl) (fun _ _ _ h => h) (Or.inl ⟨by kernel_rfl, ?_⟩) (by assumption) ?_; rotate_left; intro wq hSw; (try dsimp only at hSw); go_split_ands; go_simp <;> (with_reducible rfl); try simp only [Act.put, List.setIfInBounds_toArray, List.set_cons_zero, List.set_cons_succ]
           refine wpAnyH_take (i := 2) (v := ?_) opAt2 (by kernel_rfl) (by kernel_rfl) (by kernel_rfl) (fun _ _ _ h => h) (Or.inl ⟨by kernel_rfl, ?_⟩) (by assumption) ?_; rotate_left; intro wq hSw; (try dsimp only at hSw); go_split_ands; go_simp <;> (with_reducible rfl); try simp only [Act.put, List.setIfInBounds_toArray, List.set_cons_zero, List.set_cons_succ]
           refine wpAnyH_take (i := 3) (v := ?_) opAt3 (by kernel_rfl) (by kernel_rfl) (by kernel_rfl) (fun _ _ _ h => h) (Or.inl ⟨by kernel_rfl, ?_⟩) (by assumption) ?_; rotate_left; intro wq hSw; (try dsimp only at hSw); go_split_ands; go_simp <;> (with_reducible rfl); try simp only [Act.put, List.setIfInBounds_toArray, List.set_cons_zero, List.set_cons_succ]
           refine wpAnyH_take (i := 4) (v := ?_) opAt4 (by kernel_rfl) (by kernel_rfl) (by kernel_rfl) (fun _ _ _ h => h) (Or.inl ⟨by kernel_rfl, ?_⟩) (by assumption) ?_; rotate_left; intro wq hSw; (try dsimp only at hSw); go_split_ands; go_simp <;> (with_reducible rfl); try simp only [Act.put, List.setIfInBounds_toArray, List.set_cons_zero, List.set_cons_succ]
           refine wpAnyH_take (i := 5) (v := ?_) opAt5 (by kernel_rfl) (by kernel_rfl) (by kernel_rfl) (fun _ _ _ h => h) (Or.inl ⟨by kernel_rfl, ?_⟩) (by assumption) ?_; rotate_left; intro wq hSw; (try dsimp only at hSw); go_split_ands; go_simp <;> (with_reducible rfl); try simp only [Act.put, List.setIfInBounds_toArray, List.set_cons_zero, List.set_cons_succ]
           refine wpAnyH_ready (rs := [6]) (by kernel_rfl) (by simp) (AllReadyH.cons opAt6 (fun K hK => ?_) AllReadyH.nil)
           go_simp
           go_at_call 30
           refine (HCI.out _ (Below.refl _ _).drew).mono ?_
           rintro e w9 ⟨rfl, hb9⟩
           exact ⟨rfl, ends_no HRR.out (gbb_below HG10.out (below_self (Below.refl _ _).drew hb9))⟩
          | ok nk =>
           obtain ⟨nn, nk⟩ := nk
           have HT4 : Hid ((itemsB ts g gr (q.items.drop (m + 1)) (its ++ [⟨x.agg, el⟩])).then (bindO ts q (wd, lf, rt) wh g gr) = R) := Lib.hid (by have := HT3.out; rw [hri] at this; exact this)
           have HCI := Lib.hid fun wx hb => citem_ok hri (hci wx hb)
           clear hci hri HT3
           refine wp_region_held_drew (S := (fun wx => wx.cell? ⟨Bb, 0, none⟩ = some (.string q.table) ∧ wx.cell? ⟨Bb, 1, none⟩ = some (.string q.join) ∧ wx.cell? ⟨Bb, 2, none⟩ = some (.int .i64 wd) ∧ wx.cell? ⟨Bb, 3, none⟩ = some (.int .i64 lf) ∧ wx.cell? ⟨Bb, 4, none⟩ = some (.int .i64 rt) ∧ wx.cell? ⟨Bb, 5, none⟩ = some (.slice ao wh.length acap) ∧ wx.cell? ⟨Bb, 6, none⟩ = some (.slice ga g.length gcap) ∧ wx.cell? ⟨Bb, 7, none⟩ = some (.slice so5 (its.length + 1) cap5) ∧ wx.cell? ⟨Bb, 8, none⟩ = some (.bool gr) ∧ wx.cell? ⟨Bb, 9, none⟩ = some (.slice none 0 0) ∧ wx.cell? ⟨Bb, 10, none⟩ = some (.slice none 0 0) ∧ wx.cell? ⟨A, 0, none⟩ = some (.int .u8 x.agg) ∧ wx.cell? ⟨A, 1, none⟩ = some (.slice eq el.length ecq) ∧ wx.cell? ⟨S, 1, none⟩ = some (.slice co2 (scopeR ts).length cc2))) (by kernel_rfl) (HKC.out _ (Below.refl _ _).drew) (fun hHeld => ?_)
           refine wpAnyH_take (i := 0) (v := ?_) opAt0 (by kernel_rfl) (by kernel_rfl) (by kernel_rfl) (fun _ _ _ h => h) (Or.inl ⟨by kernel_rfl, ?_⟩) (by assumption) ?_; rotate_left; intro wq hSw; (try dsimp only at hSw); go_split_ands; go_simp <;> (with_reducible rfl); try simp only [Act.put, List.setIfInBounds_toArray, List.set_cons_zero, List.set_cons_succ]
           refine wpAnyH_take (i := 1) (v := ?_) opAt1 (by kernel_rfl) (by kernel_rfl) (by kernel_rfl) (fun _ _ _ h => h) (Or.inl ⟨by kernel_rfl, ?_⟩) (by assumption) ?_; rotate_left; intro wq hSw; (try dsimp only at hSw); go_split_ands; go_simp <;> (with_reducible rfl); try simp only [Act.put, List.setIfInBounds_toArray, List.set_cons_zero, List.set_cons_succ]
           refine wpAnyH_take (i := 2) (v := ?_) opAt2 (by kernel_rfl) (by kernel_rfl) (by kernel_rfl) (fun _ _ _ h => h) (Or.inl ⟨by kernel_rfl, ?_⟩) (by assumption) ?_; rotate_left; intro wq hSw; (try dsimp only at hSw); go_split_ands; go_simp <;> (with_reducible rfl); try simp only [Act.put, List.setIfInBounds_toArray, List.set_cons_zero, List.set_cons_succ]
           refine wpAnyH_take (i := 3) (v := ?_) opAt3 (by kernel_rfl) (by kernel_rfl) (by kernel_rfl) (fun _ _ _ h => h) (Or.inl ⟨by kernel_rfl, ?_⟩) (by assumption) ?_; rotate_left; intro wq hSw; (try dsimp only at hSw); go_split_ands; go_simp <;> (with_reducible rfl); try simp only [Act.put, List.setIfInBounds_toArray, List.set_cons_zero, List.set_cons_succ]
           refine wpAnyH_take (i := 4) (v := ?_) opAt4 (by kernel_rfl) (by kernel_rfl) (by kernel_rfl) (fun _ _ _ h => h) (Or.inl ⟨by kernel_rfl, ?_⟩) (by assumption) ?_; rotate_left; intro wq hSw; (try dsimp only at hSw); go_split_ands; go_simp <;> (with_reducible rfl); try simp only [Act.put, List.setIfInBounds_toArray, List.set_cons_zero, List.set_cons_succ]
           refine wpAnyH_take (i := 5) (v := ?_) opAt5 (by kernel_rfl) (by kernel_rfl) (by kernel_rfl) (fun _ _ _ h => h) (Or.inl ⟨by kernel_rfl, ?_⟩) (by assumption) ?_; rotate_left; intro wq hSw; (try dsimp only at hSw); go_split_ands; go_simp <;> (with_reducible rfl); try simp only [Act.put, List.setIfInBounds_toArray, List.set_cons_zero, List.set_cons_succ]
           refine wpAnyH_ready (rs := [6]) (by kernel_rfl) (by simp) (AllReadyH.cons opAt6 (fun K hK => ?_) AllReadyH.nil)
           go_simp
           go_at_call 30
           refine (HCI.out _ (Below.refl _ _).drew).mono ?_
           rintro e w9 ⟨rfl, hb9⟩
           have hb99 : Below W10.heap.size W10 w9 := below_self (Below.refl _ _).drew hb9
           refine hK.out _ _ (HKC.out _ hb99) (fun hHeld2 => ?_)
           clear hK K
           try simp only [Act.put, List.setIfInBounds_toArray, List.set_cons_zero, List.set_cons_succ]
           refine wpAnyH_done (by kernel_rfl) ?_ _
           have HB11 := Lib.hid (HB10.out.next hb99)
           have HI11 := Lib.hid (HI5.out.next hb99 hbW6)
           clear hb9 hb99 hHeld hHeld2 HKC
           go_wp2_with fail
           go_roundw
           case rel => exact ⟨m + 1, its ++ [⟨x.agg, el⟩], so5, cap5, by go_num, by omega, Lib.hid (.inl (by rw [List.length_append]; simp; omega)), (by rw [List.length_append]; exact HB11), (by rw [List.length_append]; exact HI11), Lib.hid (by rw [if_neg (by omega)]; exact HT4.out), Lib.hid (HOKI.out.snoc ⟨HEL.out, hell, hxo.lo⟩)⟩
           case measure => simp [intOf]; omega
       ·
        obtain rfl : m = q.items.length := by omega
        have HR9 : Hid (bindE ts q (wd, lf, rt) wh g gr its its 0 [] [] = R) := Lib.hid (by
         have h := HT.out
         rw [List.drop_length] at h
         by_cases hz : q.items.length = 0
         ·
          rw [if_pos hz] at h; exact h
         ·
          rw [if_neg hz] at h; exact h)
        have hi8 : its.length ≤ 8 := by have := HIL.out; omega
        obtain ⟨ia2, icap2, hiv, hirow⟩ := HIy.out.row
        injection hiv with hiv1 _ hiv2
        subst hiv1 hiv2
        have b7 : wr.cell? ⟨Bb, 7, none⟩ = some (.slice ia its.length icap) := HBy.out.cell 7 _ rfl
        have HB11 : Hid (BSt Bb wr (bndC q.table q.join wd lf rt ao wh.length acap ga g.length gcap ia its.length icap gr none 0 0 none 0 0) wr) := Lib.hid ⟨World.grownBy.refl _ _, HBy.out.at_⟩
        have hbW11 := HB11.out.lt
        have HIR := Lib.hid hirow
        clear HT HIL hirow hlm hm
        go_wp2_with fail
        clear b7
        generalize wr = W11 at *
        go_loopw [219] (fun v wy => ∃ (n : Nat) (ns : List ByteArray) (ks : List Int) (na : Option Addr) (ncap : Nat) (ka : Option Addr) (kcap : Nat), v = .int .i64 n ∧ n ≤ its.length ∧ ns.length ≤ n ∧ ks.length ≤ n ∧ Hid (BSt Bb W11 (bndC q.table q.join wd lf rt ao wh.length acap ga g.length gcap ia its.length icap gr na ns.length ncap ka ks.length kcap) wy) ∧ Hid (NK W11.heap.size wy ns ks (.slice na ns.length ncap) (.slice ka ks.length kcap)) ∧ Hid (bindE ts q (wd, lf, rt) wh g gr its (its.drop n) n ns ks = R)) (fun v _ => its.length - (intOf v).toNat)
        case atStart => exact ⟨0, [], [], none, 0, none, 0, rfl, Nat.zero_le _, Nat.le_refl _, Nat.le_refl _, HB11, Lib.hid NK.nil, Lib.hid HR9.out⟩
        case round =>
         obtain ⟨n, ns, ks, na, ncap, ka, kcap, rfl, hn, hns, hks, HBz, HNz, HT⟩ := hrel
         have HGz := Lib.hid (gbb_trans (gbb_trans HG6.out HBy.out.gb) HBz.out.gb)
         by_cases hln : n < its.length
         ·
          as_aux_lemma =>
           have hx : its[n]? = some its[n] := List.getElem?_eq_getElem hln
           obtain ⟨hxo, hxl, hxa⟩ := HOKI.out _ (List.getElem_mem hln)
           have hT := HT.out
           rw [List.drop_eq_getElem_cons hln, bindE_step] at hT
           obtain ⟨iq, icq, hiv3, hir3⟩ := (HIy.out.far HBz.out.gb hbW6).row
           injection hiv3 with hi1 _ hi2
           subst hi1 hi2
           obtain ⟨xb, xo, rfl, eo, ec, c0, c1, hxr⟩ := hir3.at hx
           generalize its[n] = x at *
           have HT2 := Lib.hid hT
           clear hx hT HT hir3
           go_upto_region 40 with fail
           have hbA := (Below.refl wr.heap.size wr).alloc (Nat.le_refl _) (.cells #[.int .u8 x.agg, .slice eo x.e.length ec] 40)
           have hnA := heap_alloc_new wr (.cells #[.int .u8 x.agg, .slice eo x.e.length ec] 40)
           have hxr2 := hxr.self hbA
           generalize wr.alloc (.cells #[.int .u8 x.agg, .slice eo x.e.length ec] 40) = W12 at *
           have HB12 := Lib.hid (HBz.out.next hbA)
           have HN12 := Lib.hid (HNz.out.next hbA)
           have HG12 := Lib.hid (gbb_below HGz.out hbA)
           have HS12 := Lib.hid ((HS6.out.gb HBy.out.gb hBb hBS).gb HB12.out.gb hBb hBS)
           have x0 : W12.cell? ⟨wr.heap.size, 0, none⟩ = some (.int .u8 x.agg) := by rw [Lib.cell_of_heap hnA]; rfl
           have x1 : W12.cell? ⟨wr.heap.size, 1, none⟩ = some (.slice eo x.e.length ec) := by rw [Lib.cell_of_heap hnA]; rfl
           obtain ⟨ta2, tc2, co2, cc2, s02, s12, _, hcr2⟩ := HS12.out.read
           obtain ⟨gq, gcq, hgv, hgrow⟩ := own_ints (own_gbb (own_gbb HGO.out HBy.out.gb hbW5) HB12.out.gb hbW5)
           injection hgv with hgv1 _ hgv2
           subst hgv1 hgv2
           have hci := fun (wx : World) (hb : Below W12.heap.size W12 wx) => checkItem_any (t := q.table) (j := q.join) (wd := wd) (lf := lf) (rt := rt) (wo := ao) (wn := wh.length) (wc := acap) (ga := ga) (G := g) (gc := gcap) (ia := some ⟨xb, xo, none⟩) (im := its.length) (ic := icap) (gr := gr) (na := na) (nn := ns.length) (nc := ncap) (ka := ka) (kn := ks.length) (kc := kcap) (x := x) (eo := eo) (ec := ec) (co := co2) (cc := cc2) (C := scopeR ts) (i := n) (HG.out.self (HBW.out wx (gbb_below HG12.out hb))) (hxr2.self hb) hxo hxl hxa (hcr2.self hb) HCK.out (by omega) (hgrow.self hb) (by omega) (by omega)
           unfold bndV at hci
           have b0 : W12.cell? ⟨Bb, 0, none⟩ = some (.string q.table) := HB12.out.cell 0 _ rfl
           have b1 : W12.cell? ⟨Bb, 1, none⟩ = some (.string q.join) := HB12.out.cell 1 _ rfl
           have b2 : W12.cell? ⟨Bb, 2, none⟩ = some (.int .i64 wd) := HB12.out.cell 2 _ rfl
           have b3 : W12.cell? ⟨Bb, 3, none⟩ = some (.int .i64 lf) := HB12.out.cell 3 _ rfl
           have b4 : W12.cell? ⟨Bb, 4, none⟩ = some (.int .i64 rt) := HB12.out.cell 4 _ rfl
           have b5 : W12.cell? ⟨Bb, 5, none⟩ = some (.slice ao wh.length acap) := HB12.out.cell 5 _ rfl
           have b6 : W12.cell? ⟨Bb, 6, none⟩ = some (.slice ga g.length gcap) := HB12.out.cell 6 _ rfl
           have b7 : W12.cell? ⟨Bb, 7, none⟩ = some (.slice (some ⟨xb, xo, none⟩) its.length icap) := HB12.out.cell 7 _ rfl
           have b8 : W12.cell? ⟨Bb, 8, none⟩ = some (.bool gr) := HB12.out.cell 8 _ rfl
           have b9 : W12.cell? ⟨Bb, 9, none⟩ = some (.slice na ns.length ncap) := HB12.out.cell 9 _ rfl
           have b10 : W12.cell? ⟨Bb, 10, none⟩ = some (.slice ka ks.length kcap) := HB12.out.cell 10 _ rfl
           generalize wr.heap.size = A at *
           have HKC := Lib.hid fun (wx : World) (hb : Below W12.heap.size W12 wx) => (show wx.cell? ⟨Bb, 0, none⟩ = some (.string q.table) ∧ wx.cell? ⟨Bb, 1, none⟩ = some (.string q.join) ∧ wx.cell? ⟨Bb, 2, none⟩ = some (.int .i64 wd) ∧ wx.cell? ⟨Bb, 3, none⟩ = some (.int .i64 lf) ∧ wx.cell? ⟨Bb, 4, none⟩ = some (.int .i64 rt) ∧ wx.cell? ⟨Bb, 5, none⟩ = some (.slice ao wh.length acap) ∧ wx.cell? ⟨Bb, 6, none⟩ = some (.slice ga g.length gcap) ∧ wx.cell? ⟨Bb, 7, none⟩ = some (.slice (some ⟨xb, xo, none⟩) its.length icap) ∧ wx.cell? ⟨Bb, 8, none⟩ = some (.bool gr) ∧ wx.cell? ⟨Bb, 9, none⟩ = some (.slice na ns.length ncap) ∧ wx.cell? ⟨Bb, 10, none⟩ = some (.slice ka ks.length kcap) ∧ wx.cell? ⟨A, 0, none⟩ = some (.int .u8 x.agg) ∧ wx.cell? ⟨A, 1, none⟩ = some (.slice eo x.e.length ec) ∧ wx.cell? ⟨S, 1, none⟩ = some (.slice co2 (scopeR ts).length cc2) from ⟨keep_cellP hb b0, keep_cellP hb b1, keep_cellP hb b2, keep_cellP hb b3, keep_cellP hb b4, keep_cellP hb b5, keep_cellP hb b6, keep_cellP hb b7, keep_cellP hb b8, keep_cellP hb b9, keep_cellP hb b10, keep_cellP hb x0, keep_cellP hb x1, keep_cellP hb s12⟩)
           clear s02 hcr2 hgrow b0 b1 b2 b3 b4 b5 b6 b7 b8 b9 b10 x0 x1 hbA hnA hxr hxr2 c0 c1
           cases hri : itemB g gr x (scopeR ts) n with
           | no y =>
            have HRR : Hid (Ex.no y = R) := Lib.hid (by have := HT2.out; rw [hri] at this; exact this)
            have HCI := Lib.hid fun wx hb => citem_bad hri (hci wx hb)
            clear hci hri HT2
            refine wp_region_held_drew (S := (fun wx => wx.cell? ⟨Bb, 0, none⟩ = some (.string q.table) ∧ wx.cell? ⟨Bb, 1, none⟩ = some (.string q.join) ∧ wx.cell? ⟨Bb, 2, none⟩ = some (.int .i64 wd) ∧ wx.cell? ⟨Bb, 3, none⟩ = some (.int .i64 lf) ∧ wx.cell? ⟨Bb, 4, none⟩ = some (.int .i64 rt) ∧ wx.cell? ⟨Bb, 5, none⟩ = some (.slice ao wh.length acap) ∧ wx.cell? ⟨Bb, 6, none⟩ = some (.slice ga g.length gcap) ∧ wx.cell? ⟨Bb, 7, none⟩ = some (.slice (some ⟨xb, xo, none⟩) its.length icap) ∧ wx.cell? ⟨Bb, 8, none⟩ = some (.bool gr) ∧ wx.cell? ⟨Bb, 9, none⟩ = some (.slice na ns.length ncap) ∧ wx.cell? ⟨Bb, 10, none⟩ = some (.slice ka ks.length kcap) ∧ wx.cell? ⟨A, 0, none⟩ = some (.int .u8 x.agg) ∧ wx.cell? ⟨A, 1, none⟩ = some (.slice eo x.e.length ec) ∧ wx.cell? ⟨S, 1, none⟩ = some (.slice co2 (scopeR ts).length cc2))) (by kernel_rfl) (HKC.out _ (Below.refl _ _).drew) (fun hHeld => ?_)
            refine wpAnyH_take (i := 0) (v := ?_) opAt0 (by kernel_rfl) (by kernel_rfl) (by kernel_rfl) (fun _ _ _ h => h) (Or.inl ⟨by kernel_rfl, ?_⟩) (by assumption) ?_; rotate_left; intro wq hSw; (try dsimp only at hSw); go_split_ands; go_simp <;> (with_reducible rfl); try simp only [Act.put, List.setIfInBounds_toArray, List.set_cons_zero, List.set_cons_succ]
            refine wpAnyH_take (i := 1) (v := ?_) opAt1 (by kernel_rfl) (by kernel_rfl) (by kernel_rfl) (fun _ _ _ h => h) (Or.inl ⟨by kernel_rfl, ?_⟩) (by assumption) ?_; rotate_left; intro wq hSw; (try dsimp only at hSw); go_split_ands; go_simp <;> (with_reducible rfl); try simp only [Act.put, List.setIfInBounds_toArray, List.set_cons_zero, List.set_cons_succ]
            refine wpAnyH_take (i := 2) (v := ?_) opAt2 (by kernel_rfl) (by kernel_rfl) (by kernel_rfl) (fun _ _ _ h => h) (Or.inl ⟨by kernel_rfl, ?_⟩) (by assumption) ?_; rotate_left; intro wq hSw; (try dsimp only at hSw); go_split_ands; go_simp <;> (with_reducible rfl); try simp only [Act.put, List.setIfInBounds_toArray, List.set_cons_zero, List.set_cons_succ]
            refine wpAnyH_take (i := 3) (v := ?_) opAt3 (by kernel_rfl) (by kernel_rfl) (by kernel_rfl) (fun _ _ _ h => h) (Or.inl ⟨by kernel_rfl, ?_⟩) (by assumption) ?_; rotate_left; intro wq hSw; (try dsimp only at hSw); go_split_ands; go_simp <;> (with_reducible rfl); try simp only [Act.put, List.setIfInBounds_toArray, List.set_cons_zero, List.set_cons_succ]
            refine wpAnyH_take (i := 4) (v := ?_) opAt4 (by kernel_rfl) (by kernel_rfl) (by kernel_rfl) (fun _ _ _ h => h) (Or.inl ⟨by kernel_rfl, ?_⟩) (by assumption) ?_; rotate_left; intro wq hSw; (try dsimp only at hSw); go_split_ands; go_simp <;> (with_reducible rfl); try simp only [Act.put, List.setIfInBounds_toArray, List.set_cons_zero, List.set_cons_succ]
            refine wpAnyH_take (i := 5) (v := ?_) opAt5 (by kernel_rfl) (by kernel_rfl) (by kernel_rfl) (fun _ _ _ h => h) (Or.inl ⟨by kernel_rfl, ?_⟩) (by assumption) ?_; rotate_left; intro wq hSw; (try dsimp only at hSw); go_split_ands; go_simp <;> (with_reducible rfl); try simp only [Act.put, List.setIfInBounds_toArray, List.set_cons_zero, List.set_cons_succ]
            refine wpAnyH_take (i := 6) (v := ?_) opAt6 (by kernel_rfl) (by kernel_rfl) (by kernel_rfl) (fun _ _ _ h => h) (Or.inl ⟨by kernel_rfl, ?_⟩) (by assumption) ?_; rotate_left; intro wq hSw; (try dsimp only at hSw); go_split_ands; go_simp <;> (with_reducible rfl); try simp only [Act.put, List.setIfInBounds_toArray, List.set_cons_zero, List.set_cons_succ]
            refine wpAnyH_ready (rs := [7]) (by kernel_rfl) (by simp) (AllReadyH.cons opAt7 (fun K hK => ?_) AllReadyH.nil)
            go_simp
            go_at_call 30
            refine (HCI.out _ (Below.refl _ _).drew).mono ?_
            rintro e w9 ⟨rfl, hb9⟩
            exact ⟨rfl, ends_no HRR.out (gbb_below HG12.out (below_self (Below.refl _ _).drew hb9))⟩
           | ok nk =>
            obtain ⟨nm, kd⟩ := nk
            have HT3 : Hid (bindE ts q (wd, lf, rt) wh g gr its (its.drop (n + 1)) (n + 1) (ns ++ [nm]) (ks ++ [kd]) = R) := Lib.hid (by have := HT2.out; rw [hri] at this; exact this)
            have HCI := Lib.hid fun wx hb => citem_ok hri (hci wx hb)
            clear hci hri HT2
            refine wp_region_held_drew (S := (fun wx => wx.cell? ⟨Bb, 0, none⟩ = some (.string q.table) ∧ wx.cell? ⟨Bb, 1, none⟩ = some (.string q.join) ∧ wx.cell? ⟨Bb, 2, none⟩ = some (.int .i64 wd) ∧ wx.cell? ⟨Bb, 3, none⟩ = some (.int .i64 lf) ∧ wx.cell? ⟨Bb, 4, none⟩ = some (.int .i64 rt) ∧ wx.cell? ⟨Bb, 5, none⟩ = some (.slice ao wh.length acap) ∧ wx.cell? ⟨Bb, 6, none⟩ = some (.slice ga g.length gcap) ∧ wx.cell? ⟨Bb, 7, none⟩ = some (.slice (some ⟨xb, xo, none⟩) its.length icap) ∧ wx.cell? ⟨Bb, 8, none⟩ = some (.bool gr) ∧ wx.cell? ⟨Bb, 9, none⟩ = some (.slice na ns.length ncap) ∧ wx.cell? ⟨Bb, 10, none⟩ = some (.slice ka ks.length kcap) ∧ wx.cell? ⟨A, 0, none⟩ = some (.int .u8 x.agg) ∧ wx.cell? ⟨A, 1, none⟩ = some (.slice eo x.e.length ec) ∧ wx.cell? ⟨S, 1, none⟩ = some (.slice co2 (scopeR ts).length cc2))) (by kernel_rfl) (HKC.out _ (Below.refl _ _).drew) (fun hHeld => ?_)
            refine wpAnyH_take (i := 0) (v := ?_) opAt0 (by kernel_rfl) (by kernel_rfl) (by kernel_rfl) (fun _ _ _ h => h) (Or.inl ⟨by kernel_rfl, ?_⟩) (by assumption) ?_; rotate_left; intro wq hSw; (try dsimp only at hSw); go_split_ands; go_simp <;> (with_reducible rfl); try simp only [Act.put, List.setIfInBounds_toArray, List.set_cons_zero, List.set_cons_succ]
            refine wpAnyH_take (i := 1) (v := ?_) opAt1 (by kernel_rfl) (by kernel_rfl) (by kernel_rfl) (fun _ _ _ h => h) (Or.inl ⟨by kernel_rfl, ?_⟩) (by assumption) ?_; rotate_left; intro wq hSw; (try dsimp only at hSw); go_split_ands; go_simp <;> (with_reducible rfl); try simp only [Act.put, List.setIfInBounds_toArray, List.set_cons_zero, List.set_cons_succ]
            refine wpAnyH_take (i := 2) (v := ?_) opAt2 (by kernel_rfl) (by kernel_rfl) (by kernel_rfl) (fun _ _ _ h => h) (Or.inl ⟨by kernel_rfl, ?_⟩) (by assumption) ?_; rotate_left; intro wq hSw; (try dsimp only at hSw); go_split_ands; go_simp <;> (with_reducible rfl); try simp only [Act.put, List.setIfInBounds_toArray, List.set_cons_zero, List.set_cons_succ]
            refine wpAnyH_take (i := 3) (v := ?_) opAt3 (by kernel_rfl) (by kernel_rfl) (by kernel_rfl) (fun _ _ _ h => h) (Or.inl ⟨by kernel_rfl, ?_⟩) (by assumption) ?_; rotate_left; intro wq hSw; (try dsimp only at hSw); go_split_ands; go_simp <;> (with_reducible rfl); try simp only [Act.put, List.setIfInBounds_toArray, List.set_cons_zero, List.set_cons_succ]
            refine wpAnyH_take (i := 4) (v := ?_) opAt4 (by kernel_rfl) (by kernel_rfl) (by kernel_rfl) (fun _ _ _ h => h) (Or.inl ⟨by kernel_rfl, ?_⟩) (by assumption) ?_; rotate_left; intro wq hSw; (try dsimp only at hSw); go_split_ands; go_simp <;> (with_reducible rfl); try simp only [Act.put, List.setIfInBounds_toArray, List.set_cons_zero, List.set_cons_succ]
            refine wpAnyH_take (i := 5) (v := ?_) opAt5 (by kernel_rfl) (by kernel_rfl) (by kernel_rfl) (fun _ _ _ h => h) (Or.inl ⟨by kernel_rfl, ?_⟩) (by assumption) ?_; rotate_left; intro wq hSw; (try dsimp only at hSw); go_split_ands; go_simp <;> (with_reducible rfl); try simp only [Act.put, List.setIfInBounds_toArray, List.set_cons_zero, List.set_cons_succ]
            refine wpAnyH_take (i := 6) (v := ?_) opAt6 (by kernel_rfl) (by kernel_rfl) (by kernel_rfl) (fun _ _ _ h => h) (Or.inl ⟨by kernel_rfl, ?_⟩) (by assumption) ?_; rotate_left; intro wq hSw; (try dsimp only at hSw); go_split_ands; go_simp <;> (with_reducible rfl); try simp only [Act.put, List.setIfInBounds_toArray, List.set_cons_zero, List.set_cons_succ]
            refine wpAnyH_ready (rs := [7]) (by kernel_rfl) (by simp) (AllReadyH.cons opAt7 (fun K hK => ?_) AllReadyH.nil)
            go_simp
            go_at_call 30
            refine (HCI.out _ (Below.refl _ _).drew).mono ?_
            rintro e w9 ⟨rfl, hb9⟩
            have hb99 : Below W12.heap.size W12 w9 := below_self (Below.refl _ _).drew hb9
            refine hK.out _ _ (HKC.out _ hb99) (fun hHeld2 => ?_)
            clear hK K
            try simp only [Act.put, List.setIfInBounds_toArray, List.set_cons_zero, List.set_cons_succ]
            refine wpAnyH_take (i := 8) (v := ?_) opAt8 (by kernel_rfl) (by kernel_rfl) (by kernel_rfl) (fun _ _ _ h => h) (Or.inl ⟨by kernel_rfl, ?_⟩) (by assumption) ?_; rotate_left; intro wq hSw; (try dsimp only at hSw); go_split_ands; go_simp <;> (with_reducible rfl); try simp only [Act.put, List.setIfInBounds_toArray, List.set_cons_zero, List.set_cons_succ]
            refine wpAnyH_take (i := 9) (v := ?_) opAt9 (by kernel_rfl) (by kernel_rfl) (by kernel_rfl) (fun _ _ _ h => h) (Or.inl ⟨by kernel_rfl, ?_⟩) (by assumption) ?_; rotate_left; intro wq hSw; (try dsimp only at hSw); go_split_ands; go_simp <;> (with_reducible rfl); try simp only [Act.put, List.setIfInBounds_toArray, List.set_cons_zero, List.set_cons_succ]
            refine wpAnyH_take (i := 10) (v := ?_) opAt10 (by kernel_rfl) (by kernel_rfl) (by kernel_rfl) (fun _ _ _ h => h) (Or.inl ⟨by kernel_rfl, ?_⟩) (by assumption) ?_; rotate_left; intro wq hSw; (try dsimp only at hSw); go_split_ands; go_simp <;> (with_reducible rfl); try simp only [Act.put, List.setIfInBounds_toArray, List.set_cons_zero, List.set_cons_succ]
            refine wpAnyH_take (i := 11) (v := ?_) opAt11 (by kernel_rfl) (by kernel_rfl) (by kernel_rfl) (fun _ _ _ h => h) (Or.inl ⟨by kernel_rfl, ?_⟩) (by assumption) ?_; rotate_left; intro wq hSw; (try dsimp only at hSw); go_split_ands; go_simp <;> (with_reducible rfl); try simp only [Act.put, List.setIfInBounds_toArray, List.set_cons_zero, List.set_cons_succ]
            refine wpAnyH_take (i := 12) (v := ?_) opAt12 (by kernel_rfl) (by kernel_rfl) (by kernel_rfl) (fun _ _ _ h => h) (Or.inl ⟨by kernel_rfl, ?_⟩) (by assumption) ?_; rotate_left; intro wq hSw; (try dsimp only at hSw); go_split_ands; go_simp <;> (with_reducible rfl); try simp only [Act.put, List.setIfInBounds_toArray, List.set_cons_zero, List.set_cons_succ]
            refine wpAnyH_done (by kernel_rfl) ?_ _
            have HB13 := Lib.hid (HB12.out.next hb99)
            have HN13 := Lib.hid (HN12.out.next hb99)
            clear hb9 hb99 hHeld hHeld2 HKC HB12 HN12 HBz HNz HCI
            go_upto_region 41 with fail
            have HOD := Lib.hid (OS.mk (HB13.out.next (Below.refl _ _).drew) (HN13.out.next (Below.refl _ _).drew))
            clear HB13 HN13
            as_aux_lemma =>
             refine wp_region_T 9 (S := (fun wx => wx.cell? ⟨Bb, 9, none⟩ = some (.slice na ns.length ncap) ∧ wx.cell? ⟨Bb, 10, none⟩ = some (.slice ka ks.length kcap))) (by kernel_rfl) ⟨HOD.out.b.cell 9 _ rfl, HOD.out.b.cell 10 _ rfl⟩ (fun hHeld => ?_)
             refine wpAnyT_takeY (i := 0) (v := ?_) (by kernel_rfl) (by decide) opAt0 (by kernel_rfl) (by kernel_rfl) (by kernel_rfl) (fun _ _ _ h => h) (Or.inl ⟨by kernel_rfl, ?_⟩) (by assumption) ?_
             rotate_left
             intro wq
             go_simp <;> with_reducible rfl
             try simp only [Act.put, List.setIfInBounds_toArray, List.set_cons_zero, List.set_cons_succ]
             refine wpAnyT_takeY (i := 2) (v := ?_) (by kernel_rfl) (by decide) opAt2 (by kernel_rfl) (by kernel_rfl) (by kernel_rfl) (fun _ _ _ h => h) (Or.inl ⟨by kernel_rfl, ?_⟩) (by assumption) ?_
             rotate_left
             intro wq
             go_simp <;> with_reducible rfl
             try simp only [Act.put, List.setIfInBounds_toArray, List.set_cons_zero, List.set_cons_succ]
             refine wpAnyT_takeY (i := 5) (v := ?_) (by kernel_rfl) (by decide) opAt5 (by kernel_rfl) (by kernel_rfl) (by kernel_rfl) (fun _ _ _ h => h) (Or.inl ⟨by kernel_rfl, ?_⟩) (by assumption) ?_
             rotate_left
             intro wq
             go_simp <;> with_reducible rfl
             try simp only [Act.put, List.setIfInBounds_toArray, List.set_cons_zero, List.set_cons_succ]
             refine wpAnyT_takeY (i := 7) (v := ?_) (by kernel_rfl) (by decide) opAt7 (by kernel_rfl) (by kernel_rfl) (by kernel_rfl) (fun _ _ _ h => h) (Or.inl ⟨by kernel_rfl, ?_⟩) (by assumption) ?_
             rotate_left
             intro wq
             go_simp <;> with_reducible rfl
             try simp only [Act.put, List.setIfInBounds_toArray, List.set_cons_zero, List.set_cons_succ]
             refine wpAnyT_take (i := 1) (v := ?_) [4, 9] (by kernel_rfl) (by kernel_rfl) (by kernel_rfl) opAt1 (by kernel_rfl) (by kernel_rfl) (by kernel_rfl) (fun _ _ _ h => h) (Or.inl ⟨by kernel_rfl, ?_⟩) (by assumption) ?_
             rotate_left
             intro wq hSw
             (try dsimp only at hSw)
             go_split_ands
             go_simp <;> with_reducible rfl
             try simp only [Act.put, List.setIfInBounds_toArray, List.set_cons_zero, List.set_cons_succ]
             refine wpAnyT_take (i := 6) (v := ?_) [9] (by kernel_rfl) (by kernel_rfl) (by kernel_rfl) opAt6 (by kernel_rfl) (by kernel_rfl) (by kernel_rfl) (fun _ _ _ h => h) (Or.inl ⟨by kernel_rfl, ?_⟩) (by assumption) ?_
             rotate_left
             intro wq hSw
             (try dsimp only at hSw)
             go_split_ands
             go_simp <;> with_reducible rfl
             try simp only [Act.put, List.setIfInBounds_toArray, List.set_cons_zero, List.set_cons_succ]
             generalize w9.drew = W13 at *
             have hnb := own_lt HOD.out.n.n
             clear hHeld
             refine wpAnyT_ready (rs := [3, 8]) (by kernel_rfl) (by simp) (by kernel_rfl) (AllReadyT.cons opAt3 (fun K hK => ?_) (AllReadyT.cons opAt8 (fun K hK => ?_) AllReadyT.nil))
             ·
              go_simp
              have HO1 := Lib.hid (HOD.out.next ((Below.refl W13.heap.size W13).alloc (Nat.le_refl _) (.cells #[.string nm] 9)))
              refine hK.out _ _ ⟨HO1.out.b.cell 9 _ rfl, HO1.out.b.cell 10 _ rfl⟩ (fun hHeld => ?_)
              clear hK K hHeld
              try simp only [Act.put, List.setIfInBounds_toArray, List.set_cons_zero, List.set_cons_succ]
              have HL1 := Lib.hid (lies_one (w := W13) (a := .string nm) (t := 9) rfl)
              have hb1 := (Below.refl W13.heap.size W13).alloc (Nat.le_refl _) (.cells #[.string nm] 9)
              have hs1 : W13.heap.size < (W13.alloc (.cells #[.string nm] 9)).heap.size := by simp
              generalize W13.alloc (.cells #[.string nm] 9) = W14 at *
              refine wpAnyT_ready (rs := [4, 8]) (by kernel_rfl) (by simp) (by kernel_rfl) (AllReadyT.cons opAt4 (fun K hK => ?_) (AllReadyT.cons opAt8 (fun K hK => ?_) AllReadyT.nil))
              ·
               refine step_names rfl (.tmp 236) (.tmp 238) rfl HO1.out hbW11 (by simp [Act.eval]) (by simp [Act.eval]) HL1.out (by omega) ?_
               intro so7 cap7 w7 ho7 hg7
               have HO7 := Lib.hid ho7
               clear ho7 hg7
               refine hK.out _ _ ⟨HO7.out.b.cell 9 _ rfl, HO7.out.b.cell 10 _ rfl⟩ (fun hHeld => ?_)
               clear hK K hHeld
               try simp only [Act.put, List.setIfInBounds_toArray, List.set_cons_zero, List.set_cons_succ]
               refine wpAnyT_ready (rs := [8]) (by kernel_rfl) (by simp) (by kernel_rfl) (AllReadyT.cons opAt8 (fun K hK => ?_) AllReadyT.nil)
               go_simp
               have HO3 := Lib.hid (HO7.out.next ((Below.refl w7.heap.size w7).alloc (Nat.le_refl _) (.cells #[.int .u8 kd] 45)))
               refine hK.out _ _ ⟨HO3.out.b.cell 9 _ rfl, HO3.out.b.cell 10 _ rfl⟩ (fun hHeld => ?_)
               clear hK K hHeld
               try simp only [Act.put, List.setIfInBounds_toArray, List.set_cons_zero, List.set_cons_succ]
               have HL3 := Lib.hid (lies_one (w := w7) (a := .int .u8 kd) (t := 45) rfl)
               have hb3 := (Below.refl w7.heap.size w7).alloc (Nat.le_refl _) (.cells #[.int .u8 kd] 45)
               have hs3 : w7.heap.size < (w7.alloc (.cells #[.int .u8 kd] 45)).heap.size := by simp
               generalize w7.alloc (.cells #[.int .u8 kd] 45) = W17 at *
               refine wpAnyT_ready (rs := [9]) (by kernel_rfl) (by simp) (by kernel_rfl) (AllReadyT.cons opAt9 (fun K hK => ?_) AllReadyT.nil)
               refine step_kinds rfl (.tmp 241) (.tmp 243) rfl HO3.out hbW11 (by simp [Act.eval]) (by simp [Act.eval]) HL3.out (by omega) ?_
               intro so8 cap8 w8 ho8
               have HO8 := Lib.hid ho8
               clear ho8
               refine hK.out _ _ ⟨HO8.out.b.cell 9 _ rfl, HO8.out.b.cell 10 _ rfl⟩ (fun hHeld => ?_)
               clear hK K hHeld
               try simp only [Act.put, List.setIfInBounds_toArray, List.set_cons_zero, List.set_cons_succ]
               refine wpAnyT_out (by kernel_rfl) _ ?_
               have m9 : w8.cell? ⟨Bb, 9, none⟩ = some (.slice na ns.length ncap) := HO8.out.b.cell 9 _ rfl
               have m10 : w8.cell? ⟨Bb, 10, none⟩ = some (.slice ka ks.length kcap) := HO8.out.b.cell 10 _ rfl
               have f8 := HO8.out.b.free
               have HOF := Lib.hid (HO8.out.stores (na' := so7) (nn' := ns.length + 1) (nc' := cap7) (ka' := so8) (kn' := ks.length + 1) (kc' := cap8) hbW11)
               refine tkA (i := 10) (v := ?_) opAt10 ?_ ?_; rotate_left; intro wq; go_simp <;> (with_reducible rfl); try simp only [Act.put, List.setIfInBounds_toArray, List.set_cons_zero, List.set_cons_succ]
               refine wpAny_ready (rs := [11]) (by kernel_rfl) (by simp) (AllReady.cons opAt11 (fun K hK => ?_) AllReady.nil)
               go_simp
               refine hK _ _ ?_
               clear hK K
               try simp only [Act.put, List.setIfInBounds_toArray, List.set_cons_zero, List.set_cons_succ]
               refine tkA (i := 12) (v := ?_) opAt12 ?_ ?_; rotate_left; intro wq; go_simp <;> (with_reducible rfl); try simp only [Act.put, List.setIfInBounds_toArray, List.set_cons_zero, List.set_cons_succ]
               refine wpAny_ready (rs := [13]) (by kernel_rfl) (by simp) (AllReady.cons opAt13 (fun K hK => ?_) AllReady.nil)
               go_simp
               refine hK _ _ ?_
               clear hK K
               try simp only [Act.put, List.setIfInBounds_toArray, List.set_cons_zero, List.set_cons_succ]
               refine wpAny_done (by kernel_rfl) ?_ _
               go_wp2_with fail
               go_roundw
               case rel => exact ⟨n + 1, ns ++ [nm], ks ++ [kd], so7, cap7, so8, cap8, by go_num, by omega, by rw [List.length_append]; simp; omega, by rw [List.length_append]; simp; omega, (by rw [List.length_append, List.length_append]; exact Lib.hid HOF.out.b), (by rw [List.length_append, List.length_append]; exact Lib.hid HOF.out.n), HT3⟩
               case measure => simp [intOf]; omega
              ·
               go_simp
               have HO2 := Lib.hid (HO1.out.next ((Below.refl W14.heap.size W14).alloc (Nat.le_refl _) (.cells #[.int .u8 kd] 45)))
               refine hK.out _ _ ⟨HO2.out.b.cell 9 _ rfl, HO2.out.b.cell 10 _ rfl⟩ (fun hHeld => ?_)
               clear hK K hHeld
               try simp only [Act.put, List.setIfInBounds_toArray, List.set_cons_zero, List.set_cons_succ]
               have HL2 := Lib.hid (lies_one (w := W14) (a := .int .u8 kd) (t := 45) rfl)
               have hb2 := (Below.refl W14.heap.size W14).alloc (Nat.le_refl _) (.cells #[.int .u8 kd] 45)
               have hs2 : W14.heap.size < (W14.alloc (.cells #[.int .u8 kd] 45)).heap.size := by simp
               generalize W14.alloc (.cells #[.int .u8 kd] 45) = W15 at *
               refine wpAnyT_ready (rs := [4]) (by kernel_rfl) (by simp) (by kernel_rfl) (AllReadyT.cons opAt4 (fun K hK => ?_) AllReadyT.nil)
               have HL1b := Lib.hid (HL1.out.self hb2)
               refine step_names rfl (.tmp 236) (.tmp 238) rfl HO2.out hbW11 (by simp [Act.eval]) (by simp [Act.eval]) HL1b.out (by omega) ?_
               intro so7 cap7 w7 ho7 hg7
               have HO7 := Lib.hid ho7
               have HLK := Lib.hid (HL2.out.far hg7 (by omega) (fun e => by have := hnb _ e; omega))
               clear ho7 hg7
               refine hK.out _ _ ⟨HO7.out.b.cell 9 _ rfl, HO7.out.b.cell 10 _ rfl⟩ (fun hHeld => ?_)
               clear hK K hHeld
               try simp only [Act.put, List.setIfInBounds_toArray, List.set_cons_zero, List.set_cons_succ]
               refine wpAnyT_ready (rs := [9]) (by kernel_rfl) (by simp) (by kernel_rfl) (AllReadyT.cons opAt9 (fun K hK => ?_) AllReadyT.nil)
               refine step_kinds rfl (.tmp 241) (.tmp 243) rfl HO7.out hbW11 (by simp [Act.eval]) (by simp [Act.eval]) HLK.out (by omega) ?_
               intro so8 cap8 w8 ho8
               have HO8 := Lib.hid ho8
               clear ho8
               refine hK.out _ _ ⟨HO8.out.b.cell 9 _ rfl, HO8.out.b.cell 10 _ rfl⟩ (fun hHeld => ?_)
               clear hK K hHeld
               try simp only [Act.put, List.setIfInBounds_toArray, List.set_cons_zero, List.set_cons_succ]
               refine wpAnyT_out (by kernel_rfl) _ ?_
               have m9 : w8.cell? ⟨Bb, 9, none⟩ = some (.slice na ns.length ncap) := HO8.out.b.cell 9 _ rfl
               have m10 : w8.cell? ⟨Bb, 10, none⟩ = some (.slice ka ks.length kcap) := HO8.out.b.cell 10 _ rfl
               have f8 := HO8.out.b.free
               have HOF := Lib.hid (HO8.out.stores (na' := so7) (nn' := ns.length + 1) (nc' := cap7) (ka' := so8) (kn' := ks.length + 1) (kc' := cap8) hbW11)
               refine tkA (i := 10) (v := ?_) opAt10 ?_ ?_; rotate_left; intro wq; go_simp <;> (with_reducible rfl); try simp only [Act.put, List.setIfInBounds_toArray, List.set_cons_zero, List.set_cons_succ]
               refine wpAny_ready (rs := [11]) (by kernel_rfl) (by simp) (AllReady.cons opAt11 (fun K hK => ?_) AllReady.nil)
               go_simp
               refine hK _ _ ?_
               clear hK K
               try simp only [Act.put, List.setIfInBounds_toArray, List.set_cons_zero, List.set_cons_succ]
               refine tkA (i := 12) (v := ?_) opAt12 ?_ ?_; rotate_left; intro wq; go_simp <;> (with_reducible rfl); try simp only [Act.put, List.setIfInBounds_toArray, List.set_cons_zero, List.set_cons_succ]
               refine wpAny_ready (rs := [13]) (by kernel_rfl) (by simp) (AllReady.cons opAt13 (fun K hK => ?_) AllReady.nil)
               go_simp
               refine hK _ _ ?_
               clear hK K
               try simp only [Act.put, List.setIfInBounds_toArray, List.set_cons_zero, List.set_cons_succ]
               refine wpAny_done (by kernel_rfl) ?_ _
               go_wp2_with fail
               go_roundw
               case rel => exact ⟨n + 1, ns ++ [nm], ks ++ [kd], so7, cap7, so8, cap8, by go_num, by omega, by rw [List.length_append]; simp; omega, by rw [List.length_append]; simp; omega, (by rw [List.length_append, List.length_append]; exact Lib.hid HOF.out.b), (by rw [List.length_append, List.length_append]; exact Lib.hid HOF.out.n), HT3⟩
               case measure => simp [intOf]; omega
             ·
              go_simp
              have HO1 := Lib.hid (HOD.out.next ((Below.refl W13.heap.size W13).alloc (Nat.le_refl _) (.cells #[.int .u8 kd] 45)))
              refine hK.out _ _ ⟨HO1.out.b.cell 9 _ rfl, HO1.out.b.cell 10 _ rfl⟩ (fun hHeld => ?_)
              clear hK K hHeld
              try simp only [Act.put, List.setIfInBounds_toArray, List.set_cons_zero, List.set_cons_succ]
              have HL1 := Lib.hid (lies_one (w := W13) (a := .int .u8 kd) (t := 45) rfl)
              have hb1 := (Below.refl W13.heap.size W13).alloc (Nat.le_refl _) (.cells #[.int .u8 kd] 45)
              have hs1 : W13.heap.size < (W13.alloc (.cells #[.int .u8 kd] 45)).heap.size := by simp
              generalize W13.alloc (.cells #[.int .u8 kd] 45) = W14 at *
              refine wpAnyT_ready (rs := [3]) (by kernel_rfl) (by simp) (by kernel_rfl) (AllReadyT.cons opAt3 (fun K hK => ?_) AllReadyT.nil)
              go_simp
              have HO2 := Lib.hid (HO1.out.next ((Below.refl W14.heap.size W14).alloc (Nat.le_refl _) (.cells #[.string nm] 9)))
              refine hK.out _ _ ⟨HO2.out.b.cell 9 _ rfl, HO2.out.b.cell 10 _ rfl⟩ (fun hHeld => ?_)
              clear hK K hHeld
              try simp only [Act.put, List.setIfInBounds_toArray, List.set_cons_zero, List.set_cons_succ]
              have HL2 := Lib.hid (lies_one (w := W14) (a := .string nm) (t := 9) rfl)
              have hb2 := (Below.refl W14.heap.size W14).alloc (Nat.le_refl _) (.cells #[.string nm] 9)
              have hs2 : W14.heap.size < (W14.alloc (.cells #[.string nm] 9)).heap.size := by simp
              generalize W14.alloc (.cells #[.string nm] 9) = W15 at *
              have HL1b := Lib.hid (HL1.out.self hb2)
              refine wpAnyT_ready (rs := [4]) (by kernel_rfl) (by simp) (by kernel_rfl) (AllReadyT.cons opAt4 (fun K hK => ?_) AllReadyT.nil)
              refine step_names rfl (.tmp 236) (.tmp 238) rfl HO2.out hbW11 (by simp [Act.eval]) (by simp [Act.eval]) HL2.out (by omega) ?_
              intro so7 cap7 w7 ho7 hg7
              have HO7 := Lib.hid ho7
              have HLK := Lib.hid (HL1b.out.far hg7 (by omega) (fun e => by have := hnb _ e; omega))
              clear ho7 hg7
              refine hK.out _ _ ⟨HO7.out.b.cell 9 _ rfl, HO7.out.b.cell 10 _ rfl⟩ (fun hHeld => ?_)
              clear hK K hHeld
              try simp only [Act.put, List.setIfInBounds_toArray, List.set_cons_zero, List.set_cons_succ]
              refine wpAnyT_ready (rs := [9]) (by kernel_rfl) (by simp) (by kernel_rfl) (AllReadyT.cons opAt9 (fun K hK => ?_) AllReadyT.nil)
              refine step_kinds rfl (.tmp 241) (.tmp 243) rfl HO7.out hbW11 (by simp [Act.eval]) (by simp [Act.eval]) HLK.out (by omega) ?_
              intro so8 cap8 w8 ho8
              have HO8 := Lib.hid ho8
              clear ho8
              refine hK.out _ _ ⟨HO8.out.b.cell 9 _ rfl, HO8.out.b.cell 10 _ rfl⟩ (fun hHeld => ?_)
              clear hK K hHeld
              try simp only [Act.put, List.setIfInBounds_toArray, List.set_cons_zero, List.set_cons_succ]
              refine wpAnyT_out (by kernel_rfl) _ ?_
              have m9 : w8.cell? ⟨Bb, 9, none⟩ = some (.slice na ns.length ncap) := HO8.out.b.cell 9 _ rfl
              have m10 : w8.cell? ⟨Bb, 10, none⟩ = some (.slice ka ks.length kcap) := HO8.out.b.cell 10 _ rfl
              have f8 := HO8.out.b.free
              have HOF := Lib.hid (HO8.out.stores (na' := so7) (nn' := ns.length + 1) (nc' := cap7) (ka' := so8) (kn' := ks.length + 1) (kc' := cap8) hbW11)
              refine tkA (i := 10) (v := ?_) opAt10 ?_ ?_; rotate_left; intro wq; go_simp <;> (with_reducible rfl); try simp only [Act.put, List.setIfInBounds_toArray, List.set_cons_zero, List.set_cons_succ]
              refine wpAny_ready (rs := [11]) (by kernel_rfl) (by simp) (AllReady.cons opAt11 (fun K hK => ?_) AllReady.nil)
              go_simp
              refine hK _ _ ?_
              clear hK K
              try simp only [Act.put, List.setIfInBounds_toArray, List.set_cons_zero, List.set_cons_succ]
              refine tkA (i := 12) (v := ?_) opAt12 ?_ ?_; rotate_left; intro wq; go_simp <;> (with_reducible rfl); try simp only [Act.put, List.setIfInBounds_toArray, List.set_cons_zero, List.set_cons_succ]
              refine wpAny_ready (rs := [13]) (by kernel_rfl) (by simp) (AllReady.cons opAt13 (fun K hK => ?_) AllReady.nil)
              go_simp
              refine hK _ _ ?_
              clear hK K
              try simp only [Act.put, List.setIfInBounds_toArray, List.set_cons_zero, List.set_cons_succ]
              refine wpAny_done (by kernel_rfl) ?_ _
              go_wp2_with fail
              go_roundw
              case rel => exact ⟨n + 1, ns ++ [nm], ks ++ [kd], so7, cap7, so8, cap8, by go_num, by omega, by rw [List.length_append]; simp; omega, by rw [List.length_append]; simp; omega, (by rw [List.length_append, List.length_append]; exact Lib.hid HOF.out.b), (by rw [List.length_append, List.length_append]; exact Lib.hid HOF.out.n), HT3⟩
              case measure => simp [intOf]; omega
         ·
          obtain rfl : n = its.length := by omega
          have hT := HT.out
          rw [List.drop_length] at hT
          have HRR : Hid (Ex.ok (Bnd.mk q.table q.join wd lf rt wh g its gr ns ks) = R) := Lib.hid hT
          obtain ⟨wo9, wc9, hwv, hwrow⟩ := own_stps (own_gbb (own_gbb HWO6.out HBy.out.gb (by omega)) HBz.out.gb (by omega))
          injection hwv with hw1 _ hw2
          subst hw1 hw2
          obtain ⟨gq, gcq, hgv, hgrow⟩ := own_ints (own_gbb (own_gbb HGO.out HBy.out.gb hbW5) HBz.out.gb hbW5)
          injection hgv with hgv1 _ hgv2
          subst hgv1 hgv2
          obtain ⟨iq, icq, hiv3, hir3⟩ := (HIy.out.far HBz.out.gb hbW6).row
          injection hiv3 with hi1 _ hi2
          subst hi1 hi2
          obtain ⟨nq, ncq, hnv, hnrow⟩ := own_txts HNz.out.n
          injection hnv with hn1 _ hn2
          subst hn1 hn2
          obtain ⟨kq, kcq, hkv, _, hk0⟩ := own_cells HNz.out.k
          injection hkv with hk1 _ hk2
          subst hk1 hk2
          have hkrow : KRow ka ks wr := by
           rcases hk0 with h | ⟨g', h1, _, _, h2⟩
           ·
            exact .inl h
           ·
            exact .inr ⟨g', 0, h1, fun i t ht => by rw [Nat.zero_add]; exact h2 i _ (by unfold kCells; rw [List.getElem?_map, ht]; rfl)⟩
          have HGC : Hid (g.length ≤ gcap) := Lib.hid (by
           obtain ⟨_, cap, e, hc, _⟩ := own_cells (own_gbb (own_gbb HGO.out HBy.out.gb hbW5) HBz.out.gb hbW5)
           injection e with _ _ e3
           rw [e3]
           exact hc)
          have HFIN : Hid (BndR w.heap.size R Bb 0 wr) := Lib.hid (by
           rw [← HRR.out]
           exact ⟨rfl, ao, acap, ga, gcap, ia, icap, na, ncap, ka, kcap, HBz.out.at_, ⟨hwrow, hgrow, hir3, hnrow, hkrow⟩, fun g' o h => Nat.le_trans HSZ5.out (own_base (own_gbb (own_gbb HGO.out HBy.out.gb hbW5) HBz.out.gb hbW5) g' (by rw [h]; rfl)), fun g' o h => Nat.le_trans (gbb_trans HG6.out HBy.out.gb).size (own_base HNz.out.n g' (by rw [h]; rfl)), HGC.out⟩)
          clear hT HT hwrow hgrow hir3 hnrow hkrow hk0
          go_wp2_with fail
          exact bodyPost_end (results_none rfl _ _ _) rfl (.inl ⟨rfl, HFIN.out, HGz.out⟩)
end Go.Proofs.YtgjfbbmachoolaaGreatDoor.lx
