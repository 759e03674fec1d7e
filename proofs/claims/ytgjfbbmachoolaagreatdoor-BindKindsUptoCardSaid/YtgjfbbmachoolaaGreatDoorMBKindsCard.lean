/-
  potsherdlaw04.BindKinds, for all queries and tables. Conditions: the package-level variables are laid; the query and the tables lie there. BindKinds: the row and the card.
-/
import Derived.Test.YtgjfbbmachoolaaGreatDoorM21
import Derived.Test.YtgjfbbmachoolaaGreatDoorM23
import Derived.Test.YtgjfbbmachoolaaGreatDoorM24
import Derived.Test.YtgjfbbmachoolaaGreatDoorM22
namespace Go.Proofs.YtgjfbbmachoolaaGreatDoor.lx
open Go.RowKit
set_option linter.unusedVariables false
set_option linter.unusedSimpArgs false

theorem rightB_none (L : List Tbl) : rightB Bnd.none L = false := by
 by_cases hc : catR L = 0
 ·
  refine rightB_opn (y := 14) ?_
  have e : namesR Bnd.none.table Bnd.none.join = [⟨#[]⟩] := by
   unfold namesR
   rw [if_pos (by decide +kernel)]
   rfl
  rw [e, openR]
  have : L.find? (fun t => eqS t.nm ⟨#[]⟩) = none := by
   rw [List.find?_eq_none]
   intro t ht he
   have := (ctableR_ok ((catR_ok hc).2 t ht)).1
   rw [eqS_iff.1 he] at this
   exact absurd this (by decide +kernel)
  rw [this]
 ·
  exact rightB_cat hc
/-- what Bind answers where it does -/
def KndB (b : Bnd) (C : List Clm) (L : List Tbl) (e : Ending) (w' : World) : Prop :=
 ∃ (wo' : Option Addr) (wc : Nat) (ga : Option Addr) (gc : Nat) (ia : Option Addr) (ic : Nat) (na : Option Addr) (nc : Nat) (ka : Option Addr) (kc : Nat), e = .returned (.tuple #[.agg #[.string b.table, .string b.join, .int .i64 b.width, .int .i64 b.left, .int .i64 b.right, .slice wo' b.wher.length wc, .slice ga b.group.length gc, .slice ia b.items.length ic, .bool b.grouped, .slice na b.items.length nc, .slice ka b.items.length kc], .int .i64 0]) ∧ StpRow wo' b.wher w' ∧ ItmRow ia b.items w' ∧ KRow ka b.kinds w' ∧
  (∀ (wx : World) lo cap, Below w'.heap.size w' wx → PGlob wx → TblRow lo L wx → Calls Tryz.prog 15 #[.agg #[.string b.table, .string b.join, .int .i64 b.width, .int .i64 b.left, .int .i64 b.right, .slice wo' b.wher.length wc, .slice ga b.group.length gc, .slice ia b.items.length ic, .bool b.grouped, .slice na b.items.length nc, .slice ka b.items.length kc], .slice lo L.length cap] wx fun e w'' => e = .returned (.bool true) ∧ Below wx.heap.size wx w'') ∧
  ∀ (wx : World) lo cap, TblRow lo L wx → Calls Tryz.prog 13 #[.agg #[.string b.table, .string b.join, .int .i64 b.width, .int .i64 b.left, .int .i64 b.right, .slice wo' b.wher.length wc, .slice ga b.group.length gc, .slice ia b.items.length ic, .bool b.grouped, .slice na b.items.length nc, .slice ka b.items.length kc], .slice lo L.length cap] wx fun e w'' => (∃ co cap', e = .returned (.slice co C.length cap') ∧ ColRow co C w'') ∧ Below wx.heap.size wx w''
theorem kndB_any {q : Qry} {L ts : List Tbl} {b : Bnd} {io wo go lo : Option Addr} {icp wcp gcp lcap : Nat} {w : World} (hG : PGlob w) (hqi : QryIn q io wo go w) (hqo : QryOk q) (hwl : q.wher.length ≤ 1099511627776) (hxl : ∀ it ∈ q.items, it.e.length ≤ 1099511627776) (hL : TblRow lo L w) (hLo : TblsOk L) (hll : L.length ≤ 1099511627776)
  (hb : BindIs q L b ts) : Calls Tryz.prog 9 #[.agg #[.slice io q.items.length icp, .string q.table, .string q.join, .string q.left, .string q.right, .slice wo q.wher.length wcp, .slice go q.group.length gcp], .slice lo L.length lcap] w fun e w' => KndB b (colsR b L) L e w' ∧ Below w.heap.size w w' := by
 have h := Bind_any (icp := icp) (wcp := wcp) (gcp := gcp) (lcap := lcap) hG hqi hqo hwl hxl hL hLo hll
 have hbk := bindA_bok (L := L) hqo hwl hxl
 rw [bindA_ok hb.is] at h hbk
 obtain ⟨h1, h2, _, _⟩ := kinds_law hb
 have hr := hb.right
 refine h.mono fun e w' he => ?_
 obtain ⟨⟨wo', wc, ga, gc, ia, ic, na, nc, ka, kc, he, hi, hgc, _⟩, hbel⟩ := he
 refine ⟨⟨wo', wc, ga, gc, ia, ic, na, nc, ka, kc, ?_, hi.wher, hi.items, hi.kinds, fun wx lo2 cap2 hbx hGx hl2 => ?_, fun wx lo2 cap2 hl2 => ?_⟩, hbel⟩
 ·
  rw [he]
  simp only [bndA, h1, h2]
 ·
  have h := Right_any (wcp := wc) (ic := ic) (nc := nc) (kc := kc) (lcap := cap2) hGx (hi.self hbx) hbk hgc hl2 hLo hll
  rw [hr] at h
  simp only [h1, h2] at h
  exact h
 ·
  have h := Cols_any (b := b) (wo := wo') (ga := ga) (ia := ia) (na := na) (ka := ka) (wc := wc) (gc := gc) (ic := ic) (nc := nc) (kc := kc) (lcap := cap2) hl2 hLo hll
  simp only [h1, h2] at h
  exact h
/-- where it does not -/
def NoB (y : Int) (L : List Tbl) (e : Ending) (w' : World) : Prop :=
 ∃ (wo' : Option Addr) (wc : Nat) (ga : Option Addr) (gc : Nat) (ia : Option Addr) (ic : Nat) (na : Option Addr) (nc : Nat) (ka : Option Addr) (kc : Nat), e = .returned (.tuple #[.agg #[.string ⟨#[]⟩, .string ⟨#[]⟩, .int .i64 0, .int .i64 0, .int .i64 0, .slice wo' 0 wc, .slice ga 0 gc, .slice ia 0 ic, .bool false, .slice na 0 nc, .slice ka 0 kc], .int .i64 y]) ∧
  (∀ (wx : World) lo cap, Below w'.heap.size w' wx → PGlob wx → TblRow lo L wx → Calls Tryz.prog 15 #[.agg #[.string ⟨#[]⟩, .string ⟨#[]⟩, .int .i64 0, .int .i64 0, .int .i64 0, .slice wo' 0 wc, .slice ga 0 gc, .slice ia 0 ic, .bool false, .slice na 0 nc, .slice ka 0 kc], .slice lo L.length cap] wx fun e w'' => e = .returned (.bool false) ∧ Below wx.heap.size wx w'') ∧
  ∀ (wx : World), Below w'.heap.size w' wx → Calls Tryz.prog 12 #[.agg #[.string ⟨#[]⟩, .string ⟨#[]⟩, .int .i64 0, .int .i64 0, .int .i64 0, .slice wo' 0 wc, .slice ga 0 gc, .slice ia 0 ic, .bool false, .slice na 0 nc, .slice ka 0 kc], .agg #[.string ⟨#[]⟩, .string ⟨#[]⟩, .int .i64 0, .int .i64 0, .int .i64 0, .slice none 0 0, .slice none 0 0, .slice none 0 0, .bool false, .slice none 0 0, .slice none 0 0]] wx fun e w'' => e = .returned (.bool true) ∧ Below wx.heap.size wx w''
theorem noB_any {q : Qry} {L : List Tbl} {y : Int} {io wo go lo : Option Addr} {icp wcp gcp lcap : Nat} {w : World} (hG : PGlob w) (hqi : QryIn q io wo go w) (hqo : QryOk q) (hwl : q.wher.length ≤ 1099511627776) (hxl : ∀ it ∈ q.items, it.e.length ≤ 1099511627776) (hL : TblRow lo L w) (hLo : TblsOk L) (hll : L.length ≤ 1099511627776)
  (hb : bindR q L = .no y) : Calls Tryz.prog 9 #[.agg #[.slice io q.items.length icp, .string q.table, .string q.join, .string q.left, .string q.right, .slice wo q.wher.length wcp, .slice go q.group.length gcp], .slice lo L.length lcap] w fun e w' => NoB y L e w' ∧ Below w.heap.size w w' := by
 have h := Bind_any (icp := icp) (wcp := wcp) (gcp := gcp) (lcap := lcap) hG hqi hqo hwl hxl hL hLo hll
 rw [bindA_no hb] at h
 refine h.mono fun e w' he => ?_
 obtain ⟨⟨wo', wc, ga, gc, ia, ic, na, nc, ka, kc, he, hi, hgc, _⟩, hbel⟩ := he
 refine ⟨⟨wo', wc, ga, gc, ia, ic, na, nc, ka, kc, he, fun wx lo2 cap2 hbx hGx hl2 => ?_, fun wx hbx => ?_⟩, hbel⟩
 ·
  have h := Right_any (b := Bnd.none) (wcp := wc) (ic := ic) (nc := nc) (kc := kc) (lcap := cap2) hGx (hi.self hbx) bndOk_none hgc hl2 hLo hll
  rw [rightB_none] at h
  exact h
 ·
  exact SameB_any (b := Bnd.none) (wcp := wc) (gc := gc) (ic := ic) (nc := nc) (kc := kc) (wo' := none) (ga' := none) (ia' := none) (na' := none) (ka' := none) (wcp' := 0) (gc' := 0) (ic' := 0) (nc' := 0) (kc' := 0) (hi.self hbx) (bndIn_none wx) ⟨Nat.zero_le _, Nat.zero_le _, Nat.zero_le _, Nat.zero_le _, Nat.zero_le _, fun it h => by cases h⟩

set_option maxHeartbeats 8000000 in
set_option maxRecDepth 100000 in
theorem Kinds_any {q : Qry} {io wo go lo : Option Addr} {icp wcp gcp lcap : Nat} {L : List Tbl} {w : World} (hG : PGlob w) (hqi : QryIn q io wo go w) (hqo : QryOk q) (hwl : q.wher.length ≤ 1099511627776) (hxl : ∀ it ∈ q.items, it.e.length ≤ 1099511627776) (hL : TblRow lo L w) (hLo : TblsOk L) (hll : L.length ≤ 1099511627776) :
  Calls Tryz.prog 6 #[.agg #[.slice io q.items.length icp, .string q.table, .string q.join, .string q.left, .string q.right, .slice wo q.wher.length wcp, .slice go q.group.length gcp], .slice lo L.length lcap] w fun e w' => e = .returned (.bool true) ∧ Below w.heap.size w w' := by
 have HG := Lib.hid hG
 have HQI := Lib.hid hqi
 have HQO := Lib.hid hqo
 have HXL := Lib.hid hxl
 have HTR := Lib.hid hL
 have HTO := Lib.hid hLo
 have hnA := heap_alloc_new w (.cells #[.slice io q.items.length icp, .string q.table, .string q.join, .string q.left, .string q.right, .slice wo q.wher.length wcp, .slice go q.group.length gcp] 26)
 have HB1 := Lib.hid ((Below.refl w.heap.size w).alloc (Nat.le_refl _) (.cells #[.slice io q.items.length icp, .string q.table, .string q.join, .string q.left, .string q.right, .slice wo q.wher.length wcp, .slice go q.group.length gcp] 26))
 clear hG hqi hqo hxl hL hLo
 go_enter Tryz.func6, Tryz.ntmps6
 go_upto_region 1 with fail
 generalize w.alloc (.cells #[.slice io q.items.length icp, .string q.table, .string q.join, .string q.left, .string q.right, .slice wo q.wher.length wcp, .slice go q.group.length gcp] 26) = W1 at *
 have hlA := (Array.getElem?_eq_some_iff.1 hnA).1
 have HN1 := Lib.hid hnA
 clear hnA
 go_wp2_with (go_at_call 8; refine (lives4_any _ (HG.out.self HB1.out)).mono ?_; rintro e w2 ⟨rfl, hb2⟩; refine Hid.out ?_)
 refine Lib.hid ?_
 have hn2 := (hb2.block _ hlA).trans HN1.out
 have HB2 := Lib.hid (below_self HB1.out hb2)
 have HN2 := Lib.hid hn2
 have hl2 := (Array.getElem?_eq_some_iff.1 hn2).1
 have hcl : ∀ (j : Nat) v, (#[.slice io q.items.length icp, .string q.table, .string q.join, .string q.left, .string q.right, .slice wo q.wher.length wcp, .slice go q.group.length gcp] : Array Value)[j]? = some v → w2.cell? ⟨w.heap.size, j, none⟩ = some v := fun j v h => by rw [Lib.cell_of_heap HN2.out]; exact h
 have k0 := hcl 0 _ rfl
 have k1 := hcl 1 _ rfl
 have k2 := hcl 2 _ rfl
 have k3 := hcl 3 _ rfl
 have k4 := hcl 4 _ rfl
 have k5 := hcl 5 _ rfl
 have k6 := hcl 6 _ rfl
 clear hcl hn2 hb2 HB1 HN1
 cases hr : bindR q L with
 | no y =>
  have HBN := Lib.hid (noB_any (icp := icp) (wcp := wcp) (gcp := gcp) (lcap := lcap) (HG.out.self HB2.out) (HQI.out.self HB2.out) HQO.out hwl HXL.out (HTR.out.self HB2.out) HTO.out hll hr)
  have hy := bindR_nz hr
  have hyb : (y == 0) = false := by simpa using hy
  have hyb2 : (y != 0) = true := by simpa using hy
  clear hr hy
  go_wp2_with (go_at_call 9; refine HBN.out.mono ?_; rintro e w4 ⟨⟨wo', wc, ga, gc, ia, ic, na, nc, ka, kc, rfl, hrt, hsm⟩, hb4⟩; refine Hid.out ?_)
  refine Lib.hid ?_
  have HB4 := Lib.hid (below_self HB2.out hb4)
  have HRT := Lib.hid hrt
  have HSM := Lib.hid hsm
  clear hb4 HBN hrt hsm k0 k1 k2 k3 k4 k5 k6 HN2
  go_upto_region 4 with fail
  have hbA := (Below.refl w4.heap.size w4).alloc (Nat.le_refl _) (.cells #[.string ⟨#[]⟩, .string ⟨#[]⟩, .int .i64 0, .int .i64 0, .int .i64 0, .slice wo' 0 wc, .slice ga 0 gc, .slice ia 0 ic, .bool false, .slice na 0 nc, .slice ka 0 kc] 32)
  have hnA := heap_alloc_new w4 (.cells #[.string ⟨#[]⟩, .string ⟨#[]⟩, .int .i64 0, .int .i64 0, .int .i64 0, .slice wo' 0 wc, .slice ga 0 gc, .slice ia 0 ic, .bool false, .slice na 0 nc, .slice ka 0 kc] 32)
  have HB5 := Lib.hid (below_self HB4.out hbA)
  have HBA := Lib.hid hbA
  generalize w4.alloc (.cells #[.string ⟨#[]⟩, .string ⟨#[]⟩, .int .i64 0, .int .i64 0, .int .i64 0, .slice wo' 0 wc, .slice ga 0 gc, .slice ia 0 ic, .bool false, .slice na 0 nc, .slice ka 0 kc] 32) = W5 at *
  have HN5 := Lib.hid hnA
  have hl5 := (Array.getElem?_eq_some_iff.1 hnA).1
  generalize hQ : w4.heap.size = Q at HN5 hl5 ⊢
  clear hQ
  clear hbA hnA
  have hcl : ∀ (j : Nat) v, (#[.string ⟨#[]⟩, .string ⟨#[]⟩, .int .i64 0, .int .i64 0, .int .i64 0, .slice wo' 0 wc, .slice ga 0 gc, .slice ia 0 ic, .bool false, .slice na 0 nc, .slice ka 0 kc] : Array Value)[j]? = some v → W5.cell? ⟨Q, j, none⟩ = some v := fun j v h => by rw [Lib.cell_of_heap HN5.out]; exact h
  have k0 := hcl 0 _ rfl
  have k1 := hcl 1 _ rfl
  have k2 := hcl 2 _ rfl
  have k3 := hcl 3 _ rfl
  have k4 := hcl 4 _ rfl
  have k5 := hcl 5 _ rfl
  have k6 := hcl 6 _ rfl
  have k7 := hcl 7 _ rfl
  have k8 := hcl 8 _ rfl
  have k9 := hcl 9 _ rfl
  have k10 := hcl 10 _ rfl
  have HS5 := Lib.hid (HSM.out W5 HBA.out)
  clear hcl HSM
  go_wp2_with (go_at_call 12; refine HS5.out.mono ?_; rintro e w6 ⟨rfl, hb6⟩; refine Hid.out ?_)
  refine Lib.hid ?_
  have HB6 := Lib.hid (below_self HB5.out hb6)
  have hn6 := (hb6.block Q hl5).trans HN5.out
  have HR6 := Lib.hid (HRT.out w6 lo lcap (below_self HBA.out hb6) (HG.out.self HB6.out) (HTR.out.self HB6.out))
  clear hb6 HS5 HRT k0 k1 k2 k3 k4 k5 k6 k7 k8 k9 k10
  have hcl : ∀ (j : Nat) v, (#[.string ⟨#[]⟩, .string ⟨#[]⟩, .int .i64 0, .int .i64 0, .int .i64 0, .slice wo' 0 wc, .slice ga 0 gc, .slice ia 0 ic, .bool false, .slice na 0 nc, .slice ka 0 kc] : Array Value)[j]? = some v → w6.cell? ⟨Q, j, none⟩ = some v := fun j v h => by rw [Lib.cell_of_heap hn6]; exact h
  have k0 := hcl 0 _ rfl
  have k1 := hcl 1 _ rfl
  have k2 := hcl 2 _ rfl
  have k3 := hcl 3 _ rfl
  have k4 := hcl 4 _ rfl
  have k5 := hcl 5 _ rfl
  have k6 := hcl 6 _ rfl
  have k7 := hcl 7 _ rfl
  have k8 := hcl 8 _ rfl
  have k9 := hcl 9 _ rfl
  have k10 := hcl 10 _ rfl
  clear hcl hn6
  go_wp2_with (go_at_call 15; refine HR6.out.mono ?_; rintro e w7 ⟨rfl, hb7⟩; refine Hid.out ?_)
  refine Lib.hid ?_
  have HB7 := Lib.hid (below_self HB6.out hb7)
  clear hb7 HR6 k0 k1 k2 k3 k4 k5 k6 k7 k8 k9 k10
  go_wp2_with fail
  go_ret
  exact ⟨rfl, HB7.out⟩
 | ok b =>
  obtain ⟨ts, hbi⟩ := bindR_ok hr
  have hba := kndB_any (icp := icp) (wcp := wcp) (gcp := gcp) (lcap := lcap) (HG.out.self HB2.out) (HQI.out.self HB2.out) HQO.out hwl HXL.out (HTR.out.self HB2.out) HTO.out hll hbi
  have hbk := bindA_bok (L := L) HQO.out hwl HXL.out
  rw [bindA_ok hbi.is] at hbk
  obtain ⟨l1, l2, l3, l4⟩ := kinds_law hbi
  obtain ⟨i1, i2, i3, _⟩ := hbi.items_is
  have hck : ∀ c ∈ colsR b L, 0 ≤ c.k ∧ c.k ≤ 255 := fun c hc => by
   rw [hbi.cols] at hc
   have := hbi.cols_pos c hc
   omega
  have hcl8 : (colsR b L).length ≤ 4398046511104 := by
   rw [hbi.cols]
   have h1 := scope_len (ts := ts) fun t ht => (HTO.out t (openR_mem hbi.opn t ht)).2.2
   have h2 : ts.length ≤ 2 := by rw [openR_len hbi.opn]; unfold namesR; split <;> simp
   omega
  generalize colsR b L = C at *
  have HBA := Lib.hid hba
  have HBK := Lib.hid hbk
  have HL2 := Lib.hid l2
  have HL3 := Lib.hid l3
  have HL4 := Lib.hid l4
  have HI3 := Lib.hid i3
  have HCK := Lib.hid hck
  clear hba hbi hr hbk l1 l2 l3 l4 i3 hck
  go_wp2_with (go_at_call 9; refine HBA.out.mono ?_; rintro e w4 ⟨⟨wo', wc, ga, gc, ia, ic, na, nc, ka, kc, rfl, hsr, hir, hkr, hrt, hcs⟩, hb4⟩; refine Hid.out ?_)
  refine Lib.hid ?_
  have HB4 := Lib.hid (below_self HB2.out hb4)
  have HN4 := Lib.hid ((hb4.block _ hl2).trans HN2.out)
  have hl4 := Nat.lt_of_lt_of_le hl2 hb4.size
  clear hb4 HBA HN2 k0 k1 k2 k3 k4 k5 k6
  go_upto_region 4 with fail
  have hbA := (Below.refl w4.heap.size w4).alloc (Nat.le_refl _) (.cells #[.string b.table, .string b.join, .int .i64 b.width, .int .i64 b.left, .int .i64 b.right, .slice wo' b.wher.length wc, .slice ga b.group.length gc, .slice ia b.items.length ic, .bool b.grouped, .slice na b.items.length nc, .slice ka b.items.length kc] 32)
  have hnA := heap_alloc_new w4 (.cells #[.string b.table, .string b.join, .int .i64 b.width, .int .i64 b.left, .int .i64 b.right, .slice wo' b.wher.length wc, .slice ga b.group.length gc, .slice ia b.items.length ic, .bool b.grouped, .slice na b.items.length nc, .slice ka b.items.length kc] 32)
  have HB5 := Lib.hid (below_self HB4.out hbA)
  have HBA := Lib.hid hbA
  have HSR := Lib.hid (hsr.self hbA)
  have HIR := Lib.hid (hir.self hbA)
  have HKR := Lib.hid (hkr.self hbA)
  have HCS := Lib.hid hcs
  have HRT := Lib.hid hrt
  have HQ5 := Lib.hid ((hbA.block _ hl4).trans HN4.out)
  generalize w4.alloc (.cells #[.string b.table, .string b.join, .int .i64 b.width, .int .i64 b.left, .int .i64 b.right, .slice wo' b.wher.length wc, .slice ga b.group.length gc, .slice ia b.items.length ic, .bool b.grouped, .slice na b.items.length nc, .slice ka b.items.length kc] 32) = W5 at *
  have HN5 := Lib.hid hnA
  have hl5 := (Array.getElem?_eq_some_iff.1 hnA).1
  have hq5 := (Array.getElem?_eq_some_iff.1 HQ5.out).1
  generalize hQ : w4.heap.size = Q at HN5 hl5 ⊢
  clear hQ
  have HR5 := Lib.hid (HRT.out W5 lo lcap HBA.out (HG.out.self HB5.out) (HTR.out.self HB5.out))
  clear hbA hnA hsr hir hkr hcs hrt HN4 HRT
  have hcl : ∀ (j : Nat) v, (#[.string b.table, .string b.join, .int .i64 b.width, .int .i64 b.left, .int .i64 b.right, .slice wo' b.wher.length wc, .slice ga b.group.length gc, .slice ia b.items.length ic, .bool b.grouped, .slice na b.items.length nc, .slice ka b.items.length kc] : Array Value)[j]? = some v → W5.cell? ⟨Q, j, none⟩ = some v := fun j v h => by rw [Lib.cell_of_heap HN5.out]; exact h
  have k0 := hcl 0 _ rfl
  have k1 := hcl 1 _ rfl
  have k2 := hcl 2 _ rfl
  have k3 := hcl 3 _ rfl
  have k4 := hcl 4 _ rfl
  have k5 := hcl 5 _ rfl
  have k6 := hcl 6 _ rfl
  have k7 := hcl 7 _ rfl
  have k8 := hcl 8 _ rfl
  have k9 := hcl 9 _ rfl
  have k10 := hcl 10 _ rfl
  clear hcl
  go_wp2_with (go_at_call 15; refine HR5.out.mono ?_; rintro e w6 ⟨rfl, hb6⟩; refine Hid.out ?_)
  refine Lib.hid ?_
  have HB6 := Lib.hid (below_self HB5.out hb6)
  have HN6 := Lib.hid ((hb6.block Q hl5).trans HN5.out)
  have HQ6 := Lib.hid ((hb6.block _ hq5).trans HQ5.out)
  have hl6 := Nat.lt_of_lt_of_le hl5 hb6.size
  have hq6 := Nat.lt_of_lt_of_le hq5 hb6.size
  have HSR6 := Lib.hid (HSR.out.self hb6)
  have HIR6 := Lib.hid (HIR.out.self hb6)
  have HKR6 := Lib.hid (HKR.out.self hb6)
  have HC6 := Lib.hid (HCS.out w6 lo lcap (HTR.out.self HB6.out))
  clear HR5 hb6 HN5 HQ5 HSR HIR HKR HCS hl5 hq5 k0 k1 k2 k3 k4 k5 k6 k7 k8 k9 k10
  have hcl : ∀ (j : Nat) v, (#[.string b.table, .string b.join, .int .i64 b.width, .int .i64 b.left, .int .i64 b.right, .slice wo' b.wher.length wc, .slice ga b.group.length gc, .slice ia b.items.length ic, .bool b.grouped, .slice na b.items.length nc, .slice ka b.items.length kc] : Array Value)[j]? = some v → w6.cell? ⟨Q, j, none⟩ = some v := fun j v h => by rw [Lib.cell_of_heap HN6.out]; exact h
  have k0 := hcl 0 _ rfl
  have k1 := hcl 1 _ rfl
  have k2 := hcl 2 _ rfl
  have k3 := hcl 3 _ rfl
  have k4 := hcl 4 _ rfl
  have k5 := hcl 5 _ rfl
  have k6 := hcl 6 _ rfl
  have k7 := hcl 7 _ rfl
  have k8 := hcl 8 _ rfl
  have k9 := hcl 9 _ rfl
  have k10 := hcl 10 _ rfl
  clear hcl
  have j0 : w6.cell? ⟨w.heap.size, 0, none⟩ = some (.slice io q.items.length icp) := by rw [Lib.cell_of_heap HQ6.out]; rfl
  have hmm : q.items.length = 0 ∨ (q.items.length = b.items.length ∧ 0 < b.items.length ∧ (0 : Int) < b.items.length) := by
   by_cases h : q.items.length = 0
   ·
    exact .inl h
   ·
    have := HI3.out h
    exact .inr ⟨this.symm, by omega, by omega⟩
  rcases hmm with hm | ⟨hm, hm2, hm3⟩
  all_goals (
   rw [hm] at j0
   clear hm
   go_wp2_with (go_at_call 13; refine HC6.out.mono ?_; rintro e w7 ⟨⟨co, cap7, rfl, hcr⟩, hb7⟩; refine Hid.out ?_)
   refine Lib.hid ?_
   have HB7 := Lib.hid (below_self HB6.out hb7)
   have HN7 := Lib.hid ((hb7.block Q hl6).trans HN6.out)
   have HQ7 := Lib.hid ((hb7.block _ hq6).trans HQ6.out)
   have hl7 := Nat.lt_of_lt_of_le hl6 hb7.size
   have hq7 := Nat.lt_of_lt_of_le hq6 hb7.size
   have HSR7 := Lib.hid (HSR6.out.self hb7)
   have HIR7 := Lib.hid (HIR6.out.self hb7)
   have HKR7 := Lib.hid (HKR6.out.self hb7)
   have HCR7 := Lib.hid hcr
   clear HC6 hb7 hcr HN6 HQ6 HSR6 HIR6 HKR6 hl6 hq6 k0 k1 k2 k3 k4 k5 k6 k7 k8 k9 k10
   have j7 : w7.cell? ⟨Q, 7, none⟩ = some (.slice ia b.items.length ic) := by rw [Lib.cell_of_heap HN7.out]; rfl
   go_wp2_with fail
   clear j7
   go_loopw [76] (fun v wr => ∃ k : Nat, v = .int .i64 k ∧ k ≤ b.items.length ∧ Below w7.heap.size w7 wr) (fun v _ => b.items.length - (intOf v).toNat)
   case atStart => exact ⟨0, rfl, Nat.zero_le _, Below.refl _ _⟩
   case round =>
    obtain ⟨k, rfl, hk, hb⟩ := hrel
    by_cases hlt : k < b.items.length
    ·
     have hx : b.items[k]? = some b.items[k] := List.getElem?_eq_getElem hlt
     obtain ⟨kd, hkd⟩ : ∃ s, b.kinds[k]? = some s := ⟨b.kinds[k]'(by have := HL2.out; omega), List.getElem?_eq_getElem _⟩
     have hans := HL3.out k _ hx
     rw [show b.kinds.getD k 0 = kd from by rw [List.getD_eq_getElem?_getD, hkd]; rfl] at hans
     obtain ⟨hxo, hxl, hxa⟩ := HBK.out.items _ (List.getElem_mem hlt)
     obtain ⟨ib, jf, hia, eo, ec, c0, c1, her⟩ := (HIR7.out.self hb).at hx
     obtain ⟨kb, kf, hka, q0⟩ := (HKR7.out.self hb).at hkd
     subst hia hka
     have hko := Kind_any (cap := ec) (ccap := cap7) (HG.out.self (below_self HB7.out (below_self hb ((Below.refl wr.heap.size wr).alloc (Nat.le_refl _) (.cells #[.int .u8 b.items[k].agg, .slice eo b.items[k].e.length ec] 40))))) (her.self ((Below.refl wr.heap.size wr).alloc (Nat.le_refl _) (.cells #[.int .u8 b.items[k].agg, .slice eo b.items[k].e.length ec] 40))) hxo (HCR7.out.self (below_self hb ((Below.refl wr.heap.size wr).alloc (Nat.le_refl _) (.cells #[.int .u8 b.items[k].agg, .slice eo b.items[k].e.length ec] 40)))) HCK.out hxl hcl8
     have hwn := (hb.block Q hl7).trans HN7.out
     have hkI : (k : Int) < b.items.length := by omega
     generalize b.items[k] = x at *
     obtain ⟨g, xe⟩ := x
     simp only at hans hko c0 c1
     have hbA := (Below.refl wr.heap.size wr).alloc (Nat.le_refl _) (.cells #[.int .u8 g, .slice eo xe.length ec] 40)
     have hnA := heap_alloc_new wr (.cells #[.int .u8 g, .slice eo xe.length ec] 40)
     have HBX := Lib.hid (below_self hb hbA)
     have hn12 := (hbA.block Q (Nat.lt_of_lt_of_le hl7 hb.size)).trans hwn
     clear hx hkd hxo hxl hxa her hwn
     go_upto_region 12 with fail
     have q0 := keep_cellP hbA q0
     generalize wr.alloc (.cells #[.int .u8 g, .slice eo xe.length ec] 40) = W12 at *
     have x1 : W12.cell? ⟨wr.heap.size, 1, none⟩ = some (.slice eo xe.length ec) := by rw [Lib.cell_of_heap hnA]; rfl
     have HNA := Lib.hid hnA
     have HN12 := Lib.hid hn12
     have hlA := (Array.getElem?_eq_some_iff.1 hnA).1
     have hlQ := (Array.getElem?_eq_some_iff.1 hn12).1
     have Q0 := Lib.hid fun (wx : World) (hb : Below W12.heap.size W12 wx) => keep_cellP hb q0
     have HANS := Lib.hid hans
     generalize hA : wr.heap.size = A at HNA hlA x1 ⊢
     clear hA hbA hnA hn12 c0 c1 q0 hans
     by_cases hg : g = 1
     ·
      subst hg
      obtain ⟨hk1, hk2⟩ := HANS.out.1 rfl
      subst hk2
      rw [kindA_no hk1] at hko
      have HKO := Lib.hid hko
      clear hko hk1 HANS
      go_wp2_with (go_at_call 16; refine HKO.out.mono ?_; rintro e w13 ⟨rfl, hb13⟩; refine Hid.out ?_)
      refine Lib.hid ?_
      have HBY := Lib.hid (below_self HBX.out hb13)
      have y0 : w13.cell? ⟨A, 0, none⟩ = some (.int .u8 1) := by rw [Lib.cell_of_heap ((hb13.block A hlA).trans HNA.out)]; rfl
      have y10 : w13.cell? ⟨Q, 10, none⟩ = some (.slice (some ⟨kb, kf, none⟩) b.items.length kc) := by rw [Lib.cell_of_heap ((hb13.block Q hlQ).trans HN12.out)]; rfl
      have yq := Q0.out w13 hb13
      clear hb13 HKO x1
      go_wp2_with fail
      go_roundw
      case rel => exact ⟨k + 1, by go_num, by omega, HBY.out⟩
      case measure => simp [intOf]; omega
     ·
      obtain ⟨k', hk1, hk2⟩ := HANS.out.2 hg
      rw [kindA_ok hk1] at hko
      have HKO := Lib.hid hko
      have HK2 := Lib.hid hk2
      have hg1 : (g == 1) = false := by simpa using hg
      clear hko hk1 HANS hg hk2
      by_cases hg2 : g = 2
      ·
       subst hg2
       go_wp2_with (go_at_call 16; refine HKO.out.mono ?_; rintro e w13 ⟨rfl, hb13⟩; refine Hid.out ?_)
       refine Lib.hid ?_
       have HBY := Lib.hid (below_self HBX.out hb13)
       have y0 : w13.cell? ⟨A, 0, none⟩ = some (.int .u8 2) := by rw [Lib.cell_of_heap ((hb13.block A hlA).trans HNA.out)]; rfl
       have y10 : w13.cell? ⟨Q, 10, none⟩ = some (.slice (some ⟨kb, kf, none⟩) b.items.length kc) := by rw [Lib.cell_of_heap ((hb13.block Q hlQ).trans HN12.out)]; rfl
       have yq := Q0.out w13 hb13
       clear hb13 HKO x1
       go_wp2_with fail
       go_roundw
       case rel => exact ⟨k + 1, by go_num, by omega, HBY.out⟩
       case measure => simp [intOf]; omega
      ·
       have hkk := HK2.out hg2
       subst hkk
       have hg3 : (g == 2) = false := by simpa using hg2
       have hg4 : (g != 2) = true := by simpa using hg2
       go_wp2_with (go_at_call 16; refine HKO.out.mono ?_; rintro e w13 ⟨rfl, hb13⟩; refine Hid.out ?_)
       refine Lib.hid ?_
       have HBY := Lib.hid (below_self HBX.out hb13)
       have y0 : w13.cell? ⟨A, 0, none⟩ = some (.int .u8 g) := by rw [Lib.cell_of_heap ((hb13.block A hlA).trans HNA.out)]; rfl
       have y10 : w13.cell? ⟨Q, 10, none⟩ = some (.slice (some ⟨kb, kf, none⟩) b.items.length kc) := by rw [Lib.cell_of_heap ((hb13.block Q hlQ).trans HN12.out)]; rfl
       have yq := Q0.out w13 hb13
       clear hb13 HKO x1
       go_wp2_with fail
       go_roundw
       case rel => exact ⟨k + 1, by go_num, by omega, HBY.out⟩
       case measure => simp [intOf]; omega
    ·
     have HB8 := Lib.hid (below_self HB7.out hb)
     have hwn := (hb.block Q hl7).trans HN7.out
     have hwq := (hb.block _ hq7).trans HQ7.out
     have j5 : wr.cell? ⟨Q, 5, none⟩ = some (.slice wo' b.wher.length wc) := by rw [Lib.cell_of_heap hwn]; rfl
     have q5 : wr.cell? ⟨w.heap.size, 5, none⟩ = some (.slice wo q.wher.length wcp) := by rw [Lib.cell_of_heap hwq]; rfl
     have hko := fun (hw : b.wher.length ≤ 1099511627776) => Kind_any (cap := wc) (ccap := cap7) (HG.out.self HB8.out) (HSR7.out.self hb) HBK.out.wher (HCR7.out.self hb) HCK.out hw hcl8
     clear hwn hwq
     rcases HL4.out with ⟨h1, h2⟩ | ⟨h1, kk, hk1, hk2⟩
     ·
      rw [h1] at j5
      rw [h2] at q5
      clear hko h1 h2
      go_wp2_with fail
      go_ret
      exact ⟨rfl, HB8.out⟩
     ·
      have hko := hko HBK.out.wlen
      rw [kindA_ok hk1] at hko
      have HKO := Lib.hid hko
      have h1N : ¬ (b.wher.length : Int) = 0 := by omega
      have h1B : ((b.wher.length : Int) == (0 : Int)) = false := beq_eq_false_iff_ne.2 h1N
      clear hko hk1
      rcases hk2 with rfl | rfl
      ·
       go_wp2_with (go_at_call 16; refine HKO.out.mono ?_; rintro e w13 ⟨rfl, hb13⟩; refine Hid.out ?_)
       refine Lib.hid ?_
       have HB9 := Lib.hid (below_self HB8.out hb13)
       clear hb13 HKO
       go_wp2_with fail
       go_ret
       exact ⟨rfl, HB9.out⟩
      ·
       go_wp2_with (go_at_call 16; refine HKO.out.mono ?_; rintro e w13 ⟨rfl, hb13⟩; refine Hid.out ?_)
       refine Lib.hid ?_
       have HB9 := Lib.hid (below_self HB8.out hb13)
       clear hb13 HKO
       go_wp2_with fail
       go_ret
       exact ⟨rfl, HB9.out⟩)
theorem Kinds_arg {b1 b2 cap : Nat} {q : Qry} {v : Value} {L : List Tbl} {ao : Option Addr} {W : World} (hG : PGlob W) (hq : QryArg b1 q v W) (hb1 : b1 ≤ 1048576) (hL : TblRow ao L W) (hl : L.length ≤ b2) (hw : ∀ t ∈ L, TblWf b2 t) (hb2 : b2 ≤ 1048576) :
  Calls Tryz.prog 6 #[v, .slice ao L.length cap] W fun e w' => e = .returned (.bool true) ∧ Below W.heap.size W w' := by
 obtain ⟨h1, h2, h3⟩ := hq.okB (by omega)
 obtain ⟨io, ic, wo, wc, go, gc, rfl, hi, _⟩ := hq.val
 exact Kinds_any hG hi h1 h2 h3 hL (tbls_ok hw (by omega)) (by omega)
end Go.Proofs.YtgjfbbmachoolaaGreatDoor.lx
namespace Go.Proofs.YtgjfbbmachoolaaGreatDoor.lx
open Go.ChangeShapes Go.WideShapes Go.ChangeAt Go.RowKit

namespace bkinds
set_option maxRecDepth 100000 in
theorem contract (H : Type) (enc : TypeId × Value → H) (W : World) (base : Nat) (args : Array Value) (ds gs : List (DataW H)) (before : List MemPlace)
  (hval : ∀ (j : Nat) t v, Tryz.f6.params[j]? = some t → args[j]? = some v → Value.okWide Tryz.prog W .any base t v)
  (hW : DataW.Whole enc Tryz.prog Tryz.f6.params.toList Rows.bindKindsSpec.vars false W args.toList ds gs before) (hsz0 : (DataW.weightsEach Tryz.prog (Tryz.f6.params.toList ++ (Rows.OpenSpec.upto Rows.bindKindsSpec).bare.plain.varTypes Tryz.prog) (ds ++ gs)).all (· ≤ reachBytes) = true) (hk : Rows.uptoSmall H (ds ++ gs) = true) (hG : PGlob W) :
  Calls Tryz.prog 6 args W fun e W' => ∃ v, e = .returned v ∧ Rows.bindKindsSpec.post enc Tryz.prog Tryz.f6 false true false false W args v W' := by
 have hW' := hW
 obtain ⟨p, q, hA0, hV, rfl, hfz, hnd⟩ := hW
 have hA : DataW.TrodAll enc Tryz.prog W 0 (fun _ => true) true Tryz.f6.params.toList args.toList ds p := hA0
 rw [Tryz.params6] at hA hval
 obtain ⟨v1, vs1, d1, ds1, p1, q1, hargs, rfl, rfl, h1, r1⟩ := trodAll_cons hA
 obtain ⟨v2, vs2, d2, ds2, p2, q2, hargs2, rfl, rfl, h2, r2⟩ := trodAll_cons r1
 obtain ⟨rfl, rfl, rfl⟩ := trodAll_nil r2
 subst hargs2
 obtain rfl : args = #[v1, v2] := by cases args; simp_all
 obtain ⟨rfl, rfl⟩ := trodVars_none hV
 have hAk := hA
 clear hA0
 have hsz : (DataW.weightsEach Tryz.prog ([26, 27] ++ []) ([d1, d2] ++ [])).all (· ≤ reachBytes) = true := hsz0
 obtain ⟨x1, hx1⟩ := open_qry (hval 0 26 v1 rfl rfl) h1
 obtain ⟨ao2, x2, cap2, rfl, ha2, hl2, hb2⟩ := open_tbls (hval 1 27 v2 rfl rfl) h2
 have hbulk := of_decide_eq_true hk
 simp only [Rows.uptoBulkAll, List.append_nil] at hbulk
 refine (Kinds_arg hG hx1 (by omega) ha2 hl2 hb2 (by omega)).mono fun e W' ⟨he, hg⟩ => ?_
 subst he
 have hAc := carryAll hg (by kernel_rfl) hAk
 refine ⟨_, rfl, _, _, _, [], _, [], hW', ?_, hAc, ?_, hg.frame _, fun h => by cases h⟩
 ·
  exact trodAll_cons_mk (shut_bool Tryz.underlying4 _) trodAll_mk0
 ·
  rfl

theorem reads (os : Os) {H : Type} (enc : TypeId × Value → H) : ∃ places, DataW.whole enc Tryz.prog ((laidWorld os).forCall (fun _ _ => 0) ⟨#[], #[Value.agg #[.slice none 0 0, .string ⟨#[]⟩, .string ⟨#[]⟩, .string ⟨#[]⟩, .string ⟨#[]⟩, .slice none 0 0, .slice none 0 0], Value.slice none 0 0], []⟩).memory Tryz.f6.params.toList Rows.bindKindsSpec.vars false #[Value.agg #[.slice none 0 0, .string ⟨#[]⟩, .string ⟨#[]⟩, .string ⟨#[]⟩, .string ⟨#[]⟩, .slice none 0 0, .slice none 0 0], Value.slice none 0 0].toList 8 = some ([.agg [.nil, .lit (.string []), .lit (.string []), .lit (.string []), .lit (.string []), .nil, .nil], .nil], [], places) := by
 have hw : (DataW.whole enc Tryz.prog ((laidWorld os).forCall (fun _ _ => 0) ⟨#[], #[Value.agg #[.slice none 0 0, .string ⟨#[]⟩, .string ⟨#[]⟩, .string ⟨#[]⟩, .string ⟨#[]⟩, .slice none 0 0, .slice none 0 0], Value.slice none 0 0], []⟩).memory Tryz.f6.params.toList Rows.bindKindsSpec.vars false #[Value.agg #[.slice none 0 0, .string ⟨#[]⟩, .string ⟨#[]⟩, .string ⟨#[]⟩, .string ⟨#[]⟩, .slice none 0 0, .slice none 0 0], Value.slice none 0 0].toList 8).map (fun x => (x.1, x.2.1)) =
   some ([.agg [.nil, .lit (.string []), .lit (.string []), .lit (.string []), .lit (.string []), .nil, .nil], .nil], []) := by kernel_rfl
 obtain ⟨⟨x1, x2, x3⟩, hx, hx1⟩ := Option.map_eq_some_iff.1 hw
 simp only [Prod.mk.injEq] at hx1
 obtain ⟨rfl, rfl⟩ := hx1
 exact ⟨x3, hx⟩

set_option maxRecDepth 100000 in
theorem lifted (os : Os) (started : os.Started) (H : Type) (enc : TypeId × Value → H) (F : Stop.Interp) :
  ReturnsInHanded {} Tryz.checked os 6 .any ((Rows.OpenSpec.upto Rows.bindKindsSpec).preRow enc Tryz.prog Tryz.f6 Rows.bindKindsUptoRow.domain false Rows.bindKindsUptoRow.laid) (((Rows.OpenSpec.upto Rows.bindKindsSpec).at F).post enc Tryz.prog Tryz.f6 false true false false) := by
 obtain ⟨places, hx⟩ := reads os enc
 refine returnsInHanded_of_row (C := Tryz.checked) (s := Rows.OpenSpec.upto Rows.bindKindsSpec) own started (by kernel_rfl) Tryz.func6
  (witness_row_atRef (enc := enc) (C := Tryz.checked) false (laidWorld os) #[Value.agg #[.slice none 0 0, .string ⟨#[]⟩, .string ⟨#[]⟩, .string ⟨#[]⟩, .string ⟨#[]⟩, .slice none 0 0, .slice none 0 0], Value.slice none 0 0] rfl (by kernel_rfl) (by kernel_rfl) (by kernel_rfl)
   (OpenSpec.preRow_of_cond 8 hx (by kernel_rfl) (fun k hk => by cases hk; kernel_rfl) (by kernel_rfl) (laid_met os _))) ?_
 intro W base args ds gs before hval hW _ hcond hsz hL hS _
 exact contract H enc W base args ds gs before hval hW hsz (hcond _ rfl) (pglob_of hL hS)

theorem said : Rows.BindKindsUptoSaid :=
 OpenClaim.holds_of_cond 6 Tryz.f6 rfl rfl rfl rfl rfl rfl rfl ⟨rfl, rfl, rfl, rfl, rfl⟩ rfl rfl rfl rfl rfl (by kernel_rfl) Tryz.func6 (by kernel_rfl)
  (of_decide_eq_true (by kernel_rfl)) (by unfold Func.isWrapper; first | (rw [if_pos (by decide +kernel)]; kernel_rfl) | (rw [if_neg (by decide +kernel)]; exact ⟨rfl, rfl⟩))
  (fun os started H enc _ F => by rw [OpenClaim.pre_eq_preRow]; exact lifted os started H enc F)

theorem plain (f : FuncId) (fn : Func) (hf : Tryz.pinned.checked.prog.funcNamed "potsherd/potsherdlaw04.BindKinds" = some f) (hfn : Tryz.pinned.checked.prog.funcs[f]? = some fn) :
  true = Tryz.pinned.checked.prog.looks [] ∧ ∀ (j : Nat) t, fn.params[j]? = some t → Tryz.pinned.checked.prog.wantsStandIn t = false := by
 obtain rfl : f = 6 := Option.some.inj ((show Tryz.prog.funcNamed "potsherd/potsherdlaw04.BindKinds" = some 6 by kernel_rfl).symm.trans hf) |>.symm
 obtain rfl : fn = Tryz.f6 := (Option.some.inj (Tryz.func6.symm.trans hfn)).symm
 refine ⟨by kernel_rfl, fun j t ht => ?_⟩
 rw [Tryz.params6] at ht
 have hall : ([26, 27].all fun t => !Tryz.prog.wantsStandIn t) = true := by kernel_rfl
 have := List.all_eq_true.1 hall t (by simpa using Array.mem_of_getElem? ht)
 rw [Bool.not_eq_true'] at this
 exact this

/-- THE CARD -/
theorem card : Rows.BindKindsUptoCardSaid :=
 Claim7.holds_tied_plain_at .later [] _ _ _ _ said (fun _ h => by cases h) (by kernel_rfl) (fun _ h => by cases h) bindKindsUpto_row_tie rfl ⟨rfl, rfl⟩ (by kernel_rfl) rfl plain (by kernel_rfl)
end bkinds
end Go.Proofs.YtgjfbbmachoolaaGreatDoor.lx
