/-
  potsherdlaw04.BindAll, for all queries and tables. Conditions: the package-level variables are laid; the query and the tables lie there. BindAll: the row and the card.
-/
import Derived.Test.YtgjfbbmachoolaaGreatDoorM21
import Derived.Test.YtgjfbbmachoolaaGreatDoorM23
import Derived.Test.YtgjfbbmachoolaaGreatDoorM22
namespace Go.Proofs.YtgjfbbmachoolaaGreatDoor.lx
open Go.RowKit
set_option linter.unusedVariables false
set_option linter.unusedSimpArgs false

/-- a query without items and groups -/
def bareQ (q : Qry) : Qry := ⟨[], q.table, q.join, q.left, q.right, q.wher, []⟩
theorem bareQ_ok {q : Qry} (h : QryOk q) : QryOk (bareQ q) := ⟨fun it hi => (by cases hi), Nat.zero_le _, h.wher, h.wlen, fun s hs => (by cases hs), Nat.zero_le _, h.table, h.join, h.left, h.right⟩
/-- what Bind answers of such a one -/
def AllB (C : List Clm) (L : List Tbl) (e : Ending) (w' : World) : Prop :=
 ∃ (s0 s1 : ByteArray) (z2 z3 z4 : Int) (p5 : Option Addr) (n5 c5 : Nat) (p6 : Option Addr) (n6 c6 : Nat) (p7 : Option Addr) (c7 : Nat) (p9 : Option Addr) (c9 : Nat) (p10 : Option Addr) (c10 : Nat), e = .returned (.tuple #[.agg #[.string s0, .string s1, .int .i64 z2, .int .i64 z3, .int .i64 z4, .slice p5 n5 c5, .slice p6 n6 c6, .slice p7 C.length c7, .bool false, .slice p9 C.length c9, .slice p10 C.length c10], .int .i64 0]) ∧ ItmRow p7 (allItems C.length) w' ∧ TxtRow p9 (C.map Clm.nm) w' ∧ KRow p10 (C.map Clm.k) w' ∧
  ∀ (wx : World) lo cap, TblRow lo L wx → Calls Tryz.prog 13 #[.agg #[.string s0, .string s1, .int .i64 z2, .int .i64 z3, .int .i64 z4, .slice p5 n5 c5, .slice p6 n6 c6, .slice p7 C.length c7, .bool false, .slice p9 C.length c9, .slice p10 C.length c10], .slice lo L.length cap] wx fun e w'' => (∃ co cap', e = .returned (.slice co C.length cap') ∧ ColRow co C w'') ∧ Below wx.heap.size wx w''
theorem allItems_len (n : Nat) : (allItems n).length = n := by simp [allItems]
theorem allItems_at {n i : Nat} (h : i < n) : (allItems n)[i]? = some ⟨0, [⟨6, ⟨#[]⟩, (i : Int)⟩]⟩ := by simp [allItems, h]
theorem allB_any {q : Qry} {L ts : List Tbl} {b : Bnd} {wo lo : Option Addr} {wcp lcap : Nat} {w : World} (hG : PGlob w) (hwi : StpRow wo q.wher w) (hqo : QryOk q) (hwl : q.wher.length ≤ 1099511627776) (hL : TblRow lo L w) (hLo : TblsOk L) (hll : L.length ≤ 1099511627776)
  (hb : BindIs (bareQ q) L b ts) : Calls Tryz.prog 9 #[.agg #[.slice none 0 0, .string q.table, .string q.join, .string q.left, .string q.right, .slice wo q.wher.length wcp, .slice none 0 0], .slice lo L.length lcap] w fun e w' => AllB (colsR b L) L e w' ∧ Below w.heap.size w w' := by
 have h := Bind_any (q := bareQ q) (io := none) (icp := 0) (go := none) (gcp := 0) (wcp := wcp) (lcap := lcap) hG ⟨.inl rfl, hwi, .inl rfl⟩ (bareQ_ok hqo) hwl (fun it hi => by cases hi) hL hLo hll
 rw [bindA_ok hb.is] at h
 have hc := fun (wx : World) (lo2 : Option Addr) (cap2 : Nat) (wo' ga ia na ka : Option Addr) (wc gc ic nc kc : Nat) (hl2 : TblRow lo2 L wx) => Cols_any (b := b) (wo := wo') (ga := ga) (ia := ia) (na := na) (ka := ka) (wc := wc) (gc := gc) (ic := ic) (nc := nc) (kc := kc) (lcap := cap2) hl2 hLo hll
 obtain ⟨h1, h2, h3, h4⟩ := all_law hb rfl rfl
 generalize colsR b L = C at h1 h2 h3 h4 hc
 obtain ⟨s0, s1, z2, z3, z4, wh, gr, it, gd, ns, ks⟩ := b
 simp only at h1 h2 h3 h4
 subst h1 h2 h3 h4
 refine h.mono fun e w' he => ?_
 obtain ⟨⟨wo', wc, ga, gc, ia, ic, na, nc, ka, kc, he, hi, _⟩, hbel⟩ := he
 refine ⟨⟨s0, s1, z2, z3, z4, wo', wh.length, wc, ga, gr.length, gc, ia, ic, na, nc, ka, kc, ?_, hi.items, hi.names, hi.kinds, fun wx lo2 cap2 hl2 => ?_⟩, hbel⟩
 ·
  rw [he]
  simp [bndA, allItems_len]
 ·
  have h := hc wx lo2 cap2 wo' ga ia na ka wc gc ic nc kc hl2
  simp only [allItems_len, List.length_map] at h
  exact h
theorem allN_any {q : Qry} {L : List Tbl} {y : Int} {wo lo : Option Addr} {wcp lcap : Nat} {w : World} (hG : PGlob w) (hwi : StpRow wo q.wher w) (hqo : QryOk q) (hwl : q.wher.length ≤ 1099511627776) (hL : TblRow lo L w) (hLo : TblsOk L) (hll : L.length ≤ 1099511627776)
  (hb : bindR (bareQ q) L = .no y) : Calls Tryz.prog 9 #[.agg #[.slice none 0 0, .string q.table, .string q.join, .string q.left, .string q.right, .slice wo q.wher.length wcp, .slice none 0 0], .slice lo L.length lcap] w fun e w' => OfN y e ∧ Below w.heap.size w w' := by
 have h := Bind_any (q := bareQ q) (io := none) (icp := 0) (go := none) (gcp := 0) (wcp := wcp) (lcap := lcap) hG ⟨.inl rfl, hwi, .inl rfl⟩ (bareQ_ok hqo) hwl (fun it hi => by cases hi) hL hLo hll
 rw [bindA_no hb] at h
 refine h.mono fun e w' he => ?_
 obtain ⟨⟨wo, wc, ga, gc, ia, ic, na, nc, ka, kc, he, _⟩, hbel⟩ := he
 exact ⟨⟨_, _, _, _, _, _, _, _, _, _, _, _, _, _, _, _, _, _, _, _, _, he⟩, hbel⟩

set_option maxHeartbeats 8000000 in
set_option maxRecDepth 100000 in
theorem All_any {q : Qry} {io wo go lo : Option Addr} {icp wcp gcp lcap : Nat} {L : List Tbl} {w : World} (hG : PGlob w) (hwi : StpRow wo q.wher w) (hqo : QryOk q) (hwl : q.wher.length ≤ 1099511627776) (hL : TblRow lo L w) (hLo : TblsOk L) (hll : L.length ≤ 1099511627776) :
  Calls Tryz.prog 4 #[.agg #[.slice io q.items.length icp, .string q.table, .string q.join, .string q.left, .string q.right, .slice wo q.wher.length wcp, .slice go q.group.length gcp], .slice lo L.length lcap] w fun e w' => e = .returned (.bool true) ∧ Below w.heap.size w w' := by
 have HG := Lib.hid hG
 have HWI := Lib.hid hwi
 have HQO := Lib.hid hqo
 have HTR := Lib.hid hL
 have HTO := Lib.hid hLo
 have hnA := heap_alloc_new w (.cells #[.slice io q.items.length icp, .string q.table, .string q.join, .string q.left, .string q.right, .slice wo q.wher.length wcp, .slice go q.group.length gcp] 26)
 have HB1 := Lib.hid ((Below.refl w.heap.size w).alloc (Nat.le_refl _) (.cells #[.slice io q.items.length icp, .string q.table, .string q.join, .string q.left, .string q.right, .slice wo q.wher.length wcp, .slice go q.group.length gcp] 26))
 clear hG hwi hqo hL hLo
 go_enter Tryz.func4, Tryz.ntmps4
 go_upto_region 1 with fail
 generalize w.alloc (.cells #[.slice io q.items.length icp, .string q.table, .string q.join, .string q.left, .string q.right, .slice wo q.wher.length wcp, .slice go q.group.length gcp] 26) = W1 at *
 have hlA := (Array.getElem?_eq_some_iff.1 hnA).1
 have HN1 := Lib.hid hnA
 clear hnA
 go_wp2_with (go_at_call 8; refine (lives4_any _ (HG.out.self HB1.out)).mono ?_; rintro e w2 ⟨rfl, hb2⟩; refine Hid.out ?_)
 refine Lib.hid ?_
 have hn2 := (hb2.block _ hlA).trans HN1.out
 have HB2 := Lib.hid (below_self HB1.out hb2)
 have f2 := Lib.frozen_of_heap hn2
 have k0 : w2.cell? ⟨w.heap.size, 0, none⟩ = some (.slice io q.items.length icp) := by rw [Lib.cell_of_heap hn2]; rfl
 have k6 : w2.cell? ⟨w.heap.size, 6, none⟩ = some (.slice go q.group.length gcp) := by rw [Lib.cell_of_heap hn2]; rfl
 have HB3 := Lib.hid ((HB2.out.setCell (p := ⟨w.heap.size, 0, none⟩) (Nat.le_refl _) (.slice none 0 0)).setCell (p := ⟨w.heap.size, 6, none⟩) (Nat.le_refl _) (.slice none 0 0))
 have HN3 : Hid (((w2.setCell ⟨w.heap.size, 0, none⟩ (.slice none 0 0)).setCell ⟨w.heap.size, 6, none⟩ (.slice none 0 0)).heap[w.heap.size]? = some (.cells #[.slice none 0 0, .string q.table, .string q.join, .string q.left, .string q.right, .slice wo q.wher.length wcp, .slice none 0 0] 26 (0, 0))) := Lib.hid (by simp [World.setCell, Array.getElem?_modify, hn2])
 clear hb2 hn2 HB1 HN1
 go_upto_region 4 with fail
 clear f2 k0 k6
 generalize (w2.setCell ⟨w.heap.size, 0, none⟩ (.slice none 0 0)).setCell ⟨w.heap.size, 6, none⟩ (.slice none 0 0) = W3 at *
 have hcl : ∀ (j : Nat) v, (#[.slice none 0 0, .string q.table, .string q.join, .string q.left, .string q.right, .slice wo q.wher.length wcp, .slice none 0 0] : Array Value)[j]? = some v → W3.cell? ⟨w.heap.size, j, none⟩ = some v := fun j v h => by rw [Lib.cell_of_heap HN3.out]; exact h
 have k0 := hcl 0 _ rfl
 have k1 := hcl 1 _ rfl
 have k2 := hcl 2 _ rfl
 have k3 := hcl 3 _ rfl
 have k4 := hcl 4 _ rfl
 have k5 := hcl 5 _ rfl
 have k6 := hcl 6 _ rfl
 clear hcl HN3
 cases hr : bindR (bareQ q) L with
 | no y =>
  have HBN := Lib.hid (allN_any (wcp := wcp) (lcap := lcap) (HG.out.self HB3.out) (HWI.out.self HB3.out) HQO.out hwl (HTR.out.self HB3.out) HTO.out hll hr)
  have hy := bindR_nz hr
  have hyb : (y == 0) = false := by simpa using hy
  have hyb2 : (y != 0) = true := by simpa using hy
  clear hr hy
  go_wp2_with (go_at_call 9; refine HBN.out.mono ?_; rintro e w4 ⟨⟨s0, s1, z2, z3, z4, p5, n5, c5, p6, n6, c6, p7, n7, c7, g8, p9, n9, c9, p10, n10, c10, rfl⟩, hb4⟩; refine Hid.out ?_)
  refine Lib.hid ?_
  have HB4 := Lib.hid (below_self HB3.out hb4)
  clear hb4 HBN k0 k1 k2 k3 k4 k5 k6
  go_upto_region 5 with fail
  have HB5 := Lib.hid (below_self HB4.out ((Below.refl w4.heap.size w4).alloc (Nat.le_refl _) (.cells #[.string s0, .string s1, .int .i64 z2, .int .i64 z3, .int .i64 z4, .slice p5 n5 c5, .slice p6 n6 c6, .slice p7 n7 c7, .bool g8, .slice p9 n9 c9, .slice p10 n10 c10] 32)))
  generalize w4.alloc (.cells #[.string s0, .string s1, .int .i64 z2, .int .i64 z3, .int .i64 z4, .slice p5 n5 c5, .slice p6 n6 c6, .slice p7 n7 c7, .bool g8, .slice p9 n9 c9, .slice p10 n10 c10] 32) = W5 at *
  go_wp2_with fail
  go_ret
  exact ⟨rfl, HB5.out⟩
 | ok b =>
  obtain ⟨ts, hbi⟩ := bindR_ok hr
  have hba := allB_any (wcp := wcp) (lcap := lcap) (HG.out.self HB3.out) (HWI.out.self HB3.out) HQO.out hwl (HTR.out.self HB3.out) HTO.out hll hbi
  have hC8 : (colsR b L).length ≤ 8 := by rw [hbi.cols]; exact hbi.few rfl
  generalize colsR b L = C at *
  have HBA := Lib.hid hba
  clear hba hbi hr
  go_wp2_with (go_at_call 9; refine HBA.out.mono ?_; rintro e w4 ⟨⟨s0, s1, z2, z3, z4, p5, n5, c5, p6, n6, c6, p7, c7, p9, c9, p10, c10, rfl, hir, hnr, hkr, hcs⟩, hb4⟩; refine Hid.out ?_)
  refine Lib.hid ?_
  have HB4 := Lib.hid (below_self HB3.out hb4)
  clear hb4 HBA k0 k1 k2 k3 k4 k5 k6
  go_upto_region 5 with fail
  have hbA := (Below.refl w4.heap.size w4).alloc (Nat.le_refl _) (.cells #[.string s0, .string s1, .int .i64 z2, .int .i64 z3, .int .i64 z4, .slice p5 n5 c5, .slice p6 n6 c6, .slice p7 C.length c7, .bool false, .slice p9 C.length c9, .slice p10 C.length c10] 32)
  have hnA := heap_alloc_new w4 (.cells #[.string s0, .string s1, .int .i64 z2, .int .i64 z3, .int .i64 z4, .slice p5 n5 c5, .slice p6 n6 c6, .slice p7 C.length c7, .bool false, .slice p9 C.length c9, .slice p10 C.length c10] 32)
  have HB5 := Lib.hid (below_self HB4.out hbA)
  have HIR := Lib.hid (hir.self hbA)
  have HNR := Lib.hid (hnr.self hbA)
  have HKR := Lib.hid (hkr.self hbA)
  have HCS := Lib.hid hcs
  generalize w4.alloc (.cells #[.string s0, .string s1, .int .i64 z2, .int .i64 z3, .int .i64 z4, .slice p5 n5 c5, .slice p6 n6 c6, .slice p7 C.length c7, .bool false, .slice p9 C.length c9, .slice p10 C.length c10] 32) = W5 at *
  have HN5 := Lib.hid hnA
  have hl5 := (Array.getElem?_eq_some_iff.1 hnA).1
  generalize w4.heap.size = Q at *
  clear hbA hnA hir hnr hkr hcs
  have hcl : ∀ (j : Nat) v, (#[.string s0, .string s1, .int .i64 z2, .int .i64 z3, .int .i64 z4, .slice p5 n5 c5, .slice p6 n6 c6, .slice p7 C.length c7, .bool false, .slice p9 C.length c9, .slice p10 C.length c10] : Array Value)[j]? = some v → W5.cell? ⟨Q, j, none⟩ = some v := fun j v h => by rw [Lib.cell_of_heap HN5.out]; exact h
  have k0 := hcl 0 _ rfl
  have k1 := hcl 1 _ rfl
  have k2 := hcl 2 _ rfl
  have k3 := hcl 3 _ rfl
  have k4 := hcl 4 _ rfl
  have k5 := hcl 5 _ rfl
  have k6 := hcl 6 _ rfl
  have k7 := hcl 7 _ rfl
  have k8 := hcl 8 _ rfl
  have k9 := hcl 9 _ rfl
  have k10 := hcl 10 _ rfl
  have HC5 := Lib.hid (HCS.out W5 lo lcap (HTR.out.self HB5.out))
  clear hcl HCS
  go_wp2_with (go_at_call 13; refine HC5.out.mono ?_; rintro e w6 ⟨⟨co, cap6, rfl, hcr⟩, hb6⟩; refine Hid.out ?_)
  refine Lib.hid ?_
  have HB6 := Lib.hid (below_self HB5.out hb6)
  have hn6 := (hb6.block Q hl5).trans HN5.out
  have HIR6 := Lib.hid (HIR.out.self hb6)
  have HNR6 := Lib.hid (HNR.out.self hb6)
  have HKR6 := Lib.hid (HKR.out.self hb6)
  have HCR6 := Lib.hid hcr
  have HN6 := Lib.hid hn6
  have hl6 := Nat.lt_of_lt_of_le hl5 hb6.size
  clear HC5 hb6 hcr k0 k1 k2 k3 k4 k5 k6 k7 k8 k9 k10
  have j7 : w6.cell? ⟨Q, 7, none⟩ = some (.slice p7 C.length c7) := by rw [Lib.cell_of_heap hn6]; rfl
  have j8 : w6.cell? ⟨Q, 8, none⟩ = some (.bool false) := by rw [Lib.cell_of_heap hn6]; rfl
  have j9 : w6.cell? ⟨Q, 9, none⟩ = some (.slice p9 C.length c9) := by rw [Lib.cell_of_heap hn6]; rfl
  have j10 : w6.cell? ⟨Q, 10, none⟩ = some (.slice p10 C.length c10) := by rw [Lib.cell_of_heap hn6]; rfl
  clear hn6
  go_wp2_with fail
  clear j7 j8 j9 j10
  go_loopw [53] (fun v wr => ∃ k : Nat, v = .int .i64 k ∧ k ≤ C.length ∧ Below w6.heap.size w6 wr) (fun v _ => C.length - (intOf v).toNat)
  case atStart => exact ⟨0, rfl, Nat.zero_le _, Below.refl _ _⟩
  case round =>
   obtain ⟨k, rfl, hk, hb⟩ := hrel
   by_cases hlt : k < C.length
   ·
    have hx : C[k]? = some C[k] := List.getElem?_eq_getElem hlt
    have hnx : (C.map Clm.nm)[k]? = some C[k].nm := by rw [List.getElem?_map, hx]; rfl
    have hkx : (C.map Clm.k)[k]? = some C[k].k := by rw [List.getElem?_map, hx]; rfl
    obtain ⟨cb, cf, rfl, a0, a1⟩ := (HCR6.out.self hb).at hx
    obtain ⟨nb, nf, rfl, hna⟩ := (HNR6.out.self hb).resolve_left (by rw [List.length_map]; omega)
    have n0 := hna k _ hnx
    obtain ⟨kb, kf, rfl, hka⟩ := (HKR6.out.self hb).resolve_left (by rw [List.length_map]; omega)
    have q0 := hka k _ hkx
    obtain ⟨ib, jf, rfl, hia⟩ := (HIR6.out.self hb).resolve_left (by rw [allItems_len]; omega)
    obtain ⟨eo, ec, i0, i1, her⟩ := hia k _ (allItems_at hlt)
    obtain ⟨eb, ef, rfl, hea⟩ := her.resolve_left (by simp)
    obtain ⟨_, _, e2⟩ := hea 0 _ rfl
    simp only [List.length_cons, List.length_nil, Nat.zero_add, Nat.zero_mul, Nat.add_zero] at i1 e2
    have hnr6 := (hb.block Q hl6).trans HN6.out
    have j7 : wr.cell? ⟨Q, 7, none⟩ = some (.slice (some ⟨ib, jf, none⟩) C.length c7) := by rw [Lib.cell_of_heap hnr6]; rfl
    have j9 : wr.cell? ⟨Q, 9, none⟩ = some (.slice (some ⟨nb, nf, none⟩) C.length c9) := by rw [Lib.cell_of_heap hnr6]; rfl
    have j10 : wr.cell? ⟨Q, 10, none⟩ = some (.slice (some ⟨kb, kf, none⟩) C.length c10) := by rw [Lib.cell_of_heap hnr6]; rfl
    have hkI : (k : Int) < C.length := by omega
    generalize C[k] = x at *
    clear hx hnx hkx hna hka hia her hea hnr6 i0
    have hbA := (Below.refl wr.heap.size wr).alloc (Nat.le_refl _) (.cells #[.string x.nm, .int .u8 x.k] 47)
    have hnA := heap_alloc_new wr (.cells #[.string x.nm, .int .u8 x.k] 47)
    have HBX := Lib.hid (below_self hb hbA)
    go_upto_region 13 with fail
    have n0 := keep_cellP hbA n0
    have q0 := keep_cellP hbA q0
    have i1 := keep_cellP hbA i1
    have e2 := keep_cellP hbA e2
    have j7 := keep_cellP hbA j7
    have j9 := keep_cellP hbA j9
    have j10 := keep_cellP hbA j10
    generalize wr.alloc (.cells #[.string x.nm, .int .u8 x.k] 47) = W7 at *
    have x0 : W7.cell? ⟨wr.heap.size, 0, none⟩ = some (.string x.nm) := by rw [Lib.cell_of_heap hnA]; rfl
    have x1 : W7.cell? ⟨wr.heap.size, 1, none⟩ = some (.int .u8 x.k) := by rw [Lib.cell_of_heap hnA]; rfl
    generalize wr.heap.size = A at *
    clear hbA hnA a0 a1
    go_quiet (fail)
    go_wp2_with fail
    go_roundw
    case rel => exact ⟨k + 1, by go_num, by omega, bdn HBX.out _⟩
    case measure => simp [intOf]; omega
   ·
    have HBF := Lib.hid (below_self HB6.out hb)
    go_wp2_with fail
    go_ret
    exact ⟨rfl, HBF.out⟩
theorem All_arg {b1 b2 cap : Nat} {q : Qry} {v : Value} {L : List Tbl} {ao : Option Addr} {W : World} (hG : PGlob W) (hq : QryArg b1 q v W) (hb1 : b1 ≤ 1048576) (hL : TblRow ao L W) (hl : L.length ≤ b2) (hw : ∀ t ∈ L, TblWf b2 t) (hb2 : b2 ≤ 1048576) :
  Calls Tryz.prog 4 #[v, .slice ao L.length cap] W fun e w' => e = .returned (.bool true) ∧ Below W.heap.size W w' := by
 obtain ⟨h1, h2, h3⟩ := hq.okB (by omega)
 obtain ⟨io, ic, wo, wc, go, gc, rfl, hi, _⟩ := hq.val
 exact All_any hG hi.wher h1 h2 hL (tbls_ok hw (by omega)) (by omega)
end Go.Proofs.YtgjfbbmachoolaaGreatDoor.lx
namespace Go.Proofs.YtgjfbbmachoolaaGreatDoor.lx
open Go.ChangeShapes Go.WideShapes Go.ChangeAt Go.RowKit

namespace ball
set_option maxRecDepth 100000 in
theorem contract (H : Type) (enc : TypeId × Value → H) (W : World) (base : Nat) (args : Array Value) (ds gs : List (DataW H)) (before : List MemPlace)
  (hval : ∀ (j : Nat) t v, Tryz.f4.params[j]? = some t → args[j]? = some v → Value.okWide Tryz.prog W .any base t v)
  (hW : DataW.Whole enc Tryz.prog Tryz.f4.params.toList Rows.bindAllSpec.vars false W args.toList ds gs before) (hsz0 : (DataW.weightsEach Tryz.prog (Tryz.f4.params.toList ++ (Rows.OpenSpec.upto Rows.bindAllSpec).bare.plain.varTypes Tryz.prog) (ds ++ gs)).all (· ≤ reachBytes) = true) (hk : Rows.uptoSmall H (ds ++ gs) = true) (hG : PGlob W) :
  Calls Tryz.prog 4 args W fun e W' => ∃ v, e = .returned v ∧ Rows.bindAllSpec.post enc Tryz.prog Tryz.f4 false true false false W args v W' := by
 have hW' := hW
 obtain ⟨p, q, hA0, hV, rfl, hfz, hnd⟩ := hW
 have hA : DataW.TrodAll enc Tryz.prog W 0 (fun _ => true) true Tryz.f4.params.toList args.toList ds p := hA0
 rw [Tryz.params4] at hA hval
 obtain ⟨v1, vs1, d1, ds1, p1, q1, hargs, rfl, rfl, h1, r1⟩ := trodAll_cons hA
 obtain ⟨v2, vs2, d2, ds2, p2, q2, hargs2, rfl, rfl, h2, r2⟩ := trodAll_cons r1
 obtain ⟨rfl, rfl, rfl⟩ := trodAll_nil r2
 subst hargs2
 obtain rfl : args = #[v1, v2] := by cases args; simp_all
 obtain ⟨rfl, rfl⟩ := trodVars_none hV
 have hAk := hA
 clear hA0
 have hsz : (DataW.weightsEach Tryz.prog ([26, 27] ++ []) ([d1, d2] ++ [])).all (· ≤ reachBytes) = true := hsz0
 obtain ⟨x1, hx1⟩ := open_qry (hval 0 26 v1 rfl rfl) h1
 obtain ⟨ao2, x2, cap2, rfl, ha2, hl2, hb2⟩ := open_tbls (hval 1 27 v2 rfl rfl) h2
 have hbulk := of_decide_eq_true hk
 simp only [Rows.uptoBulkAll, List.append_nil] at hbulk
 refine (All_arg hG hx1 (by omega) ha2 hl2 hb2 (by omega)).mono fun e W' ⟨he, hg⟩ => ?_
 subst he
 have hAc := carryAll hg (by kernel_rfl) hAk
 refine ⟨_, rfl, _, _, _, [], _, [], hW', ?_, hAc, ?_, hg.frame _, fun h => by cases h⟩
 ·
  exact trodAll_cons_mk (shut_bool Tryz.underlying4 _) trodAll_mk0
 ·
  rfl

theorem reads (os : Os) {H : Type} (enc : TypeId × Value → H) : ∃ places, DataW.whole enc Tryz.prog ((laidWorld os).forCall (fun _ _ => 0) ⟨#[], #[Value.agg #[.slice none 0 0, .string ⟨#[]⟩, .string ⟨#[]⟩, .string ⟨#[]⟩, .string ⟨#[]⟩, .slice none 0 0, .slice none 0 0], Value.slice none 0 0], []⟩).memory Tryz.f4.params.toList Rows.bindAllSpec.vars false #[Value.agg #[.slice none 0 0, .string ⟨#[]⟩, .string ⟨#[]⟩, .string ⟨#[]⟩, .string ⟨#[]⟩, .slice none 0 0, .slice none 0 0], Value.slice none 0 0].toList 8 = some ([.agg [.nil, .lit (.string []), .lit (.string []), .lit (.string []), .lit (.string []), .nil, .nil], .nil], [], places) := by
 have hw : (DataW.whole enc Tryz.prog ((laidWorld os).forCall (fun _ _ => 0) ⟨#[], #[Value.agg #[.slice none 0 0, .string ⟨#[]⟩, .string ⟨#[]⟩, .string ⟨#[]⟩, .string ⟨#[]⟩, .slice none 0 0, .slice none 0 0], Value.slice none 0 0], []⟩).memory Tryz.f4.params.toList Rows.bindAllSpec.vars false #[Value.agg #[.slice none 0 0, .string ⟨#[]⟩, .string ⟨#[]⟩, .string ⟨#[]⟩, .string ⟨#[]⟩, .slice none 0 0, .slice none 0 0], Value.slice none 0 0].toList 8).map (fun x => (x.1, x.2.1)) =
   some ([.agg [.nil, .lit (.string []), .lit (.string []), .lit (.string []), .lit (.string []), .nil, .nil], .nil], []) := by kernel_rfl
 obtain ⟨⟨x1, x2, x3⟩, hx, hx1⟩ := Option.map_eq_some_iff.1 hw
 simp only [Prod.mk.injEq] at hx1
 obtain ⟨rfl, rfl⟩ := hx1
 exact ⟨x3, hx⟩

set_option maxRecDepth 100000 in
theorem lifted (os : Os) (started : os.Started) (H : Type) (enc : TypeId × Value → H) (F : Stop.Interp) :
  ReturnsInHanded {} Tryz.checked os 4 .any ((Rows.OpenSpec.upto Rows.bindAllSpec).preRow enc Tryz.prog Tryz.f4 Rows.bindAllUptoRow.domain false Rows.bindAllUptoRow.laid) (((Rows.OpenSpec.upto Rows.bindAllSpec).at F).post enc Tryz.prog Tryz.f4 false true false false) := by
 obtain ⟨places, hx⟩ := reads os enc
 refine returnsInHanded_of_row (C := Tryz.checked) (s := Rows.OpenSpec.upto Rows.bindAllSpec) own started (by kernel_rfl) Tryz.func4
  (witness_row_atRef (enc := enc) (C := Tryz.checked) false (laidWorld os) #[Value.agg #[.slice none 0 0, .string ⟨#[]⟩, .string ⟨#[]⟩, .string ⟨#[]⟩, .string ⟨#[]⟩, .slice none 0 0, .slice none 0 0], Value.slice none 0 0] rfl (by kernel_rfl) (by kernel_rfl) (by kernel_rfl)
   (OpenSpec.preRow_of_cond 8 hx (by kernel_rfl) (fun k hk => by cases hk; kernel_rfl) (by kernel_rfl) (laid_met os _))) ?_
 intro W base args ds gs before hval hW _ hcond hsz hL hS _
 exact contract H enc W base args ds gs before hval hW hsz (hcond _ rfl) (pglob_of hL hS)

theorem said : Rows.BindAllUptoSaid :=
 OpenClaim.holds_of_cond 4 Tryz.f4 rfl rfl rfl rfl rfl rfl rfl ⟨rfl, rfl, rfl, rfl, rfl⟩ rfl rfl rfl rfl rfl (by kernel_rfl) Tryz.func4 (by kernel_rfl)
  (of_decide_eq_true (by kernel_rfl)) (by unfold Func.isWrapper; first | (rw [if_pos (by decide +kernel)]; kernel_rfl) | (rw [if_neg (by decide +kernel)]; exact ⟨rfl, rfl⟩))
  (fun os started H enc _ F => by rw [OpenClaim.pre_eq_preRow]; exact lifted os started H enc F)

theorem plain (f : FuncId) (fn : Func) (hf : Tryz.pinned.checked.prog.funcNamed "potsherd/potsherdlaw04.BindAll" = some f) (hfn : Tryz.pinned.checked.prog.funcs[f]? = some fn) :
  true = Tryz.pinned.checked.prog.looks [] ∧ ∀ (j : Nat) t, fn.params[j]? = some t → Tryz.pinned.checked.prog.wantsStandIn t = false := by
 obtain rfl : f = 4 := Option.some.inj ((show Tryz.prog.funcNamed "potsherd/potsherdlaw04.BindAll" = some 4 by kernel_rfl).symm.trans hf) |>.symm
 obtain rfl : fn = Tryz.f4 := (Option.some.inj (Tryz.func4.symm.trans hfn)).symm
 refine ⟨by kernel_rfl, fun j t ht => ?_⟩
 rw [Tryz.params4] at ht
 have hall : ([26, 27].all fun t => !Tryz.prog.wantsStandIn t) = true := by kernel_rfl
 have := List.all_eq_true.1 hall t (by simpa using Array.mem_of_getElem? ht)
 rw [Bool.not_eq_true'] at this
 exact this

/-- THE CARD -/
theorem card : Rows.BindAllUptoCardSaid :=
 Claim7.holds_tied_plain_at .later [] _ _ _ _ said (fun _ h => by cases h) (by kernel_rfl) (fun _ h => by cases h) bindAllUpto_row_tie rfl ⟨rfl, rfl⟩ (by kernel_rfl) rfl plain (by kernel_rfl)
end ball
end Go.Proofs.YtgjfbbmachoolaaGreatDoor.lx
