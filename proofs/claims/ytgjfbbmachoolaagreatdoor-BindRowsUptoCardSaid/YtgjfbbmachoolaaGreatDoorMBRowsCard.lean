/-
  One more table that no query names is no matter. Plain Lean. potsherdlaw04.BindRows, for all queries, tables and a table more. Conditions: the package-level variables are laid; the query and the tables lie there. BindRows: the row and the card.
-/
import Derived.Test.YtgjfbbmachoolaaGreatDoorM10
import Derived.Test.YtgjfbbmachoolaaGreatDoorM21
import Derived.Test.YtgjfbbmachoolaaGreatDoorM24
import Derived.Test.YtgjfbbmachoolaaGreatDoorM22
namespace Go.Proofs.YtgjfbbmachoolaaGreatDoor.lx
open Go.RowKit

theorem tblsFrom_front : ∀ (l m : List Tbl) (seen : List ByteArray), tblsFrom seen (l ++ m) = 0 → tblsFrom seen l = 0
 | [], _, _, _ => rfl
 | t :: l, m, seen, h => by
  rw [List.cons_append, tblsFrom] at h
  rw [tblsFrom]
  split at h
  ·
   rename_i hc; exact absurd h hc
  rename_i hc
  rw [if_neg hc]
  split at h
  ·
   cases h
  rename_i hc
  rw [if_neg hc]
  exact tblsFrom_front l m _ h
theorem catR_front {l m : List Tbl} (h : catR (l ++ m) = 0) : catR l = 0 := by
 unfold catR at h ⊢
 split at h
 ·
  cases h
 rename_i hc
 rw [List.length_append] at hc
 rw [if_neg (by omega)]
 exact tblsFrom_front _ _ _ h
theorem openR_more {l : List Tbl} {t : Tbl} : ∀ (ns : List ByteArray) (out : List Tbl), (∀ n ∈ ns, eqS t.nm n = false) → openR (l ++ [t]) ns out = openR l ns out
 | [], _, _ => rfl
 | n :: ns, out, h => by
  rw [openR, openR, List.find?_append]
  have e : [t].find? (fun t => eqS t.nm n) = none := by simp [h n List.mem_cons_self]
  rw [e, Option.or_none]
  cases l.find? fun t => eqS t.nm n with
  | none => rfl
  | some x => exact openR_more ns _ fun m hm => h m (List.mem_cons_of_mem _ hm)
theorem rows_law {q : Qry} {l : List Tbl} {t : Tbl} (hc : catR (l ++ [t]) = 0) (h1 : eqS t.nm q.table = false) (h2 : eqS t.nm q.join = false) : bindR q (l ++ [t]) = bindR q l := by
 unfold bindR
 rw [hc, catR_front hc, openR_more _ _ fun n hn => ?_]
 unfold namesR at hn
 split at hn
 ·
  obtain rfl := List.mem_singleton.1 hn
  exact h1
 ·
  simp only [List.mem_cons, List.not_mem_nil, or_false] at hn
  rcases hn with rfl | rfl
  ·
   exact h1
  ·
   exact h2
end Go.Proofs.YtgjfbbmachoolaaGreatDoor.lx
namespace Go.Proofs.YtgjfbbmachoolaaGreatDoor.lx
open Go.RowKit
set_option linter.unusedVariables false
set_option linter.unusedSimpArgs false

theorem bindA_sm {q : Qry} {L : List Tbl} (hq : QryOk q) (hwl : q.wher.length ≤ 1099511627776) (hxl : ∀ it ∈ q.items, it.e.length ≤ 1099511627776) : BndSm (bindA q L).1 := by
 have hk := bindA_bok (L := L) hq hwl hxl
 cases h : bindR q L with
 | no y => rw [bindA_no h]; exact ⟨Nat.zero_le _, Nat.zero_le _, Nat.zero_le _, Nat.zero_le _, Nat.zero_le _, fun it h => by cases h⟩
 | ok b =>
  rw [bindA_ok h] at hk ⊢
  obtain ⟨ts, hb⟩ := bindR_ok h
  obtain ⟨l1, l2, _, _⟩ := kinds_law hb
  have hi := hk.ilen
  exact ⟨hk.wlen, hk.glen, hk.ilen, by show b.names.length ≤ _; rw [l1]; exact hi, by show b.kinds.length ≤ _; rw [l2]; exact hi, fun it hit => (hk.items it hit).2.1⟩
theorem lies_own {w : World} {B size n cap : Nat} {e : TypeId} {ao : Option Addr} {xs : List Value} (h : w.ownsRow B e size (.slice ao n cap) n xs) (h1 : ∀ u ∈ xs, u.oneCell' = true) : Lies size ao n xs w := by
 refine ⟨h.1, h1, ?_⟩
 obtain ⟨ao', cap', hv, _, h0⟩ := own_cells h
 injection hv with e1 _ e2
 subst e1
 rcases h0 with h0 | ⟨g, hg, _, _, hc⟩
 ·
  exact .inl h0
 ·
  exact .inr ⟨g, 0, hg, fun j u hu => by rw [Nat.zero_add]; exact hc j u hu⟩
theorem tblCells_one {w0 : World} : ∀ (ts : List Tbl) (vs : List (Value × Value)), (∀ (i : Nat) t v, ts[i]? = some t → vs[i]? = some v → TblP w0 t v) → ∀ u ∈ tblCells ts vs, u.oneCell' = true
 | [], _, _, u, hu => by cases hu
 | t :: ts, [], _, u, hu => by cases hu
 | t :: ts, v :: vs, h, u, hu => by
  obtain ⟨co, cc, ro, rn, rc, hv, _⟩ := h 0 t v rfl rfl
  subst hv
  simp only [tblCells, List.mem_cons] at hu
  rcases hu with rfl | rfl | rfl | hu
  ·
   rfl
  ·
   rfl
  ·
   rfl
  ·
   exact tblCells_one ts vs (fun i t v ht hv => h (i + 1) t v ht hv) u hu
theorem step_tbls {ops : Array Oper} {o : Oper} {a : Act} {w : World} {K : Act → World → Prop} {Q : Exit → Act → World → Prop} {E : Prop} (hg : o.guard = none) (s x : Operand)
  (hop : o.op = Op.call { callee := Callee.builtin Builtin.append, args := #[s, x], argTypes := #[27, 27] }) {base n m c N : Nat} {v : Value} {xs news : List Value} {ao : Option Addr} (hN : n + m = N)
  (hs : a.eval s = v) (hown : w.ownsRow base 53 3 v n xs) (hx : a.eval x = .slice ao m c) (hl : Lies 3 ao m news w) (hsz : n + m ≤ 1099511627776) (hb : base ≤ w.heap.size)
  (h : ∀ so cap w', w'.ownsRow base 53 3 (.slice so N cap) N (xs ++ news) → Below base w w' → w.grownBy w' v.ownBlock → K (a.put o.dst (.slice so N cap)) w') :
  if Region.wanted o (yielded ops a.tmps) = true then Oper.wp Tryz.prog o a w K Q else E := by
 subst hN
 obtain ⟨i0, hi0, hz0, hz1, hz2⟩ := info_parts infoTbl
 refine step_append_lying hg s x 27 hop base 53 i0 _ 3 64 Tryz.underlying27 hi0 hz0 hz1 hz2 rfl (by decide) v n xs hs hown ao m c news hx hl (by unfold maxLen; omega) (by omega) hb ?_
 intro v7 w7 hown7 hg7 hat7
 obtain ⟨so7, cap7, rfl⟩ := own_shape hown7
 exact h so7 cap7 w7 hown7 (below_ownB (Below.refl base w) hg7 (own_base hown) hb) hg7
theorem tbls_snoc {L : List Tbl} {t : Tbl} (h : TblsOk L) (ht : TblsOk [t]) : TblsOk (L ++ [t]) := fun x hx => by
 rcases List.mem_append.1 hx with hx | hx
 ·
  exact h x hx
 ·
  exact ht x hx
theorem bindA_rows {q : Qry} {L : List Tbl} {t : Tbl} (hc : catR (L ++ [t]) = 0) (h1 : eqS t.nm q.table = false) (h2 : eqS t.nm q.join = false) : bindA q (L ++ [t]) = bindA q L := by
 unfold bindA
 rw [rows_law hc h1 h2]

set_option maxHeartbeats 2000000 in
set_option maxRecDepth 100000 in
theorem Rows_any {q : Qry} {t : Tbl} {io wo go lo tc tr : Option Addr} {icp wcp gcp lcap tcc trn trc : Nat} {L : List Tbl} {w : World} (hG : PGlob w) (hqi : QryIn q io wo go w) (hqo : QryOk q) (hwl : q.wher.length ≤ 1099511627776) (hxl : ∀ it ∈ q.items, it.e.length ≤ 1099511627776)
  (hL : TblRow lo L w) (hLo : TblsOk L) (hll : L.length ≤ 1073741824) (htc : ColRow tc t.cols w) (htcc : t.cols.length ≤ tcc ∧ tcc ≤ 9223372036854775807) (hto : TblsOk [t]) :
  Calls Tryz.prog 5 #[.agg #[.slice io q.items.length icp, .string q.table, .string q.join, .string q.left, .string q.right, .slice wo q.wher.length wcp, .slice go q.group.length gcp], .slice lo L.length lcap, .agg #[.string t.nm, .slice tc t.cols.length tcc, .slice tr trn trc]] w fun e w' => e = .returned (.bool true) ∧ Below w.heap.size w w' := by
 have HG := Lib.hid hG
 have HQI := Lib.hid hqi
 have HQO := Lib.hid hqo
 have HXL := Lib.hid hxl
 have HTR := Lib.hid hL
 have HTO := Lib.hid hLo
 have HTC := Lib.hid htc
 have HTT := Lib.hid hto
 have hsm := bindA_sm (L := L) hqo hwl hxl
 obtain ⟨hz, hbw, hq0, ht0⟩ := alloc2 w (.cells #[.slice io q.items.length icp, .string q.table, .string q.join, .string q.left, .string q.right, .slice wo q.wher.length wcp, .slice go q.group.length gcp] 26) (.cells #[.string t.nm, .slice tc t.cols.length tcc, .slice tr trn trc] 53)
 have HBW := Lib.hid hbw
 clear hG hqi hqo hxl hL hLo htc hto hbw
 go_enter Tryz.func5, Tryz.ntmps5
 go_upto_region 1 with fail
 generalize (w.alloc (.cells #[.slice io q.items.length icp, .string q.table, .string q.join, .string q.left, .string q.right, .slice wo q.wher.length wcp, .slice go q.group.length gcp] 26)).alloc (.cells #[.string t.nm, .slice tc t.cols.length tcc, .slice tr trn trc] 53) = W1 at *
 have HQ := Lib.hid fun (wx : World) (hb : Below W1.heap.size W1 wx) => (hb.block w.heap.size (by omega)).trans hq0
 have HT := Lib.hid fun (wx : World) (hb : Below W1.heap.size W1 wx) => (hb.block (w.heap.size + 1) (by omega)).trans ht0
 clear hq0 ht0 hz
 go_wp2_with (go_at_call 8; refine (lives4_any _ (HG.out.self HBW.out)).mono ?_; rintro e w2 ⟨rfl, hb2⟩; refine Hid.out ?_)
 refine Lib.hid ?_
 have HB2 := Lib.hid hb2
 have hs2 := (below_self HBW.out hb2).size
 clear hb2
 obtain ⟨i0, hi0, hz0, hz1, hz2⟩ := info_parts infoTbl
 have HI := Lib.hid (And.intro hi0 (And.intro hz0 (And.intro hz1 hz2)))
 clear hi0 hz0 hz1 hz2
 go_wp2_with fail
 go_loopw [7, 21] (fun bv v wr => ∃ k : Nat, v = .int .i64 k ∧ k ≤ L.length ∧ Below w2.heap.size w2 wr ∧ Hid (TblOwn w2.heap.size w wr (L.take k) bv)) (fun _ v _ => L.length - (intOf v).toNat)
 case atStart => exact ⟨0, rfl, Nat.zero_le _, Below.refl _ _, Lib.hid ⟨[], rfl, World.ownsRow_nil _ _ _ _, fun i t v h => by simp at h⟩⟩
 case round =>
  obtain ⟨k, rfl, hk, hb, HO⟩ := hrel
  have HB1r := Lib.hid (below_self HB2.out hb)
  have HBr := Lib.hid (below_self HBW.out HB1r.out)
  by_cases hlt : k < L.length
  ·
   have hx : L[k]? = some L[k] := List.getElem?_eq_getElem hlt
   have htk : L.take (k + 1) = L.take k ++ [L[k]] := List.take_succ_eq_append_getElem hlt
   obtain ⟨b0, o, rfl, co, cc, ro, rn, rc, c0, c1, c2, hcr, hc3, hc4⟩ := HTR.out.at hx
   generalize L[k] = x at *
   have HP : Hid (TblP w x (.slice co x.cols.length cc, .slice none 0 0)) := Lib.hid ⟨co, cc, none, 0, 0, rfl, hcr, hc3, hc4⟩
   have c0 := keep_cellP HBr.out c0
   have c1 := keep_cellP HBr.out c1
   have c2 := keep_cellP HBr.out c2
   have HTK := Lib.hid htk
   have hlk : (L.take k).length = k := by rw [List.length_take]; omega
   have HLK := Lib.hid hlk
   clear hx hcr hc3 hc4 htk hlk
   go_upto_region 7 with fail
   have hbA := (Below.refl wr.heap.size wr).alloc (Nat.le_refl _) (.cells #[.string x.nm, .slice co x.cols.length cc, .slice ro rn rc] 53)
   have hnA := heap_alloc_new wr (.cells #[.string x.nm, .slice co x.cols.length cc, .slice ro rn rc] 53)
   have hbx := below_self hb hbA
   obtain ⟨vs, hvl, hvo, hvp⟩ := HO.out
   rw [HLK.out] at hvl hvo
   obtain ⟨iu, cu, rfl⟩ := own_shape hvo
   have HVO := Lib.hid (own_keepA hvo fun i _ hi => hbA.block i hi)
   have HVL := Lib.hid hvl
   have HVP := Lib.hid hvp
   generalize wr.alloc (.cells #[.string x.nm, .slice co x.cols.length cc, .slice ro rn rc] 53) = W7 at *
   have d0 : W7.cell? ⟨wr.heap.size, 0, none⟩ = some (.string x.nm) := by rw [Lib.cell_of_heap hnA]; rfl
   have d1 : W7.cell? ⟨wr.heap.size, 1, none⟩ = some (.slice co x.cols.length cc) := by rw [Lib.cell_of_heap hnA]; rfl
   have HBX := Lib.hid hbx
   have hsx := hbx.size
   clear hvl hvo hvp hbA hnA hbx c0 c1 c2 HO
   go_wp2_with (at_builtin; refine wpList_append_lying rfl _ _ 27 rfl w2.heap.size 53 i0 _ 3 64 Tryz.underlying27 HI.out.1 HI.out.2.1 HI.out.2.2.1 HI.out.2.2.2 rfl (by decide) (.slice iu k cu) k (tblCells (L.take k) vs) rfl (HVO.out.alloc _) (some ⟨W7.heap.size, 0, none⟩) 1 1 [.string x.nm, .slice co x.cols.length cc, .slice none 0 0] rfl (lies_three rfl rfl rfl) (by unfold maxLen; omega) (by omega) (by simp; omega) ?_)
   intro v5 w5 hown5 hg5 hat5
   have HO5 : Hid (TblOwn w2.heap.size w w5 (L.take (k + 1)) v5) := Lib.hid (by
    rw [HTK.out]
    exact TblOwn.app (by rw [HLK.out]; exact HVL.out) HVP.out HP.out (by rw [HLK.out]; exact hown5))
   have HB5 := Lib.hid (below_ownB (below_self HBX.out ((Below.refl W7.heap.size W7).alloc (Nat.le_refl _) (.cells #[.string x.nm, .slice co x.cols.length cc, .slice none 0 0] 53))) hg5 (own_base HVO.out) (by rw [alloc_sz]; omega))
   clear hown5 hg5 hat5 d0 d1
   go_wp2_with fail
   go_roundw
   case rel => exact ⟨k + 1, by go_num, by omega, HB5.out, HO5⟩
   case measure => simp [intOf]; omega
  ·
   obtain rfl : k = L.length := by omega
   have hO := HO.out
   rw [List.take_length] at hO
   obtain ⟨vsx, hvl, hvo, hvp⟩ := hO
   obtain ⟨ba, bc, hbv, hbrow⟩ := TblOwn.row ⟨vsx, hvl, hvo, hvp⟩ HBr.out
   subst hbv
   have HBA := Lib.hid hbrow
   have HVO := Lib.hid fun (wx : World) (hb : Below wr.heap.size wr wx) => own_keepA hvo fun i _ hi => hb.block i hi
   have HVL := Lib.hid hvl
   have HVP := Lib.hid hvp
   have HAB := Lib.hid fun (wx : World) (hb : Below W1.heap.size W1 wx) (ao : Option Addr) (cap : Nat) (hL : TblRow ao L wx) => Bind_any (icp := icp) (wcp := wcp) (gcp := gcp) (lcap := cap) (HG.out.self (below_self HBW.out hb)) (HQI.out.self (below_self HBW.out hb)) HQO.out hwl HXL.out hL HTO.out (by omega)
   have HAM : Hid (∀ (hc : catR (L ++ [t]) = 0) (h1 : eqS t.nm q.table = false) (h2 : eqS t.nm q.join = false) (wx : World) (hb : Below W1.heap.size W1 wx) (ao : Option Addr) (cap : Nat) (hL : TblRow ao (L ++ [t]) wx), Calls Tryz.prog 9 #[.agg #[.slice io q.items.length icp, .string q.table, .string q.join, .string q.left, .string q.right, .slice wo q.wher.length wcp, .slice go q.group.length gcp], .slice ao (L.length + 1) cap] wx fun e w' => BndAns wx.heap.size (bindA q L) e w' ∧ Below wx.heap.size wx w') := Lib.hid fun hc h1 h2 wx hb ao cap hL => by
    have h := Bind_any (q := q) (io := io) (wo := wo) (go := go) (icp := icp) (wcp := wcp) (gcp := gcp) (lcap := cap) (HG.out.self (below_self HBW.out hb)) (HQI.out.self (below_self HBW.out hb)) HQO.out hwl HXL.out hL (tbls_snoc HTO.out HTT.out) (by rw [List.length_append]; simp; omega)
    rw [bindA_rows hc h1 h2, List.length_append] at h
    exact h
   generalize bindA q L = A at *
   obtain ⟨b, y⟩ := A
   simp only at hsm
   have HSM := Lib.hid hsm
   clear hvl hvo hvp hbrow hsm hb HO
   have hcl : ∀ (j : Nat) v, (#[.slice io q.items.length icp, .string q.table, .string q.join, .string q.left, .string q.right, .slice wo q.wher.length wcp, .slice go q.group.length gcp] : Array Value)[j]? = some v → wr.cell? ⟨w.heap.size, j, none⟩ = some v := fun j v h => by rw [Lib.cell_of_heap (HQ.out wr HB1r.out)]; exact h
   have k0 := hcl 0 _ rfl
   have k1 := hcl 1 _ rfl
   have k2 := hcl 2 _ rfl
   have k3 := hcl 3 _ rfl
   have k4 := hcl 4 _ rfl
   have k5 := hcl 5 _ rfl
   have k6 := hcl 6 _ rfl
   clear hcl
   have HBD1 := Lib.hid (HAB.out wr HB1r.out lo lcap (HTR.out.self HBr.out))
   go_wp2_with (go_at_call 9; refine HBD1.out.mono ?_; rintro e w4 ⟨⟨wo1, wc1, ga1, gc1, ia1, ic1, na1, nc1, ka1, kc1, rfl, hbi1, _⟩, hb1⟩; refine Hid.out ?_)
   refine Lib.hid ?_
   clear k0 k1 k2 k3 k4 k5 k6 HBD1
   go_upto_region 10 with fail
   have hbA := (Below.refl w4.heap.size w4).alloc (Nat.le_refl _) (.cells #[.string b.table, .string b.join, .int .i64 b.width, .int .i64 b.left, .int .i64 b.right, .slice wo1 b.wher.length wc1, .slice ga1 b.group.length gc1, .slice ia1 b.items.length ic1, .bool b.grouped, .slice na1 b.names.length nc1, .slice ka1 b.kinds.length kc1] 32)
   have hnA := heap_alloc_new w4 (.cells #[.string b.table, .string b.join, .int .i64 b.width, .int .i64 b.left, .int .i64 b.right, .slice wo1 b.wher.length wc1, .slice ga1 b.group.length gc1, .slice ia1 b.items.length ic1, .bool b.grouped, .slice na1 b.names.length nc1, .slice ka1 b.kinds.length kc1] 32)
   have HS1 := Lib.hid (below_self hb1 hbA)
   have HB1 := Lib.hid (below_self HB1r.out (below_self hb1 hbA))
   have HI1 := Lib.hid (hbi1.self hbA)
   generalize w4.alloc (.cells #[.string b.table, .string b.join, .int .i64 b.width, .int .i64 b.left, .int .i64 b.right, .slice wo1 b.wher.length wc1, .slice ga1 b.group.length gc1, .slice ia1 b.items.length ic1, .bool b.grouped, .slice na1 b.names.length nc1, .slice ka1 b.kinds.length kc1] 32) = W5 at *
   have hl1 := (Array.getElem?_eq_some_iff.1 hnA).1
   obtain ⟨Q1, hQ1⟩ : ∃ Q, w4.heap.size = Q := ⟨_, rfl⟩
   rw [hQ1] at hnA hl1 ⊢
   have HX1 := Lib.hid fun (wx : World) (hb : Below W5.heap.size W5 wx) => (hb.block Q1 hl1).trans hnA
   clear hbA hnA hb1 hbi1 hQ1
   have HBA5 := Lib.hid (HBA.out.self HS1.out)
   have hcl : ∀ (j : Nat) v, (#[.slice io q.items.length icp, .string q.table, .string q.join, .string q.left, .string q.right, .slice wo q.wher.length wcp, .slice go q.group.length gcp] : Array Value)[j]? = some v → W5.cell? ⟨w.heap.size, j, none⟩ = some v := fun j v h => by rw [Lib.cell_of_heap (HQ.out W5 HB1.out)]; exact h
   have k0 := hcl 0 _ rfl
   have k1 := hcl 1 _ rfl
   have k2 := hcl 2 _ rfl
   have k3 := hcl 3 _ rfl
   have k4 := hcl 4 _ rfl
   have k5 := hcl 5 _ rfl
   have k6 := hcl 6 _ rfl
   clear hcl
   have HBD2 := Lib.hid (HAB.out W5 HB1.out ba bc HBA5.out)
   go_wp2_with (go_at_call 9; refine HBD2.out.mono ?_; rintro e w6 ⟨⟨wo2, wc2, ga2, gc2, ia2, ic2, na2, nc2, ka2, kc2, rfl, hbi2, _⟩, hb2⟩; refine Hid.out ?_)
   refine Lib.hid ?_
   clear k0 k1 k2 k3 k4 k5 k6 HBD2
   go_upto_region 11 with fail
   have hbA := (Below.refl w6.heap.size w6).alloc (Nat.le_refl _) (.cells #[.string b.table, .string b.join, .int .i64 b.width, .int .i64 b.left, .int .i64 b.right, .slice wo2 b.wher.length wc2, .slice ga2 b.group.length gc2, .slice ia2 b.items.length ic2, .bool b.grouped, .slice na2 b.names.length nc2, .slice ka2 b.kinds.length kc2] 32)
   have hnA := heap_alloc_new w6 (.cells #[.string b.table, .string b.join, .int .i64 b.width, .int .i64 b.left, .int .i64 b.right, .slice wo2 b.wher.length wc2, .slice ga2 b.group.length gc2, .slice ia2 b.items.length ic2, .bool b.grouped, .slice na2 b.names.length nc2, .slice ka2 b.kinds.length kc2] 32)
   have HS2 := Lib.hid (below_self hb2 hbA)
   have HB2 := Lib.hid (below_self HB1.out (below_self hb2 hbA))
   have HI2 := Lib.hid (hbi2.self hbA)
   generalize w6.alloc (.cells #[.string b.table, .string b.join, .int .i64 b.width, .int .i64 b.left, .int .i64 b.right, .slice wo2 b.wher.length wc2, .slice ga2 b.group.length gc2, .slice ia2 b.items.length ic2, .bool b.grouped, .slice na2 b.names.length nc2, .slice ka2 b.kinds.length kc2] 32) = W7 at *
   have hl2 := (Array.getElem?_eq_some_iff.1 hnA).1
   obtain ⟨Q2, hQ2⟩ : ∃ Q, w6.heap.size = Q := ⟨_, rfl⟩
   rw [hQ2] at hnA hl2 ⊢
   have HX2 := Lib.hid fun (wx : World) (hb : Below W7.heap.size W7 wx) => (hb.block Q2 hl2).trans hnA
   clear hbA hnA hb2 hbi2 hQ2
   have HS12 := Lib.hid (below_self HS1.out HS2.out)
   have hcl : ∀ (j : Nat) v, (#[.string b.table, .string b.join, .int .i64 b.width, .int .i64 b.left, .int .i64 b.right, .slice wo1 b.wher.length wc1, .slice ga1 b.group.length gc1, .slice ia1 b.items.length ic1, .bool b.grouped, .slice na1 b.names.length nc1, .slice ka1 b.kinds.length kc1] : Array Value)[j]? = some v → W7.cell? ⟨Q1, j, none⟩ = some v := fun j v h => by rw [Lib.cell_of_heap (HX1.out W7 HS2.out)]; exact h
   have x0 := hcl 0 _ rfl
   have x1 := hcl 1 _ rfl
   have x2 := hcl 2 _ rfl
   have x3 := hcl 3 _ rfl
   have x4 := hcl 4 _ rfl
   have x5 := hcl 5 _ rfl
   have x6 := hcl 6 _ rfl
   have x7 := hcl 7 _ rfl
   have x8 := hcl 8 _ rfl
   have x9 := hcl 9 _ rfl
   have x10 := hcl 10 _ rfl
   clear hcl
   have hcl : ∀ (j : Nat) v, (#[.string b.table, .string b.join, .int .i64 b.width, .int .i64 b.left, .int .i64 b.right, .slice wo2 b.wher.length wc2, .slice ga2 b.group.length gc2, .slice ia2 b.items.length ic2, .bool b.grouped, .slice na2 b.names.length nc2, .slice ka2 b.kinds.length kc2] : Array Value)[j]? = some v → W7.cell? ⟨Q2, j, none⟩ = some v := fun j v h => by rw [Lib.cell_of_heap (HX2.out W7 (Below.refl _ _))]; exact h
   have y0 := hcl 0 _ rfl
   have y1 := hcl 1 _ rfl
   have y2 := hcl 2 _ rfl
   have y3 := hcl 3 _ rfl
   have y4 := hcl 4 _ rfl
   have y5 := hcl 5 _ rfl
   have y6 := hcl 6 _ rfl
   have y7 := hcl 7 _ rfl
   have y8 := hcl 8 _ rfl
   have y9 := hcl 9 _ rfl
   have y10 := hcl 10 _ rfl
   clear hcl
   have HSA := Lib.hid (SameB_any (wcp := wc1) (gc := gc1) (ic := ic1) (nc := nc1) (kc := kc1) (wcp' := wc2) (gc' := gc2) (ic' := ic2) (nc' := nc2) (kc' := kc2) (HI1.out.self HS2.out) HI2.out HSM.out)
   unfold bndB at HSA
   go_wp2_with (go_at_call 12; refine HSA.out.mono ?_; rintro e w8 ⟨rfl, hb8⟩; refine Hid.out ?_)
   refine Lib.hid ?_
   have HB8 := Lib.hid (below_self HB2.out hb8)
   have HS8 := Lib.hid (below_self HS2.out hb8)
   have HSR8 := Lib.hid (below_self HS12.out hb8)
   clear hb8 HSA x0 x1 x2 x3 x4 x5 x6 x7 x8 x9 x10 y0 y1 y2 y3 y4 y5 y6 y7 y8 y9 y10
   have HC1 := Lib.hid (Check_any (cap := lcap) w8 (HG.out.self (below_self HBW.out HB8.out)).glob (HTR.out.self (below_self HBW.out HB8.out)) HTO.out)
   go_wp2_with (go_at_call 14; refine HC1.out.mono ?_; rintro e w9 ⟨rfl, hb9⟩; refine Hid.out ?_)
   refine Lib.hid ?_
   have HB9 := Lib.hid (below_self HB8.out hb9)
   have HS9 := Lib.hid (below_self HS8.out hb9)
   have HSR9 := Lib.hid (below_self HSR8.out hb9)
   have HC2 := Lib.hid (Check_any (cap := bc) w9 (HG.out.self (below_self HBW.out HB9.out)).glob (HBA.out.self HSR9.out) HTO.out)
   clear hb9 HC1
   go_wp2_with (go_at_call 14; refine HC2.out.mono ?_; rintro e w10 ⟨rfl, hb10⟩; refine Hid.out ?_)
   refine Lib.hid ?_
   have HB10 := Lib.hid (below_self HB9.out hb10)
   have HS10 := Lib.hid (below_self HS9.out hb10)
   have HSR10 := Lib.hid (below_self HSR9.out hb10)
   clear hb10 HC2 HB8 HB9 HS8 HS9 HSR8 HSR9
   go_upto_region 13 with fail
   have HKT := Lib.hid fun (wx : World) (hb : Below w10.heap.size w10 wx) => (show wx.cell? ⟨w.heap.size + 1, 0, none⟩ = some (.string t.nm) ∧ wx.cell? ⟨w.heap.size + 1, 1, none⟩ = some (.slice tc t.cols.length tcc) ∧ wx.cell? ⟨w.heap.size + 1, 2, none⟩ = some (.slice tr trn trc) from ⟨by rw [Lib.cell_of_heap (HT.out wx (below_self HB10.out hb))]; rfl, by rw [Lib.cell_of_heap (HT.out wx (below_self HB10.out hb))]; rfl, by rw [Lib.cell_of_heap (HT.out wx (below_self HB10.out hb))]; rfl⟩)
   have HLB := Lib.hid fun (wx : World) (hb : Below w10.heap.size w10 wx) => lies_own (HVO.out wx (below_self HSR10.out hb)) (tblCells_one L vsx HVP.out)
   have HTP : Hid (TblP w t (.slice tc t.cols.length tcc, .slice tr trn trc)) := Lib.hid ⟨tc, tcc, tr, trn, trc, rfl, HTC.out, htcc.1, htcc.2⟩
   have HFIN : Hid (∀ (so : Option Addr) (cap : Nat) (wx : World), Below w10.heap.size w10 wx → wx.ownsRow w10.heap.size 53 3 (.slice so (L.length + 1) cap) (L.length + 1) (tblCells L vsx ++ [.string t.nm, .slice tc t.cols.length tcc, .slice tr trn trc]) → TblRow so (L ++ [t]) wx) := Lib.hid fun so cap wx hb ho => by
    obtain ⟨so2, cap2, hv, hr⟩ := (TblOwn.app HVL.out HVP.out HTP.out ho).row (below_self HBW.out (below_self HB10.out hb))
    injection hv with e1 _ _
    subst e1
    exact hr
   go_cut [14] from 62 to 67 (fun t14 wx => ∃ so cap, t14 = .slice so (L.length + 1) cap ∧ Below w10.heap.size w10 wx ∧ Hid (TblRow so (L ++ [t]) wx))
   case first =>
    refine wp_region_held_drew (S := (fun wx => wx.cell? ⟨w.heap.size + 1, 0, none⟩ = some (.string t.nm) ∧ wx.cell? ⟨w.heap.size + 1, 1, none⟩ = some (.slice tc t.cols.length tcc) ∧ wx.cell? ⟨w.heap.size + 1, 2, none⟩ = some (.slice tr trn trc))) (by kernel_rfl) (HKT.out _ (Below.refl _ _).drew) (fun hHeld => ?_)
    refine wpAnyH_take (i := 1) (v := ?_) opAt1 (by kernel_rfl) (by kernel_rfl) (by kernel_rfl) (fun _ _ _ h => h) (Or.inl ⟨by kernel_rfl, ?_⟩) (by assumption) ?_; rotate_left; intro wq hSw; (try dsimp only at hSw); go_split_ands; go_simp <;> (with_reducible rfl); try simp only [Act.put, List.setIfInBounds_toArray, List.set_cons_zero, List.set_cons_succ]
    refine wpAnyH_take (i := 3) (v := ?_) opAt3 (by kernel_rfl) (by kernel_rfl) (by kernel_rfl) (fun _ _ _ h => h) (Or.inl ⟨by kernel_rfl, ?_⟩) (by assumption) ?_; rotate_left; intro wq hSw; (try dsimp only at hSw); go_split_ands; go_simp <;> (with_reducible rfl); try simp only [Act.put, List.setIfInBounds_toArray, List.set_cons_zero, List.set_cons_succ]
    clear hHeld
    have HD := Lib.hid ((Below.refl w10.heap.size w10).drew)
    generalize w10.drew = W at *
    refine wpAnyH_ready (rs := [0, 4]) (by kernel_rfl) (by simp) (AllReadyH.cons opAt0 (fun K hK => ?_) (AllReadyH.cons opAt4 (fun K hK => ?_) AllReadyH.nil))
    ·
     go_simp
     have HDa := Lib.hid (HD.out.alloc HD.out.size (.cells #[] 53))
     refine hK.out _ _ (HKT.out _ HDa.out) (fun hHeld => ?_)
     clear hK K hHeld
     try simp only [Act.put, List.setIfInBounds_toArray, List.set_cons_zero, List.set_cons_succ]
     have HE := Lib.hid (own_le (own_empty (w := W) (t := 53) (size := 3)) HD.out.size)
     have hzWa : (W.alloc (.cells #[] 53)).heap.size = W.heap.size + 1 := alloc_sz _ _
     have hbWa := (Below.refl W.heap.size W).alloc (Nat.le_refl _) (.cells #[] 53)
     generalize W.alloc (.cells #[] 53) = Wa at *
     refine wpAnyH_ready (rs := [2, 4]) (by kernel_rfl) (by simp) (AllReadyH.cons opAt2 (fun K hK => ?_) (AllReadyH.cons opAt4 (fun K hK => ?_) AllReadyH.nil))
     ·
      refine step_tbls rfl (.tmp 62) (.tmp 63) rfl (base := w10.heap.size) (c := bc) (N := L.length) (Nat.zero_add _) (by simp [Act.eval]) (HE.out) (by simp [Act.eval]) (HLB.out _ HDa.out) (by omega) HDa.out.size ?_
      intro so7 cap7 w7 ho7 hb7 hg7
      rw [List.nil_append] at ho7
      have HD7 := Lib.hid (HDa.out.trans hb7)
      have HO7 := Lib.hid ho7
      clear ho7 hb7 hg7
      refine hK.out _ _ (HKT.out _ HD7.out) (fun hHeld => ?_)
      clear hK K hHeld
      try simp only [Act.put, List.setIfInBounds_toArray, List.set_cons_zero, List.set_cons_succ]
      refine wpAnyH_ready (rs := [4]) (by kernel_rfl) (by simp) (AllReadyH.cons opAt4 (fun K hK => ?_) AllReadyH.nil)
      go_simp
      have HDb := Lib.hid (HD7.out.alloc HD7.out.size (.cells #[.string t.nm, .slice tc t.cols.length tcc, .slice tr trn trc] 53))
      refine hK.out _ _ (HKT.out _ HDb.out) (fun hHeld => ?_)
      clear hK K hHeld
      try simp only [Act.put, List.setIfInBounds_toArray, List.set_cons_zero, List.set_cons_succ]
      have HL1 := Lib.hid (lies_three (w := w7) (a := .string t.nm) (b := .slice tc t.cols.length tcc) (c := .slice tr trn trc) (t := 53) rfl rfl rfl)
      have hzWb : (w7.alloc (.cells #[.string t.nm, .slice tc t.cols.length tcc, .slice tr trn trc] 53)).heap.size = w7.heap.size + 1 := alloc_sz _ _
      have hbWb := (Below.refl w7.heap.size w7).alloc (Nat.le_refl _) (.cells #[.string t.nm, .slice tc t.cols.length tcc, .slice tr trn trc] 53)
      generalize w7.alloc (.cells #[.string t.nm, .slice tc t.cols.length tcc, .slice tr trn trc] 53) = Wb at *
      have HO8 := Lib.hid (own_keepA HO7.out fun i _ hi => hbWb.block i hi)
      refine wpAnyH_ready (rs := [5]) (by kernel_rfl) (by simp) (AllReadyH.cons opAt5 (fun K hK => ?_) AllReadyH.nil)
      refine step_tbls rfl (.tmp 64) (.tmp 66) rfl (base := w10.heap.size) (c := 1) (N := L.length + 1) rfl (by simp [Act.eval]) (HO8.out) (by simp [Act.eval]) (HL1.out) (by omega) HDb.out.size ?_
      intro so9 cap9 w9_ ho9 hb9_ hg9
      have HD9 := Lib.hid (HDb.out.trans hb9_)
      have HROW := Lib.hid (HFIN.out _ _ _ HD9.out ho9)
      clear ho9 hb9_ hg9
      refine hK.out _ _ (HKT.out _ HD9.out) (fun hHeld => ?_)
      clear hK K
      try simp only [Act.put, List.setIfInBounds_toArray, List.set_cons_zero, List.set_cons_succ]
      refine wpAnyH_take (i := 6) (v := ?_) opAt6 (by kernel_rfl) (by kernel_rfl) (by kernel_rfl) (fun _ _ _ h => h) (Or.inl ⟨by kernel_rfl, ?_⟩) (by assumption) ?_; rotate_left; intro wq hSw; (try dsimp only at hSw); go_split_ands; go_simp <;> (with_reducible rfl); try simp only [Act.put, List.setIfInBounds_toArray, List.set_cons_zero, List.set_cons_succ]
      refine wpAnyH_done (by kernel_rfl) ?_ _
      go_wp2_with fail
      go_meet
      exact ⟨_, _, rfl, HD9.out, HROW⟩
     ·
      go_simp
      have HDb := Lib.hid (HDa.out.alloc HDa.out.size (.cells #[.string t.nm, .slice tc t.cols.length tcc, .slice tr trn trc] 53))
      refine hK.out _ _ (HKT.out _ HDb.out) (fun hHeld => ?_)
      clear hK K hHeld
      try simp only [Act.put, List.setIfInBounds_toArray, List.set_cons_zero, List.set_cons_succ]
      have HL1 := Lib.hid (lies_three (w := Wa) (a := .string t.nm) (b := .slice tc t.cols.length tcc) (c := .slice tr trn trc) (t := 53) rfl rfl rfl)
      have hzWb : (Wa.alloc (.cells #[.string t.nm, .slice tc t.cols.length tcc, .slice tr trn trc] 53)).heap.size = Wa.heap.size + 1 := alloc_sz _ _
      have hbWb := (Below.refl Wa.heap.size Wa).alloc (Nat.le_refl _) (.cells #[.string t.nm, .slice tc t.cols.length tcc, .slice tr trn trc] 53)
      generalize Wa.alloc (.cells #[.string t.nm, .slice tc t.cols.length tcc, .slice tr trn trc] 53) = Wb at *
      have HE2 := Lib.hid (own_keepA HE.out fun i _ hi => hbWb.block i hi)
      refine wpAnyH_ready (rs := [2]) (by kernel_rfl) (by simp) (AllReadyH.cons opAt2 (fun K hK => ?_) AllReadyH.nil)
      refine step_tbls rfl (.tmp 62) (.tmp 63) rfl (base := w10.heap.size) (c := bc) (N := L.length) (Nat.zero_add _) (by simp [Act.eval]) (HE2.out) (by simp [Act.eval]) (HLB.out _ HDb.out) (by omega) HDb.out.size ?_
      intro so7 cap7 w7 ho7 hb7 hg7
      rw [List.nil_append] at ho7
      have HD7 := Lib.hid (HDb.out.trans hb7)
      have HO7 := Lib.hid ho7
      have HL2 := Lib.hid (HL1.out.far hg7 (by omega) (fun e => by have e2 : W.heap.size = Wa.heap.size := Option.some.inj e; omega))
      clear ho7 hb7 hg7
      refine hK.out _ _ (HKT.out _ HD7.out) (fun hHeld => ?_)
      clear hK K hHeld
      try simp only [Act.put, List.setIfInBounds_toArray, List.set_cons_zero, List.set_cons_succ]
      refine wpAnyH_ready (rs := [5]) (by kernel_rfl) (by simp) (AllReadyH.cons opAt5 (fun K hK => ?_) AllReadyH.nil)
      refine step_tbls rfl (.tmp 64) (.tmp 66) rfl (base := w10.heap.size) (c := 1) (N := L.length + 1) rfl (by simp [Act.eval]) (HO7.out) (by simp [Act.eval]) (HL2.out) (by omega) HD7.out.size ?_
      intro so9 cap9 w9_ ho9 hb9_ hg9
      have HD9 := Lib.hid (HD7.out.trans hb9_)
      have HROW := Lib.hid (HFIN.out _ _ _ HD9.out ho9)
      clear ho9 hb9_ hg9
      refine hK.out _ _ (HKT.out _ HD9.out) (fun hHeld => ?_)
      clear hK K
      try simp only [Act.put, List.setIfInBounds_toArray, List.set_cons_zero, List.set_cons_succ]
      refine wpAnyH_take (i := 6) (v := ?_) opAt6 (by kernel_rfl) (by kernel_rfl) (by kernel_rfl) (fun _ _ _ h => h) (Or.inl ⟨by kernel_rfl, ?_⟩) (by assumption) ?_; rotate_left; intro wq hSw; (try dsimp only at hSw); go_split_ands; go_simp <;> (with_reducible rfl); try simp only [Act.put, List.setIfInBounds_toArray, List.set_cons_zero, List.set_cons_succ]
      refine wpAnyH_done (by kernel_rfl) ?_ _
      go_wp2_with fail
      go_meet
      exact ⟨_, _, rfl, HD9.out, HROW⟩
    ·
     go_simp
     have HDa := Lib.hid (HD.out.alloc HD.out.size (.cells #[.string t.nm, .slice tc t.cols.length tcc, .slice tr trn trc] 53))
     refine hK.out _ _ (HKT.out _ HDa.out) (fun hHeld => ?_)
     clear hK K hHeld
     try simp only [Act.put, List.setIfInBounds_toArray, List.set_cons_zero, List.set_cons_succ]
     have HL1 := Lib.hid (lies_three (w := W) (a := .string t.nm) (b := .slice tc t.cols.length tcc) (c := .slice tr trn trc) (t := 53) rfl rfl rfl)
     have hzWa : (W.alloc (.cells #[.string t.nm, .slice tc t.cols.length tcc, .slice tr trn trc] 53)).heap.size = W.heap.size + 1 := alloc_sz _ _
     have hbWa := (Below.refl W.heap.size W).alloc (Nat.le_refl _) (.cells #[.string t.nm, .slice tc t.cols.length tcc, .slice tr trn trc] 53)
     generalize W.alloc (.cells #[.string t.nm, .slice tc t.cols.length tcc, .slice tr trn trc] 53) = Wa at *
     refine wpAnyH_ready (rs := [0]) (by kernel_rfl) (by simp) (AllReadyH.cons opAt0 (fun K hK => ?_) AllReadyH.nil)
     go_simp
     have HDb := Lib.hid (HDa.out.alloc HDa.out.size (.cells #[] 53))
     refine hK.out _ _ (HKT.out _ HDb.out) (fun hHeld => ?_)
     clear hK K hHeld
     try simp only [Act.put, List.setIfInBounds_toArray, List.set_cons_zero, List.set_cons_succ]
     have HE := Lib.hid (own_le (own_empty (w := Wa) (t := 53) (size := 3)) HDa.out.size)
     have hzWb : (Wa.alloc (.cells #[] 53)).heap.size = Wa.heap.size + 1 := alloc_sz _ _
     have hbWb := (Below.refl Wa.heap.size Wa).alloc (Nat.le_refl _) (.cells #[] 53)
     generalize Wa.alloc (.cells #[] 53) = Wb at *
     have HL3 := Lib.hid (HL1.out.self hbWb)
     refine wpAnyH_ready (rs := [2]) (by kernel_rfl) (by simp) (AllReadyH.cons opAt2 (fun K hK => ?_) AllReadyH.nil)
     refine step_tbls rfl (.tmp 62) (.tmp 63) rfl (base := w10.heap.size) (c := bc) (N := L.length) (Nat.zero_add _) (by simp [Act.eval]) (HE.out) (by simp [Act.eval]) (HLB.out _ HDb.out) (by omega) HDb.out.size ?_
     intro so7 cap7 w7 ho7 hb7 hg7
     rw [List.nil_append] at ho7
     have HD7 := Lib.hid (HDb.out.trans hb7)
     have HO7 := Lib.hid ho7
     have HL2 := Lib.hid (HL3.out.far hg7 (by omega) (fun e => by have e2 : Wa.heap.size = W.heap.size := Option.some.inj e; omega))
     clear ho7 hb7 hg7
     refine hK.out _ _ (HKT.out _ HD7.out) (fun hHeld => ?_)
     clear hK K hHeld
     try simp only [Act.put, List.setIfInBounds_toArray, List.set_cons_zero, List.set_cons_succ]
     refine wpAnyH_ready (rs := [5]) (by kernel_rfl) (by simp) (AllReadyH.cons opAt5 (fun K hK => ?_) AllReadyH.nil)
     refine step_tbls rfl (.tmp 64) (.tmp 66) rfl (base := w10.heap.size) (c := 1) (N := L.length + 1) rfl (by simp [Act.eval]) (HO7.out) (by simp [Act.eval]) (HL2.out) (by omega) HD7.out.size ?_
     intro so9 cap9 w9_ ho9 hb9_ hg9
     have HD9 := Lib.hid (HD7.out.trans hb9_)
     have HROW := Lib.hid (HFIN.out _ _ _ HD9.out ho9)
     clear ho9 hb9_ hg9
     refine hK.out _ _ (HKT.out _ HD9.out) (fun hHeld => ?_)
     clear hK K
     try simp only [Act.put, List.setIfInBounds_toArray, List.set_cons_zero, List.set_cons_succ]
     refine wpAnyH_take (i := 6) (v := ?_) opAt6 (by kernel_rfl) (by kernel_rfl) (by kernel_rfl) (fun _ _ _ h => h) (Or.inl ⟨by kernel_rfl, ?_⟩) (by assumption) ?_; rotate_left; intro wq hSw; (try dsimp only at hSw); go_split_ands; go_simp <;> (with_reducible rfl); try simp only [Act.put, List.setIfInBounds_toArray, List.set_cons_zero, List.set_cons_succ]
     refine wpAnyH_done (by kernel_rfl) ?_ _
     go_wp2_with fail
     go_meet
     exact ⟨_, _, rfl, HD9.out, HROW⟩
   case rest =>
   obtain ⟨so, cap14, rfl, hb14, HTL⟩ := hcut
   generalize hwx : wc = w14 at *
   clear hwx HFIN HLB HKT HTP HVO HVL HVP
   have HB14 := Lib.hid (below_self HB10.out hb14)
   have HS14 := Lib.hid (below_self HS10.out hb14)
   clear hb14 HB10 HS10 HSR10
   have HCM : Hid (Calls Tryz.prog 14 #[.slice so (L.length + 1) cap14] w14 fun e w' => e = .returned (.int .i64 (catR (L ++ [t]))) ∧ Below w14.heap.size w14 w') := Lib.hid (by
    have h := Check_any (ao := so) (cap := cap14) (L := L ++ [t]) w14 (HG.out.self (below_self HBW.out HB14.out)).glob HTL.out (tbls_snoc HTO.out HTT.out)
    rw [List.length_append] at h
    exact h)
   have t0 : w14.cell? ⟨w.heap.size + 1, 0, none⟩ = some (.string t.nm) := by rw [Lib.cell_of_heap (HT.out w14 HB14.out)]; rfl
   have q1 : w14.cell? ⟨w.heap.size, 1, none⟩ = some (.string q.table) := by rw [Lib.cell_of_heap (HQ.out w14 HB14.out)]; rfl
   have q2 : w14.cell? ⟨w.heap.size, 2, none⟩ = some (.string q.join) := by rw [Lib.cell_of_heap (HQ.out w14 HB14.out)]; rfl
   cases e1 : (t.nm.toList == q.table.toList) with
   | true =>
    go_wp2_with fail
    go_ret
    exact ⟨rfl, below_self HBW.out HB14.out⟩
   | false =>
    cases e2 : (t.nm.toList == q.join.toList) with
    | true =>
     go_wp2_with fail
     go_ret
     exact ⟨rfl, below_self HBW.out HB14.out⟩
    | false =>
     have HAM2 := Lib.hid fun hc => HAM.out hc e1 e2
     by_cases hc : catR (L ++ [t]) = 0
     rotate_left
     ·
      generalize catR (L ++ [t]) = V at *
      have hv1 : (V == 0) = false := by simpa using hc
      have hv2 : (V != 0) = true := by simpa using hc
      clear HAM HAM2
      go_wp2_with (go_at_call 14; refine HCM.out.mono ?_; rintro e w15 ⟨rfl, hb15⟩; refine Hid.out ?_)
      refine Lib.hid ?_
      have HBF := Lib.hid (below_self HBW.out (below_self HB14.out hb15))
      clear hb15 HCM
      go_wp2_with fail
      go_ret
      exact ⟨rfl, HBF.out⟩
     have HAB3 := Lib.hid (HAM2.out hc)
     rw [hc] at HCM
     clear HAM HAM2 hc
     go_wp2_with (go_at_call 14; refine HCM.out.mono ?_; rintro e w15 ⟨rfl, hb15⟩; refine Hid.out ?_)
     refine Lib.hid ?_
     have HB15 := Lib.hid (below_self HB14.out hb15)
     have HS15 := Lib.hid (below_self HS14.out hb15)
     have HTL15 := Lib.hid (HTL.out.self hb15)
     clear hb15 HCM t0 q1 q2 HTL HS14 HB14 e1 e2
     have hcl : ∀ (j : Nat) v, (#[.slice io q.items.length icp, .string q.table, .string q.join, .string q.left, .string q.right, .slice wo q.wher.length wcp, .slice go q.group.length gcp] : Array Value)[j]? = some v → w15.cell? ⟨w.heap.size, j, none⟩ = some v := fun j v h => by rw [Lib.cell_of_heap (HQ.out w15 HB15.out)]; exact h
     have k0 := hcl 0 _ rfl
     have k1 := hcl 1 _ rfl
     have k2 := hcl 2 _ rfl
     have k3 := hcl 3 _ rfl
     have k4 := hcl 4 _ rfl
     have k5 := hcl 5 _ rfl
     have k6 := hcl 6 _ rfl
     clear hcl
     have HBD3 := Lib.hid (HAB3.out w15 HB15.out so cap14 HTL15.out)
     go_wp2_with (go_at_call 9; refine HBD3.out.mono ?_; rintro e w16 ⟨⟨wo3, wc3, ga3, gc3, ia3, ic3, na3, nc3, ka3, kc3, rfl, hbi3, _⟩, hb3⟩; refine Hid.out ?_)
     refine Lib.hid ?_
     clear k0 k1 k2 k3 k4 k5 k6 HBD3
     go_upto_region 17 with fail
     have hbA := (Below.refl w16.heap.size w16).alloc (Nat.le_refl _) (.cells #[.string b.table, .string b.join, .int .i64 b.width, .int .i64 b.left, .int .i64 b.right, .slice wo3 b.wher.length wc3, .slice ga3 b.group.length gc3, .slice ia3 b.items.length ic3, .bool b.grouped, .slice na3 b.names.length nc3, .slice ka3 b.kinds.length kc3] 32)
     have hnA := heap_alloc_new w16 (.cells #[.string b.table, .string b.join, .int .i64 b.width, .int .i64 b.left, .int .i64 b.right, .slice wo3 b.wher.length wc3, .slice ga3 b.group.length gc3, .slice ia3 b.items.length ic3, .bool b.grouped, .slice na3 b.names.length nc3, .slice ka3 b.kinds.length kc3] 32)
     have HS3 := Lib.hid (below_self hb3 hbA)
     have HB3 := Lib.hid (below_self HB15.out (below_self hb3 hbA))
     have HI3 := Lib.hid (hbi3.self hbA)
     generalize w16.alloc (.cells #[.string b.table, .string b.join, .int .i64 b.width, .int .i64 b.left, .int .i64 b.right, .slice wo3 b.wher.length wc3, .slice ga3 b.group.length gc3, .slice ia3 b.items.length ic3, .bool b.grouped, .slice na3 b.names.length nc3, .slice ka3 b.kinds.length kc3] 32) = W17 at *
     have hl3 := (Array.getElem?_eq_some_iff.1 hnA).1
     obtain ⟨Q3, hQ3⟩ : ∃ Q, w16.heap.size = Q := ⟨_, rfl⟩
     rw [hQ3] at hnA hl3 ⊢
     have HX3 := Lib.hid fun (wx : World) (hb : Below W17.heap.size W17 wx) => (hb.block Q3 hl3).trans hnA
     clear hbA hnA hb3 hbi3 hQ3
     have HS17 := Lib.hid (below_self HS15.out HS3.out)
     have hcl : ∀ (j : Nat) v, (#[.string b.table, .string b.join, .int .i64 b.width, .int .i64 b.left, .int .i64 b.right, .slice wo1 b.wher.length wc1, .slice ga1 b.group.length gc1, .slice ia1 b.items.length ic1, .bool b.grouped, .slice na1 b.names.length nc1, .slice ka1 b.kinds.length kc1] : Array Value)[j]? = some v → W17.cell? ⟨Q1, j, none⟩ = some v := fun j v h => by rw [Lib.cell_of_heap (HX1.out W17 HS17.out)]; exact h
     have x0 := hcl 0 _ rfl
     have x1 := hcl 1 _ rfl
     have x2 := hcl 2 _ rfl
     have x3 := hcl 3 _ rfl
     have x4 := hcl 4 _ rfl
     have x5 := hcl 5 _ rfl
     have x6 := hcl 6 _ rfl
     have x7 := hcl 7 _ rfl
     have x8 := hcl 8 _ rfl
     have x9 := hcl 9 _ rfl
     have x10 := hcl 10 _ rfl
     clear hcl
     have hcl : ∀ (j : Nat) v, (#[.string b.table, .string b.join, .int .i64 b.width, .int .i64 b.left, .int .i64 b.right, .slice wo3 b.wher.length wc3, .slice ga3 b.group.length gc3, .slice ia3 b.items.length ic3, .bool b.grouped, .slice na3 b.names.length nc3, .slice ka3 b.kinds.length kc3] : Array Value)[j]? = some v → W17.cell? ⟨Q3, j, none⟩ = some v := fun j v h => by rw [Lib.cell_of_heap (HX3.out W17 (Below.refl _ _))]; exact h
     have y0 := hcl 0 _ rfl
     have y1 := hcl 1 _ rfl
     have y2 := hcl 2 _ rfl
     have y3 := hcl 3 _ rfl
     have y4 := hcl 4 _ rfl
     have y5 := hcl 5 _ rfl
     have y6 := hcl 6 _ rfl
     have y7 := hcl 7 _ rfl
     have y8 := hcl 8 _ rfl
     have y9 := hcl 9 _ rfl
     have y10 := hcl 10 _ rfl
     clear hcl
     have HSA := Lib.hid (SameB_any (wcp := wc1) (gc := gc1) (ic := ic1) (nc := nc1) (kc := kc1) (wcp' := wc3) (gc' := gc3) (ic' := ic3) (nc' := nc3) (kc' := kc3) (HI1.out.self HS17.out) HI3.out HSM.out)
     unfold bndB at HSA
     go_wp2_with (go_at_call 12; refine HSA.out.mono ?_; rintro e w18 ⟨rfl, hb18⟩; refine Hid.out ?_)
     refine Lib.hid ?_
     have HBF := Lib.hid (below_self HBW.out (below_self HB3.out hb18))
     clear hb18 HSA x0 x1 x2 x3 x4 x5 x6 x7 x8 x9 x10 y0 y1 y2 y3 y4 y5 y6 y7 y8 y9 y10
     go_wp2_with fail
     go_ret
     exact ⟨rfl, HBF.out⟩
theorem Rows_arg {b1 b2 b3 cap : Nat} {q : Qry} {v u : Value} {L : List Tbl} {t : Tbl} {ao : Option Addr} {W : World} (hG : PGlob W) (hq : QryArg b1 q v W) (hb1 : b1 ≤ 1048576) (hL : TblRow ao L W) (hl : L.length ≤ b2) (hw : ∀ t ∈ L, TblWf b2 t) (hb2 : b2 ≤ 1048576) (ht : TblArg b3 t u W) (hb3 : b3 ≤ 1048576) :
  Calls Tryz.prog 5 #[v, .slice ao L.length cap, u] W fun e w' => e = .returned (.bool true) ∧ Below W.heap.size W w' := by
 obtain ⟨h1, h2, h3⟩ := hq.okB (by omega)
 obtain ⟨io, ic, wo, wc, go, gc, rfl, hi, _⟩ := hq.val
 obtain ⟨co, cc, ro, rn, rc, rfl, hc, hc1, hc2⟩ := ht.val
 exact Rows_any hG hi h1 h2 h3 hL (tbls_ok hw (by omega)) (by omega) hc ⟨hc1, hc2⟩ (tbls_ok (b := b3) (fun x hx => by rw [List.mem_singleton.1 hx]; exact ht.wf) (by omega))
end Go.Proofs.YtgjfbbmachoolaaGreatDoor.lx
namespace Go.Proofs.YtgjfbbmachoolaaGreatDoor.lx
open Go.ChangeShapes Go.WideShapes Go.ChangeAt Go.RowKit

namespace brows
set_option maxRecDepth 100000 in
theorem contract (H : Type) (enc : TypeId × Value → H) (W : World) (base : Nat) (args : Array Value) (ds gs : List (DataW H)) (before : List MemPlace)
  (hval : ∀ (j : Nat) t v, Tryz.f5.params[j]? = some t → args[j]? = some v → Value.okWide Tryz.prog W .any base t v)
  (hW : DataW.Whole enc Tryz.prog Tryz.f5.params.toList Rows.bindRowsSpec.vars false W args.toList ds gs before) (hsz0 : (DataW.weightsEach Tryz.prog (Tryz.f5.params.toList ++ (Rows.OpenSpec.upto Rows.bindRowsSpec).bare.plain.varTypes Tryz.prog) (ds ++ gs)).all (· ≤ reachBytes) = true) (hk : Rows.uptoSmall H (ds ++ gs) = true) (hG : PGlob W) :
  Calls Tryz.prog 5 args W fun e W' => ∃ v, e = .returned v ∧ Rows.bindRowsSpec.post enc Tryz.prog Tryz.f5 false true false false W args v W' := by
 have hW' := hW
 obtain ⟨p, q, hA0, hV, rfl, hfz, hnd⟩ := hW
 have hA : DataW.TrodAll enc Tryz.prog W 0 (fun _ => true) true Tryz.f5.params.toList args.toList ds p := hA0
 rw [Tryz.params5] at hA hval
 obtain ⟨v1, vs1, d1, ds1, p1, q1, hargs, rfl, rfl, h1, r1⟩ := trodAll_cons hA
 obtain ⟨v2, vs2, d2, ds2, p2, q2, hargs2, rfl, rfl, h2, r2⟩ := trodAll_cons r1
 obtain ⟨v3, vs3, d3, ds3, p3, q3, hargs3, rfl, rfl, h3, r3⟩ := trodAll_cons r2
 obtain ⟨rfl, rfl, rfl⟩ := trodAll_nil r3
 subst hargs3
 subst hargs2
 obtain rfl : args = #[v1, v2, v3] := by cases args; simp_all
 obtain ⟨rfl, rfl⟩ := trodVars_none hV
 have hAk := hA
 clear hA0
 have hsz : (DataW.weightsEach Tryz.prog ([26, 27, 53] ++ []) ([d1, d2, d3] ++ [])).all (· ≤ reachBytes) = true := hsz0
 obtain ⟨x1, hx1⟩ := open_qry (hval 0 26 v1 rfl rfl) h1
 obtain ⟨ao2, x2, cap2, rfl, ha2, hl2, hb2⟩ := open_tbls (hval 1 27 v2 rfl rfl) h2
 obtain ⟨x3, hx3⟩ := open_tbl (hval 2 53 v3 rfl rfl) h3
 have hbulk := of_decide_eq_true hk
 simp only [Rows.uptoBulkAll, List.append_nil] at hbulk
 refine (Rows_arg hG hx1 (by omega) ha2 hl2 hb2 (by omega) hx3 (by omega)).mono fun e W' ⟨he, hg⟩ => ?_
 subst he
 have hAc := carryAll hg (by kernel_rfl) hAk
 refine ⟨_, rfl, _, _, _, [], _, [], hW', ?_, hAc, ?_, hg.frame _, fun h => by cases h⟩
 ·
  exact trodAll_cons_mk (shut_bool Tryz.underlying4 _) trodAll_mk0
 ·
  rfl

theorem reads (os : Os) {H : Type} (enc : TypeId × Value → H) : ∃ places, DataW.whole enc Tryz.prog ((laidWorld os).forCall (fun _ _ => 0) ⟨#[], #[Value.agg #[.slice none 0 0, .string ⟨#[]⟩, .string ⟨#[]⟩, .string ⟨#[]⟩, .string ⟨#[]⟩, .slice none 0 0, .slice none 0 0], Value.slice none 0 0, Value.agg #[.string ⟨#[]⟩, .slice none 0 0, .slice none 0 0]], []⟩).memory Tryz.f5.params.toList Rows.bindRowsSpec.vars false #[Value.agg #[.slice none 0 0, .string ⟨#[]⟩, .string ⟨#[]⟩, .string ⟨#[]⟩, .string ⟨#[]⟩, .slice none 0 0, .slice none 0 0], Value.slice none 0 0, Value.agg #[.string ⟨#[]⟩, .slice none 0 0, .slice none 0 0]].toList 8 = some ([.agg [.nil, .lit (.string []), .lit (.string []), .lit (.string []), .lit (.string []), .nil, .nil], .nil, .agg [.lit (.string []), .nil, .nil]], [], places) := by
 have hw : (DataW.whole enc Tryz.prog ((laidWorld os).forCall (fun _ _ => 0) ⟨#[], #[Value.agg #[.slice none 0 0, .string ⟨#[]⟩, .string ⟨#[]⟩, .string ⟨#[]⟩, .string ⟨#[]⟩, .slice none 0 0, .slice none 0 0], Value.slice none 0 0, Value.agg #[.string ⟨#[]⟩, .slice none 0 0, .slice none 0 0]], []⟩).memory Tryz.f5.params.toList Rows.bindRowsSpec.vars false #[Value.agg #[.slice none 0 0, .string ⟨#[]⟩, .string ⟨#[]⟩, .string ⟨#[]⟩, .string ⟨#[]⟩, .slice none 0 0, .slice none 0 0], Value.slice none 0 0, Value.agg #[.string ⟨#[]⟩, .slice none 0 0, .slice none 0 0]].toList 8).map (fun x => (x.1, x.2.1)) =
   some ([.agg [.nil, .lit (.string []), .lit (.string []), .lit (.string []), .lit (.string []), .nil, .nil], .nil, .agg [.lit (.string []), .nil, .nil]], []) := by kernel_rfl
 obtain ⟨⟨x1, x2, x3⟩, hx, hx1⟩ := Option.map_eq_some_iff.1 hw
 simp only [Prod.mk.injEq] at hx1
 obtain ⟨rfl, rfl⟩ := hx1
 exact ⟨x3, hx⟩

set_option maxRecDepth 100000 in
theorem lifted (os : Os) (started : os.Started) (H : Type) (enc : TypeId × Value → H) (F : Stop.Interp) :
  ReturnsInHanded {} Tryz.checked os 5 .any ((Rows.OpenSpec.upto Rows.bindRowsSpec).preRow enc Tryz.prog Tryz.f5 Rows.bindRowsUptoRow.domain false Rows.bindRowsUptoRow.laid) (((Rows.OpenSpec.upto Rows.bindRowsSpec).at F).post enc Tryz.prog Tryz.f5 false true false false) := by
 obtain ⟨places, hx⟩ := reads os enc
 refine returnsInHanded_of_row (C := Tryz.checked) (s := Rows.OpenSpec.upto Rows.bindRowsSpec) own started (by kernel_rfl) Tryz.func5
  (witness_row_atRef (enc := enc) (C := Tryz.checked) false (laidWorld os) #[Value.agg #[.slice none 0 0, .string ⟨#[]⟩, .string ⟨#[]⟩, .string ⟨#[]⟩, .string ⟨#[]⟩, .slice none 0 0, .slice none 0 0], Value.slice none 0 0, Value.agg #[.string ⟨#[]⟩, .slice none 0 0, .slice none 0 0]] rfl (by kernel_rfl) (by kernel_rfl) (by kernel_rfl)
   (OpenSpec.preRow_of_cond 8 hx (by kernel_rfl) (fun k hk => by cases hk; kernel_rfl) (by kernel_rfl) (laid_met os _))) ?_
 intro W base args ds gs before hval hW _ hcond hsz hL hS _
 exact contract H enc W base args ds gs before hval hW hsz (hcond _ rfl) (pglob_of hL hS)

theorem said : Rows.BindRowsUptoSaid :=
 OpenClaim.holds_of_cond 5 Tryz.f5 rfl rfl rfl rfl rfl rfl rfl ⟨rfl, rfl, rfl, rfl, rfl⟩ rfl rfl rfl rfl rfl (by kernel_rfl) Tryz.func5 (by kernel_rfl)
  (of_decide_eq_true (by kernel_rfl)) (by unfold Func.isWrapper; first | (rw [if_pos (by decide +kernel)]; kernel_rfl) | (rw [if_neg (by decide +kernel)]; exact ⟨rfl, rfl⟩))
  (fun os started H enc _ F => by rw [OpenClaim.pre_eq_preRow]; exact lifted os started H enc F)

theorem plain (f : FuncId) (fn : Func) (hf : Tryz.pinned.checked.prog.funcNamed "potsherd/potsherdlaw04.BindRows" = some f) (hfn : Tryz.pinned.checked.prog.funcs[f]? = some fn) :
  true = Tryz.pinned.checked.prog.looks [] ∧ ∀ (j : Nat) t, fn.params[j]? = some t → Tryz.pinned.checked.prog.wantsStandIn t = false := by
 obtain rfl : f = 5 := Option.some.inj ((show Tryz.prog.funcNamed "potsherd/potsherdlaw04.BindRows" = some 5 by kernel_rfl).symm.trans hf) |>.symm
 obtain rfl : fn = Tryz.f5 := (Option.some.inj (Tryz.func5.symm.trans hfn)).symm
 refine ⟨by kernel_rfl, fun j t ht => ?_⟩
 rw [Tryz.params5] at ht
 have hall : ([26, 27, 53].all fun t => !Tryz.prog.wantsStandIn t) = true := by kernel_rfl
 have := List.all_eq_true.1 hall t (by simpa using Array.mem_of_getElem? ht)
 rw [Bool.not_eq_true'] at this
 exact this

/-- THE CARD -/
theorem card : Rows.BindRowsUptoCardSaid :=
 Claim7.holds_tied_plain_at .later [] _ _ _ _ said (fun _ h => by cases h) (by kernel_rfl) (fun _ h => by cases h) bindRowsUpto_row_tie rfl ⟨rfl, rfl⟩ (by kernel_rfl) rfl plain (by kernel_rfl)
end brows
end Go.Proofs.YtgjfbbmachoolaaGreatDoor.lx
