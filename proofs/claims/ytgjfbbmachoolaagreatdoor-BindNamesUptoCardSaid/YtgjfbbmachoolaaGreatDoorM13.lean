/-
  value's CheckCols, CheckTable; bind's Check. Conditions: the package-level variables are laid; the catalog lies there. value's CheckTable. Conditions: the package-level variables are laid; the columns lie there. bind's Check: whether a catalog is right. Conditions: the package-level variables are laid; the tables lie there. potsherdref03.Texts: whether two rows of texts are one. No condition but that the rows lie there. append of a row that may be nothing, onto a row of the call's own. No condition. A catalog's table, by its name; a query's tables and columns in memory. Conditions: the tables lie there.
-/
import Derived.Test.YtgjfbbmachoolaaGreatDoorM12
import Derived.Deep.RegionHeld3
import Derived.Maps.OwnOps
import Derived.Maps.OwnSet
import Derived.Maps.Views
import Derived.StringKeys
import Derived.Carry
import Derived.Test.YtgjfbbmachoolaaGreatDoorM10
import Derived.Deep.AppendSrc
import Derived.Deep.Upon
namespace Go.Proofs.YtgjfbbmachoolaaGreatDoor.lx
open Go.RowKit Go.Maps

set_option maxHeartbeats 4000000 in
set_option maxRecDepth 100000 in
theorem CheckCols_any {ao : Option Addr} {cap : Nat} {L : List Clm} (w : World) (hG : Glob w) (hL : ColRow ao L w) (hok : ColsOk L) (hcap : L.length ≤ cap) (hlen : L.length ≤ 1099511627776) :
  Calls Tryz.prog 55 #[.slice ao L.length cap] w fun e w' => e = .returned (.int .i64 (ccolsR L)) ∧ Below w.heap.size w w' := by
 obtain ⟨R, hR⟩ : ∃ R, ccolsR L = R := ⟨_, rfl⟩
 rw [hR]
 unfold ccolsR at hR
 by_cases h0 : L.length = 0
 ·
  rw [if_pos (.inl h0)] at hR
  subst hR
  have e0 : ((L.length : Int) == 0) = true := beq_iff_eq.2 (by omega)
  clear hok hL
  go_enter Tryz.func55, Tryz.ntmps55
  go_wp2_with fail
  go_ret
  exact ⟨rfl, Below.refl _ _⟩
 have e0 : ((L.length : Int) == 0) = false := beq_eq_false_iff_ne.2 (by omega)
 by_cases h8 : 8 < L.length
 ·
  rw [if_pos (.inr h8)] at hR
  subst hR
  have e8 : (8 : Int) < L.length := by omega
  clear hok hL
  go_enter Tryz.func55, Tryz.ntmps55
  go_wp2_with fail
  go_ret
  exact ⟨rfl, Below.refl _ _⟩
 rw [if_neg (by omega)] at hR
 have e8 : ¬ (8 : Int) < L.length := by omega
 obtain ⟨b, o, rfl, hcs⟩ := hL.resolve_left h0
 have HL := Lib.hid hL
 have HCS := Lib.hid hcs
 have HR := Lib.hid hR
 have HK := Lib.hid hok
 have HG := Lib.hid hG
 clear hL hcs hR hok hG
 go_enter Tryz.func55, Tryz.ntmps55
 go_wp2_with fail
 go_loopw [16] (fun v wr => ∃ k : Nat, v = .int .i64 k ∧ k ≤ L.length ∧ Below w.heap.size w wr ∧ Hid (colsFrom (L.take k) (L.drop k) = R)) (fun v _ => L.length - (intOf v).toNat)
 case atStart => exact ⟨0, rfl, Nat.zero_le _, Below.refl _ _, Lib.hid HR.out⟩
 case round =>
  obtain ⟨k, rfl, hk, hb, HT⟩ := hrel
  by_cases hlt : k < L.length
  ·
   have hx : L[k]? = some L[k] := List.getElem?_eq_getElem hlt
   have hT := HT.out
   rw [List.drop_eq_getElem_cons hlt, colsFrom, ← List.take_succ_eq_append_getElem hlt] at hT
   obtain ⟨hs, hk0, hk1⟩ := HK.out _ (List.getElem_mem hlt)
   obtain ⟨_, _, e, c0, c1⟩ := (HL.out.self hb).at hx
   cases e
   have HR1 := Lib.hid ((HL.out.self hb).take k)
   have hlk : (L.take k).length = k := by simp; omega
   generalize L[k] = x at *
   clear HT hx
   have hbA := (Below.refl wr.heap.size wr).alloc (Nat.le_refl _) (.cells #[.string x.nm, .int .u8 x.k] 47)
   have HNM := Lib.hid (vname_any x.nm _ ((HG.out.self hb).self hbA) (by omega))
   have HBA := Lib.hid (below_self hb hbA)
   have HRA := Lib.hid (HR1.out.self hbA)
   have hn := heap_alloc_new wr (.cells #[.string x.nm, .int .u8 x.k] 47)
   have hls : wr.heap.size < (wr.alloc (.cells #[.string x.nm, .int .u8 x.k] 47)).heap.size := (Array.getElem?_eq_some_iff.1 hn).1
   by_cases hv : vnameR x.nm = 0
   ·
    rw [if_neg (by simp [hv])] at hT
    rw [hv] at HNM
    have HT := Lib.hid hT
    clear hT hbA
    go_wp2_with (go_at_call 54; refine HNM.out.mono ?_; rintro e w2 ⟨rfl, hb2⟩; refine Hid.out ?_)
    refine Lib.hid ?_
    have hn2 := (hb2.block _ hls).trans hn
    have d0 : w2.cell? ⟨wr.heap.size, 0, none⟩ = some (.string x.nm) := by rw [Lib.cell_of_heap hn2]; rfl
    have d1 : w2.cell? ⟨wr.heap.size, 1, none⟩ = some (.int .u8 x.k) := by rw [Lib.cell_of_heap hn2]; rfl
    have HR2 := Lib.hid (HRA.out.self hb2)
    have HB2 := Lib.hid (below_self HBA.out hb2)
    have hcc := containsCol_any (cap := cap) x.nm wr.heap.size w2 HR2.out d0 (by omega)
    rw [hlk] at hcc
    have HCC := Lib.hid hcc
    clear hcc hb2 hn hn2 HBA HRA HR1
    cases hany : (L.take k).any (fun y => eqS y.nm x.nm) with
    | true =>
     rw [hany] at HCC
     have HT2 : Hid ((15 : Int) = R) := Lib.hid (by have := HT.out; rwa [if_pos hany] at this)
     clear hany HT
     go_wp2_with (go_at_call 73; refine HCC.out.mono ?_; rintro e w3 ⟨rfl, hb3⟩; refine Hid.out ?_)
     refine Lib.hid ?_
     go_wp2_with fail
     go_ret
     exact ⟨ret_int HT2.out, below_self HB2.out hb3⟩
    | false =>
     rw [hany] at HCC
     have HT2 : Hid ((if x.k ≤ 0 ∨ 4 ≤ x.k then 5 else colsFrom (L.take (k + 1)) (L.drop (k + 1))) = R) := Lib.hid (by have := HT.out; rwa [if_neg (by rw [hany]; decide)] at this)
     clear hany HT
     go_wp2_with (go_at_call 73; refine HCC.out.mono ?_; rintro e w3 ⟨rfl, hb3⟩; refine Hid.out ?_)
     refine Lib.hid ?_
     have HB3 := Lib.hid (below_self HB2.out hb3)
     have f1 := keep_cellP hb3 d1
     clear hb3 d0 d1 HB2
     by_cases hz : x.k = 0
     ·
      have e1 : (x.k == 0) = true := beq_iff_eq.2 hz
      have HT3 : Hid ((5 : Int) = R) := Lib.hid (by have := HT2.out; rwa [if_pos (by omega)] at this)
      clear HT2 hz
      go_wp2_with fail
      go_ret
      exact ⟨ret_int HT3.out, HB3.out⟩
     ·
      have e1 : (x.k == 0) = false := beq_eq_false_iff_ne.2 hz
      by_cases h4 : 4 ≤ x.k
      ·
       have HT3 : Hid ((5 : Int) = R) := Lib.hid (by have := HT2.out; rwa [if_pos (by omega)] at this)
       clear HT2 hz
       go_wp2_with fail
       go_ret
       exact ⟨ret_int HT3.out, HB3.out⟩
      ·
       have HT3 : Hid (colsFrom (L.take (k + 1)) (L.drop (k + 1)) = R) := Lib.hid (by have := HT2.out; rwa [if_neg (by omega)] at this)
       clear HT2 hz
       go_wp2_with fail
       exact ⟨⟨k + 1, by go_num, by omega, HB3.out, HT3⟩, by simp [intOf]; omega⟩
   ·
    rw [if_pos hv] at hT
    have HT := Lib.hid hT
    have hv0 : (vnameR x.nm == 0) = false := beq_eq_false_iff_ne.2 hv
    have hv1 : (vnameR x.nm != 0) = true := by rw [bne, hv0]; rfl
    clear hT hbA hv
    generalize vnameR x.nm = V at *
    go_wp2_with (go_at_call 54; refine HNM.out.mono ?_; rintro e w2 ⟨rfl, hb2⟩; refine Hid.out ?_)
    refine Lib.hid ?_
    go_wp2_with fail
    go_ret
    exact ⟨ret_int HT.out, below_self HBA.out hb2⟩
  ·
   have hd : L.drop k = [] := List.drop_eq_nil_of_le (by omega)
   have HT2 : Hid ((0 : Int) = R) := Lib.hid (by have := HT.out; rwa [hd] at this)
   clear HT hd
   go_wp2_with fail
   go_ret
   exact ⟨ret_int HT2.out, hb⟩
/-- the first that is no zero -/
def orR (a b : Int) : Int := if a ≠ 0 then a else b
set_option maxHeartbeats 4000000 in
set_option maxRecDepth 100000 in
theorem cmpOr_any {B : Nat} {a b : Int} {w : World} (h0 : w.cell? ⟨B, 0, none⟩ = some (.int .i64 a)) (h1 : w.cell? ⟨B, 1, none⟩ = some (.int .i64 b)) :
  Calls Tryz.prog 53 #[.slice (some ⟨B, 0, none⟩) 2 2] w fun e w' => e = .returned (.int .i64 (orR a b)) ∧ Below w.heap.size w w' := by
 obtain ⟨R, hR⟩ : ∃ R, orR a b = R := ⟨_, rfl⟩
 rw [hR]
 unfold orR at hR
 go_enter Tryz.func53, Tryz.ntmps53
 go_wp2_with fail
 go_loopw [8] (fun v wr => ∃ k : Nat, v = .int .i64 k ∧ k ≤ 2 ∧ Below w.heap.size w wr ∧ (1 ≤ k → a = 0) ∧ (2 ≤ k → b = 0)) (fun v _ => 2 - (intOf v).toNat)
 case atStart => exact ⟨0, rfl, by omega, Below.refl _ _, by omega, by omega⟩
 case round =>
  obtain ⟨k, rfl, hk, hb, ha, hb0⟩ := hrel
  have d0 := keep_cellP hb h0
  have d1 := keep_cellP hb h1
  obtain rfl | rfl | rfl : k = 0 ∨ k = 1 ∨ k = 2 := by omega
  ·
   clear ha hb0
   cases hz : (a == 0) with
   | true =>
    have hz1 : (a != 0) = false := by rw [bne, hz]; rfl
    have hz2 := beq_iff_eq.1 hz
    go_wp2_with fail
    exact ⟨⟨1, by go_num, by omega, hb, fun _ => hz2, by omega⟩, by simp [intOf]⟩
   | false =>
    have hz1 : (a != 0) = true := by rw [bne, hz]; rfl
    have HR : Hid (a = R) := Lib.hid (by rwa [if_pos (beq_eq_false_iff_ne.1 hz)] at hR)
    go_wp2_with fail
    go_ret
    exact ⟨ret_int HR.out, hb⟩
  ·
   have ha := ha (by omega)
   rw [if_neg (by simp [ha])] at hR
   cases hz : (b == 0) with
   | true =>
    have hz1 : (b != 0) = false := by rw [bne, hz]; rfl
    have hz2 := beq_iff_eq.1 hz
    go_wp2_with fail
    exact ⟨⟨2, by go_num, by omega, hb, fun _ => ha, fun _ => hz2⟩, by simp [intOf]⟩
   | false =>
    have hz1 : (b != 0) = true := by rw [bne, hz]; rfl
    have HR := Lib.hid hR
    clear hR
    go_wp2_with fail
    go_ret
    exact ⟨ret_int HR.out, hb⟩
  ·
   have ha := ha (by omega)
   have hb0 := hb0 (by omega)
   rw [if_neg (by simp [ha]), hb0] at hR
   have HR := Lib.hid hR
   go_wp2_with fail
   go_ret
   exact ⟨ret_int HR.out, hb⟩
end Go.Proofs.YtgjfbbmachoolaaGreatDoor.lx
namespace Go.Proofs.YtgjfbbmachoolaaGreatDoor.lx
open Go.RowKit Go.Maps

theorem nextB {W1 w w9 : World} (h : Hid (Below W1.heap.size W1 w)) (hb : Below w.heap.size w w9) : Hid (Below W1.heap.size W1 w9) := Lib.hid (below_self h.out hb)
set_option maxHeartbeats 4000000 in
set_option maxRecDepth 100000 in
theorem CheckTable_any {t : Tbl} {co : Option Addr} {cc : Nat} (w : World) (hG : Glob w) (hL : ColRow co t.cols w) (hok : ColsOk t.cols) (hcap : t.cols.length ≤ cc) (hlen : t.cols.length ≤ 1099511627776) (hs : t.nm.size ≤ 9223372036854775807) :
  Calls Tryz.prog 35 #[.agg #[.string t.nm, .slice co t.cols.length cc, .slice none 0 0]] w fun e w' => e = .returned (.int .i64 (ctableR t)) ∧ Below w.heap.size w w' := by
 have he : ctableR t = orR (vnameR t.nm) (ccolsR t.cols) := rfl
 rw [he]
 obtain ⟨R, hR⟩ : ∃ R, orR (vnameR t.nm) (ccolsR t.cols) = R := ⟨_, rfl⟩
 rw [hR]
 have hb1 := (Below.refl w.heap.size w).alloc (Nat.le_refl _) (.cells #[.string t.nm, .slice co t.cols.length cc, .slice none 0 0] 53)
 have hn := heap_alloc_new w (.cells #[.string t.nm, .slice co t.cols.length cc, .slice none 0 0] 53)
 have HG := Lib.hid (hG.self hb1)
 have HL := Lib.hid (hL.self hb1)
 have HB := Lib.hid hb1
 have HK := Lib.hid hok
 clear hG hL hb1 hok he
 go_enter Tryz.func35, Tryz.ntmps35
 go_upto_region 1 with fail
 generalize w.alloc (.cells #[.string t.nm, .slice co t.cols.length cc, .slice none 0 0] 53) = W1 at *
 have k0 : W1.cell? ⟨w.heap.size, 0, none⟩ = some (.string t.nm) := by rw [Lib.cell_of_heap hn]; rfl
 have k1 : W1.cell? ⟨w.heap.size, 1, none⟩ = some (.slice co t.cols.length cc) := by rw [Lib.cell_of_heap hn]; rfl
 have k2 : W1.cell? ⟨w.heap.size, 2, none⟩ = some (.slice none 0 0) := by rw [Lib.cell_of_heap hn]; rfl
 have HN := Lib.hid fun (wx : World) (hb : Below W1.heap.size W1 wx) => vname_any t.nm wx (HG.out.self hb) hs
 have HC := Lib.hid fun (wx : World) (hb : Below W1.heap.size W1 wx) => CheckCols_any (cap := cc) wx (HG.out.self hb) (HL.out.self hb) HK.out hcap hlen
 have HKA := Lib.hid fun (wx : World) (hb : Below W1.heap.size W1 wx) => (show wx.cell? ⟨w.heap.size, 0, none⟩ = some (.string t.nm) ∧ wx.cell? ⟨w.heap.size, 1, none⟩ = some (.slice co t.cols.length cc) ∧ wx.cell? ⟨w.heap.size, 2, none⟩ = some (.slice none 0 0) ∧ Hid (Below W1.heap.size W1 wx) from ⟨keep_cellP hb k0, keep_cellP hb k1, keep_cellP hb k2, Lib.hid hb⟩)
 have HR0 : Hid (Below W1.heap.size W1 W1) := Lib.hid (Below.refl _ _)
 generalize vnameR t.nm = A at *
 generalize ccolsR t.cols = C at *
 have HR := Lib.hid hR
 clear hR
 clear hn HG HL HK
 go_region_held3 (fun wx => wx.cell? ⟨w.heap.size, 0, none⟩ = some (.string t.nm) ∧ wx.cell? ⟨w.heap.size, 1, none⟩ = some (.slice co t.cols.length cc) ∧ wx.cell? ⟨w.heap.size, 2, none⟩ = some (.slice none 0 0) ∧ Hid (Below W1.heap.size W1 wx)) ((go_split_ands; first | exact HKA.out _ (Hid.out (by assumption)) | exact HKA.out _ (bdn (Hid.out (by assumption)) 1) | exact HKA.out _ (Hid.out (nextB (by assumption) ((Below.refl _ _).alloc (Nat.le_refl _) _)))))
  (first
  | (go_at_call 54; go_split_ands; refine (HN.out _ (Hid.out (by assumption))).mono ?_; rintro e w8 ⟨rfl, hb8⟩; have B8 := nextB (by assumption) hb8; clear hb8)
  | (go_at_call 55; go_split_ands; refine (HC.out _ (Hid.out (by assumption))).mono ?_; rintro e w8 ⟨rfl, hb8⟩; have B8 := nextB (by assumption) hb8; clear hb8)
  | (go_at_call 53; go_split_ands; refine (cmpOr_any (a := A) (b := C) (by rw [Lib.cell_of_heap (heap_alloc_new _ _)]; rfl) (by rw [Lib.cell_of_heap (heap_alloc_new _ _)]; rfl)).mono ?_; rintro e w8 ⟨rfl, hb8⟩; have B8 := nextB (by assumption) hb8; clear hb8))
 go_split_ands
 generalize orR A C = V at *
 cases hz : (V == 0) with
 | true =>
  go_wp2_with fail
  go_loopw [3, 4] (fun y v wr => y = .int .i64 V ∧ v = .int .i64 0 ∧ wr.cell? ⟨w.heap.size, 2, none⟩ = some (.slice none 0 0) ∧ Hid (Below W1.heap.size W1 wr)) (fun _ _ _ => 0)
  case atStart => exact ⟨rfl, rfl, by assumption, by first | assumption | exact Lib.hid (bdn (Hid.out (by assumption)) _)⟩
  case round =>
   obtain ⟨rfl, rfl, c2, hb⟩ := hrel
   go_wp2_with fail
   go_ret
   exact ⟨ret_int HR.out, below_self HB.out (Hid.out hb)⟩
 | false =>
  go_wp2_with fail
  go_loopw [3, 4] (fun y v wr => y = .int .i64 V ∧ v = .int .i64 0 ∧ wr.cell? ⟨w.heap.size, 2, none⟩ = some (.slice none 0 0) ∧ Hid (Below W1.heap.size W1 wr)) (fun _ _ _ => 0)
  case atStart => exact ⟨rfl, rfl, by assumption, by first | assumption | exact Lib.hid (bdn (Hid.out (by assumption)) _)⟩
  case round =>
   obtain ⟨rfl, rfl, c2, hb⟩ := hrel
   go_wp2_with fail
   go_ret
   exact ⟨ret_int HR.out, below_self HB.out (Hid.out hb)⟩
end Go.Proofs.YtgjfbbmachoolaaGreatDoor.lx
namespace Go.Proofs.YtgjfbbmachoolaaGreatDoor.lx
open Go.RowKit Go.Maps

/-- tables that lie there -/
def TblRow (ao : Option Addr) (L : List Tbl) (w : World) : Prop := L.length = 0 ∨ ∃ b o, ao = some ⟨b, o, none⟩ ∧ ∀ (i : Nat) t, L[i]? = some t → ∃ co cc ro rn rc,
  w.cell? ⟨b, o + i * 3, none⟩ = some (.string t.nm) ∧ w.cell? ⟨b, o + i * 3 + 1, none⟩ = some (.slice co t.cols.length cc) ∧ w.cell? ⟨b, o + i * 3 + 2, none⟩ = some (.slice ro rn rc) ∧ ColRow co t.cols w ∧ t.cols.length ≤ cc ∧ cc ≤ 9223372036854775807
theorem TblRow.at {ao : Option Addr} {L : List Tbl} {w : World} (h : TblRow ao L w) {k : Nat} {t : Tbl} (hx : L[k]? = some t) : ∃ b o, ao = some ⟨b, o, none⟩ ∧ ∃ co cc ro rn rc,
  w.cell? ⟨b, o + k * 3, none⟩ = some (.string t.nm) ∧ w.cell? ⟨b, o + k * 3 + 1, none⟩ = some (.slice co t.cols.length cc) ∧ w.cell? ⟨b, o + k * 3 + 2, none⟩ = some (.slice ro rn rc) ∧ ColRow co t.cols w ∧ t.cols.length ≤ cc ∧ cc ≤ 9223372036854775807 := by
 rcases h with h | ⟨b, o, h1, h2⟩
 ·
  rw [List.getElem?_eq_none (by omega)] at hx; cases hx
 ·
  exact ⟨b, o, h1, h2 k t hx⟩
theorem TblRow.self {ao : Option Addr} {L : List Tbl} {w w' : World} (h : TblRow ao L w) (hb : Below w.heap.size w w') : TblRow ao L w' := by
 rcases h with h | ⟨b, o, h1, h2⟩
 ·
  exact .inl h
 ·
  refine .inr ⟨b, o, h1, fun i t ht => ?_⟩
  obtain ⟨co, cc, ro, rn, rc, c0, c1, c2, hc, h3, h4⟩ := h2 i t ht
  exact ⟨co, cc, ro, rn, rc, keep_cellP hb c0, keep_cellP hb c1, keep_cellP hb c2, hc.self hb, h3, h4⟩
/-- tables whose texts are a model's -/
def TblsOk (L : List Tbl) : Prop := ∀ t ∈ L, t.nm.size < 4294967281 ∧ ColsOk t.cols ∧ t.cols.length ≤ 1099511627776

/-- names that are seen: each once -/
def seenD : List ByteArray → DataW Unit
 | [] => .map []
 | n :: ns => (seenD ns).put (.string n.data.toList) (.lit (.int .i64 1))
theorem seenD_map : ∀ ns, IsMap (seenD ns)
 | [] => ⟨_, rfl⟩
 | n :: ns => by
  obtain ⟨es, h⟩ := seenD_map ns
  exact ⟨_, by rw [seenD, h]; rfl⟩
theorem seenD_at (n : ByteArray) : ∀ ns : List ByteArray, (seenD ns).atKey (.string n.data.toList) (.lit (.int .i64 0)) = .lit (.int .i64 (if ns.any (fun m => eqS m n) = true then 1 else 0))
 | [] => rfl
 | m :: ns => by
  rw [seenD]
  by_cases h : m = n
  ·
   subst h
   rw [atKey_put_same (seenD_map ns) (by trivial)]
   simp [eqS_rfl]
  ·
   rw [atKey_put_other (by intro e; injection e with e; exact h (ByteArray.ext (Array.toList_inj.1 e.symm))), seenD_at n ns]
   have : eqS m n = false := by
    cases he : eqS m n with
    | false => rfl
    | true => exact absurd (eqS_iff.1 he) h
   simp [this]
theorem str_keyed : Keyed Tryz.prog 9 := string_keyed Tryz.underlying9
theorem zero_int (w : World) : (zeroValue 3).run Tryz.prog w = .ok (.int .i64 0) w := by kernel_rfl
theorem ownsMap_heap {w w' : World} {P : Program} {k : TypeId} {R : Value → Option (DataW Unit × List MemPlace)} {b n : Nat} {D : DataW Unit} (h : w.ownsMap P k R b n D) (he : w'.heap[b]? = w.heap[b]?) : w'.ownsMap P k R b n D := by
 obtain ⟨es, clock, hb, r⟩ := h
 exact ⟨es, clock, he.trans hb, r⟩
set_option maxHeartbeats 4000000 in
set_option maxRecDepth 100000 in
theorem Check_any {ao : Option Addr} {cap : Nat} {L : List Tbl} (w : World) (hG : Glob w) (hL : TblRow ao L w) (hok : TblsOk L) :
  Calls Tryz.prog 14 #[.slice ao L.length cap] w fun e w' => e = .returned (.int .i64 (catR L)) ∧ Below w.heap.size w w' := by
 obtain ⟨R, hR⟩ : ∃ R, catR L = R := ⟨_, rfl⟩
 rw [hR]
 unfold catR at hR
 by_cases h8 : 8 < L.length
 ·
  rw [if_pos h8] at hR
  subst hR
  have e8 : (8 : Int) < L.length := by omega
  clear hok hL
  go_enter Tryz.func14, Tryz.ntmps14
  go_wp2_with fail
  go_ret
  exact ⟨rfl, Below.refl _ _⟩
 rw [if_neg h8] at hR
 have e8 : ¬ (8 : Int) < L.length := by omega
 have HL := Lib.hid hL
 have HR := Lib.hid hR
 have HK := Lib.hid hok
 have HG := Lib.hid hG
 have hmm := @run_makeMap Tryz.prog
 clear hL hR hok hG
 go_enter Tryz.func14, Tryz.ntmps14
 go_wp2_with fail
 go_loopw [13] (fun v wr => ∃ k : Nat, v = .int .i64 k ∧ k ≤ L.length ∧ Below w.heap.size w wr ∧ Hid (wr.ownsMap Tryz.prog 9 (plainElem Tryz.prog 3) w.heap.size k (seenD ((L.take k).map Tbl.nm).reverse)) ∧ Hid (tblsFrom ((L.take k).map Tbl.nm).reverse (L.drop k) = R)) (fun v _ => L.length - (intOf v).toNat)
 case atStart => exact ⟨0, rfl, Nat.zero_le _, (Below.refl _ _).alloc (Nat.le_refl _) _, Lib.hid (World.ownsMap_made w Tryz.prog _ _), Lib.hid HR.out⟩
 case round =>
  obtain ⟨k, rfl, hk, hb, HO, HT⟩ := hrel
  by_cases hlt : k < L.length
  ·
   have hx : L[k]? = some L[k] := List.getElem?_eq_getElem hlt
   have hT := HT.out
   rw [List.drop_eq_getElem_cons hlt, tblsFrom] at hT
   have hnx : ((L.take (k + 1)).map Tbl.nm).reverse = L[k].nm :: ((L.take k).map Tbl.nm).reverse := by rw [List.take_succ_eq_append_getElem hlt, List.map_append, List.reverse_append]; rfl
   obtain ⟨hs, hkc, hkl⟩ := HK.out _ (List.getElem_mem hlt)
   obtain ⟨b, o, rfl, co, cc, ro, rn, rc, c0, c1, c2, hc, h3, h4⟩ := (HL.out.self hb).at hx
   generalize L[k] = x at *
   generalize ((L.take k).map Tbl.nm).reverse = NS at *
   have HT := Lib.hid hT
   have HNX := Lib.hid hnx
   clear hT hnx hx
   go_upto_region 8 with fail
   have hbA := (Below.refl wr.heap.size wr).alloc (Nat.le_refl _) (.cells #[.string x.nm, .slice co x.cols.length cc, .slice none 0 0] 53)
   have hn := heap_alloc_new wr (.cells #[.string x.nm, .slice co x.cols.length cc, .slice none 0 0] 53)
   have hlw := hb.size
   have hM := (HO.out).lt
   generalize wr.alloc (.cells #[.string x.nm, .slice co x.cols.length cc, .slice none 0 0] 53) = W at *
   have hls := (Array.getElem?_eq_some_iff.1 hn).1
   have d0 : W.cell? ⟨wr.heap.size, 0, none⟩ = some (.string x.nm) := by rw [Lib.cell_of_heap hn]; rfl
   have d1 : W.cell? ⟨wr.heap.size, 1, none⟩ = some (.slice co x.cols.length cc) := by rw [Lib.cell_of_heap hn]; rfl
   have d2 : W.cell? ⟨wr.heap.size, 2, none⟩ = some (.slice none 0 0) := by rw [Lib.cell_of_heap hn]; rfl
   have HCT := Lib.hid (CheckTable_any (t := x) (cc := cc) W ((HG.out.self hb).self hbA) (hc.self hbA) hkc h3 hkl (by omega))
   have HOW := Lib.hid (ownsMap_heap HO.out (hbA.block _ hM))
   have hMW := HOW.out.lt
   have HBW := Lib.hid (below_self hb hbA)
   clear hc hkc h3 h4 hkl c0 c1 c2 hbA HO
   by_cases hv : ctableR x = 0
   ·
    have HT := Lib.hid (by have := HT.out; rwa [if_neg (by simp [hv])] at this)
    rw [hv] at HCT
    clear hv
    go_wp2_with (go_at_call 35; refine HCT.out.mono ?_; rintro e w2 ⟨rfl, hb2⟩; refine Hid.out ?_)
    refine Lib.hid ?_
    have hn2 := (hb2.block _ hls).trans hn
    have hls2 := Nat.lt_of_lt_of_le hls hb2.size
    have e0 : w2.cell? ⟨wr.heap.size, 0, none⟩ = some (.string x.nm) := by rw [Lib.cell_of_heap hn2]; rfl
    have HO2 := Lib.hid (ownsMap_heap HOW.out (hb2.block _ hMW))
    have HB2 := Lib.hid (below_self HBW.out hb2)
    have hkey : keyOf Tryz.prog 9 (.string x.nm) = some (.string x.nm.data.toList) := Go.WideMaps.keyOf_string_mk Tryz.underlying9 (by unfold maxLen; omega)
    obtain ⟨c, hlk, hat, _⟩ := HO2.out.lookup_int str_keyed Tryz.underlying85 Tryz.underlying3 (zero_int w2) hkey
    clear hb2 d0 d1 d2 hn HOW HBW HCT
    cases hany : NS.any (fun m => eqS m x.nm) with
    | true =>
     obtain rfl : c = 1 := by
      have := hat
      rw [seenD_at, hany] at this
      simpa using this.symm
     obtain ⟨w3, r3, o3, g3⟩ := HO2.out.update str_keyed Tryz.underlying85 (by unfold maxLen; omega) hkey (plainElem_int Tryz.underlying3 (a := 2) (by decide))
     obtain ⟨c2, hlk2, hat2, _⟩ := o3.lookup_int str_keyed Tryz.underlying85 Tryz.underlying3 (zero_int w3) hkey
     obtain rfl : c2 = 2 := by
      rw [atKey_put_same (seenD_map NS) (by trivial)] at hat2
      simpa using hat2.symm
     have hn3 := (g3.block _ hls2 (by intro e; injection e; omega)).trans hn2
     have f0 : w3.cell? ⟨wr.heap.size, 0, none⟩ = some (.string x.nm) := by rw [Lib.cell_of_heap hn3]; rfl
     have HB3 := Lib.hid (HB2.out.trans (gb_below g3 (Nat.le_refl _) HB2.out.size))
     have HT2 : Hid ((15 : Int) = R) := Lib.hid (by have := HT.out; rwa [if_pos hany] at this)
     clear hn3 hn2 hat hat2 o3 g3 hany HT HO2 HB2
     go_wp2_with fail
     go_ret
     exact ⟨ret_int HT2.out, HB3.out⟩
    | false =>
     obtain rfl : c = 0 := by
      have := hat
      rw [seenD_at, hany] at this
      simpa using this.symm
     obtain ⟨w3, r3, o3, g3⟩ := HO2.out.update str_keyed Tryz.underlying85 (by unfold maxLen; omega) hkey (plainElem_int Tryz.underlying3 (a := 1) (by decide))
     obtain ⟨c2, hlk2, hat2, _⟩ := o3.lookup_int str_keyed Tryz.underlying85 Tryz.underlying3 (zero_int w3) hkey
     obtain rfl : c2 = 1 := by
      rw [atKey_put_same (seenD_map NS) (by trivial)] at hat2
      simpa using hat2.symm
     have hn3 := (g3.block _ hls2 (by intro e; injection e; omega)).trans hn2
     have f0 : w3.cell? ⟨wr.heap.size, 0, none⟩ = some (.string x.nm) := by rw [Lib.cell_of_heap hn3]; rfl
     have HB3 := Lib.hid (HB2.out.trans (gb_below g3 (Nat.le_refl _) HB2.out.size))
     have HT2 : Hid (tblsFrom (x.nm :: NS) (L.drop (k + 1)) = R) := Lib.hid (by have := HT.out; rwa [if_neg (by rw [hany]; decide)] at this)
     have HO3 := Lib.hid o3
     clear hn3 hn2 hat hat2 o3 g3 hany HT HO2 HB2
     go_wp2_with fail
     exact ⟨⟨k + 1, by go_num, by omega, HB3.out, by rw [HNX.out]; exact HO3, by rw [HNX.out]; exact HT2⟩, by simp [intOf]; omega⟩
   ·
    have HT2 := Lib.hid (by have := HT.out; rwa [if_pos hv] at this)
    have hv0 : (ctableR x == 0) = false := beq_eq_false_iff_ne.2 hv
    have hv1 : (ctableR x != 0) = true := by rw [bne, hv0]; rfl
    clear hv HT
    generalize ctableR x = V at *
    go_wp2_with (go_at_call 35; refine HCT.out.mono ?_; rintro e w2 ⟨rfl, hb2⟩; refine Hid.out ?_)
    refine Lib.hid ?_
    go_wp2_with fail
    go_ret
    exact ⟨ret_int HT2.out, below_self HBW.out hb2⟩
  ·
   have hd : L.drop k = [] := List.drop_eq_nil_of_le (by omega)
   have HT2 : Hid ((0 : Int) = R) := Lib.hid (by have := HT.out; rwa [hd] at this)
   clear HT hd
   go_wp2_with fail
   go_ret
   exact ⟨ret_int HT2.out, hb⟩
end Go.Proofs.YtgjfbbmachoolaaGreatDoor.lx
namespace Go.Proofs.YtgjfbbmachoolaaGreatDoor.lx
open Go.RowKit
theorem TxtRow.at {ao : Option Addr} {L : List ByteArray} {w : World} (h : TxtRow ao L w) {k : Nat} {x : ByteArray} (hx : L[k]? = some x) : ∃ b o, ao = some ⟨b, o, none⟩ ∧ w.cell? ⟨b, o + k, none⟩ = some (.string x) := by
 rcases h with h | ⟨b, o, h1, h2⟩
 ·
  rw [List.getElem?_eq_none (by omega)] at hx; cases hx
 ·
  exact ⟨b, o, h1, h2 k x hx⟩

set_option maxHeartbeats 4000000 in
set_option maxRecDepth 100000 in
theorem Texts_any (A C : List ByteArray) (ao co : Option Addr) (ca cc : Nat) (w : World) (hA : TxtRow ao A w) (hC : TxtRow co C w) (h1 : A.length ≤ 1099511627776) :
  Calls Tryz.prog 32 #[.slice ao A.length ca, .slice co C.length cc] w fun e w' => e = .returned (.bool (decide (A = C))) ∧ ∃ n, w' = w.drewN n := by
 by_cases hl : A.length = C.length
 ·
  have hlb : ((A.length : Int) != (C.length : Int)) = false := by simp [hl]
  have hl1 : A.length ≤ C.length := by omega
  have hl2 : C.length ≤ A.length := by omega
  clear hl
  go_enter Tryz.func32, Tryz.ntmps32
  go_wp2_with fail
  go_loopw [13] (fun v wr => ∃ k n : Nat, v = .int .i64 k ∧ k ≤ A.length ∧ wr = w.drewN n ∧ Hid (A.take k = C.take k)) (fun v _ => A.length - (intOf v).toNat)
  case atStart => exact ⟨0, 0, rfl, Nat.zero_le _, rfl, Lib.hid rfl⟩
  case round =>
   obtain ⟨k, n, rfl, hk, rfl, HT⟩ := hrel
   by_cases hlt : k < A.length
   ·
    obtain ⟨x, hx⟩ : ∃ x, A[k]? = some x := ⟨_, List.getElem?_eq_getElem hlt⟩
    obtain ⟨y, hy⟩ : ∃ y, C[k]? = some y := ⟨_, List.getElem?_eq_getElem (by omega)⟩
    obtain ⟨b, o, rfl, a0⟩ := hA.at hx
    obtain ⟨b', o', rfl, b0⟩ := hC.at hy
    have hlt2 : k < C.length := by omega
    by_cases hxy : x = y
    ·
     subst hxy
     have hcmp : (x.toList == x.toList) = true := beq_self_eq_true _
     have HN := Lib.hid (take_stepL HT.out hx hy)
     clear hx hy
     go_wp2_with fail
     go_quiet (fail)
     go_wp2_with fail
     go_roundw
     case rel => exact ⟨k + 1, _, by go_num, by omega, rfl, HN⟩
     case measure => simp [intOf]; omega
    ·
     have hcmp : (x.toList == y.toList) = false := beq_eq_false_iff_ne.2 fun e => hxy (ByteArray.ext (Array.toList_inj.1 (by simpa [Lib.toList_data] using e)))
     have hne : decide (A = C) = false := by
      rw [decide_eq_false_iff_not]
      intro e
      rw [e, hy] at hx
      exact hxy (Option.some.inj hx).symm
     have HNE := Lib.hid hne
     clear hx hy hne hxy
     go_wp2_with fail
     go_quiet (fail)
     go_wp2_with fail
     go_ret
     exact ⟨ret_bool HNE.out.symm, _, World.drewN_drewN _ _ _⟩
   ·
    have he : decide (A = C) = true := by
     rw [decide_eq_true_iff]
     have := HT.out
     rwa [List.take_of_length_le (by omega), List.take_of_length_le (by omega)] at this
    have HE := Lib.hid he
    clear he
    go_wp2_with fail
    go_ret
    exact ⟨ret_bool HE.out.symm, n, rfl⟩
 ·
  have hlb : ((A.length : Int) != (C.length : Int)) = true := by simp; omega
  have hne : decide (A = C) = false := by
   rw [decide_eq_false_iff_not]
   intro e
   exact hl (congrArg List.length e)
  have HNE := Lib.hid hne
  clear hne hl
  go_enter Tryz.func32, Tryz.ntmps32
  go_wp2_with fail
  go_ret
  exact ⟨ret_bool HNE.out.symm, 0, rfl⟩
end Go.Proofs.YtgjfbbmachoolaaGreatDoor.lx
namespace Go.Proofs.YtgjfbbmachoolaaGreatDoor.lx
open Go.RowKit

/-- cells that lie there, or are none -/
def Lies (size : Nat) (ao : Option Addr) (m : Nat) (news : List Value) (w : World) : Prop :=
 news.length = m * size ∧ (∀ u ∈ news, u.oneCell' = true) ∧ (m = 0 ∨ ∃ b o, ao = some ⟨b, o, none⟩ ∧ ∀ j u, news[j]? = some u → w.cell? ⟨b, o + j, none⟩ = some u)
theorem run_append_lying {P : Program} (w : World) (base : Nat) (t ty e : TypeId) (i : TypeInfo) (z : Value) (size bytes : Nat) (ht : P.underlying t = some (.slice e)) (hi : P.info? e = some i) (hz : i.zero = some z)
  (hsize : i.size = size) (hby : i.bytes = bytes) (hzs : z.cells.size = size) (hsz : 0 < size)
  (v : Value) (n : Nat) (xs : List Value) (hown : w.ownsRow base e size v n xs)
  (ao : Option Addr) (m c : Nat) (news : List Value) (hx : Lies size ao m news w) (h63 : n + m ≤ maxLen) (hbytes : (n + m) * bytes ≤ 140737488355328) (hbase : base ≤ w.heap.size) :
  ∃ v' w', (Builtin.append_ #[t, t] ty #[v, .slice ao m c]).run P w = .ok v' w' ∧ w'.ownsRow base e size v' (n + m) (xs ++ news) ∧ w.grownBy w' v.ownBlock ∧ (v'.ownBlock = v.ownBlock ∨ v'.ownBlock = some w.heap.size) := by
 obtain ⟨hl, h1, h0⟩ := hx
 have go : ∀ ad : Addr, ao = some ad → (∀ j u, news[j]? = some u → w.cell? (ad.add j) = some u) → ∃ v' w', (Builtin.append_ #[t, t] ty #[v, .slice ao m c]).run P w = .ok v' w' ∧ w'.ownsRow base e size v' (n + m) (xs ++ news) ∧ w.grownBy w' v.ownBlock ∧ (v'.ownBlock = v.ownBlock ∨ v'.ownBlock = some w.heap.size) := by
  intro ad he hc
  obtain ⟨v', w', hr, h2, h3, _, h5⟩ := run_append_own_at (P := P) w base t ty e i z size bytes ht hi hz hsize hby hzs hsz v n xs hown ad m c news hl hc h1 h63 hbytes hbase
  exact ⟨v', w', by rw [he]; exact hr, h2, h3, h5⟩
 rcases h0 with h0 | ⟨b, o, he, hc⟩
 ·
  subst h0
  rw [Nat.zero_mul] at hl
  obtain rfl : news = [] := List.length_eq_zero_iff.1 hl
  cases ao with
  | some ad => exact go ad rfl (fun j u h => by simp at h)
  | none =>
   obtain ⟨ao', cap, hv, hle, _⟩ := own_cells hown
   subst hv
   refine ⟨.slice ao' n cap, w, ?_, by simpa using hown, World.grownBy.refl _ _, .inl rfl⟩
   refine run_append_nothing (P := P) w t t ty e i ht hi ao' n cap hle _ ⟨.inl ⟨e, ht⟩, fun w' => ?_, ?_, ?_, by simp, fun u hu => by cases hu⟩
   ·
    simp [Builtin.lenOf]
   ·
    simp [Builtin.firstCells]
   ·
    simp [Builtin.firstCells]
 ·
  refine go _ he fun j u h => ?_
  rw [show (⟨b, o, none⟩ : Addr).add j = ⟨b, o + j, none⟩ by unfold Addr.add; split <;> simp_all]
  exact hc j u h
theorem wpList_append_lying {P : Program} {w : World} {ops : Array Oper} {rest : List Oper} {o : Oper} {a : Act} {Q : Exit → Act → World → Prop} (hgd : o.guard = none) (s x : Operand) (t : TypeId)
  (ho : o.op = .call { callee := .builtin .append, args := #[s, x], argTypes := #[t, t] })
  (base : Nat) (e : TypeId) (i : TypeInfo) (z : Value) (size bytes : Nat) (ht : P.underlying t = some (.slice e)) (hi : P.info? e = some i) (hz : i.zero = some z)
  (hsize : i.size = size) (hby : i.bytes = bytes) (hzs : z.cells.size = size) (hsz : 0 < size)
  (v : Value) (n : Nat) (xs : List Value) (hs : a.eval s = v) (hown : w.ownsRow base e size v n xs)
  (ao : Option Addr) (m c : Nat) (news : List Value) (hx : a.eval x = .slice ao m c) (hl : Lies size ao m news w)
  (h63 : n + m ≤ maxLen) (hbytes : (n + m) * bytes ≤ 140737488355328) (hbase : base ≤ w.heap.size)
  (h : ∀ v' w', w'.ownsRow base e size v' (n + m) (xs ++ news) → w.grownBy w' v.ownBlock → (v'.ownBlock = v.ownBlock ∨ v'.ownBlock = some w.heap.size) → wpList P ops Q rest (a.put o.dst v') w') :
  wpList P ops Q (o :: rest) a w := by
 refine wpList_plain hgd fun K hK => ?_
 obtain ⟨v', w', hr, h2, h3, h5⟩ := run_append_lying (P := P) w base t o.type e i z size bytes ht hi hz hsize hby hzs hsz v n xs hown ao m c news hl h63 hbytes hbase
 unfold Oper.wp execOp
 simp only [ho, resolve, invoke, builtin, Sem.run_bind, Sem.run_pure, Result.andThen_ok, List.map_toArray, List.map_cons, List.map_nil, hs, hx, hr]
 exact hK _ _ (h v' w' h2 h3 h5)
theorem step_append_lying {P : Program} {ops : Array Oper} {o : Oper} {a : Act} {w : World} {K : Act → World → Prop} {Q : Exit → Act → World → Prop} {E : Prop}
  (hg : o.guard = none) (s x : Operand) (t : TypeId) (hop : o.op = Op.call { callee := Callee.builtin Builtin.append, args := #[s, x], argTypes := #[t, t] })
  (base : Nat) (e : TypeId) (i : TypeInfo) (z : Value) (size bytes : Nat) (ht : P.underlying t = some (.slice e)) (hi : P.info? e = some i) (hz : i.zero = some z) (hsize : i.size = size) (hby : i.bytes = bytes) (hzs : z.cells.size = size) (hsz : 0 < size)
  (v : Value) (n : Nat) (xs : List Value) (hs : a.eval s = v) (hown : w.ownsRow base e size v n xs)
  (ao : Option Addr) (m c : Nat) (news : List Value) (hx : a.eval x = .slice ao m c) (hl : Lies size ao m news w)
  (h63 : n + m ≤ maxLen) (hbytes : (n + m) * bytes ≤ 140737488355328) (hbase : base ≤ w.heap.size)
  (h : ∀ v' w', w'.ownsRow base e size v' (n + m) (xs ++ news) → w.grownBy w' v.ownBlock → (v'.ownBlock = v.ownBlock ∨ v'.ownBlock = some w.heap.size) → K (a.put o.dst v') w') :
  if Region.wanted o (yielded ops a.tmps) = true then Oper.wp P o a w K Q else E := by
 have hw : Region.wanted o (yielded ops a.tmps) = true := by simp [Region.wanted, hg]
 rw [if_pos hw]
 obtain ⟨v', w', hr, h2, h3, h5⟩ := run_append_lying (P := P) w base t o.type e i z size bytes ht hi hz hsize hby hzs hsz v n xs hown ao m c news hl h63 hbytes hbase
 unfold Oper.wp execOp
 simp only [hop, resolve, invoke, builtin, Sem.run_bind, Sem.run_pure, Result.andThen_ok, List.map_toArray, List.map_cons, List.map_nil, hs, hx, hr]
 exact h _ _ h2 h3 h5
theorem lies_stps {ao : Option Addr} {L : List Stp} {w : World} (h : StpRow ao L w) : Lies 3 ao L.length (stpCells L) w := by
 refine ⟨stpCells_length L, fun u hu => ?_, ?_⟩
 ·
  obtain ⟨t, _, ht⟩ := List.mem_flatMap.1 hu
  simp only [Stp.cells, List.mem_cons, List.not_mem_nil, or_false] at ht
  rcases ht with rfl | rfl | rfl <;> rfl
 rcases h with h | ⟨b, o, h1, h2⟩
 ·
  exact .inl h
 ·
  refine .inr ⟨b, o, h1, fun j u hj => ?_⟩
  have hjl : j < L.length * 3 := by
   rw [← stpCells_length]
   exact (List.getElem?_eq_some_iff.1 hj).1
  have hi : j / 3 < L.length := by omega
  obtain ⟨c0, c1, c2⟩ := h2 (j / 3) _ (List.getElem?_eq_getElem hi)
  have hm : j % 3 < 3 := Nat.mod_lt _ (by decide)
  have e := (stpCells_at L (j / 3) _ (j % 3) (List.getElem?_eq_getElem hi) hm).symm.trans ((congrArg (fun k => (stpCells L)[k]?) (show j / 3 * 3 + j % 3 = j by omega)).trans hj)
  generalize L[j / 3] = t at *
  obtain h0 | h0 | h0 : j % 3 = 0 ∨ j % 3 = 1 ∨ j % 3 = 2 := by omega
  ·
   rw [h0] at e; simp only [Stp.cells, List.getElem?_cons_zero, Option.some.injEq] at e; subst e
   rw [show o + j = o + j / 3 * 3 by omega]; exact c0
  ·
   rw [h0] at e; simp only [Stp.cells, List.getElem?_cons_zero, List.getElem?_cons_succ, Option.some.injEq] at e; subst e
   rw [show o + j = o + j / 3 * 3 + 1 by omega]; exact c1
  ·
   rw [h0] at e; simp only [Stp.cells, List.getElem?_cons_zero, List.getElem?_cons_succ, Option.some.injEq] at e; subst e
   rw [show o + j = o + j / 3 * 3 + 2 by omega]; exact c2
theorem own_empty {w : World} {t : TypeId} {size : Nat} : (w.alloc (.cells #[] t)).ownsRow w.heap.size t size (.slice (some ⟨w.heap.size, 0, none⟩) 0 0) 0 [] :=
 ⟨by simp, .inr ⟨w.heap.size, 0, _, rfl, Nat.le_refl _, heap_alloc_new w _, Nat.le_refl _, by unfold maxLen; omega, by simp, by simp⟩⟩
end Go.Proofs.YtgjfbbmachoolaaGreatDoor.lx
namespace Go.Proofs.YtgjfbbmachoolaaGreatDoor.lx
open Go.RowKit
set_option linter.unusedVariables false
set_option linter.unusedSimpArgs false

set_option maxHeartbeats 4000000 in
set_option maxRecDepth 100000 in
theorem openfn_any {nm n : ByteArray} {c r : Value} {N : Nat} {w : World} {co ro : Option Addr} {cn cc rn rc : Nat} (hN : w.cell? ⟨N, 0, none⟩ = some (.string n)) (hl : N < w.heap.size) :
  Calls Tryz.prog 46 #[.agg #[.string nm, .slice co cn cc, .slice ro rn rc], .pointer (some ⟨N, 0, none⟩)] w fun e w' => e = .returned (.bool (eqS nm n)) ∧ Below w.heap.size w w' := by
 have hb := (Below.refl w.heap.size w).alloc (Nat.le_refl _) (.cells #[.string nm, .slice co cn cc, .slice ro rn rc] 53)
 have k1 := keep_cellP hb hN
 have k0 : (w.alloc (.cells #[.string nm, .slice co cn cc, .slice ro rn rc] 53)).cell? ⟨w.heap.size, 0, none⟩ = some (.string nm) := by rw [Lib.cell_of_heap (heap_alloc_new w _)]; rfl
 have HB := Lib.hid hb
 clear hb hN
 go_enter Tryz.func46, Tryz.ntmps46
 go_upto_region 1 with fail
 generalize w.alloc (.cells #[.string nm, .slice co cn cc, .slice ro rn rc] 53) = W at *
 go_wp2_with fail
 go_ret
 exact ⟨rfl, HB.out⟩
/-- a table's place -/
def IdxP (L : List Tbl) (n : ByteArray) (i : Int) : Prop :=
 (i = -1 ∧ L.find? (fun t => eqS t.nm n) = none) ∨ ∃ (k : Nat) (t : Tbl), i = k ∧ L[k]? = some t ∧ L.find? (fun t => eqS t.nm n) = some t
theorem find_at {L : List Tbl} {n : ByteArray} {k : Nat} {t : Tbl} (hx : L[k]? = some t) (h : (L.take k).find? (fun t => eqS t.nm n) = none) (ht : eqS t.nm n = true) : L.find? (fun t => eqS t.nm n) = some t := by
 have hk := (List.getElem?_eq_some_iff.1 hx).1
 have e : L = L.take k ++ L.drop k := (List.take_append_drop k L).symm
 rw [e, List.find?_append, h, List.drop_eq_getElem_cons hk]
 have : L[k] = t := (List.getElem?_eq_some_iff.1 hx).2
 simp [this, ht]
set_option maxHeartbeats 4000000 in
set_option maxRecDepth 100000 in
theorem indexTbl_any {lo : Option Addr} {lcap N : Nat} {L : List Tbl} {n : ByteArray} {w : World} (hL : TblRow lo L w) (hN : w.cell? ⟨N, 0, none⟩ = some (.string n)) (hl : N < w.heap.size) (hlen : L.length ≤ 1099511627776) :
  Calls Tryz.prog 45 #[.slice lo L.length lcap, .func (.func 46) #[] #[.pointer (some ⟨N, 0, none⟩)]] w fun e w' => (∃ i, e = .returned (.int .i64 i) ∧ IdxP L n i) ∧ Below w.heap.size w w' := by
 have HL := Lib.hid hL
 have HN := Lib.hid hN
 clear hL hN
 go_enter Tryz.func45, Tryz.ntmps45
 go_wp2_with fail
 go_loopw [8] (fun v wr => ∃ k : Nat, v = .int .i64 k ∧ k ≤ L.length ∧ Below w.heap.size w wr ∧ Hid ((L.take k).find? (fun t => eqS t.nm n) = none)) (fun v _ => L.length - (intOf v).toNat)
 case atStart => exact ⟨0, rfl, Nat.zero_le _, Below.refl _ _, Lib.hid rfl⟩
 case round =>
  obtain ⟨k, rfl, hk, hb, HT⟩ := hrel
  by_cases hlt : k < L.length
  ·
   have hx : L[k]? = some L[k] := List.getElem?_eq_getElem hlt
   have hsn : eqS L[k].nm n = false → (L.take (k + 1)).find? (fun t => eqS t.nm n) = none := fun h => by
    rw [List.take_succ_eq_append_getElem hlt, List.find?_append, HT.out]
    simp [h]
   have hyes : eqS L[k].nm n = true → IdxP L n k := fun h => .inr ⟨k, L[k], rfl, hx, find_at hx HT.out h⟩
   obtain ⟨b, o, rfl, co, cc, ro, rn, rc, c0, c1, c2, _⟩ := (HL.out.self hb).at hx
   have hfn := openfn_any (nm := L[k].nm) (c := .nilIface) (r := .nilIface) (co := co) (ro := ro) (cn := L[k].cols.length) (cc := cc) (rn := rn) (rc := rc) (keep_cellP hb HN.out) (Nat.lt_of_lt_of_le hl hb.size)
   have HF := Lib.hid hfn
   have HS := Lib.hid hsn
   have HY := Lib.hid hyes
   clear hx hsn hyes HT hfn
   cases he : eqS L[k].nm n with
   | true =>
    rw [he] at HF
    have HY2 := Lib.hid (HY.out he)
    clear he
    go_wp2_with (go_at_call 46; refine HF.out.mono ?_; rintro e w2 ⟨rfl, hb2⟩; refine Hid.out ?_)
    refine Lib.hid ?_
    go_wp2_with fail
    go_ret
    exact ⟨⟨_, rfl, HY2.out⟩, below_self hb hb2⟩
   | false =>
    rw [he] at HF
    have HS2 := Lib.hid (HS.out he)
    clear he
    go_wp2_with (go_at_call 46; refine HF.out.mono ?_; rintro e w2 ⟨rfl, hb2⟩; refine Hid.out ?_)
    refine Lib.hid ?_
    have HB2 := Lib.hid (below_self hb hb2)
    go_wp2_with fail
    exact ⟨⟨k + 1, by go_num, by omega, HB2.out, HS2⟩, by simp [intOf]; omega⟩
  ·
   have hd : L.take k = L := List.take_of_length_le (by omega)
   have HY : Hid (IdxP L n (-1)) := Lib.hid (.inl ⟨rfl, by have := HT.out; rwa [hd] at this⟩)
   clear HT hd
   go_wp2_with fail
   go_ret
   exact ⟨⟨_, rfl, HY.out⟩, hb⟩

def Clm.cells (c : Clm) : List Value := [.string c.nm, .int .u8 c.k]
def colCells (cs : List Clm) : List Value := cs.flatMap Clm.cells
theorem colCells_length (cs : List Clm) : (colCells cs).length = cs.length * 2 := by
 induction cs with
 | nil => rfl
 | cons c cs ih => rw [colCells, List.flatMap_cons, List.length_append]; rw [colCells] at ih; rw [ih]; simp [Clm.cells]; omega
theorem colCells_at : ∀ (cs : List Clm) (i : Nat) (c : Clm) (j : Nat), cs[i]? = some c → j < 2 → (colCells cs)[i * 2 + j]? = c.cells[j]?
 | [], i, c, j, h, _ => by simp at h
 | x :: cs, 0, c, j, h, hj => by
  simp at h
  subst h
  rw [colCells, List.flatMap_cons, List.getElem?_append_left (by simp [Clm.cells]; omega)]
  simp
 | x :: cs, i + 1, c, j, h, hj => by
  have := colCells_at cs i c j (by simpa using h) hj
  rw [colCells, List.flatMap_cons, List.getElem?_append_right (by simp [Clm.cells]; omega)]
  have e : (i + 1) * 2 + j - x.cells.length = i * 2 + j := by simp [Clm.cells]; omega
  rw [e]
  exact this
theorem own_clms {w : World} {B : Nat} {v : Value} {cs : List Clm} (h : w.ownsRow B 47 2 v cs.length (colCells cs)) : ∃ ao cap, v = .slice ao cs.length cap ∧ ColRow ao cs w := by
 obtain ⟨ao, cap, hv, _, h0⟩ := own_cells h
 refine ⟨ao, cap, hv, ?_⟩
 rcases h0 with h0 | ⟨g, h1, _, _, h2⟩
 ·
  exact .inl h0
 ·
  refine .inr ⟨g, 0, h1, fun i c hc => ?_⟩
  have := fun j (hj : j < 2) u (hu : c.cells[j]? = some u) => h2 _ u ((colCells_at cs i c j hc hj).trans hu)
  simp only [Nat.zero_add]
  exact ⟨this 0 (by omega) _ rfl, this 1 (by omega) _ rfl⟩
theorem lies_clms {ao : Option Addr} {cs : List Clm} {w : World} (h : ColRow ao cs w) : Lies 2 ao cs.length (colCells cs) w := by
 refine ⟨colCells_length cs, fun u hu => ?_, ?_⟩
 ·
  obtain ⟨t, _, ht⟩ := List.mem_flatMap.1 hu
  simp only [Clm.cells, List.mem_cons, List.not_mem_nil, or_false] at ht
  rcases ht with rfl | rfl <;> rfl
 rcases h with h | ⟨b, o, h1, h2⟩
 ·
  exact .inl h
 ·
  refine .inr ⟨b, o, h1, fun j u hj => ?_⟩
  have hjl : j < cs.length * 2 := by
   rw [← colCells_length]
   exact (List.getElem?_eq_some_iff.1 hj).1
  have hi : j / 2 < cs.length := by omega
  obtain ⟨c0, c1⟩ := h2 (j / 2) _ (List.getElem?_eq_getElem hi)
  have hm : j % 2 < 2 := Nat.mod_lt _ (by decide)
  have e := (colCells_at cs (j / 2) _ (j % 2) (List.getElem?_eq_getElem hi) hm).symm.trans ((congrArg (fun k => (colCells cs)[k]?) (show j / 2 * 2 + j % 2 = j by omega)).trans hj)
  generalize cs[j / 2] = t at *
  obtain h0 | h0 : j % 2 = 0 ∨ j % 2 = 1 := by omega
  ·
   rw [h0] at e; simp only [Clm.cells, List.getElem?_cons_zero, Option.some.injEq] at e; subst e
   rw [show o + j = o + j / 2 * 2 by omega]; exact c0
  ·
   rw [h0] at e; simp only [Clm.cells, List.getElem?_cons_zero, List.getElem?_cons_succ, Option.some.injEq] at e; subst e
   rw [show o + j = o + j / 2 * 2 + 1 by omega]; exact c1
/-- tables' cells -/
def tblCells : List Tbl → List (Value × Value) → List Value
 | t :: ts, v :: vs => .string t.nm :: v.1 :: v.2 :: tblCells ts vs
 | _, _ => []
theorem tblCells_at : ∀ (ts : List Tbl) (vs : List (Value × Value)) (i : Nat) (t : Tbl) (v : Value × Value), ts[i]? = some t → vs[i]? = some v → (tblCells ts vs)[i * 3]? = some (.string t.nm) ∧ (tblCells ts vs)[i * 3 + 1]? = some v.1 ∧ (tblCells ts vs)[i * 3 + 2]? = some v.2
 | [], _, i, _, _, h, _ => by simp at h
 | _ :: _, [], i, _, _, _, h => by simp at h
 | x :: ts, y :: vs, 0, t, v, h, k => by
  simp at h k
  subst h
  subst k
  exact ⟨rfl, rfl, rfl⟩
 | x :: ts, y :: vs, i + 1, t, v, h, k => by
  obtain ⟨a, b, c⟩ := tblCells_at ts vs i t v (by simpa using h) (by simpa using k)
  have e1 : (i + 1) * 3 = i * 3 + 3 := by omega
  have e2 : (i + 1) * 3 + 1 = i * 3 + 1 + 3 := by omega
  have e3 : (i + 1) * 3 + 2 = i * 3 + 2 + 3 := by omega
  rw [e3, e2, e1]
  exact ⟨a, b, c⟩
theorem tblCells_app : ∀ (ts : List Tbl) (vs : List (Value × Value)) (t : Tbl) (v : Value × Value), vs.length = ts.length → tblCells (ts ++ [t]) (vs ++ [v]) = tblCells ts vs ++ [.string t.nm, v.1, v.2]
 | [], [], _, _, _ => rfl
 | x :: ts, y :: vs, t, v, h => by
  simp only [List.cons_append, tblCells]
  rw [tblCells_app ts vs t v (by simpa using h)]
/-- how a table's columns and rows lie -/
def TblP (w0 : World) (t : Tbl) (v : Value × Value) : Prop := ∃ co cc ro rn rc, v = (.slice co t.cols.length cc, .slice ro rn rc) ∧ ColRow co t.cols w0 ∧ t.cols.length ≤ cc ∧ cc ≤ 9223372036854775807
/-- tables of the call's own, whose columns came in -/
def TblOwn (B : Nat) (w0 w : World) (ts : List Tbl) (tv : Value) : Prop :=
 ∃ vs, vs.length = ts.length ∧ w.ownsRow B 53 3 tv ts.length (tblCells ts vs) ∧ ∀ (i : Nat) t v, ts[i]? = some t → vs[i]? = some v → TblP w0 t v
theorem TblOwn.row {B : Nat} {w0 w : World} {ts : List Tbl} {tv : Value} (h : TblOwn B w0 w ts tv) (hb : Below w0.heap.size w0 w) : ∃ ao cap, tv = .slice ao ts.length cap ∧ TblRow ao ts w := by
 obtain ⟨vs, hl, ho, hp⟩ := h
 obtain ⟨ao, cap, hv, _, h0⟩ := own_cells ho
 refine ⟨ao, cap, hv, ?_⟩
 rcases h0 with h0 | ⟨g, h1, _, _, h2⟩
 ·
  exact .inl h0
 ·
  refine .inr ⟨g, 0, h1, fun i t ht => ?_⟩
  have hil := (List.getElem?_eq_some_iff.1 ht).1
  obtain ⟨v, hvi⟩ : ∃ v, vs[i]? = some v := ⟨_, List.getElem?_eq_getElem (by omega)⟩
  obtain ⟨a, b, c⟩ := tblCells_at ts vs i t v ht hvi
  obtain ⟨co, cc, ro, rn, rc, rfl, h3, h4, h5⟩ := hp i t v ht hvi
  simp only [Nat.zero_add]
  exact ⟨co, cc, ro, rn, rc, h2 _ _ a, h2 _ _ b, h2 _ _ c, h3.self hb, h4, h5⟩
theorem TblOwn.kept {B : Nat} {w0 w w' : World} {ts : List Tbl} {tv : Value} (h : TblOwn B w0 w ts tv) (hk : ∀ k, B ≤ k → k < w.heap.size → w'.heap[k]? = w.heap[k]?) : TblOwn B w0 w' ts tv := by
 obtain ⟨vs, hl, ho, hp⟩ := h
 exact ⟨vs, hl, own_keepA ho hk, hp⟩
/-- a query's tables and columns in memory -/
structure Scope2 (S : Nat) (ts : List Tbl) (cs : List Clm) (tv cv : Value) (w0 w : World) : Prop where
 blk : w.heap[S]? = some (.cells #[tv, cv] 69 (0, 0))
 tbl : TblOwn (S + 1) w0 w ts tv
 col : w.ownsRow (S + 1) 47 2 cv cs.length (colCells cs)
 bel : Below w0.heap.size w0 w
 hS : w0.heap.size ≤ S
 sep : ∀ k, tv.ownBlock = some k → cv.ownBlock = some k → False
theorem Scope2.lt {S : Nat} {ts : List Tbl} {cs : List Clm} {tv cv : Value} {w0 w : World} (h : Scope2 S ts cs tv cv w0 w) : S < w.heap.size := (Array.getElem?_eq_some_iff.1 h.blk).1
theorem Scope2.kept {S : Nat} {ts : List Tbl} {cs : List Clm} {tv cv : Value} {w0 w w' : World} (h : Scope2 S ts cs tv cv w0 w) (hb : Below w0.heap.size w0 w') (hk : ∀ k, S ≤ k → k < w.heap.size → w'.heap[k]? = w.heap[k]?) : Scope2 S ts cs tv cv w0 w' :=
 ⟨(hk S (Nat.le_refl _) h.lt).trans h.blk, h.tbl.kept fun k hk1 hk2 => hk k (by omega) hk2, own_keepA h.col fun k hk1 hk2 => hk k (by omega) hk2, hb, h.hS, h.sep⟩
theorem Scope2.next {S : Nat} {ts : List Tbl} {cs : List Clm} {tv cv : Value} {w0 w w' : World} (h : Scope2 S ts cs tv cv w0 w) (hb : Below w.heap.size w w') : Scope2 S ts cs tv cv w0 w' :=
 h.kept (below_self h.bel hb) fun k _ hk => hb.block k hk
/-- .. all of it -/
def Scope (S : Nat) (ts : List Tbl) (w0 w : World) : Prop := ∃ tv cv, Scope2 S ts (scopeR ts) tv cv w0 w
theorem Scope.next {S : Nat} {ts : List Tbl} {w0 w w' : World} (h : Scope S ts w0 w) (hb : Below w.heap.size w w') : Scope S ts w0 w' := by
 obtain ⟨tv, cv, h⟩ := h
 exact ⟨tv, cv, h.next hb⟩
theorem Scope.read {S : Nat} {ts : List Tbl} {w0 w : World} (h : Scope S ts w0 w) : ∃ ta tc co cc, w.cell? ⟨S, 0, none⟩ = some (.slice ta ts.length tc) ∧ w.cell? ⟨S, 1, none⟩ = some (.slice co (scopeR ts).length cc) ∧ TblRow ta ts w ∧ ColRow co (scopeR ts) w := by
 obtain ⟨tv, cv, h⟩ := h
 obtain ⟨ta, tc, rfl, ht⟩ := h.tbl.row h.bel
 obtain ⟨co, cc, rfl, hc⟩ := own_clms h.col
 exact ⟨ta, tc, co, cc, by rw [Lib.cell_of_heap h.blk]; rfl, by rw [Lib.cell_of_heap h.blk]; rfl, ht, hc⟩
theorem below_ownB {B : Nat} {w w1 w2 : World} {v : Value} (h : Below B w w1) (hg : w1.grownBy w2 v.ownBlock) (hv : ∀ k, v.ownBlock = some k → B ≤ k) (hB : B ≤ w1.heap.size) : Below B w w2 :=
 h.trans ⟨hg.os, hg.tape, hg.output, hg.size, fun k hk => hg.block k (by omega) (fun e => by have := hv k e.symm; omega)⟩
theorem own_apart {w w' : World} {B n : Nat} {e : TypeId} {size : Nat} {v u : Value} {xs : List Value} (h : w.ownsRow B e size v n xs) (hg : w.grownBy w' u.ownBlock) (hne : ∀ k, u.ownBlock = some k → v.ownBlock = some k → False) : w'.ownsRow B e size v n xs := by
 refine ⟨h.1, ?_⟩
 rcases h.2 with h0 | ⟨g, c, cur, hv, hb, hgc, r⟩
 ·
  exact .inl h0
 ·
  refine .inr ⟨g, c, cur, hv, hb, ?_, r⟩
  rw [hg.block g (Array.getElem?_eq_some_iff.1 hgc).1 (fun e => hne g e.symm (by rw [hv]; rfl))]
  exact hgc
theorem TblOwn.app {B : Nat} {w0 w' : World} {ts : List Tbl} {t : Tbl} {v' : Value} {vs : List (Value × Value)} {v : Value × Value} (hl : vs.length = ts.length) (hp : ∀ (i : Nat) t v, ts[i]? = some t → vs[i]? = some v → TblP w0 t v) (hv : TblP w0 t v)
  (ho : w'.ownsRow B 53 3 v' (ts.length + 1) (tblCells ts vs ++ [.string t.nm, v.1, v.2])) : TblOwn B w0 w' (ts ++ [t]) v' := by
 refine ⟨vs ++ [v], by simp [hl], ?_, fun i t' v' h1 h2 => ?_⟩
 ·
  rw [tblCells_app ts vs t v hl, List.length_append]
  exact ho
 ·
  by_cases hi : i < ts.length
  ·
   rw [List.getElem?_append_left hi] at h1
   rw [List.getElem?_append_left (by omega)] at h2
   exact hp i t' v' h1 h2
  ·
   have he : i = ts.length := by
    have := (List.getElem?_eq_some_iff.1 h1).1
    simp at this
    omega
   subst he
   rw [List.getElem?_append_right (Nat.le_refl _), Nat.sub_self] at h1
   rw [← hl, List.getElem?_append_right (Nat.le_refl _), Nat.sub_self] at h2
   simp at h1 h2
   subst h1 h2
   exact hv
theorem TblOwn.base {B : Nat} {w0 w : World} {ts : List Tbl} {tv : Value} (h : TblOwn B w0 w ts tv) : ∀ k, tv.ownBlock = some k → B ≤ k ∧ k < w.heap.size := by
 obtain ⟨vs, _, ho, _⟩ := h
 exact fun k hk => ⟨own_base ho k hk, own_lt ho k hk⟩
theorem Scope2.blkT {S : Nat} {ts : List Tbl} {cs : List Clm} {tv cv : Value} {w0 w1 w9 : World} (h : Scope2 S ts cs tv cv w0 w1) (hg : w1.grownBy w9 tv.ownBlock) : w9.heap[S]? = some (.cells #[tv, cv] 69 (0, 0)) :=
 (hg.block S h.lt (fun e => by have := (h.tbl.base S e.symm).1; omega)).trans h.blk
theorem Scope2.blkC {S : Nat} {ts : List Tbl} {cs : List Clm} {tv cv : Value} {w0 w1 w9 : World} (h : Scope2 S ts cs tv cv w0 w1) (hg : w1.grownBy w9 cv.ownBlock) : w9.heap[S]? = some (.cells #[tv, cv] 69 (0, 0)) :=
 (hg.block S h.lt (fun e => by have := own_base h.col S e.symm; omega)).trans h.blk
theorem Scope2.putT {S : Nat} {ts : List Tbl} {cs : List Clm} {t : Tbl} {tv cv v9 : Value} {w0 w1 w9 : World} {vs : List (Value × Value)} {v : Value × Value} (h : Scope2 S ts cs tv cv w0 w1) (hl : vs.length = ts.length) (hp : ∀ (i : Nat) t v, ts[i]? = some t → vs[i]? = some v → TblP w0 t v) (hv : TblP w0 t v)
  (ho : w9.ownsRow (S + 1) 53 3 v9 (ts.length + 1) (tblCells ts vs ++ [.string t.nm, v.1, v.2])) (hg : w1.grownBy w9 tv.ownBlock) (hat : v9.ownBlock = tv.ownBlock ∨ v9.ownBlock = some w1.heap.size) : Scope2 S (ts ++ [t]) cs v9 cv w0 (w9.setCell ⟨S, 0, none⟩ v9) := by
 have hb := h.tbl.base
 have hS := h.lt
 have hc := own_apart h.col hg h.sep
 have hbl := (hg.block S hS (fun e => by have := (hb S e.symm).1; omega)).trans h.blk
 refine ⟨by simp [World.setCell, Array.getElem?_modify, hbl], (TblOwn.app hl hp hv ho).kept fun k hk _ => Below.heap_setCell _ _ _ _ (by show k ≠ S; omega), own_keepA hc fun k hk _ => Below.heap_setCell _ _ _ _ (by show k ≠ S; omega), ?_, h.hS, fun k h1 h2 => ?_⟩
 ·
  exact (below_ownB h.bel hg (fun k hk => by have := (hb k hk).1; have := h.hS; omega) (by have := h.hS; omega)).setCell (p := ⟨S, 0, none⟩) h.hS _
 ·
  rcases hat with hat | hat
  ·
   exact h.sep k (hat ▸ h1) h2
  ·
   have := own_lt h.col k h2
   rw [hat] at h1
   injection h1 with h1
   omega
theorem Scope2.putC {S : Nat} {ts : List Tbl} {cs ds : List Clm} {tv cv v9 : Value} {w0 w1 w9 : World} (h : Scope2 S ts cs tv cv w0 w1)
  (ho : w9.ownsRow (S + 1) 47 2 v9 (cs.length + ds.length) (colCells cs ++ colCells ds)) (hg : w1.grownBy w9 cv.ownBlock) (hat : v9.ownBlock = cv.ownBlock ∨ v9.ownBlock = some w1.heap.size) : Scope2 S ts (cs ++ ds) tv v9 w0 (w9.setCell ⟨S, 1, none⟩ v9) := by
 have hb := fun k hk => own_base h.col k hk
 have hS := h.lt
 obtain ⟨vs, hl, hto, hp⟩ := h.tbl
 have ht := own_apart hto hg (fun k h1 h2 => h.sep k h2 h1)
 have hbl := (hg.block S hS (fun e => by have := hb S e.symm; omega)).trans h.blk
 refine ⟨by simp [World.setCell, Array.getElem?_modify, hbl], ⟨vs, hl, own_keepA ht fun k hk _ => Below.heap_setCell _ _ _ _ (by show k ≠ S; omega), hp⟩, ?_, ?_, h.hS, fun k h1 h2 => ?_⟩
 ·
  rw [List.length_append, colCells, List.flatMap_append]
  exact own_keepA ho fun k hk _ => Below.heap_setCell _ _ _ _ (by show k ≠ S; omega)
 ·
  exact (below_ownB h.bel hg (fun k hk => by have := hb k hk; have := h.hS; omega) (by have := h.hS; omega)).setCell (p := ⟨S, 1, none⟩) h.hS _
 ·
  rcases hat with hat | hat
  ·
   exact h.sep k h1 (hat ▸ h2)
  ·
   have := own_lt hto k h1
   rw [hat] at h2
   injection h2 with h2
   omega
end Go.Proofs.YtgjfbbmachoolaaGreatDoor.lx
