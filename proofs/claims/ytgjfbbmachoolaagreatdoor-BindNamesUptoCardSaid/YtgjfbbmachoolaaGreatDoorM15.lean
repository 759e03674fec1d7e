/-
  bind's Kind. Conditions: the package-level variables are laid; the steps and the columns lie there. bind's open: a query's tables and columns. Conditions: the tables and the names lie there; at most two names. bind's find: a column's place. Conditions: the package-level variables are laid; the tables and columns lie there. bind's (scope).bind: an expression whose names are resolved, and its kind. Conditions: the package-level variables are laid; the tables and columns and steps lie there. bind's checkItem. Conditions: the package-level variables are laid; the item, the columns and the group lie there.
-/
import Derived.Test.YtgjfbbmachoolaaGreatDoorM14
import Derived.Laws.ResultCell
import Derived.Test.YtgjfbbmachoolaaGreatDoorM13
import Derived.Deep.RegionLaw
import Derived.Test.YtgjfbbmachoolaaGreatDoorM12
import Derived.Lib.ItoaLen
namespace Go.Proofs.YtgjfbbmachoolaaGreatDoor.lx
open Go.RowKit
set_option linter.unusedVariables false
set_option linter.unusedSimpArgs false

theorem kindA_ok {L : List Stp} {C : List Clm} {k : Int} (h : kindOfR L C = .ok k) : kindA L C = (k, 0) := by unfold kindA; rw [h]
theorem kindA_no {L : List Stp} {C : List Clm} {y : Int} (h : kindOfR L C = .no y) : kindA L C = (0, y) := by unfold kindA; rw [h]
theorem gb_setB {w w' : World} {b : Nat} (h : Below w.heap.size w w') (j : Nat) (v : Value) : w.grownBy (w'.setCell ⟨b, j, none⟩ v) (some b) :=
  ⟨h.os, h.tape, h.output, by simpa [World.setCell] using h.size, fun k hk hne => (Below.heap_setCell _ _ _ _ (by show k ≠ b; intro e; exact hne (by rw [e]))).trans (h.block k hk)⟩
set_option maxHeartbeats 4000000 in
set_option maxRecDepth 100000 in
theorem kindfn_any {ao co : Option Addr} {cap ccap : Nat} {L : List Stp} {C : List Clm} {A A1 A2 : Nat} {w : World} (hG : PGlob w) (hL : StpRow ao L w) (hok : StpsOk L) (hC : ColRow co C w) (hck : ∀ c ∈ C, 0 ≤ c.k ∧ c.k ≤ 255) (hlen : L.length ≤ 1099511627776) (hcl : C.length ≤ 4398046511104)
    (h0 : w.heap[A]? = some (.cells #[.slice ao L.length cap] 23 (0, 0))) (h1 : w.heap[A1]? = some (.cells #[.slice co C.length ccap] 43 (0, 0))) (h2 : w.heap[A2]? = some (.cells #[.int .u8 0] 45 (0, 0))) :
    Calls Tryz.prog 38 #[.pointer (some ⟨A, 0, none⟩), .pointer (some ⟨A1, 0, none⟩), .pointer (some ⟨A2, 0, none⟩)] w fun e w' => EndsP (fun y w' => (kindA L C).2 = y ∧ w'.heap[A2]? = some (.cells #[.int .u8 (kindA L C).1] 45 (0, 0)) ∧ w.grownBy w' (some A2)) e w' := by
  have hk := kindOf_any (cap := cap) (ccap := ccap) hG hL hok hC hck hlen hcl
  have c0 : w.cell? ⟨A, 0, none⟩ = some (.slice ao L.length cap) := by rw [Lib.cell_of_heap h0]; rfl
  have c1 : w.cell? ⟨A1, 0, none⟩ = some (.slice co C.length ccap) := by rw [Lib.cell_of_heap h1]; rfl
  have hlt := (Array.getElem?_eq_some_iff.1 h2).1
  cases hr : kindOfR L C with
  | no y =>
    rw [kindA_no hr]
    have HK := Lib.hid (calls_bad hr hk)
    clear hG hL hok hC hck hk h0 h1
    go_enter Tryz.func38, Tryz.ntmps38
    go_wp2_with (go_at_call 37; refine HK.out.mono ?_; rintro e w2 ⟨rfl, hb2⟩; exact ⟨rfl, .inr ⟨y, rfl, rfl, (hb2.block _ hlt).trans h2, below_gb hb2⟩⟩)
  | ok k =>
    rw [kindA_ok hr]
    have HK := Lib.hid (calls_ok hr hk)
    clear hG hL hok hC hck hk h0 h1
    go_enter Tryz.func38, Tryz.ntmps38
    go_wp2_with (go_at_call 37; refine HK.out.mono ?_; rintro e w2 ⟨rfl, hb2⟩; refine Hid.out ?_)
    refine Lib.hid ?_
    have hn2 := (hb2.block _ hlt).trans h2
    have k2 : w2.cell? ⟨A2, 0, none⟩ = some (.int .u8 0) := by rw [Lib.cell_of_heap hn2]; rfl
    have f2 := Lib.frozen_of_heap hn2 0
    have HB := Lib.hid hb2
    have hbx : Boxed w2 A2 45 (.int .u8 0) := hn2
    have HX := Lib.hid hbx
    clear hb2 hn2 hbx h2
    go_wp2_with fail
    exact bodyPost_end (results_none rfl _ _ _) rfl (.inl ⟨rfl, rfl, HX.out.set _, gb_setB HB.out 0 _⟩)
theorem results_kind {fn : Func} {p u : Tmp} (hf : fn.results = #[.cell p 45, .tmp u]) {tmps : Array Value} {A : Nat} {k : Int} {x : Value} {w : World} (hc : w.heap[A]? = some (.cells #[.int .u8 k] 45 (0, 0))) (hq : tmps.getD p undef = .pointer (some ⟨A, 0, none⟩)) (hu : tmps.getD u undef = x) :
    (results fn tmps).run Tryz.prog w = .ok (.tuple #[.int .u8 k, x]) w := by
  have hc : w.cell? ⟨A, 0, none⟩ = some (.int .u8 k) := by rw [Lib.cell_of_heap hc]; rfl
  rw [results_cell_tmp hf, hq, hu]
  simp [go_sem, hc]
set_option maxHeartbeats 4000000 in
set_option maxRecDepth 100000 in
theorem Kind_any {ao co : Option Addr} {cap ccap : Nat} {L : List Stp} {C : List Clm} {w : World} (hG : PGlob w) (hL : StpRow ao L w) (hok : StpsOk L) (hC : ColRow co C w) (hck : ∀ c ∈ C, 0 ≤ c.k ∧ c.k ≤ 255) (hlen : L.length ≤ 1099511627776) (hcl : C.length ≤ 4398046511104) :
    Calls Tryz.prog 16 #[.slice ao L.length cap, .slice co C.length ccap] w fun e w' => e = .returned (.tuple #[.int .u8 (kindA L C).1, .int .i64 (kindA L C).2]) ∧ Below w.heap.size w w' := by
  have hmf : ∀ (fn : Fn) (first cap : Array Value) (w : World), (Instr.makeFunc fn first cap).run Tryz.prog w = .ok (.func fn first cap) w := fun _ _ _ _ => rfl
  have e1 : (w.alloc (.cells #[.slice ao L.length cap] 23)).heap.size = w.heap.size + 1 := alloc_sz _ _
  have e2 : ((w.alloc (.cells #[.slice ao L.length cap] 23)).alloc (.cells #[.slice co C.length ccap] 43)).heap.size = w.heap.size + 2 := by rw [alloc_sz, e1]
  have e3 : (((w.alloc (.cells #[.slice ao L.length cap] 23)).alloc (.cells #[.slice co C.length ccap] 43)).alloc (.cells #[.int .u8 0] 45)).heap.size = w.heap.size + 3 := by rw [alloc_sz, e2]
  have hb0 : Below w.heap.size w (((w.alloc (.cells #[.slice ao L.length cap] 23)).alloc (.cells #[.slice co C.length ccap] 43)).alloc (.cells #[.int .u8 0] 45)) := (((Below.refl _ w).alloc (Nat.le_refl _) _).alloc (by simp) _).alloc (by simp; omega) _
  have h0 : (((w.alloc (.cells #[.slice ao L.length cap] 23)).alloc (.cells #[.slice co C.length ccap] 43)).alloc (.cells #[.int .u8 0] 45)).heap[w.heap.size]? = some (.cells #[.slice ao L.length cap] 23 (0, 0)) := by
    rw [heap_alloc_old _ _ (by rw [e2]; omega), heap_alloc_old _ _ (by rw [e1]; omega)]
    exact heap_alloc_new _ _
  have h1 : (((w.alloc (.cells #[.slice ao L.length cap] 23)).alloc (.cells #[.slice co C.length ccap] 43)).alloc (.cells #[.int .u8 0] 45)).heap[w.heap.size + 1]? = some (.cells #[.slice co C.length ccap] 43 (0, 0)) := by
    rw [heap_alloc_old _ _ (by rw [e2]; omega), ← e1]
    exact heap_alloc_new _ _
  have h2 : (((w.alloc (.cells #[.slice ao L.length cap] 23)).alloc (.cells #[.slice co C.length ccap] 43)).alloc (.cells #[.int .u8 0] 45)).heap[w.heap.size + 2]? = some (.cells #[.int .u8 0] 45 (0, 0)) := by
    rw [← e2]
    exact heap_alloc_new _ _
  obtain ⟨W0, hW0⟩ : ∃ W0, (((w.alloc (.cells #[.slice ao L.length cap] 23)).alloc (.cells #[.slice co C.length ccap] 43)).alloc (.cells #[.int .u8 0] 45)) = W0 := ⟨_, rfl⟩
  rw [hW0] at hb0 h0 h1 h2 e3
  have hbA := (Below.refl W0.heap.size W0).alloc (Nat.le_refl _) (.cells #[.int .i64 0] 33)
  have hlt : w.heap.size + 2 < W0.heap.size := by omega
  have hfn := kindfn_any (cap := cap) (ccap := ccap) (A := w.heap.size) (A1 := w.heap.size + 1) (A2 := w.heap.size + 2) ((hG.self hb0).self hbA) ((hL.self hb0).self hbA) hok ((hC.self hb0).self hbA) hck hlen hcl ((hbA.block _ (by omega)).trans h0) ((hbA.block _ (by omega)).trans h1) ((hbA.block _ hlt).trans h2)
  have HCA := Lib.hid (caught_any (w := W0) (enters_of Tryz.func38 (by kernel_rfl) rfl) (hfn.mono fun e w' he => ⟨he, by
    have hg : ((W0.alloc (.cells #[.int .i64 0] 33)).grownBy w' (some (w.heap.size + 2))) := by
      rcases he with ⟨_, _, _, hg⟩ | ⟨_, _, _, _, hg⟩ <;> exact hg
    exact (hg.block _ (by rw [alloc_sz]; omega) (by intro e; injection e; omega)).trans (heap_alloc_new _ _)⟩))
  have HB0 := Lib.hid hb0
  have HE3 := Lib.hid e3
  clear hG hL hok hC hck hb0 hfn h0 h1 h2 e1 e2 e3 hbA
  generalize (kindA L C).1 = kk at *
  generalize (kindA L C).2 = yy at *
  go_enter Tryz.func16, Tryz.ntmps16
  go_upto_region 1 with fail
  try rw [hW0]
  clear hW0
  go_wp2_with (go_at_call 19; refine HCA.out.mono ?_; rintro e w2 ⟨y, w1, rfl, ⟨rfl, hk, hg⟩, he, rfl⟩; refine Hid.out ?_)
  refine Lib.hid ?_
  have e3 := HE3.out
  have hb1 : Below w.heap.size w w1 := below_gbB (below_self HB0.out ((Below.refl W0.heap.size W0).alloc (Nat.le_refl _) (.cells #[.int .i64 0] 33))) hg (by omega) (by rw [alloc_sz]; omega)
  have hn := (Below.heap_setCell w1 ⟨W0.heap.size, 0, none⟩ (.int .i64 yy) (w.heap.size + 2) (by show w.heap.size + 2 ≠ W0.heap.size; omega)).trans hk
  have HB1 := Lib.hid (hb1.setCell (p := ⟨W0.heap.size, 0, none⟩) (by show w.heap.size ≤ W0.heap.size; omega) (.int .i64 yy))
  clear hb1 hg he hk HCA e3
  generalize w1.setCell ⟨W0.heap.size, 0, none⟩ (.int .i64 yy) = w3 at *
  have k2 : w3.cell? ⟨w.heap.size + 1 + 1, 0, none⟩ = some (.int .u8 kk) := by rw [Lib.cell_of_heap hn]; rfl
  have f2 : w3.frozen? ⟨w.heap.size + 1 + 1, 0, none⟩ = false := Lib.frozen_of_heap hn 0
  have k3 : w3.cell? ⟨w.heap.size + 2, 0, none⟩ = some (.int .u8 kk) := k2
  have f3 : w3.frozen? ⟨w.heap.size + 2, 0, none⟩ = false := f2
  have hbx : Boxed w3 (w.heap.size + 2) 45 (.int .u8 kk) := hn
  have HX := Lib.hid hbx
  clear hn hbx
  go_wp2_with fail
  refine bodyPost_ret (v := .tuple #[.int .u8 kk, .int .i64 yy]) (by exact results_kind rfl (HX.out.set (.int .u8 kk)) rfl rfl) rfl ⟨rfl, HB1.out.setCell (p := ⟨w.heap.size + 2, 0, none⟩) (by show w.heap.size ≤ w.heap.size + 2; omega) _⟩
end Go.Proofs.YtgjfbbmachoolaaGreatDoor.lx
namespace Go.Proofs.YtgjfbbmachoolaaGreatDoor.lx
open Go.RowKit
set_option linter.unusedVariables false
set_option linter.unusedSimpArgs false

theorem infoTbl : (Tryz.prog.info? 53).map (fun i => (i.zero, i.size, i.bytes)) = some (some (.agg #[.string ⟨#[]⟩, .slice none 0 0, .slice none 0 0]), 3, 64) := by kernel_rfl
theorem infoCol : (Tryz.prog.info? 47).map (fun i => (i.zero, i.size, i.bytes)) = some (some (.agg #[.string ⟨#[]⟩, .int .u8 0]), 2, 24) := by kernel_rfl
theorem lies_three {w : World} {a b c : Value} {t : TypeId} (ha : a.oneCell' = true) (hb : b.oneCell' = true) (hc : c.oneCell' = true) : Lies 3 (some ⟨w.heap.size, 0, none⟩) 1 [a, b, c] (w.alloc (.cells #[a, b, c] t)) := by
  refine ⟨rfl, fun u hu => by simp at hu; rcases hu with rfl | rfl | rfl <;> assumption, .inr ⟨_, _, rfl, fun j u hj => ?_⟩⟩
  rw [Lib.cell_of_heap (heap_alloc_new w (.cells #[a, b, c] t)), Nat.zero_add]
  match j, hj with
  | 0, hj => exact hj
  | 1, hj => exact hj
  | 2, hj => exact hj
  | (j + 3), hj => simp at hj
/-- what open answers -/
def OpenP (r : Ex (List Tbl)) (w00 w : World) (e : Ending) (w' : World) : Prop :=
  Below w.heap.size w w' ∧ match r with
  | .ok ts => ∃ S, e = .returned (.pointer (some ⟨S, 0, none⟩)) ∧ Scope S ts w00 w' ∧ w.heap.size ≤ S
  | .no y => e = .panicked [flE y]
theorem OpenP.bad {r : Ex (List Tbl)} {w00 w w' : World} {y : Int} (h : Ex.no y = r) (hb : Below w.heap.size w w') : OpenP r w00 w (.panicked [flE y]) w' := by subst h; exact ⟨hb, rfl⟩
theorem OpenP.good {r : Ex (List Tbl)} {w00 w w' : World} {S : Nat} {ts : List Tbl} (h : Ex.ok ts = r) (hb : Below w.heap.size w w') (hs : Scope S ts w00 w' ∧ w.heap.size ≤ S) : OpenP r w00 w (.returned (.pointer (some ⟨S, 0, none⟩))) w' := by subst h; exact ⟨hb, S, rfl, hs⟩

theorem scopeR_snoc (ts : List Tbl) (t : Tbl) : scopeR (ts ++ [t]) = scopeR ts ++ t.cols := by simp [scopeR]
set_option maxHeartbeats 8000000 in
set_option maxRecDepth 100000 in
theorem open_any {lo no : Option Addr} {lcap ncap : Nat} {L : List Tbl} {NS : List ByteArray} {w00 w : World} (h00 : Below w00.heap.size w00 w) (hL : TblRow lo L w00) (hok : TblsOk L) (hN : TxtRow no NS w) (hnl : NS.length ≤ 2) (hll : L.length ≤ 1099511627776) :
    Calls Tryz.prog 23 #[.slice lo L.length lcap, .slice no NS.length ncap] w fun e w' => OpenP (openR L NS []) w00 w e w' := by
  obtain ⟨R, hR⟩ : ∃ R, openR L NS [] = R := ⟨_, rfl⟩
  rw [hR]
  have hmf : ∀ (fn : Fn) (first cap : Array Value) (w : World), (Instr.makeFunc fn first cap).run Tryz.prog w = .ok (.func fn first cap) w := fun _ _ _ _ => rfl
  have H00 := Lib.hid h00
  have HL := Lib.hid hL
  have HK := Lib.hid hok
  have HN := Lib.hid hN
  have HR := Lib.hid hR
  have HYM := Lib.hid fun w3 y (is : Bool) (hi : is = true) => bmust_yes (w := w3) (why := y) hi
  have HNM := Lib.hid fun w3 y (is : Bool) (hi : is = false) => bmust_no (w := w3) (why := y) hi
  clear h00 hL hok hN hR
  go_enter Tryz.func23, Tryz.ntmps23
  go_wp2_with fail
  go_loopw [13] (fun v wr => ∃ (k : Nat) (ts : List Tbl), v = .int .i64 k ∧ k ≤ NS.length ∧ ts.length ≤ k ∧ (scopeR ts).length ≤ k * 1099511627776 ∧ Below w.heap.size w wr ∧ Hid (Scope w.heap.size ts w00 wr) ∧ Hid (openR L (NS.drop k) ts = R)) (fun v _ => NS.length - (intOf v).toNat)
  case atStart =>
    refine ⟨0, [], rfl, Nat.zero_le _, Nat.le_refl _, Nat.le_refl _, (Below.refl _ _).alloc (Nat.le_refl _) _, Lib.hid ⟨_, _, heap_alloc_new _ _, ⟨[], rfl, World.ownsRow_nil _ _ _ _, fun i t v h => by simp at h⟩, World.ownsRow_nil _ _ _ _, below_self H00.out ((Below.refl _ _).alloc (Nat.le_refl _) _), H00.out.size, fun k h => by cases h⟩, Lib.hid HR.out⟩
  case round =>
    obtain ⟨k, ts, rfl, hk, htk, hcs, hbw, HS, HT⟩ := hrel
    by_cases hlt : k < NS.length
    · have hx : NS[k]? = some NS[k] := List.getElem?_eq_getElem hlt
      have hT := HT.out
      rw [List.drop_eq_getElem_cons hlt, openR] at hT
      obtain ⟨tv, cv, hS2⟩ := HS.out
      obtain ⟨nb, nf, rfl, d0⟩ := (show ∃ b o, no = some ⟨b, o, none⟩ ∧ wr.cell? ⟨b, o + k, none⟩ = some (.string NS[k]) from by
        rcases HN.out.self hbw with h | ⟨b, o, h1, h2⟩
        · omega
        · exact ⟨b, o, h1, h2 k _ hx⟩)
      generalize NS[k] = n at *
      clear hx HT HS
      go_upto_region 5 with fail
      have hbA := (Below.refl wr.heap.size wr).alloc (Nat.le_refl _) (.cells #[.string n] 9)
      have hn := heap_alloc_new wr (.cells #[.string n] 9)
      have hSA := hS2.next hbA
      have HBW := Lib.hid (below_self hbw hbA)
      have hlw : wr.heap.size < (wr.alloc (.cells #[.string n] 9)).heap.size := by rw [alloc_sz]; omega
      generalize wr.alloc (.cells #[.string n] 9) = W at *
      have e0 : W.cell? ⟨wr.heap.size, 0, none⟩ = some (.string n) := by rw [Lib.cell_of_heap hn]; rfl
      have HIX := Lib.hid (indexTbl_any (lcap := lcap) (HL.out.self hSA.bel) e0 hlw hll)
      have HSA := Lib.hid hSA
      clear hS2 hbA hn hSA d0 hbw
      go_wp2_with (go_at_call 45; refine HIX.out.mono ?_; rintro e w2 ⟨⟨i, rfl, hi⟩, hb2⟩; refine Hid.out ?_)
      refine Lib.hid ?_
      rcases hi with ⟨rfl, hf⟩ | ⟨j, t, rfl, hj, hf⟩
      · rw [hf] at hT
        have HRR : Hid (Ex.no 14 = R) := Lib.hid hT
        have HF := Lib.hid (below_self HBW.out hb2)
        clear hT hf hb2
        go_wp2_with (go_at_call 26; refine (HNM.out _ _ _ (by first | (simp; done) | (simp; omega))).mono ?_; rintro e w3 ⟨rfl, rfl⟩; exact ⟨rfl, OpenP.bad HRR.out HF.out⟩)
      · rw [hf] at hT
        have HT2 : Hid (openR L (NS.drop (k + 1)) (ts ++ [t]) = R) := Lib.hid hT
        have hS3 := HSA.out.next hb2
        have HB3 := Lib.hid (below_self HBW.out hb2)
        obtain ⟨b, o, rfl, co, cc, ro, rn, rc, c0, c1, c2, hc, h3, h4⟩ := HL.out.at hj
        have hcl := (HK.out t (List.mem_of_getElem? hj)).2.2
        have HTP : Hid (TblP w00 t (.slice co t.cols.length cc, .slice ro rn rc)) := Lib.hid ⟨co, cc, ro, rn, rc, rfl, hc, h3, h4⟩
        have c1H := Lib.hid c1
        have HCO := Lib.hid fun (wx : World) (hb : Below w00.heap.size w00 wx) => hc.self hb
        have k0 := keep_cellP hS3.bel c0
        have k1 := keep_cellP hS3.bel c1
        have k2 := keep_cellP hS3.bel c2
        have hjI : (j : Int) < L.length := by have := (List.getElem?_eq_some_iff.1 hj).1; omega
        obtain ⟨vs, hvl, hvo, hvp⟩ := hS3.tbl
        obtain ⟨iu, cu, rfl⟩ := own_shape hvo
        have HVP := Lib.hid hvp
        have HVL := Lib.hid hvl
        have s0 : w2.cell? ⟨w.heap.size, 0, none⟩ = some (.slice iu ts.length cu) := by rw [Lib.cell_of_heap hS3.blk]; rfl
        have f0 := Lib.frozen_of_heap hS3.blk 0
        have HVO := Lib.hid fun (wx : World) (hb : Below w2.heap.size w2 wx) => own_keepA hvo fun i _ hi => hb.block i hi
        have HS3 := Lib.hid hS3
        have hws := HB3.out.size
        clear hT hf hb2 hj hc h3 h4 c0 c1 c2 hvo hvp hvl hS3 HSA
        go_wp2_with (go_at_call 26; refine (HYM.out _ _ _ (by first | (simp; done) | (simp; omega))).mono ?_; rintro e w3 ⟨rfl, rfl⟩; refine Hid.out ?_)
        refine Lib.hid ?_
        go_upto_region 7 with fail
        have hne1 := World.new_ne w2 _ s0
        have hne2 := World.new_ne w2 _ k0
        have hne3 : w.heap.size < w2.heap.size := HS3.out.lt
        simp only at hne1 hne2
        obtain ⟨i0, hi0, hz0, hz1, hz2⟩ := info_parts infoTbl
        have HI := Lib.hid (And.intro hi0 (And.intro hz0 (And.intro hz1 hz2)))
        clear hi0 hz0 hz1 hz2
        go_region_law (first
          | (refine step_append_lying rfl (.tmp 27) (.tmp 32) 27 rfl (w.heap.size + 1) 53 i0 _ 3 64 Tryz.underlying27 HI.out.1 HI.out.2.1 HI.out.2.2.1 HI.out.2.2.2 rfl (by decide) (.slice iu ts.length cu) ts.length (tblCells ts vs) (by simp [Act.eval]) (HVO.out _ ((Below.refl _ _).drew.alloc (Nat.le_refl _) _)) (some ⟨w2.heap.size, 0, none⟩) 1 1 [.string t.nm, .slice co t.cols.length cc, .slice ro rn rc] (by simp [Act.eval]) (lies_three rfl rfl rfl) (by unfold maxLen; omega) (by omega) (by simp; omega) ?_; intro v9 w9 hown9 hg9 hat9;
                have hsc := HS3.out.next ((Below.refl _ _).drew.alloc (Nat.le_refl _) (.cells #[.string t.nm, .slice co t.cols.length cc, .slice ro rn rc] 53));
                obtain ⟨so9, cap9, rfl⟩ := own_shape hown9;
                have HS9 := Lib.hid (hsc.putT HVL.out HVP.out HTP.out hown9 hg9 hat9);
                have HW9 := Lib.hid ((below_ownB (below_self HB3.out ((Below.refl _ _).drew.alloc (Nat.le_refl _) (.cells #[.string t.nm, .slice co t.cols.length cc, .slice ro rn rc] 53))) hg9 (fun k hk => by have := (hsc.tbl.base k hk).1; omega) (by simp; omega)).setCell (p := ⟨w.heap.size, 0, none⟩) (Nat.le_refl _) (.slice so9 (ts.length + 1) cap9));
                have q9 := hsc.blkT hg9;
                have q0 : w9.cell? ⟨w.heap.size, 0, none⟩ = some (.slice iu ts.length cu) := (by rw [Lib.cell_of_heap q9]; rfl);
                have q1 := Lib.frozen_of_heap q9 0;
                clear hown9 hg9 hat9 hsc q9))
        all_goals (
          clear q0 q1
          have HB9 := Lib.hid (HS9.out.bel)
          have k1 := keep_cellP HB9.out c1H.out
          generalize w9.setCell ⟨w.heap.size, 0, none⟩ (.slice so9 (ts.length + 1) cap9) = w4 at *
          obtain ⟨iv, cx, hiv⟩ := own_shape HS9.out.col
          subst hiv
          have s1 : w4.cell? ⟨w.heap.size, 1, none⟩ = some (.slice iv (scopeR ts).length cx) := by rw [Lib.cell_of_heap HS9.out.blk]; rfl
          have hsz4 := HS9.out.bel.size
          have hsz5 := HS9.out.lt
          obtain ⟨j0, hi0, hz0, hz1, hz2⟩ := info_parts infoCol
          have HJ := Lib.hid (And.intro hi0 (And.intro hz0 (And.intro hz1 hz2)))
          clear hi0 hz0 hz1 hz2
          go_upto_region 8 with fail
          go_region_law (first
            | (refine step_append_lying rfl (.tmp 40) (.tmp 45) 43 rfl (w.heap.size + 1) 47 j0 _ 2 24 Tryz.underlying43 HJ.out.1 HJ.out.2.1 HJ.out.2.2.1 HJ.out.2.2.2 rfl (by decide) (.slice iv (scopeR ts).length cx) (scopeR ts).length (colCells (scopeR ts)) (by simp [Act.eval]) (HS9.out.next (Below.refl _ _).drew).col co t.cols.length cc (colCells t.cols) (by simp [Act.eval]) (lies_clms (HCO.out _ (bdn HB9.out 1))) (by unfold maxLen; omega) (by omega) (by simp; omega) ?_; intro v7 w7 hown7 hg7 hat7;
                  have hsc := HS9.out.next (Below.refl _ _).drew;
                  obtain ⟨so7, cap7, rfl⟩ := own_shape hown7;
                  have HS7 := Lib.hid (hsc.putC hown7 hg7 hat7);
                  have HW7 := Lib.hid ((below_ownB (below_self HW9.out (Below.refl _ _).drew) hg7 (fun k hk => by have := own_base hsc.col k hk; omega) (by simp; omega)).setCell (p := ⟨w.heap.size, 1, none⟩) (Nat.le_refl _) (.slice so7 ((scopeR ts).length + t.cols.length) cap7));
                  have q9 := hsc.blkC hg7;
                  have q0 : w7.cell? ⟨w.heap.size, 1, none⟩ = some (.slice iv (scopeR ts).length cx) := (by rw [Lib.cell_of_heap q9]; rfl);
                  have q1 := Lib.frozen_of_heap q9 1;
                  clear hown7 hg7 hat7 hsc q9))
          all_goals (
            clear q0 q1
            have HSA : Hid (Scope w.heap.size (ts ++ [t]) w00 (w7.setCell ⟨w.heap.size, 1, none⟩ (.slice so7 ((scopeR ts).length + t.cols.length) cap7))) := Lib.hid ⟨_, _, by rw [scopeR_snoc]; exact HS7.out⟩
            have hl7 : (scopeR (ts ++ [t])).length ≤ (k + 1) * 1099511627776 := by rw [scopeR_snoc, List.length_append]; omega
            generalize w7.setCell ⟨w.heap.size, 1, none⟩ (.slice so7 ((scopeR ts).length + t.cols.length) cap7) = w8 at *
            go_wp2_with fail
            go_roundw
            case rel => exact ⟨k + 1, ts ++ [t], by go_num, by omega, by rw [List.length_append]; simp; omega, hl7, HW7.out, HSA, HT2⟩
            case measure => simp [intOf]; omega))
    · obtain rfl : k = NS.length := by omega
      have hT := HT.out
      rw [List.drop_length, openR] at hT
      have HRR := Lib.hid hT
      obtain ⟨tv, cv, hS2⟩ := HS.out
      have HB := Lib.hid hbw
      clear hT HT hS2 hbw
      go_wp2_with fail
      go_ret
      exact OpenP.good HRR.out HB.out ⟨HS.out, Nat.le_refl _⟩
end Go.Proofs.YtgjfbbmachoolaaGreatDoor.lx
namespace Go.Proofs.YtgjfbbmachoolaaGreatDoor.lx
open Go.RowKit
set_option linter.unusedVariables false
set_option linter.unusedSimpArgs false

theorem infoInt : (Tryz.prog.info? 3).map (fun i => (i.zero, i.size, i.bytes)) = some (some (.int .i64 0), 1, 8) := by kernel_rfl
def iCells (l : List Int) : List Value := l.map (Value.int .i64)
theorem bytes_list (l : List UInt8) : (⟨l.toArray⟩ : ByteArray).toList = l := by rw [Lib.toList_data]
theorem intP64_no {y : Int} {R : Ex Int} (h : Ex.no y = R) : IntP .i64 R (.panicked [flE y]) := by subst h; rfl
theorem intP64_ok {y : Int} {R : Ex Int} (h : Ex.ok y = R) : IntP .i64 R (.returned (.int .i64 y)) := by subst h; rfl
theorem placesR_step (c : List UInt8 × List UInt8 × Bool) (t : Tbl) (l : List Tbl) (n : Nat) : placesR c (t :: l) n = placesT c t.nm t.cols n ++ placesR c l (n + t.cols.length) := rfl
theorem lies_one {w : World} {a : Value} {t : TypeId} (ha : a.oneCell' = true) : Lies 1 (some ⟨w.heap.size, 0, none⟩) 1 [a] (w.alloc (.cells #[a] t)) := by
  refine ⟨rfl, fun u hu => by simp at hu; rcases hu with rfl; assumption, .inr ⟨_, _, rfl, fun j u hj => ?_⟩⟩
  rw [Lib.cell_of_heap (heap_alloc_new w (.cells #[a] t)), Nat.zero_add]
  match j, hj with
  | 0, hj => exact hj
  | (j + 1), hj => simp at hj
/-- what find answers of the places -/
def oneR (l : List Int) : Ex Int := match l with | [n] => .ok n | _ => .no 14
theorem findR_eq (ts : List Tbl) (s : ByteArray) : findR ts s = oneR (placesR (Lib.cut s.data.toList [46]) ts 0) := rfl
theorem oneR_no {l : List Int} (h : l.length ≠ 1) : oneR l = .no 14 := by
  unfold oneR
  split
  · exact absurd rfl h
  · rfl

set_option maxHeartbeats 8000000 in
set_option maxRecDepth 100000 in
theorem find_any {S : Nat} {ts : List Tbl} {s : ByteArray} {w0 w : World} (hS : Scope S ts w0 w) (hG : PGlob w) (hs : s.size < 4294967281) (hlen : (scopeR ts).length ≤ 4398046511104) (htl : ts.length ≤ 1099511627776) :
    Calls Tryz.prog 25 #[.pointer (some ⟨S, 0, none⟩), .string s] w fun e w' => IntP .i64 (findR ts s) e ∧ Below w.heap.size w w' := by
  obtain ⟨R, hR⟩ : ∃ R, findR ts s = R := ⟨_, rfl⟩
  rw [hR]
  rw [findR_eq] at hR
  obtain ⟨m, hm⟩ := hG.mxl
  have hcu := Tryz.strings_Cut s ⟨#[46]⟩ m w hs hm
  rw [show (⟨#[46]⟩ : ByteArray).data.toList = [46] from rfl] at hcu
  generalize Lib.cut s.data.toList [46] = c at *
  have hcx : c = (c.1, c.2.1, c.2.2) := rfl
  obtain ⟨c1, hc1⟩ : ∃ x, c.1 = x := ⟨_, rfl⟩
  obtain ⟨c2, hc2⟩ : ∃ x, c.2.1 = x := ⟨_, rfl⟩
  obtain ⟨tw, hc3⟩ : ∃ x, c.2.2 = x := ⟨_, rfl⟩
  rw [hc1, hc2, hc3] at hcu
  have HCU := Lib.hid hcu
  have HR := Lib.hid hR
  have HS := Lib.hid hS
  have HYM := Lib.hid fun w3 y (is : Bool) (hi : is = true) => bmust_yes (w := w3) (why := y) hi
  have HNM := Lib.hid fun w3 y (is : Bool) (hi : is = false) => bmust_no (w := w3) (why := y) hi
  obtain ⟨T, hT⟩ : ∃ T : ByteArray, (⟨c1.toArray⟩ : ByteArray) = T := ⟨_, rfl⟩
  obtain ⟨T2, hT2⟩ : ∃ T : ByteArray, (⟨c2.toArray⟩ : ByteArray) = T := ⟨_, rfl⟩
  obtain ⟨N, hN⟩ : ∃ N : ByteArray, N = if tw = true then T2 else T := ⟨_, rfl⟩
  have hme : ∀ tn cn : ByteArray, meantR c tn cn = ((cn.toList == N.toList) && (!tw || tn.toList == T.toList)) := by
    intro tn cn
    unfold meantR
    rw [hN, ← hT, ← hT2, hc1, hc2, hc3]
    cases tw <;> simp [bytes_list]
  have HM := Lib.hid hme
  rw [hT, hT2] at HCU
  clear hcu hR hS hm hG hme hT hT2 hcx hc1 hc2 hc3
  go_enter Tryz.func25, Tryz.ntmps25
  go_wp2_with (go_at_call 47; refine HCU.out.mono ?_; rintro e w2 ⟨rfl, nd, rfl⟩; refine Hid.out ?_)
  refine Lib.hid ?_
  have HS2 := Lib.hid (HS.out.next (bdn (Below.refl _ _) nd))
  have HB2 : Hid (Below w.heap.size w (w.drewN nd)) := Lib.hid (bdn (Below.refl _ _) nd)
  generalize w.drewN nd = W0 at *
  clear HS HCU
  cases tw
  all_goals (
    first | rw [if_pos rfl] at hN | rw [if_neg (by decide)] at hN
    obtain ⟨ta, tc, co, cc, s0, s1, ht, hc⟩ := HS2.out.read
    have HTR := Lib.hid ht
    clear ht hc s1 co cc
    go_upto_region 4 with fail
    rw [← hN]
    clear hN
    go_wp2_with fail
    go_loopw [8, 9, 28] (fun fv av v wr => ∃ (k a : Nat) (fs : List Int), v = .int .i64 k ∧ av = .int .i64 a ∧ k ≤ ts.length ∧ fs.length ≤ a ∧ a + (scopeR (ts.drop k)).length = (scopeR ts).length ∧ Below W0.heap.size W0 wr ∧ wr.ownsRow W0.heap.size 3 1 fv fs.length (iCells fs) ∧ Hid (oneR (fs ++ placesR c (ts.drop k) a) = R)) (fun _ _ v _ => ts.length - (intOf v).toNat)
    case atStart => exact ⟨0, 0, [], rfl, rfl, Nat.zero_le _, Nat.le_refl _, by simp, Below.refl _ _, World.ownsRow_nil _ _ _ _, Lib.hid HR.out⟩
    case round =>
      obtain ⟨k, a, fs, rfl, rfl, hk, hfa, hal, hb, ho, HT⟩ := hrel
      by_cases hlt : k < ts.length
      · have hx : ts[k]? = some ts[k] := List.getElem?_eq_getElem hlt
        have hT := HT.out
        rw [List.drop_eq_getElem_cons hlt, placesR_step] at hT
        rw [List.drop_eq_getElem_cons hlt] at hal
        obtain ⟨b, o, rfl, co, cc, ro, rn, rc, k0, k1, k2, hc, h3, h4⟩ := HTR.out.at hx
        generalize ts[k] = t at *
        have hal2 : a + t.cols.length + (scopeR (ts.drop (k + 1))).length = (scopeR ts).length := by
          rw [show scopeR (t :: ts.drop (k + 1)) = t.cols ++ scopeR (ts.drop (k + 1)) from by simp [scopeR], List.length_append] at hal
          omega
        have c0 := keep_cellP hb k0
        have c1 := keep_cellP hb k1
        have c2 := keep_cellP hb k2
        have HCO := Lib.hid hc
        have HT2 := Lib.hid hT
        clear hx hT HT hal hc h3 h4 k0 k1 k2
        go_upto_region 8 with fail
        have hbA := (Below.refl wr.heap.size wr).alloc (Nat.le_refl _) (.cells #[.string t.nm, .slice co t.cols.length cc, .slice ro rn rc] 53)
        have hn := heap_alloc_new wr (.cells #[.string t.nm, .slice co t.cols.length cc, .slice ro rn rc] 53)
        have hwr := hb.size
        have HOA := Lib.hid (own_keepA ho fun j hj hj2 => hbA.block j hj2)
        have hlo := own_lt ho
        have HBA := Lib.hid (below_self hb hbA)
        generalize wr.alloc (.cells #[.string t.nm, .slice co t.cols.length cc, .slice ro rn rc] 53) = W at *
        have d1 : W.cell? ⟨wr.heap.size, 1, none⟩ = some (.slice co t.cols.length cc) := by rw [Lib.cell_of_heap hn]; rfl
        have HN := Lib.hid hn
        generalize wr.heap.size = A at *
        have HLO := Lib.hid hlo
        clear c0 c1 c2 hn hbA ho hlo
        go_wp2_with fail
        go_loopw [8, 9, 35] (fun fv av v wi => ∃ (j : Nat) (gs : List Int), v = .int .i64 j ∧ av = .int .i64 ((a + j : Nat) : Int) ∧ j ≤ t.cols.length ∧ gs.length ≤ a + j ∧ Below W0.heap.size W0 wi ∧ A < wi.heap.size ∧ wi.ownsRow W0.heap.size 3 1 fv gs.length (iCells gs) ∧ Hid (wi.heap[A]? = some (.cells #[.string t.nm, .slice co t.cols.length cc, .slice ro rn rc] 53 (0, 0))) ∧ Hid (fv.ownBlock ≠ some A) ∧ Hid (oneR (gs ++ (placesT c t.nm (t.cols.drop j) (a + j) ++ placesR c (ts.drop (k + 1)) (a + t.cols.length))) = R)) (fun _ _ v _ => t.cols.length - (intOf v).toNat)
        case atStart =>
          refine ⟨0, fs, rfl, rfl, Nat.zero_le _, by omega, HBA.out, (Array.getElem?_eq_some_iff.1 HN.out).1, HOA.out, Lib.hid HN.out, Lib.hid fun e => ?_, Lib.hid HT2.out⟩
          have := HLO.out _ e
          omega
        case round =>
          obtain ⟨j, gs, rfl, rfl, hj, hga, hbi, hAw, hoi, HNi, HSe, HTi⟩ := hrel
          by_cases hlj : j < t.cols.length
          · have hx : t.cols[j]? = some t.cols[j] := List.getElem?_eq_getElem hlj
            have hT := HTi.out
            rw [List.drop_eq_getElem_cons hlj, placesT, HM.out] at hT
            obtain ⟨b2, o2, rfl, k0, k1⟩ := (HCO.out.self hbi).at hx
            generalize t.cols[j] = cl at *
            have HT3 := Lib.hid hT
            clear hx hT HTi
            go_upto_region 11 with fail
            have hbC := (Below.refl wr.heap.size wr).alloc (Nat.le_refl _) (.cells #[.string cl.nm, .int .u8 cl.k] 47)
            have hnC := heap_alloc_new wr (.cells #[.string cl.nm, .int .u8 cl.k] 47)
            have hNi2 := (hbC.block A hAw).trans HNi.out
            have HOC := Lib.hid (own_keepA hoi fun i hi hi2 => hbC.block i hi2)
            have HBC := Lib.hid (below_self hbi hbC)
            have hszC := hbC.size
            have hW0 := HBC.out.size
            clear HNi hoi hbC
            obtain ⟨so, scap, rfl⟩ := own_shape HOC.out
            generalize wr.alloc (.cells #[.string cl.nm, .int .u8 cl.k] 47) = W3 at *
            have d0 : W3.cell? ⟨A, 0, none⟩ = some (.string t.nm) := by rw [Lib.cell_of_heap hNi2]; rfl
            have e0 : W3.cell? ⟨wr.heap.size, 0, none⟩ = some (.string cl.nm) := by rw [Lib.cell_of_heap hnC]; rfl
            have HN3 := Lib.hid hNi2
            have hA3 : A < W3.heap.size := by omega
            clear hNi2 hnC k0 k1
            cases hb1 : (cl.nm.toList == N.toList)
            · have HT4 : Hid (oneR (gs ++ (placesT c t.nm (t.cols.drop (j + 1)) (a + (j + 1)) ++ placesR c (ts.drop (k + 1)) (a + t.cols.length))) = R) := Lib.hid (by have := HT3.out; rw [hb1] at this; simpa [List.append_assoc, Nat.add_assoc] using this)
              clear HT3
              go_wp2_with fail
              exact ⟨⟨j + 1, gs, by go_num, by go_num, by omega, by omega, HBC.out, hA3, HOC.out, HN3, HSe, HT4⟩, by simp [intOf]; omega⟩
            · cases hb2 : (t.nm.toList == T.toList)
              all_goals first
                | (have HT4 : Hid (oneR (gs ++ (placesT c t.nm (t.cols.drop (j + 1)) (a + (j + 1)) ++ placesR c (ts.drop (k + 1)) (a + t.cols.length))) = R) := Lib.hid (by have := HT3.out; rw [hb1, hb2, if_neg (by decide)] at this; simpa [List.append_assoc, Nat.add_assoc] using this)
                   clear HT3
                   go_wp2_with fail
                   exact ⟨⟨j + 1, gs, by go_num, by go_num, by omega, by omega, HBC.out, hA3, HOC.out, HN3, HSe, HT4⟩, by simp [intOf]; omega⟩)
                | (have HT4 : Hid (oneR ((gs ++ [((a + j : Nat) : Int)]) ++ (placesT c t.nm (t.cols.drop (j + 1)) (a + (j + 1)) ++ placesR c (ts.drop (k + 1)) (a + t.cols.length))) = R) := Lib.hid (by have := HT3.out; rw [hb1, if_pos (by simp [hb2])] at this; simpa [List.append_assoc, Nat.add_assoc] using this)
                   clear HT3
                   obtain ⟨i0, hi0, hz0, hz1, hz2⟩ := info_parts infoInt
                   have hgl : gs.length ≤ 4398046511104 := by omega
                   go_wp2_with (at_builtin; refine wpList_append_lying rfl _ _ 29 rfl W0.heap.size 3 i0 _ 1 8 Tryz.underlying29 hi0 hz0 hz1 hz2 rfl (by decide) (.slice so gs.length scap) gs.length (iCells gs) rfl (HOC.out.alloc _) (some ⟨W3.heap.size, 0, none⟩) 1 1 [.int .i64 ((a + j : Nat) : Int)] rfl (lies_one rfl) (by unfold maxLen; omega) (by omega) (by simp; omega) ?_)
                   intro v5 w5 hown5 hg5 hat5
                   have hbC := (Below.refl W3.heap.size W3).alloc (Nat.le_refl _) (.cells #[.int .i64 ((a + j : Nat) : Int)] 3)
                   have HB5 := Lib.hid (below_ownB (below_self HBC.out hbC) hg5 (own_base HOC.out) (by rw [alloc_sz]; omega))
                   have HN5 : Hid (w5.heap[A]? = some (.cells #[.string t.nm, .slice (some ⟨b2, o2, none⟩) t.cols.length cc, .slice ro rn rc] 53 (0, 0))) := Lib.hid ((hg5.block A (by rw [alloc_sz]; omega) (fun e => HSe.out e.symm)).trans ((hbC.block A hA3).trans HN3.out))
                   have HS5 : Hid (v5.ownBlock ≠ some A) := Lib.hid (by
                     rcases hat5 with h | h
                     · rw [h]; exact HSe.out
                     · rw [h]; intro e; injection e with e; omega)
                   have hA5 : A < w5.heap.size := by have := hg5.size; rw [alloc_sz] at this; omega
                   have HO5 : Hid (w5.ownsRow W0.heap.size 3 1 v5 (gs ++ [((a + j : Nat) : Int)]).length (iCells (gs ++ [((a + j : Nat) : Int)]))) := Lib.hid (by rw [List.length_append]; unfold iCells; rw [List.map_append]; exact hown5)
                   clear hown5 hg5 hat5 hbC hi0 hz0 hz1 hz2
                   go_wp2_with fail
                   go_roundw
                   case rel => exact ⟨j + 1, gs ++ [((a + j : Nat) : Int)], by go_num, by go_num, by omega, by rw [List.length_append]; simp; omega, HB5.out, hA5, HO5.out, HN5, HS5, HT4⟩
                   case measure => simp [intOf]; omega)
          · obtain rfl : j = t.cols.length := by omega
            have HT3 : Hid (oneR (gs ++ placesR c (ts.drop (k + 1)) (a + t.cols.length)) = R) := Lib.hid (by have := HTi.out; rw [List.drop_length] at this; exact this)
            clear HTi HNi HSe
            go_wp2_with fail
            exact ⟨⟨k + 1, a + t.cols.length, gs, by go_num, by go_num, by omega, by omega, hal2, hbi, hoi, HT3⟩, by simp [intOf]; omega⟩
      · obtain rfl : k = ts.length := by omega
        have hT := HT.out
        rw [List.drop_length, placesR, List.append_nil] at hT
        have HF := Lib.hid (below_self HB2.out hb)
        by_cases h1 : fs.length = 1
        · obtain ⟨x, rfl⟩ := List.length_eq_one_iff.1 h1
          have HRR : Hid (Ex.ok x = R) := Lib.hid hT
          obtain ⟨ao, cp, rfl, _, h0⟩ := own_cells ho
          obtain ⟨g, rfl, _, _, hcc⟩ := h0.resolve_left (by simp)
          have k0 := hcc 0 _ rfl
          clear hT HT h1 ho h0 hcc hal hfa
          simp only [List.length_cons, List.length_nil, Nat.zero_add] at k0 ⊢
          go_wp2_with (go_at_call 26; refine (HYM.out _ _ _ (by first | (simp; done) | (simp; omega))).mono ?_; rintro e w3 ⟨rfl, rfl⟩; refine Hid.out ?_)
          refine Lib.hid ?_
          go_wp2_with fail
          go_ret
          exact ⟨intP64_ok HRR.out, HF.out⟩
        · rw [oneR_no h1] at hT
          have HRR : Hid (Ex.no 14 = R) := Lib.hid hT
          have e1 : ((fs.length : Int) == 1) = false := beq_eq_false_iff_ne.2 (by omega)
          obtain ⟨ao, cp, rfl⟩ := own_shape ho
          clear hT HT ho hal hfa h1
          generalize fs.length = n at *
          go_wp2_with (go_at_call 26; refine (HNM.out _ _ _ (by first | (simp; done) | (simp; omega))).mono ?_; rintro e w3 ⟨rfl, rfl⟩; exact ⟨rfl, intP64_no HRR.out, HF.out⟩))
end Go.Proofs.YtgjfbbmachoolaaGreatDoor.lx
namespace Go.Proofs.YtgjfbbmachoolaaGreatDoor.lx
open Go.RowKit
set_option linter.unusedVariables false
set_option linter.unusedSimpArgs false

def set3 (A : Nat) (a b c : Value) (w : World) : World := ((w.setCell ⟨A, 0, none⟩ a).setCell ⟨A, 1, none⟩ b).setCell ⟨A, 2, none⟩ c
theorem set3_at {A : Nat} {a b c a' b' c' : Value} {w : World} {t : TypeId} (h : w.heap[A]? = some (.cells #[a', b', c'] t (0, 0))) : (set3 A a b c w).heap[A]? = some (.cells #[a, b, c] t (0, 0)) := by
  simp [set3, World.setCell, Array.getElem?_modify, h]
theorem set3_gb {A : Nat} {a b c : Value} {w : World} : w.grownBy (set3 A a b c w) (some A) :=
  ⟨rfl, rfl, rfl, by simp [set3, World.setCell], fun k _ hne => by
    have h : k ≠ A := fun e => hne (by rw [e])
    simp [set3, World.setCell, Array.getElem?_modify, Ne.symm h]⟩
/-- what bind answers -/
def BindP (r : Ex (List Stp × Int)) (w : World) (e : Ending) (w' : World) : Prop :=
  Below w.heap.size w w' ∧ match r with
  | .ok x => ∃ v, e = .returned (.tuple #[v, .int .u8 x.2]) ∧ w'.ownsRow w.heap.size 50 3 v x.1.length (stpCells x.1)
  | .no y => e = .panicked [flE y]
theorem BindP.bad {r : Ex (List Stp × Int)} {w w' : World} {y : Int} (h : Ex.no y = r) (hb : Below w.heap.size w w') : BindP r w (.panicked [flE y]) w' := by subst h; exact ⟨hb, rfl⟩
theorem BindP.good {r : Ex (List Stp × Int)} {w w' : World} {out : List Stp} {k : Int} {v : Value} (h : Ex.ok (out, k) = r) (hb : Below w.heap.size w w') (ho : w'.ownsRow w.heap.size 50 3 v out.length (stpCells out)) : BindP r w (.returned (.tuple #[v, .int .u8 k])) w' := by subst h; exact ⟨hb, v, rfl, ho⟩
theorem stpCells_app (ts : List Stp) (t : Stp) : stpCells (ts ++ [t]) = stpCells ts ++ [.int .u8 t.k, .string t.s, .int .i64 t.n] := by simp [stpCells, Stp.cells]
/-- what it is that is still to do -/
def bindT (ts : List Tbl) (l out : List Stp) : Ex (List Stp × Int) := (nameStep ts l out).then fun out => (kindOfR out (scopeR ts)).then fun k => .ok (out, k)
theorem bindT_col {ts : List Tbl} {s : Stp} {l out : List Stp} (h : s.k = 6) : bindT ts (s :: l) out = (findR ts s.s).then fun n => bindT ts l (out ++ [Stp.mk 6 ⟨#[]⟩ n]) := by
  unfold bindT
  rw [nameStep, if_pos h]
  cases findR ts s.s <;> rfl
theorem bindT_no {ts : List Tbl} {s : Stp} {l out : List Stp} (h : s.k ≠ 6) : bindT ts (s :: l) out = bindT ts l (out ++ [s]) := by
  unfold bindT
  rw [nameStep, if_neg h]
/-- a number, or a panic, said of a call -/
theorem calls64_bad {n : Nat} {args : Array Value} {w : World} {y : Int} {R : Ex Int} (hR : R = .no y) (h : Calls Tryz.prog n args w fun e w' => IntP .i64 R e ∧ Below w.heap.size w w') : Calls Tryz.prog n args w fun e w' => e = .panicked [flE y] ∧ Below w.heap.size w w' := by
  subst hR
  exact h
theorem calls64_ok {n : Nat} {args : Array Value} {w : World} {y : Int} {R : Ex Int} (hR : R = .ok y) (h : Calls Tryz.prog n args w fun e w' => IntP .i64 R e ∧ Below w.heap.size w w') : Calls Tryz.prog n args w fun e w' => e = .returned (.int .i64 y) ∧ Below w.heap.size w w' := by
  subst hR
  exact h

set_option maxHeartbeats 2000000 in
set_option maxRecDepth 100000 in
theorem bind_any {S : Nat} {ts : List Tbl} {lo : Option Addr} {lcap : Nat} {L : List Stp} {w0 w : World} (hS : Scope S ts w0 w) (hG : PGlob w) (hL : StpRow lo L w) (hok : StpsOk L) (hll : L.length ≤ 1099511627776) (hlen : (scopeR ts).length ≤ 4398046511104) (hck : ∀ c ∈ scopeR ts, 0 ≤ c.k ∧ c.k ≤ 255) (htl : ts.length ≤ 1099511627776) :
    Calls Tryz.prog 27 #[.pointer (some ⟨S, 0, none⟩), .slice lo L.length lcap] w fun e w' => BindP (sbindR ts L) w e w' := by
  obtain ⟨R, hR⟩ : ∃ R, sbindR ts L = R := ⟨_, rfl⟩
  rw [hR]
  have HR : Hid (bindT ts L [] = R) := Lib.hid hR
  have HS := Lib.hid hS
  have HG := Lib.hid hG
  have HL := Lib.hid hL
  have HK := Lib.hid hok
  have HCK := Lib.hid hck
  clear hR hS hG hL hok hck
  go_enter Tryz.func27, Tryz.ntmps27
  go_wp2_with fail
  go_loopw [6, 11] (fun ov v wr => ∃ (k : Nat) (out : List Stp), v = .int .i64 k ∧ k ≤ L.length ∧ out.length ≤ k ∧ Below w.heap.size w wr ∧ wr.ownsRow w.heap.size 50 3 ov out.length (stpCells out) ∧ Hid (StpsOk out) ∧ Hid (bindT ts (L.drop k) out = R)) (fun _ v _ => L.length - (intOf v).toNat)
  case atStart => exact ⟨0, [], rfl, Nat.zero_le _, Nat.le_refl _, Below.refl _ _, World.ownsRow_nil _ _ _ _, Lib.hid (fun t h => by cases h), Lib.hid HR.out⟩
  case round =>
    obtain ⟨k, out, rfl, hk, hol, hb, ho, HO, HT⟩ := hrel
    by_cases hlt : k < L.length
    · have hx : L[k]? = some L[k] := List.getElem?_eq_getElem hlt
      obtain ⟨hs, hkk⟩ := HK.out _ (List.getElem_mem hlt)
      have hT := HT.out
      rw [List.drop_eq_getElem_cons hlt] at hT
      obtain ⟨b, o, rfl, c0, c1, c2⟩ := (HL.out.self hb).at hx
      generalize L[k] = x at *
      clear hx HT
      go_upto_region 5 with fail
      have hbA := (Below.refl wr.heap.size wr).alloc (Nat.le_refl _) (.cells #[.int .u8 x.k, .string x.s, .int .i64 x.n] 50)
      have hn := heap_alloc_new wr (.cells #[.int .u8 x.k, .string x.s, .int .i64 x.n] 50)
      have HOA := Lib.hid (own_keepA ho fun j hj hj2 => hbA.block j hj2)
      have hlo := own_lt ho
      have hwr := hb.size
      generalize wr.alloc (.cells #[.int .u8 x.k, .string x.s, .int .i64 x.n] 50) = W at *
      have d0 : W.cell? ⟨wr.heap.size, 0, none⟩ = some (.int .u8 x.k) := by rw [Lib.cell_of_heap hn]; rfl
      have d1 : W.cell? ⟨wr.heap.size, 1, none⟩ = some (.string x.s) := by rw [Lib.cell_of_heap hn]; rfl
      have d2 : W.cell? ⟨wr.heap.size, 2, none⟩ = some (.int .i64 x.n) := by rw [Lib.cell_of_heap hn]; rfl
      have HB := Lib.hid (below_self hb hbA)
      have hAW := (Array.getElem?_eq_some_iff.1 hn).1
      have HN := Lib.hid hn
      have HLO := Lib.hid hlo
      clear c0 c1 c2 hn hbA hb ho hlo
      obtain ⟨so, scap, rfl⟩ := own_shape HOA.out
      obtain ⟨i0, hi0, hz0, hz1, hz2⟩ := info_parts infoS
      have HI := Lib.hid (And.intro hi0 (And.intro hz0 (And.intro hz1 hz2)))
      clear hi0 hz0 hz1 hz2
      generalize wr.heap.size = A at *
      by_cases h6 : x.k = 6
      · rw [bindT_col h6] at hT
        rw [h6] at d0
        have hfn := find_any (HS.out.next HB.out) (HG.out.self HB.out) hs (by omega) htl
        cases hr : findR ts x.s with
        | no y =>
          rw [hr] at hT
          have HFN := Lib.hid (calls64_bad hr hfn)
          have HRR : Hid (Ex.no y = R) := Lib.hid hT
          clear hfn hr hT h6
          go_wp2_with (go_at_call 25; refine HFN.out.mono ?_; rintro e w2 ⟨rfl, hb2⟩; exact ⟨rfl, BindP.bad HRR.out (below_self HB.out hb2)⟩)
        | ok n =>
          rw [hr] at hT
          have HT2 : Hid (bindT ts (L.drop (k + 1)) (out ++ [Stp.mk 6 ⟨#[]⟩ n]) = R) := Lib.hid hT
          have HFN := Lib.hid (calls64_ok hr hfn)
          clear hfn hr hT h6
          go_wp2_with (go_at_call 25; refine HFN.out.mono ?_; rintro e w2 ⟨rfl, hb2⟩; refine Hid.out ?_)
          refine Lib.hid ?_
          have hn2 := (hb2.block A hAW).trans HN.out
          have e0 : w2.cell? ⟨A, 0, none⟩ = some (.int .u8 x.k) := by rw [Lib.cell_of_heap hn2]; rfl
          have e1 : w2.cell? ⟨A, 1, none⟩ = some (.string x.s) := by rw [Lib.cell_of_heap hn2]; rfl
          have e2 : w2.cell? ⟨A, 2, none⟩ = some (.int .i64 x.n) := by rw [Lib.cell_of_heap hn2]; rfl
          have f2 : ∀ j, w2.frozen? ⟨A, j, none⟩ = false := Lib.frozen_of_heap hn2
          have hn3 := set3_at (a := .int .u8 6) (b := .string ⟨#[]⟩) (c := .int .i64 n) hn2
          have HO2 := own_keepA HOA.out fun j hj hj2 => hb2.block j hj2
          have HO3 := Lib.hid (HO2.kept (set3_gb (A := A) (a := .int .u8 6) (b := .string ⟨#[]⟩) (c := .int .i64 n)) (.inr fun e => by have := HLO.out A e; omega))
          have HB3 := Lib.hid (below_gbB (below_self HB.out hb2) (set3_gb (A := A) (a := .int .u8 6) (b := .string ⟨#[]⟩) (c := .int .i64 n)) hwr (below_self HB.out hb2).size)
          go_upto_region 7 with fail
          unfold set3 at hn3 HO3 HB3
          generalize ((w2.setCell ⟨A, 0, none⟩ (.int .u8 6)).setCell ⟨A, 1, none⟩ (.string ⟨#[]⟩)).setCell ⟨A, 2, none⟩ (.int .i64 n) = W3 at *
          have z0 : W3.cell? ⟨A, 0, none⟩ = some (.int .u8 6) := by rw [Lib.cell_of_heap hn3]; rfl
          have z1 : W3.cell? ⟨A, 1, none⟩ = some (.string ⟨#[]⟩) := by rw [Lib.cell_of_heap hn3]; rfl
          have z2 : W3.cell? ⟨A, 2, none⟩ = some (.int .i64 n) := by rw [Lib.cell_of_heap hn3]; rfl
          have hwx := HB3.out.size
          clear hn3 e0 e1 e2 f2 hn2 HO2 hb2 d0 d1 d2
          go_wp2_with (at_builtin; refine wpList_append_lying rfl _ _ 23 rfl w.heap.size 50 i0 _ 3 32 Tryz.underlying23 HI.out.1 HI.out.2.1 HI.out.2.2.1 HI.out.2.2.2 rfl (by decide) (.slice so out.length scap) out.length (stpCells out) rfl (HO3.out.alloc _) (some ⟨W3.heap.size, 0, none⟩) 1 1 [.int .u8 6, .string ⟨#[]⟩, .int .i64 n] rfl (lies_three rfl rfl rfl) (by unfold maxLen; omega) (by omega) (by simp; omega) ?_)
          intro v5 w5 hown5 hg5 hat5
          have hbC := (Below.refl W3.heap.size W3).alloc (Nat.le_refl _) (.cells #[.int .u8 6, .string ⟨#[]⟩, .int .i64 n] 50)
          have HB5 := Lib.hid (below_ownB (below_self HB3.out hbC) hg5 (own_base HO3.out) (by rw [alloc_sz]; omega))
          have HO5 : Hid (w5.ownsRow w.heap.size 50 3 v5 (out ++ [Stp.mk 6 ⟨#[]⟩ n]).length (stpCells (out ++ [Stp.mk 6 ⟨#[]⟩ n]))) := Lib.hid (by rw [List.length_append, stpCells_app]; exact hown5)
          clear hown5 hg5 hat5 hbC z0 z1 z2
          go_wp2_with fail
          go_roundw
          case rel => exact ⟨k + 1, out ++ [Stp.mk 6 ⟨#[]⟩ n], by go_num, by omega, by rw [List.length_append]; simp; omega, HB5.out, HO5.out, Lib.hid (fun t ht => by
            rcases List.mem_append.1 ht with ht | ht
            · exact HO.out t ht
            · rw [List.mem_singleton.1 ht]; exact ⟨(by show (0 : Nat) < _; decide), (by show (0 : Int) ≤ 6; decide), (by show (6 : Int) ≤ 255; decide)⟩), HT2⟩
          case measure => simp [intOf]; omega
      · rw [bindT_no h6] at hT
        have HT2 : Hid (bindT ts (L.drop (k + 1)) (out ++ [Stp.mk x.k x.s x.n]) = R) := Lib.hid hT
        have e6 : (x.k == 6) = false := by simp [h6]
        have hn3 := HN.out
        have HO3 := HOA
        have HB3 := HB
        clear hT h6 HOA HB
        go_upto_region 7 with fail
        generalize W = W3 at *
        have z0 : W3.cell? ⟨A, 0, none⟩ = some (.int .u8 x.k) := by rw [Lib.cell_of_heap hn3]; rfl
        have z1 : W3.cell? ⟨A, 1, none⟩ = some (.string x.s) := by rw [Lib.cell_of_heap hn3]; rfl
        have z2 : W3.cell? ⟨A, 2, none⟩ = some (.int .i64 x.n) := by rw [Lib.cell_of_heap hn3]; rfl
        have hwx := HB3.out.size
        clear hn3 d0 d1 d2
        go_wp2_with (at_builtin; refine wpList_append_lying rfl _ _ 23 rfl w.heap.size 50 i0 _ 3 32 Tryz.underlying23 HI.out.1 HI.out.2.1 HI.out.2.2.1 HI.out.2.2.2 rfl (by decide) (.slice so out.length scap) out.length (stpCells out) rfl (HO3.out.alloc _) (some ⟨W3.heap.size, 0, none⟩) 1 1 [.int .u8 x.k, .string x.s, .int .i64 x.n] rfl (lies_three rfl rfl rfl) (by unfold maxLen; omega) (by omega) (by simp; omega) ?_)
        intro v5 w5 hown5 hg5 hat5
        have hbC := (Below.refl W3.heap.size W3).alloc (Nat.le_refl _) (.cells #[.int .u8 x.k, .string x.s, .int .i64 x.n] 50)
        have HB5 := Lib.hid (below_ownB (below_self HB3.out hbC) hg5 (own_base HO3.out) (by rw [alloc_sz]; omega))
        have HO5 : Hid (w5.ownsRow w.heap.size 50 3 v5 (out ++ [Stp.mk x.k x.s x.n]).length (stpCells (out ++ [Stp.mk x.k x.s x.n]))) := Lib.hid (by rw [List.length_append, stpCells_app]; exact hown5)
        clear hown5 hg5 hat5 hbC z0 z1 z2
        go_wp2_with fail
        go_roundw
        case rel => exact ⟨k + 1, out ++ [Stp.mk x.k x.s x.n], by go_num, by omega, by rw [List.length_append]; simp; omega, HB5.out, HO5.out, Lib.hid (fun t ht => by
          rcases List.mem_append.1 ht with ht | ht
          · exact HO.out t ht
          · rw [List.mem_singleton.1 ht]; exact ⟨hs, hkk⟩), HT2⟩
        case measure => simp [intOf]; omega
    · obtain rfl : k = L.length := by omega
      have hT := HT.out
      rw [List.drop_length] at hT
      unfold bindT at hT
      rw [nameStep] at hT
      have hT : ((kindOfR out (scopeR ts)).then fun k => Ex.ok (out, k)) = R := hT
      obtain ⟨so, scap, rfl⟩ := own_shape ho
      obtain ⟨ao, cp, hv, hrow⟩ := own_stps ho
      injection hv with hv1 _ hv3
      subst hv1 hv3
      obtain ⟨ta, tc, co, cc, s0, s1, ht, hc⟩ := (HS.out.next hb).read
      have hko := kindOf_any (cap := scap) (ccap := cc) (HG.out.self hb) hrow HO.out hc HCK.out (by omega) hlen
      have HOX := Lib.hid ho
      have HB := Lib.hid hb
      clear hb ho ht hc hrow s0 HT HO
      cases hr : kindOfR out (scopeR ts) with
      | no y =>
        rw [hr] at hT
        have HKO := Lib.hid (calls_bad hr hko)
        have HRR : Hid (Ex.no y = R) := Lib.hid hT
        clear hko hr hT
        go_wp2_with (go_at_call 37; refine HKO.out.mono ?_; rintro e w2 ⟨rfl, hb2⟩; exact ⟨rfl, BindP.bad HRR.out (below_self HB.out hb2)⟩)
      | ok n =>
        rw [hr] at hT
        have HKO := Lib.hid (calls_ok hr hko)
        have HRR : Hid (Ex.ok (out, n) = R) := Lib.hid hT
        clear hko hr hT
        go_wp2_with (go_at_call 37; refine HKO.out.mono ?_; rintro e w2 ⟨rfl, hb2⟩; refine Hid.out ?_)
        refine Lib.hid ?_
        have HB2 := Lib.hid (below_self HB.out hb2)
        have HO2 := Lib.hid (own_keepA HOX.out fun j hj hj2 => hb2.block j hj2)
        clear hb2
        go_wp2_with fail
        go_ret2
        exact BindP.good HRR.out HB2.out HO2.out
end Go.Proofs.YtgjfbbmachoolaaGreatDoor.lx
namespace Go.Proofs.YtgjfbbmachoolaaGreatDoor.lx
open Go.RowKit
set_option linter.unusedVariables false
set_option linter.unusedSimpArgs false

/-- numbers that lie there -/
def IntRow (ao : Option Addr) (L : List Int) (w : World) : Prop := L.length = 0 ∨ ∃ b o, ao = some ⟨b, o, none⟩ ∧ ∀ (i : Nat) t, L[i]? = some t → w.cell? ⟨b, o + i, none⟩ = some (.int .i64 t)
theorem IntRow.self {ao : Option Addr} {L : List Int} {w w' : World} (h : IntRow ao L w) (hb : Below w.heap.size w w') : IntRow ao L w' := by
  rcases h with h | ⟨b, o, h1, h2⟩
  · exact .inl h
  · exact .inr ⟨b, o, h1, fun i t ht => keep_cellP hb (h2 i t ht)⟩
theorem own_ints {w : World} {B : Nat} {v : Value} {L : List Int} (h : w.ownsRow B 3 1 v L.length (iCells L)) : ∃ ao cap, v = .slice ao L.length cap ∧ IntRow ao L w := by
  obtain ⟨ao, cap, hv, _, h0⟩ := own_cells h
  refine ⟨ao, cap, hv, ?_⟩
  rcases h0 with h0 | ⟨g, h1, _, _, h2⟩
  · exact .inl h0
  · refine .inr ⟨g, 0, h1, fun i s hs => ?_⟩
    rw [Nat.zero_add]
    exact h2 i _ (by unfold iCells; rw [List.getElem?_map, hs]; rfl)
theorem contains_any {ao : Option Addr} {cap : Nat} {L : List Int} {x : Int} {w : World} (h : IntRow ao L w) (hl : L.length ≤ 9223372036854775807) :
    Calls Tryz.prog 28 #[.slice ao L.length cap, .int .i64 x] w fun e w' => e = .returned (.bool (decide (x ∈ L))) ∧ w' = w := by
  rcases h with h | ⟨b, o, rfl, h2⟩
  · obtain rfl := List.length_eq_zero_iff.1 h
    exact (Tryz.slices_Contains_int_empty ao cap x w).mono fun e w' h => ⟨by rw [h.1]; simp, h.2⟩
  · refine (Tryz.slices_Contains_int b o L.length cap L x w (Nat.le_refl _) hl (fun j hj => ?_)).mono fun e w' h => ⟨by rw [h.1, List.take_length]; simp, h.2⟩
    rw [h2 j _ (List.getElem?_eq_getElem hj), List.getD_eq_getElem?_getD, List.getElem?_eq_getElem hj]
    rfl
theorem itoa_nat (i : Nat) : Lib.itoa ((i : Int) + 1) = Lib.decDigits (i + 1) := by
  unfold Lib.itoa
  rw [if_neg (by omega)]
  congr 1
/-- of an expression that comes to something each column is one -/
theorem kindOfR_in {l : List Stp} {cols : List Clm} {k : Int} (h : kindOfR l cols = .ok k) : l.all (inR cols.length) = true := by
  unfold kindOfR at h
  split at h
  · cases h
  · split at h
    · cases h
    · split at h
      · cases h
      · next hn =>
        cases hh : l.all (inR cols.length) with
        | true => rfl
        | false => exact absurd hh hn
theorem columnB_in {x : Itm} {cols : List Clm} {k : Int} (h : kindOfR x.e cols = .ok k) (hc : (columnB x).2 = true) : ∃ (m : Nat) (c : Clm), (columnB x).1 = m ∧ cols[m]? = some c := by
  have ha := kindOfR_in h
  obtain ⟨ag, E⟩ := x
  unfold columnB at hc ⊢
  simp only at ha hc ⊢
  split at hc
  · rename_i s
    split at hc
    · cases hc
    · rename_i hn
      have h6 : s.k = 6 := by
        by_cases h : s.k = 6
        · exact h
        · exact absurd (.inr h) hn
      rw [if_neg hn]
      have hi : inR cols.length s = true := by simpa using ha
      rw [inR_yes h6] at hi
      simp only [Bool.and_eq_true, decide_eq_true_eq] at hi
      refine ⟨s.n.toNat, cols[s.n.toNat]'(by omega), by simp only; omega, List.getElem?_eq_getElem _⟩
  · cases hc
/-- a bound query, as a value -/
def bndV (t j : ByteArray) (wd lf rt : Int) (wo : Option Addr) (wn wc : Nat) (ga : Option Addr) (gn gc : Nat) (ia : Option Addr) (im ic : Nat) (gr : Bool) (na : Option Addr) (nn nc : Nat) (ka : Option Addr) (kn kc : Nat) : Value :=
  .agg #[.string t, .string j, .int .i64 wd, .int .i64 lf, .int .i64 rt, .slice wo wn wc, .slice ga gn gc, .slice ia im ic, .bool gr, .slice na nn nc, .slice ka kn kc]
def bndC (t j : ByteArray) (wd lf rt : Int) (wo : Option Addr) (wn wc : Nat) (ga : Option Addr) (gn gc : Nat) (ia : Option Addr) (im ic : Nat) (gr : Bool) (na : Option Addr) (nn nc : Nat) (ka : Option Addr) (kn kc : Nat) : Array Value :=
  #[.string t, .string j, .int .i64 wd, .int .i64 lf, .int .i64 rt, .slice wo wn wc, .slice ga gn gc, .slice ia im ic, .bool gr, .slice na nn nc, .slice ka kn kc]
/-- what checkItem answers -/
def CItemP (r : Ex (ByteArray × Int)) (e : Ending) : Prop := match r with | .ok x => e = .returned (.tuple #[.string x.1, .int .u8 x.2]) | .no y => e = .panicked [flE y]
theorem CItemP.bad {r : Ex (ByteArray × Int)} {y : Int} (h : Ex.no y = r) : CItemP r (.panicked [flE y]) := by subst h; rfl
theorem CItemP.good {r : Ex (ByteArray × Int)} {s : ByteArray} {k : Int} (h : Ex.ok (s, k) = r) : CItemP r (.returned (.tuple #[.string s, .int .u8 k])) := by subst h; rfl

set_option maxHeartbeats 8000000 in
set_option maxRecDepth 100000 in
theorem checkItem_any {t j : ByteArray} {wd lf rt : Int} {wo : Option Addr} {wn wc : Nat} {ga : Option Addr} {G : List Int} {gc : Nat} {ia : Option Addr} {im ic : Nat} {gr : Bool} {na : Option Addr} {nn nc : Nat} {ka : Option Addr} {kn kc : Nat}
    {x : Itm} {eo : Option Addr} {ec : Nat} {co : Option Addr} {cc : Nat} {C : List Clm} {i : Nat} {w : World} (hG : PGlob w) (hx : StpRow eo x.e w) (hxo : StpsOk x.e) (hxl : x.e.length ≤ 1099511627776) (hag : 0 ≤ x.agg) (hC : ColRow co C w) (hck : ∀ c ∈ C, 0 ≤ c.k ∧ c.k ≤ 255) (hcl : C.length ≤ 4398046511104) (hg : IntRow ga G w) (hgl : G.length ≤ 1099511627776) (hi : i ≤ 64) :
    Calls Tryz.prog 30 #[bndV t j wd lf rt wo wn wc ga G.length gc ia im ic gr na nn nc ka kn kc, .agg #[.int .u8 x.agg, .slice eo x.e.length ec], .slice co C.length cc, .int .i64 i] w fun e w' => CItemP (itemB G gr x C i) e ∧ Below w.heap.size w w' := by
  obtain ⟨R, hR⟩ : ∃ R, itemB G gr x C i = R := ⟨_, rfl⟩
  rw [hR]
  unfold itemB at hR
  have hit := Tryz.strconv_Itoa_small (i + 1) (by omega)
  have hcn : cName i = ⟨#[99]⟩ ++ ⟨(Lib.decDigits (i + 1)).toArray⟩ := by unfold cName; rw [itoa_nat]
  obtain ⟨D, hD⟩ : ∃ D : ByteArray, (⟨(Lib.decDigits (i + 1)).toArray⟩ : ByteArray) = D := ⟨_, rfl⟩
  rw [hD] at hit hcn
  have hds : D.size ≤ 200 := by
    have := Lib.itoa_length_le ((i : Int) + 1) (by omega) (by omega)
    rw [itoa_nat] at this
    rw [← hD]
    show (Lib.decDigits (i + 1)).toArray.size ≤ 200
    rw [List.size_toArray]
    omega
  obtain ⟨CN, hCN⟩ : ∃ CN : ByteArray, (⟨#[99]⟩ : ByteArray) ++ D = CN := ⟨_, rfl⟩
  rw [hcn, hCN] at hR
  have hit2 := Lib.hid hit
  have hb1 := (Below.refl w.heap.size w).alloc (Nat.le_refl _) (.cells (bndC t j wd lf rt wo wn wc ga G.length gc ia im ic gr na nn nc ka kn kc) 32)
  have hn1 := heap_alloc_new w (.cells (bndC t j wd lf rt wo wn wc ga G.length gc ia im ic gr na nn nc ka kn kc) 32)
  have hb2 := hb1.alloc (by rw [alloc_sz]; omega) (.cells #[.int .u8 x.agg, .slice eo x.e.length ec] 40)
  have hn2 := heap_alloc_new (w.alloc (.cells (bndC t j wd lf rt wo wn wc ga G.length gc ia im ic gr na nn nc ka kn kc) 32)) (.cells #[.int .u8 x.agg, .slice eo x.e.length ec] 40)
  have hn3 := (heap_alloc_old (w.alloc (.cells (bndC t j wd lf rt wo wn wc ga G.length gc ia im ic gr na nn nc ka kn kc) 32)) (.cells #[.int .u8 x.agg, .slice eo x.e.length ec] 40) (show w.heap.size < _ by rw [alloc_sz]; omega)).trans hn1
  rw [alloc_sz] at hn2
  unfold bndC at hb1 hb2 hn1 hn2 hn3
  unfold bndV
  have HB := Lib.hid hb2
  have HG := Lib.hid (hG.self hb2)
  have HX := Lib.hid (hx.self hb2)
  have HXO := Lib.hid hxo
  have HC := Lib.hid (hC.self hb2)
  have HCK := Lib.hid hck
  have HGR := Lib.hid (hg.self hb2)
  have HR := Lib.hid hR
  have HYM := Lib.hid fun w3 y (is : Bool) (hi : is = true) => bmust_yes (w := w3) (why := y) hi
  have HNM := Lib.hid fun w3 y (is : Bool) (hi : is = false) => bmust_no (w := w3) (why := y) hi
  have hiI : IntKind.i64.wrap ((i : Int) + 1) = ((i + 1 : Nat) : Int) := by rw [IntWalk.i64_in _ (by omega)]; omega
  clear hG hx hxo hC hck hg hR hb1 hb2 hn1 hit hcn hD
  go_enter Tryz.func30, Tryz.ntmps30
  go_upto_region 1 with fail
  generalize (w.alloc (.cells #[.string t, .string j, .int .i64 wd, .int .i64 lf, .int .i64 rt, .slice wo wn wc, .slice ga G.length gc, .slice ia im ic, .bool gr, .slice na nn nc, .slice ka kn kc] 32)).alloc (.cells #[.int .u8 x.agg, .slice eo x.e.length ec] 40) = W at *
  have b6 : W.cell? ⟨w.heap.size, 6, none⟩ = some (.slice ga G.length gc) := by rw [Lib.cell_of_heap hn3]; rfl
  have b8 : W.cell? ⟨w.heap.size, 8, none⟩ = some (.bool gr) := by rw [Lib.cell_of_heap hn3]; rfl
  have x0 : W.cell? ⟨w.heap.size + 1, 0, none⟩ = some (.int .u8 x.agg) := by rw [Lib.cell_of_heap hn2]; rfl
  have x1 : W.cell? ⟨w.heap.size + 1, 1, none⟩ = some (.slice eo x.e.length ec) := by rw [Lib.cell_of_heap hn2]; rfl
  clear hn2 hn3
  go_wp2_with (go_at_call 51; refine (hit2.out _).mono ?_; rintro e w2 ⟨rfl, hw⟩; have hw := hw.symm; subst hw; refine Hid.out ?_)
  refine Lib.hid ?_
  by_cases h5 : 5 ≤ x.agg
  · have HRR : Hid (Ex.no 5 = R) := Lib.hid (by have := HR.out; rwa [if_pos h5] at this)
    have h5n : ¬ x.agg < 5 := by omega
    go_wp2_with (go_at_call 26; refine (HNM.out _ _ _ (by first | (simp; done) | (simp; omega))).mono ?_; rintro e w3 ⟨rfl, rfl⟩; exact ⟨rfl, CItemP.bad HRR.out, HB.out⟩)
  have HR2 := Lib.hid (by have := HR.out; rwa [if_neg h5] at this)
  have h5n : x.agg < 5 := by omega
  clear HR h5
  go_wp2_with (go_at_call 26; refine (HYM.out _ _ _ (by first | (simp; done) | (simp; omega))).mono ?_; rintro e w3 ⟨rfl, rfl⟩; refine Hid.out ?_)
  refine Lib.hid ?_
  by_cases h1 : x.agg = 1
  · rw [h1] at x0
    have HR3 := Lib.hid (by have := HR2.out; rwa [if_pos h1] at this)
    clear HR2 h1 h5n
    by_cases hl : x.e.length = 0
    · have HRR : Hid (Ex.ok (CN, 2) = R) := Lib.hid (by have := HR3.out; rwa [if_pos hl] at this)
      rw [hl] at x1
      go_wp2_with (go_at_call 26; refine (HYM.out _ _ _ (by first | (simp; done) | (simp; omega))).mono ?_; rintro e w4 ⟨rfl, rfl⟩; refine Hid.out ?_)
      refine Lib.hid ?_
      go_wp2_with fail
      go_ret2
      exact ⟨CItemP.good HRR.out, HB.out⟩
    · have HRR : Hid (Ex.no 5 = R) := Lib.hid (by have := HR3.out; rwa [if_neg hl] at this)
      have e0 : ((x.e.length : Int) == 0) = false := beq_eq_false_iff_ne.2 (by omega)
      generalize x.e.length = xn at *
      go_wp2_with (go_at_call 26; refine (HNM.out _ _ _ (by first | (simp; done) | (simp; omega))).mono ?_; rintro e w4 ⟨rfl, rfl⟩; exact ⟨rfl, CItemP.bad HRR.out, HB.out⟩)
  have HR3 := Lib.hid (by have := HR2.out; rwa [if_neg h1] at this)
  have e1 : (x.agg == 1) = false := by simp [h1]
  clear HR2 h1 h5n
  have hko := kindOf_any (cap := ec) (ccap := cc) HG.out HX.out HXO.out HC.out HCK.out hxl hcl
  cases hr : kindOfR x.e C with
  | no y =>
    have HKO := Lib.hid (calls_bad hr hko)
    have HRR : Hid (Ex.no y = R) := Lib.hid (by have := HR3.out; rw [hr] at this; exact this)
    clear hko hr HR3
    go_wp2_with (go_at_call 37; refine HKO.out.mono ?_; rintro e w2 ⟨rfl, hb2⟩; exact ⟨rfl, CItemP.bad HRR.out, below_self HB.out hb2⟩)
  | ok k =>
    have HKO := Lib.hid (calls_ok hr hko)
    have hr4 := HR3.out
    rw [hr] at hr4
    have hr4 : (if x.agg = 2 ∧ ¬(k = 2 ∨ k = 0) then Ex.no 5 else if x.agg = 0 ∧ gr = true ∧ ¬((columnB x).2 = true ∧ (columnB x).1 ∈ G) then Ex.no 14 else Ex.ok (if (columnB x).2 = true then (C.getD (columnB x).1.toNat ⟨⟨#[]⟩, 0⟩).nm else CN, if x.agg = 2 then 2 else k)) = R := hr4
    have hin := fun h => columnB_in hr h
    have hcol := fun (wx : World) (hb : Below W.heap.size W wx) => column_anyB (ec := ec) (HX.out.self hb) hxl
    obtain ⟨at_, hat⟩ : ∃ a, (columnB x).1 = a := ⟨_, rfl⟩
    obtain ⟨one, hone⟩ : ∃ a, (columnB x).2 = a := ⟨_, rfl⟩
    rw [hat, hone] at hr4
    simp only [hat, hone] at hin hcol
    have HCL := Lib.hid hcol
    have HR4 := Lib.hid hr4
    have HIN := Lib.hid hin
    clear hko hr HR3 hr4 hcol hin hat hone
    go_wp2_with (go_at_call 37; refine HKO.out.mono ?_; rintro e w2 ⟨rfl, hb2⟩; refine Hid.out ?_)
    refine Lib.hid ?_
    have y0 := keep_cellP hb2 x0
    have y1 := keep_cellP hb2 x1
    have y6 := keep_cellP hb2 b6
    have y8 := keep_cellP hb2 b8
    have HCO := Lib.hid (HCL.out w2 hb2)
    have HB2 := Lib.hid (below_self HB.out hb2)
    have HGR2 := Lib.hid (HGR.out.self hb2)
    have HC2 := Lib.hid (HC.out.self hb2)
    clear hb2 x0 x1 b6 b8 HKO
    go_wp2_with (go_at_call 52; refine HCO.out.mono ?_; rintro e w3 ⟨rfl, hb3⟩; refine Hid.out ?_)
    refine Lib.hid ?_
    have x0 := keep_cellP hb3 y0
    have b6 := keep_cellP hb3 y6
    have b8 := keep_cellP hb3 y8
    have HB3 := Lib.hid (below_self HB2.out hb3)
    have HGR3 := Lib.hid (HGR2.out.self hb3)
    have HC3 := Lib.hid (HC2.out.self hb3)
    clear hb3 y0 y1 y6 y8 HCO HGR HGR2 HC HC2 HX HG
    by_cases h2 : x.agg = 2
    · rw [h2] at x0
      clear e1
      by_cases hk2 : k = 2
      · subst hk2
        go_wp2_with (go_at_call 26; refine (HYM.out _ _ _ (by first | (simp; done) | (simp; omega))).mono ?_; rintro e w4 ⟨rfl, rfl⟩; refine Hid.out ?_)
        refine Lib.hid ?_
        cases one with
        | false =>
          have HRR : Hid (Ex.ok (CN, 2) = R) := Lib.hid (by have := HR4.out; rw [if_neg (by simp), if_neg (by simp [h2])] at this; simpa [h2] using this)
          clear HIN
          go_wp2_with fail
          go_ret2
          exact ⟨CItemP.good HRR.out, HB3.out⟩
        | true =>
          obtain ⟨m, cl, rfl, hm⟩ := HIN.out rfl
          have hml := (List.getElem?_eq_some_iff.1 hm).1
          have hmI : (m : Int) < C.length := by omega
          have HRR : Hid (Ex.ok (cl.nm, 2) = R) := Lib.hid (by have := HR4.out; rw [if_neg (by simp), if_neg (by simp [h2])] at this; simpa [hm, h2] using this)
          obtain ⟨cb, cf, rfl, k0, k1⟩ := HC3.out.at hm
          clear HIN hm k1
          go_wp2_with fail
          go_ret2
          exact ⟨CItemP.good HRR.out, HB3.out⟩
      · have e2 : (k == 2) = false := by simp [hk2]
        by_cases hk0 : k = 0
        · subst hk0
          go_wp2_with (go_at_call 26; refine (HYM.out _ _ _ (by first | (simp; done) | (simp; omega))).mono ?_; rintro e w4 ⟨rfl, rfl⟩; refine Hid.out ?_)
          refine Lib.hid ?_
          cases one with
          | false =>
            have HRR : Hid (Ex.ok (CN, 2) = R) := Lib.hid (by have := HR4.out; rw [if_neg (by simp), if_neg (by simp [h2])] at this; simpa [h2] using this)
            clear HIN
            go_wp2_with fail
            go_ret2
            exact ⟨CItemP.good HRR.out, HB3.out⟩
          | true =>
            obtain ⟨m, cl, rfl, hm⟩ := HIN.out rfl
            have hml := (List.getElem?_eq_some_iff.1 hm).1
            have hmI : (m : Int) < C.length := by omega
            have HRR : Hid (Ex.ok (cl.nm, 2) = R) := Lib.hid (by have := HR4.out; rw [if_neg (by simp), if_neg (by simp [h2])] at this; simpa [hm, h2] using this)
            obtain ⟨cb, cf, rfl, k0, k1⟩ := HC3.out.at hm
            clear HIN hm k1
            go_wp2_with fail
            go_ret2
            exact ⟨CItemP.good HRR.out, HB3.out⟩
        · have e3 : (k == 0) = false := by simp [hk0]
          have HRR : Hid (Ex.no 5 = R) := Lib.hid (by have := HR4.out; rwa [if_pos ⟨h2, by simp [hk2, hk0]⟩] at this)
          clear hk2 hk0
          go_wp2_with (go_at_call 26; refine (HNM.out _ _ _ (by first | (simp; done) | (simp; omega))).mono ?_; rintro e w4 ⟨rfl, rfl⟩; exact ⟨rfl, CItemP.bad HRR.out, HB3.out⟩)
    · have e2 : (x.agg == 2) = false := by simp [h2]
      by_cases h0 : x.agg = 0
      · cases gr with
        | false =>
          rw [h0] at x0
          clear e1 e2
          cases one with
          | false =>
            have HRR : Hid (Ex.ok (CN, k) = R) := Lib.hid (by have := HR4.out; rw [if_neg (fun h => h2 h.1), if_neg (by simp)] at this; simpa [h2] using this)
            clear HIN
            go_wp2_with fail
            go_ret2
            exact ⟨CItemP.good HRR.out, HB3.out⟩
          | true =>
            obtain ⟨m, cl, rfl, hm⟩ := HIN.out rfl
            have hml := (List.getElem?_eq_some_iff.1 hm).1
            have hmI : (m : Int) < C.length := by omega
            have HRR : Hid (Ex.ok (cl.nm, k) = R) := Lib.hid (by have := HR4.out; rw [if_neg (fun h => h2 h.1), if_neg (by simp)] at this; simpa [hm, h2] using this)
            obtain ⟨cb, cf, rfl, k0, k1⟩ := HC3.out.at hm
            clear HIN hm k1
            go_wp2_with fail
            go_ret2
            exact ⟨CItemP.good HRR.out, HB3.out⟩
        | true =>
          rw [h0] at x0
          clear e1 e2
          cases one with
          | false =>
            have HRR : Hid (Ex.no 14 = R) := Lib.hid (by have := HR4.out; rwa [if_neg (fun h => h2 h.1), if_pos ⟨h0, rfl, by simp⟩] at this)
            go_wp2_with (go_at_call 26; refine (HNM.out _ _ _ (by first | (simp; done) | (simp; omega))).mono ?_; rintro e w4 ⟨rfl, rfl⟩; exact ⟨rfl, CItemP.bad HRR.out, HB3.out⟩)
          | true =>
            obtain ⟨m, cl, rfl, hm⟩ := HIN.out rfl
            have HCT := Lib.hid (contains_any (cap := gc) (x := (m : Int)) HGR3.out (by omega))
            by_cases hmg : (m : Int) ∈ G
            · rw [decide_eq_true hmg] at HCT
              have HMG := Lib.hid hmg
              clear hmg
              go_wp2_with (go_at_call 28; refine HCT.out.mono ?_; rintro e w4 ⟨rfl, rfl⟩; refine Hid.out ?_)
              refine Lib.hid ?_
              go_wp2_with (go_at_call 26; refine (HYM.out _ _ _ (by first | (simp; done) | (simp; omega))).mono ?_; rintro e w4 ⟨rfl, rfl⟩; refine Hid.out ?_)
              refine Lib.hid ?_
              have hml := (List.getElem?_eq_some_iff.1 hm).1
              have hmI : (m : Int) < C.length := by omega
              have HRR : Hid (Ex.ok (cl.nm, k) = R) := Lib.hid (by have := HR4.out; rw [if_neg (fun h => h2 h.1), if_neg (by simp [HMG.out])] at this; simpa [hm, h2] using this)
              obtain ⟨cb, cf, rfl, k0, k1⟩ := HC3.out.at hm
              clear HIN hm k1
              go_wp2_with fail
              go_ret2
              exact ⟨CItemP.good HRR.out, HB3.out⟩
            · rw [decide_eq_false hmg] at HCT
              have HRR : Hid (Ex.no 14 = R) := Lib.hid (by have := HR4.out; rwa [if_neg (fun h => h2 h.1), if_pos ⟨h0, rfl, by simp [hmg]⟩] at this)
              clear hmg
              go_wp2_with (go_at_call 28; refine HCT.out.mono ?_; rintro e w4 ⟨rfl, rfl⟩; refine Hid.out ?_)
              refine Lib.hid ?_
              go_wp2_with (go_at_call 26; refine (HNM.out _ _ _ (by first | (simp; done) | (simp; omega))).mono ?_; rintro e w4 ⟨rfl, rfl⟩; exact ⟨rfl, CItemP.bad HRR.out, HB3.out⟩)
      · have e3 : (x.agg == 0) = false := by simp [h0]
        cases one with
        | false =>
          have HRR : Hid (Ex.ok (CN, k) = R) := Lib.hid (by have := HR4.out; rw [if_neg (fun h => h2 h.1), if_neg (fun h => h0 h.1)] at this; simpa [h2] using this)
          clear HIN
          go_wp2_with fail
          go_ret2
          exact ⟨CItemP.good HRR.out, HB3.out⟩
        | true =>
          obtain ⟨m, cl, rfl, hm⟩ := HIN.out rfl
          have hml := (List.getElem?_eq_some_iff.1 hm).1
          have hmI : (m : Int) < C.length := by omega
          have HRR : Hid (Ex.ok (cl.nm, k) = R) := Lib.hid (by have := HR4.out; rw [if_neg (fun h => h2 h.1), if_neg (fun h => h0 h.1)] at this; simpa [hm, h2] using this)
          obtain ⟨cb, cf, rfl, k0, k1⟩ := HC3.out.at hm
          clear HIN hm k1
          go_wp2_with fail
          go_ret2
          exact ⟨CItemP.good HRR.out, HB3.out⟩
end Go.Proofs.YtgjfbbmachoolaaGreatDoor.lx
