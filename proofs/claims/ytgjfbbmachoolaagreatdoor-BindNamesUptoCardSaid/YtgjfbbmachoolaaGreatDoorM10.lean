/-
  Whether an expression is one (parse.Right). Conditions: the package-level variables are laid; the steps lie there, their texts are no great ones. Whether a query is right (parse.item, parse.Check). Conditions: the package-level variables are laid; the query lies there, its texts are no great ones. What bind computes, as a law on data: plain Lean, no program in sight.
-/
import Derived.Test.YtgjfbbmachoolaaGreatDoorM09
import Derived.Deep.DeepCutAuto
import Derived.Lib.CutLaws
import Derived.Lib.ItoaNum
namespace Go.Proofs.YtgjfbbmachoolaaGreatDoor.lx
open Go.RowKit Go.Shelf
attribute [local go_sem] Oper.semAt_some

/-- a step of what the rest must still give: none: it is refused -/
def rstep (L : List Stp) (m : Option Int) (x : Nat) : Option Int :=
 m.bind fun m => if (takesR (stpAt L x)).2 = true ∧ ¬ m + ((takesR (stpAt L x)).1 - 1) < 0 ∧ ¬ (m + ((takesR (stpAt L x)).1 - 1) = 0 ∧ 0 < x) then some (m + ((takesR (stpAt L x)).1 - 1)) else none
def rrun (L : List Stp) (pre : List Nat) : Option Int := pre.foldl (rstep L) (some 1)
theorem rrun_snoc (L : List Stp) (pre : List Nat) (x : Nat) : rrun L (pre ++ [x]) = rstep L (rrun L pre) x := by simp [rrun]
def rightR (L : List Stp) : Bool :=
 if L.length = 0 ∨ 64 < L.length then false else rrun L (downL L.length L.length) == some 0
theorem takesR_range (t : Stp) : 0 ≤ (takesR t).1 ∧ (takesR t).1 ≤ 2 := by
 unfold takesR
 repeat' split
 all_goals (constructor <;> (simp only; omega))
theorem rfold_range (L : List Stp) : ∀ (pre : List Nat) (o : Option Int) (m : Int), pre.foldl (rstep L) o = some m → ∃ m0, o = some m0 ∧ (0 ≤ m0 → 0 ≤ m) ∧ m ≤ m0 + pre.length
 | [], o, m, h => ⟨m, h, id, by simp⟩
 | x :: pre, o, m, h => by
  obtain ⟨m1, h1, h2, h3⟩ := rfold_range L pre _ m h
  cases o with
  | none => cases h1
  | some m0 =>
   simp only [rstep, Option.bind_some] at h1
   have ⟨c, d⟩ := takesR_range (stpAt L x)
   split at h1
   ·
    injection h1 with h1
    refine ⟨m0, rfl, fun _ => h2 (by omega), ?_⟩
    simp only [List.length_cons]
    omega
   ·
    cases h1
theorem rrun_range {L : List Stp} {pre : List Nat} {m : Int} (h : rrun L pre = some m) : 0 ≤ m ∧ m ≤ 1 + pre.length := by
 obtain ⟨m0, h1, h2, h3⟩ := rfold_range L pre _ m h
 injection h1 with h1
 subst h1
 exact ⟨h2 (by decide), h3⟩
theorem rfold_none (L : List Stp) : ∀ b : List Nat, b.foldl (rstep L) none = none
 | [] => rfl
 | _ :: b => rfold_none L b
theorem rrun_none {L : List Stp} {a b : List Nat} (h : rrun L a = none) : rrun L (a ++ b) = none := by
 rw [rrun, List.foldl_append]
 rw [rrun] at h
 rw [h]
 exact rfold_none L b
theorem down_split {len k : Nat} (hk : k ≤ len) : ∃ b, downL len len = downL len k ++ b := by
 refine ⟨(downL len len).drop k, ?_⟩
 have : downL len k = (downL len len).take k := by
  rw [downL, downL, ← List.map_take, List.take_range, Nat.min_eq_left hk]
 rw [this, List.take_append_drop]
def StpsOk (L : List Stp) : Prop := ∀ t ∈ L, t.s.size < 4294967281 ∧ 0 ≤ t.k ∧ t.k ≤ 255
theorem StpsOk.at {L : List Stp} (h : StpsOk L) (x : Nat) : (stpAt L x).s.size < 4294967281 ∧ 0 ≤ (stpAt L x).k ∧ (stpAt L x).k ≤ 255 := by
 unfold stpAt
 rw [List.getD_eq_getElem?_getD]
 cases hx : L[x]? with
 | none => exact ⟨by decide, by decide, by decide⟩
 | some t => exact h t (List.mem_of_getElem? hx)

theorem results_bool {fn : Func} {p : Tmp} (hf : fn.results = #[.cell p 4]) {tmps : Array Value} {B : Nat} {b : Bool} {w : World} (hc : w.cell? ⟨B, 0, none⟩ = some (.bool b)) (hq : tmps.getD p undef = .pointer (some ⟨B, 0, none⟩)) :
  (results fn tmps).run Tryz.prog w = .ok (.bool b) w := by
 simp [results, hf, go_sem]
 rw [show tmps[p]?.getD undef = tmps.getD p undef by simp, hq]
 simp [go_sem, hc]

set_option maxHeartbeats 2000000 in
set_option maxRecDepth 100000 in
theorem right_any {ao : Option Addr} {cap : Nat} {L : List Stp} {w : World} (hG : PGlob w) (hR : StpRow ao L w) (hok : StpsOk L) (hlen : L.length ≤ 9223372036854775807) :
  Calls Tryz.prog 43 #[.slice ao L.length cap] w fun e w' => e = .returned (.bool (rightR L)) ∧ Below w.heap.size w w' := by
 unfold rightR
 by_cases h0 : L.length = 0
 ·
  rw [if_pos (.inl h0)]
  rw [h0]
  clear hR hok h0
  go_enter Tryz.func43, Tryz.ntmps43
  go_wp2_with fail
  refine bodyPost_ret (v := .bool false) (by simp [results, Tryz.results43, go_sem]) rfl ⟨rfl, ?_⟩
  exact (Below.refl _ _).alloc (Nat.le_refl _) _
 by_cases h64 : 64 < L.length
 ·
  rw [if_pos (.inr h64)]
  have e0 : ((L.length : Int) == 0) = false := beq_eq_false_iff_ne.2 (by omega)
  have h64I : (64 : Int) < L.length := by omega
  clear hR hok h0
  go_enter Tryz.func43, Tryz.ntmps43
  go_wp2_with fail
  refine bodyPost_ret (v := .bool false) (by simp [results, Tryz.results43, go_sem]) rfl ⟨rfl, ?_⟩
  exact (Below.refl _ _).alloc (Nat.le_refl _) _
 rw [if_neg (by omega)]
 have e0 : ((L.length : Int) == 0) = false := beq_eq_false_iff_ne.2 (by omega)
 have h64I : ¬ (64 : Int) < L.length := by omega
 refine (callsIn_wide (n := 3)).1 ?_
 refine callsIn_of_wp_marks Tryz.func43 rfl trivial ?_ rfl
 simp only [Tryz.ntmps43, List.size_toArray, List.length_cons, List.length_nil, Nat.reduceAdd, Nat.reduceSub, Array.replicate_succ, Array.replicate_zero, List.push_toArray, List.append_toArray, List.nil_append, List.cons_append]
 gi_wp2_with (refine ⟨trivial, ?_⟩; gi_at_call 68; refine (back_in Fence.wide 2 trivial rfl _ _ _ _).mono ?_; rintro e w' ⟨rfl, rfl⟩)
 have bR := Boxed.new w 4 (.bool false)
 have bN := Boxed.new (w.alloc (.cells #[.bool false] 4)) 3 (.int .i64 1)
 have bS := Boxed.new ((w.alloc (.cells #[.bool false] 4)).alloc (.cells #[.int .i64 1] 3)) 23 (.slice ao L.length cap)
 rw [World.size_alloc] at bN
 rw [World.size_alloc, World.size_alloc] at bS
 have hB0 : Below w.heap.size w (((w.alloc (.cells #[.bool false] 4)).alloc (.cells #[.int .i64 1] 3)).alloc (.cells #[.slice ao L.length cap] 23)) :=
  (((Below.refl _ w).alloc (Nat.le_refl _) _).alloc (by simp) _).alloc (by simp; omega) _
 have hsz : (((w.alloc (.cells #[.bool false] 4)).alloc (.cells #[.int .i64 1] 3)).alloc (.cells #[.slice ao L.length cap] 23)).heap.size = w.heap.size + 3 := by simp
 have hR0 := hR.self hB0
 have bR0 := ((bR.alloc (.cells #[.int .i64 1] 3)).alloc (.cells #[.slice ao L.length cap] 23))
 have bN0 := (bN.alloc (.cells #[.slice ao L.length cap] 23))
 obtain ⟨W0, hW0⟩ : ∃ W0, ((w.alloc (.cells #[.bool false] 4)).alloc (.cells #[.int .i64 1] 3)).alloc (.cells #[.slice ao L.length cap] 23) = W0 := ⟨_, rfl⟩
 rw [hW0] at hB0 hsz hR0 bR0 bN0 bS ⊢
 have hlen64 : L.length ≤ 64 := by omega
 refine wpIn_rangeFunc_ownH (w0 := W0) (N := L.length) rfl (by decide) (gf := 97) (lb := #[.pointer (some ⟨w.heap.size + 1 + 1, 0, none⟩)]) rfl trivial (enters_of Tryz.func97 (by kernel_rfl) rfl)
  (back_stops Fence.wide 2 trivial rfl (by decide) (w.heap.size + 2) w.heap.size ao cap L (by omega) W0 (by omega) bS hR0 hR.lt) (fun h k => h.trans k) (KpB.put (by omega)) (Below.refl _ _) (fun _ => rfl)
  (fun pre W => (∃ m, rrun L pre = some m ∧ Boxed W (w.heap.size + 1) 3 (.int .i64 m) ∧ Boxed W w.heap.size 4 (.bool false) ∧ Boxed W (w.heap.size + 2) 23 (.slice ao L.length cap)) ∧ Below w.heap.size w W)
  (fun c pre W => (c = .ret ∧ rrun L pre = none ∧ Boxed W w.heap.size 4 (.bool false)) ∧ Below w.heap.size w W)
  (OwnFrom.and (Own.from (fun s A B row hs hg hr => by
   obtain ⟨m, e, h1, h2, h3⟩ := hs
   exact ⟨m, e, boxed_own _ _ (fun (_ : Unit) => _) () A B row h1 hg hr, boxed_own _ _ (fun (_ : Unit) => _) () A B row h2 hg hr, boxed_own _ _ (fun (_ : Unit) => _) () A B row h3 hg hr⟩) _) (ownFrom_below (Nat.le_refl _) (by omega)))
  (fun c => OwnFrom.and (Own.from (fun s A B row hs hg hr => ⟨hs.1, hs.2.1, boxed_own _ _ (fun (_ : Unit) => _) () A B row hs.2.2 hg hr⟩) _) (ownFrom_below (Nat.le_refl _) (by omega)))
  ⟨⟨1, rfl, bN0, bR0, bS⟩, hB0⟩
  (fun x a' W => ∃ Bx, w.heap.size + 2 < Bx ∧ W.heap[Bx]? = some (.cells #[.int .u8 (stpAt L x).k, .string (stpAt L x).s, .int .i64 (stpAt L x).n] 50 (0, 0)) ∧
   a' = { tmps := #[.slice ao L.length cap, undef, .pointer (some ⟨w.heap.size, 0, none⟩), .pointer (some ⟨w.heap.size + 1, 0, none⟩), .int .i64 (x : Int), .pointer (some ⟨Bx, 0, none⟩), undef, undef,
     .slice ao L.length cap, .int .i64 L.length, .bool false, .bool false, .slice ao L.length cap, .int .i64 L.length, .bool false, .bool false, .slice ao L.length cap,
     .func (.func 97) #[] #[.pointer (some ⟨w.heap.size + 1 + 1, 0, none⟩)], .int .i64 (x : Int), .agg #[.int .u8 (stpAt L x).k, .string (stpAt L x).s, .int .i64 (stpAt L x).n],
     undef, undef, undef, undef, undef, undef, undef, undef, undef, undef, undef, undef, undef, undef, undef, undef, undef, undef, undef, undef, undef, undef, undef, undef, undef], defers := [] })
  ?hAx ?assign ?body ?done ?stop
 case hAx =>
  intro x a'
  refine Own.from (fun s A B row hs hg hr => ?_) _
  obtain ⟨Bx, h1, h2, h3⟩ := hs
  exact ⟨Bx, h1, (grownBy_keeps_cells hg hr h2 rfl).trans h2, h3⟩
 case assign =>
  rintro l pre x W K ⟨⟨m, hm, b1, b2, b3⟩, hB⟩ hK
  have hBw := hB.size
  have hN := b3.lt
  gi_wp2
  exact hK _ _ ((KeepsOthers.alloc _ _).from _) ⟨(Below.refl _ W).alloc (by omega) _, fun v hv => hv.alloc _⟩ ⟨⟨m, hm, b1.alloc _, b2.alloc _, b3.alloc _⟩, hB.alloc hB.size _⟩ ⟨W.heap.size, by omega, heap_alloc_new _ _, rfl⟩
 case body =>
  rintro l pre x a' W hl ⟨r, hr⟩ ⟨⟨m, hm, b1, b2, b3⟩, hB⟩ ⟨Bx, hBx, bX, rfl⟩ hlt
  have hBw := hB.size
  have hN := b3.lt
  have hX := (Array.getElem?_eq_some_iff.1 bX).1
  have ⟨hm0, hm1⟩ := rrun_range hm
  have hG1 := hG.self hB
  obtain ⟨o1, o2, o3⟩ := hok.at x
  have ⟨hk0, hk2⟩ := takesR_range (stpAt L x)
  have hsn : rrun L (pre ++ [x]) = rstep L (some m) x := by rw [rrun_snoc, hm]
  unfold rstep at hsn
  simp only [Option.bind_some] at hsn
  have ht := takes_any (stpAt L x) W hG1 o1 ⟨o2, o3⟩
  unfold Stp.v at ht
  have x0 : W.cell? ⟨Bx, 0, none⟩ = some (.int .u8 (stpAt L x).k) := by rw [Lib.cell_of_heap bX]; rfl
  have x1 : W.cell? ⟨Bx, 1, none⟩ = some (.string (stpAt L x).s) := by rw [Lib.cell_of_heap bX]; rfl
  have x2 : W.cell? ⟨Bx, 2, none⟩ = some (.int .i64 (stpAt L x).n) := by rw [Lib.cell_of_heap bX]; rfl
  have HT := Lib.hid ht
  have HSN := Lib.hid hsn
  have HM := Lib.hid hm
  have HK : Hid (∀ W2, Below W.heap.size W W2 → KeepsFrom W0.heap.size W W2) := Lib.hid fun W2 hb => ⟨hb.size, fun k o _ hk _ => (hb.block k (Array.getElem?_eq_some_iff.1 hk).1).trans hk⟩
  have hrl := (Array.getElem?_eq_some_iff.1 hr).1
  clear hsn hm ht
  generalize (takesR (stpAt L x)).1 = k at *
  generalize (takesR (stpAt L x)).2 = ok at *
  cases ok with
  | false =>
   have HSN2 : Hid (rrun L (pre ++ [x]) = none) := Lib.hid (HSN.out.trans (if_neg (by simp)))
   gi_wp2_with (refine ⟨trivial, ?_⟩; gi_at_call 69; refine (CallsIn.inRound l (callsIn_wide.2 HT.out)).mono ?_; rintro e w2 ⟨rfl, hb2⟩; refine Hid.out ?_)
   refine Lib.hid ?_
   have hBW2 := below_then hB hBw hb2
   have bN2 : Boxed w2 (w.heap.size + 1) 3 (.int .i64 m) := (hb2.block _ b1.lt).trans b1
   have bR2 : Boxed w2 w.heap.size 4 (.bool false) := (hb2.block _ b2.lt).trans b2
   have bS2 : Boxed w2 (w.heap.size + 2) 23 (.slice ao L.length cap) := (hb2.block _ b3.lt).trans b3
   have n1 := bN2.cell
   have n2 := bN2.frozen
   have r1 := bR2.cell
   have r2 := bR2.frozen
   have hK2 := Lib.hid (HK.out _ hb2)
   have hKp : Hid (KpB w.heap.size (w.heap.size + 2) W w2) := Lib.hid ⟨hb2.mono hBw, fun v hv => (hb2.block _ hv.lt).trans hv⟩
   clear hb2 x0 x1 x2
   gi_wp2
   exact ⟨((hK2.out.trans ((KeepsOthers.setCell _ _ _).from _)).trans ((KeepsOthers.setCell _ _ _).from _)), ⟨rfl, HSN2.out, ((bR2.other (by omega) _).set _)⟩, (hBW2.setCell (p := ⟨_, _, none⟩) (by show w.heap.size ≤ w.heap.size + 1; omega) _).setCell (p := ⟨_, _, none⟩) (Nat.le_refl _) _⟩
  | true =>
   by_cases hneg : m + (k - 1) < 0
   ·
    have HSN2 : Hid (rrun L (pre ++ [x]) = none) := Lib.hid (HSN.out.trans (if_neg (by simp; omega)))
    gi_wp2_with (refine ⟨trivial, ?_⟩; gi_at_call 69; refine (CallsIn.inRound l (callsIn_wide.2 HT.out)).mono ?_; rintro e w2 ⟨rfl, hb2⟩; refine Hid.out ?_)
    refine Lib.hid ?_
    have hBW2 := below_then hB hBw hb2
    have bN2 : Boxed w2 (w.heap.size + 1) 3 (.int .i64 m) := (hb2.block _ b1.lt).trans b1
    have bR2 : Boxed w2 w.heap.size 4 (.bool false) := (hb2.block _ b2.lt).trans b2
    have bS2 : Boxed w2 (w.heap.size + 2) 23 (.slice ao L.length cap) := (hb2.block _ b3.lt).trans b3
    have n1 := bN2.cell
    have n2 := bN2.frozen
    have r1 := bR2.cell
    have r2 := bR2.frozen
    have hK2 := Lib.hid (HK.out _ hb2)
    have hKp : Hid (KpB w.heap.size (w.heap.size + 2) W w2) := Lib.hid ⟨hb2.mono hBw, fun v hv => (hb2.block _ hv.lt).trans hv⟩
    clear hb2 x0 x1 x2
    gi_wp2
    exact ⟨((hK2.out.trans ((KeepsOthers.setCell _ _ _).from _)).trans ((KeepsOthers.setCell _ _ _).from _)), ⟨rfl, HSN2.out, ((bR2.other (by omega) _).set _)⟩, (hBW2.setCell (p := ⟨_, _, none⟩) (by show w.heap.size ≤ w.heap.size + 1; omega) _).setCell (p := ⟨_, _, none⟩) (Nat.le_refl _) _⟩
   ·
    cases hz : (m + (k - 1) == 0) with
    | true =>
     by_cases hx : (x : Int) > 0
     ·
      have HSN2 : Hid (rrun L (pre ++ [x]) = none) := Lib.hid (HSN.out.trans (if_neg (by have := beq_iff_eq.1 hz; simp; omega)))
      gi_wp2_with (refine ⟨trivial, ?_⟩; gi_at_call 69; refine (CallsIn.inRound l (callsIn_wide.2 HT.out)).mono ?_; rintro e w2 ⟨rfl, hb2⟩; refine Hid.out ?_)
      refine Lib.hid ?_
      have hBW2 := below_then hB hBw hb2
      have bN2 : Boxed w2 (w.heap.size + 1) 3 (.int .i64 m) := (hb2.block _ b1.lt).trans b1
      have bR2 : Boxed w2 w.heap.size 4 (.bool false) := (hb2.block _ b2.lt).trans b2
      have bS2 : Boxed w2 (w.heap.size + 2) 23 (.slice ao L.length cap) := (hb2.block _ b3.lt).trans b3
      have n1 := bN2.cell
      have n2 := bN2.frozen
      have r1 := bR2.cell
      have r2 := bR2.frozen
      have hK2 := Lib.hid (HK.out _ hb2)
      have hKp : Hid (KpB w.heap.size (w.heap.size + 2) W w2) := Lib.hid ⟨hb2.mono hBw, fun v hv => (hb2.block _ hv.lt).trans hv⟩
      clear hb2 x0 x1 x2
      gi_wp2
      exact ⟨((hK2.out.trans ((KeepsOthers.setCell _ _ _).from _)).trans ((KeepsOthers.setCell _ _ _).from _)), ⟨rfl, HSN2.out, ((bR2.other (by omega) _).set _)⟩, (hBW2.setCell (p := ⟨_, _, none⟩) (by show w.heap.size ≤ w.heap.size + 1; omega) _).setCell (p := ⟨_, _, none⟩) (Nat.le_refl _) _⟩
     ·
      have HSN2 : Hid (rrun L (pre ++ [x]) = some (m + (k - 1))) := Lib.hid (HSN.out.trans (if_pos (by have := beq_iff_eq.1 hz; simp; omega)))
      gi_wp2_with (refine ⟨trivial, ?_⟩; gi_at_call 69; refine (CallsIn.inRound l (callsIn_wide.2 HT.out)).mono ?_; rintro e w2 ⟨rfl, hb2⟩; refine Hid.out ?_)
      refine Lib.hid ?_
      have hBW2 := below_then hB hBw hb2
      have bN2 : Boxed w2 (w.heap.size + 1) 3 (.int .i64 m) := (hb2.block _ b1.lt).trans b1
      have bR2 : Boxed w2 w.heap.size 4 (.bool false) := (hb2.block _ b2.lt).trans b2
      have bS2 : Boxed w2 (w.heap.size + 2) 23 (.slice ao L.length cap) := (hb2.block _ b3.lt).trans b3
      have n1 := bN2.cell
      have n2 := bN2.frozen
      have r1 := bR2.cell
      have r2 := bR2.frozen
      have hK2 := Lib.hid (HK.out _ hb2)
      have hKp : Hid (KpB w.heap.size (w.heap.size + 2) W w2) := Lib.hid ⟨hb2.mono hBw, fun v hv => (hb2.block _ hv.lt).trans hv⟩
      clear hb2 x0 x1 x2
      gi_wp2
      exact ⟨hK2.out.trans ((KeepsOthers.setCell _ _ _).from _), ⟨hKp.out.1.setCell (p := ⟨_, _, none⟩) (by show w.heap.size ≤ w.heap.size + 1; omega) _, fun v hv => (hKp.out.2 v hv).other (by omega) _⟩, ⟨⟨_, HSN2.out, bN2.set _, bR2.other (by omega) _, bS2.other (by omega) _⟩, hBW2.setCell (p := ⟨_, _, none⟩) (by show w.heap.size ≤ w.heap.size + 1; omega) _⟩⟩
    | false =>
     have HSN2 : Hid (rrun L (pre ++ [x]) = some (m + (k - 1))) := Lib.hid (HSN.out.trans (if_pos (by have := beq_eq_false_iff_ne.1 hz; simp; omega)))
     gi_wp2_with (refine ⟨trivial, ?_⟩; gi_at_call 69; refine (CallsIn.inRound l (callsIn_wide.2 HT.out)).mono ?_; rintro e w2 ⟨rfl, hb2⟩; refine Hid.out ?_)
     refine Lib.hid ?_
     have hBW2 := below_then hB hBw hb2
     have bN2 : Boxed w2 (w.heap.size + 1) 3 (.int .i64 m) := (hb2.block _ b1.lt).trans b1
     have bR2 : Boxed w2 w.heap.size 4 (.bool false) := (hb2.block _ b2.lt).trans b2
     have bS2 : Boxed w2 (w.heap.size + 2) 23 (.slice ao L.length cap) := (hb2.block _ b3.lt).trans b3
     have n1 := bN2.cell
     have n2 := bN2.frozen
     have r1 := bR2.cell
     have r2 := bR2.frozen
     have hK2 := Lib.hid (HK.out _ hb2)
     have hKp : Hid (KpB w.heap.size (w.heap.size + 2) W w2) := Lib.hid ⟨hb2.mono hBw, fun v hv => (hb2.block _ hv.lt).trans hv⟩
     clear hb2 x0 x1 x2
     gi_wp2
     exact ⟨hK2.out.trans ((KeepsOthers.setCell _ _ _).from _), ⟨hKp.out.1.setCell (p := ⟨_, _, none⟩) (by show w.heap.size ≤ w.heap.size + 1; omega) _, fun v hv => (hKp.out.2 v hv).other (by omega) _⟩, ⟨⟨_, HSN2.out, bN2.set _, bR2.other (by omega) _, bS2.other (by omega) _⟩, hBW2.setCell (p := ⟨_, _, none⟩) (by show w.heap.size ≤ w.heap.size + 1; omega) _⟩⟩
 case done =>
  rintro D ys W hD rfl ⟨⟨m, hm, b1, b2, b3⟩, hB⟩ hK
  have c1 := b1.cell
  have c2 := b2.cell
  have f2 := b2.frozen
  have HM := Lib.hid hm
  have hlt := b1.lt
  clear hm
  gi_wp2
  have bF : Boxed (W.setCell ⟨w.heap.size, 0, none⟩ (.bool (m == 0))) w.heap.size 4 (.bool (m == 0)) := b2.set _
  have hK2 := (KeepsOthers.setCell W ⟨w.heap.size, 0, none⟩ (.bool (m == 0))).same D _ hK rfl
  refine ⟨by simp, .inl ⟨_, _, rfl, run_takeDeferred hK2, ?_⟩⟩
  refine ⟨_, results_bool rfl (cell_kept bF.cell (grownBy_putObj' _ D (.deferred none)) (fun r e => by cases e; exact ⟨_, hK2, rfl⟩)) rfl, ?_, ?_⟩
  ·
   rw [HM.out]; exact ret_bool (by simp)
  ·
   exact (hB.setCell (p := ⟨_, _, none⟩) (Nat.le_refl _) _).trans (belowK_b (w := w) (Nat.le_refl _) _ D _ _ (by omega) hK2 rfl rfl)
 case stop =>
  rintro D c pre W hD ⟨k, hk, rfl⟩ ⟨⟨rfl, hn, b2⟩, hB⟩ hK
  have c2 := b2.cell
  obtain ⟨bx, hbx⟩ := down_split hk
  have HN : Hid (rrun L (downL L.length L.length) = none) := Lib.hid (by rw [hbx]; exact rrun_none hn)
  clear hn hbx
  gi_wp2
  refine ⟨by simp, .inl ⟨_, _, rfl, run_takeDeferred hK, ?_⟩⟩
  refine ⟨_, results_bool rfl (cell_kept b2.cell (grownBy_putObj' _ D (.deferred none)) (fun r e => by cases e; exact ⟨_, hK, rfl⟩)) rfl, ?_, ?_⟩
  ·
   rw [HN.out]; rfl
  ·
   exact hB.trans (belowK_b (w := w) (Nat.le_refl _) _ D _ _ (by omega) hK rfl rfl)
end Go.Proofs.YtgjfbbmachoolaaGreatDoor.lx
namespace Go.Proofs.YtgjfbbmachoolaaGreatDoor.lx
open Go.RowKit

/-- rows of items, of texts, that can be read -/
def ItmRow (ao : Option Addr) (L : List Itm) (w : World) : Prop :=
 L.length = 0 ∨ ∃ b o, ao = some ⟨b, o, none⟩ ∧ ∀ (i : Nat) it, L[i]? = some it → ∃ eo ecap, w.cell? ⟨b, o + i * 2, none⟩ = some (.int .u8 it.agg) ∧ w.cell? ⟨b, o + i * 2 + 1, none⟩ = some (.slice eo it.e.length ecap) ∧ StpRow eo it.e w
def TxtRow (ao : Option Addr) (L : List ByteArray) (w : World) : Prop :=
 L.length = 0 ∨ ∃ b o, ao = some ⟨b, o, none⟩ ∧ ∀ (i : Nat) s, L[i]? = some s → w.cell? ⟨b, o + i, none⟩ = some (.string s)
theorem ItmRow.self {ao : Option Addr} {L : List Itm} {w w' : World} (h : ItmRow ao L w) (hb : Below w.heap.size w w') : ItmRow ao L w' := by
 rcases h with h | ⟨b, o, h1, h2⟩
 ·
  exact .inl h
 ·
  refine .inr ⟨b, o, h1, fun i it hi => ?_⟩
  obtain ⟨eo, ec, c0, c1, c2⟩ := h2 i it hi
  exact ⟨eo, ec, keep_cellP hb c0, keep_cellP hb c1, c2.self hb⟩
theorem TxtRow.self {ao : Option Addr} {L : List ByteArray} {w w' : World} (h : TxtRow ao L w) (hb : Below w.heap.size w w') : TxtRow ao L w' := by
 rcases h with h | ⟨b, o, h1, h2⟩
 ·
  exact .inl h
 ·
  exact .inr ⟨b, o, h1, fun i s hi => keep_cellP hb (h2 i s hi)⟩
structure ItmOk (it : Itm) : Prop where
 e : StpsOk it.e
 len : it.e.length ≤ 9223372036854775807
 lo : 0 ≤ it.agg
 hi : it.agg ≤ 255
def itemOkR (it : Itm) : Bool := if it.agg = 1 then decide (it.e.length = 0) else decide (it.agg < 5) && rightR it.e

set_option maxHeartbeats 2000000 in
set_option maxRecDepth 100000 in
theorem pitem_any {it : Itm} {eo : Option Addr} {ecap : Nat} {w : World} (hG : PGlob w) (hR : StpRow eo it.e w) (hok : ItmOk it) :
  Calls Tryz.prog 44 #[.agg #[.int .u8 it.agg, .slice eo it.e.length ecap]] w fun e w' => e = .returned (.bool (itemOkR it)) ∧ Below w.heap.size w w' := by
 have hbV := (Below.refl w.heap.size w).alloc (Nat.le_refl _) (.cells #[.int .u8 it.agg, .slice eo it.e.length ecap] 40)
 have HB := Lib.hid hbV
 have HRI := Lib.hid (right_any (cap := ecap) (hG.self hbV) (hR.self hbV) hok.e hok.len)
 have hlo := hok.lo
 have hhi := hok.hi
 clear hG hR hok hbV
 unfold itemOkR
 obtain ⟨a, L⟩ := it
 simp only at *
 by_cases h1 : a = 1
 ·
  subst h1
  rw [if_pos rfl]
  by_cases h0 : L.length = 0
  ·
   have e0 : ((L.length : Int) == 0) = true := beq_iff_eq.2 (by omega)
   rw [decide_eq_true h0]
   clear h0
   go_enter Tryz.func44, Tryz.ntmps44
   go_wp2_with fail
   go_ret
   exact ⟨rfl, HB.out⟩
  ·
   have e0 : ((L.length : Int) == 0) = false := beq_eq_false_iff_ne.2 (by omega)
   rw [decide_eq_false h0]
   clear h0
   go_enter Tryz.func44, Tryz.ntmps44
   go_wp2_with fail
   go_ret
   exact ⟨rfl, HB.out⟩
 ·
  rw [if_neg h1]
  have e1 : (a == 1) = false := beq_eq_false_iff_ne.2 h1
  by_cases h5 : a < 5
  ·
   rw [decide_eq_true h5, Bool.true_and]
   clear h1
   go_enter Tryz.func44, Tryz.ntmps44
   go_wp2_with (go_at_call 43; refine HRI.out.mono ?_; rintro e w2 ⟨rfl, hb2⟩; refine Hid.out ?_)
   refine Lib.hid ?_
   go_wp2_with fail
   go_ret
   exact ⟨rfl, below_self HB.out hb2⟩
  ·
   rw [decide_eq_false h5, Bool.false_and]
   clear h1
   go_enter Tryz.func44, Tryz.ntmps44
   go_wp2_with fail
   go_ret
   exact ⟨rfl, HB.out⟩

/-- a query that can be read -/
structure QryIn (q : Qry) (io wo go : Option Addr) (w : World) : Prop where
 items : ItmRow io q.items w
 wher : StpRow wo q.wher w
 group : TxtRow go q.group w
theorem QryIn.self {q : Qry} {io wo go : Option Addr} {w w' : World} (h : QryIn q io wo go w) (hb : Below w.heap.size w w') : QryIn q io wo go w' := ⟨h.items.self hb, h.wher.self hb, h.group.self hb⟩
/-- .. whose texts are no great ones -/
structure QryOk (q : Qry) : Prop where
 items : ∀ it ∈ q.items, ItmOk it
 ilen : q.items.length ≤ 9223372036854775807
 wher : StpsOk q.wher
 wlen : q.wher.length ≤ 9223372036854775807
 group : ∀ s ∈ q.group, s.size < 4294967281
 glen : q.group.length ≤ 9223372036854775807
 table : q.table.size < 4294967281
 join : q.join.size < 4294967281
 left : q.left.size < 4294967281
 right : q.right.size < 4294967281
def singleR (q : Qry) : Bool := emptyS q.join && emptyS q.left && emptyS q.right
def doubleR (q : Qry) : Bool := !(q.join.toList == q.table.toList) && nameR q.join && columnR q.left && columnR q.right
def frontR (q : Qry) : Bool := nameR q.table && (singleR q || doubleR q) && (decide (q.wher.length = 0) || rightR q.wher)
def okR (q : Qry) : Bool := frontR q && q.items.all itemOkR && q.group.all fun g => columnR g && decide (0 < q.items.length)
def checkR (q : Qry) : Int := if okR q = false ∨ 8 < q.items.length ∨ 8 < q.group.length then 13 else 0

set_option maxHeartbeats 4000000 in
set_option maxRecDepth 100000 in
theorem check_any {q : Qry} {io wo go : Option Addr} {icap wcap gcap : Nat} {w : World} (hG : PGlob w) (hR : QryIn q io wo go w) (hok : QryOk q) :
  Calls Tryz.prog 22 #[.agg #[.slice io q.items.length icap, .string q.table, .string q.join, .string q.left, .string q.right, .slice wo q.wher.length wcap, .slice go q.group.length gcap]] w fun e w' => e = .returned (.int .i64 (checkR q)) ∧ Below w.heap.size w w' := by
 have hbV := (Below.refl w.heap.size w).alloc (Nat.le_refl _) (.cells #[.slice io q.items.length icap, .string q.table, .string q.join, .string q.left, .string q.right, .slice wo q.wher.length wcap, .slice go q.group.length gcap] 26)
 have hn := heap_alloc_new w (.cells #[.slice io q.items.length icap, .string q.table, .string q.join, .string q.left, .string q.right, .slice wo q.wher.length wcap, .slice go q.group.length gcap] 26)
 have HB := Lib.hid hbV
 have HG := Lib.hid (hG.self hbV)
 have HR := Lib.hid (hR.self hbV)
 have HOK := Lib.hid hok
 clear hG hR hok hbV
 go_enter Tryz.func22, Tryz.ntmps22
 go_upto_region 1 with fail
 generalize w.alloc (.cells #[.slice io q.items.length icap, .string q.table, .string q.join, .string q.left, .string q.right, .slice wo q.wher.length wcap, .slice go q.group.length gcap] 26) = W1 at *
 have hcl : ∀ (j : Nat) v, #[Value.slice io q.items.length icap, .string q.table, .string q.join, .string q.left, .string q.right, .slice wo q.wher.length wcap, .slice go q.group.length gcap][j]? = some v → W1.cell? ⟨w.heap.size, j, none⟩ = some v := fun j v h => by rw [Lib.cell_of_heap hn]; exact h
 have k0 := hcl 0 _ rfl
 have k1 := hcl 1 _ rfl
 have k2 := hcl 2 _ rfl
 have k3 := hcl 3 _ rfl
 have k4 := hcl 4 _ rfl
 have k5 := hcl 5 _ rfl
 have k6 := hcl 6 _ rfl
 clear hcl
 go_cut [3] (fun v wx => v = .bool (singleR q) ∧ wx = W1)
 case first =>
  cases s2 : q.join.toList.isEmpty <;> cases s3 : q.left.toList.isEmpty
  all_goals
   go_wp2_with fail
   go_meet
   exact ⟨congrArg Value.bool (by rw [singleR, emptyS, emptyS, emptyS, s2, s3]; rfl), rfl⟩
 case rest =>
 obtain ⟨rfl, rfl⟩ := hcut
 have HNJ := Lib.hid fun w (hG : PGlob w) => name_any q.join w hG.glob (by have := HOK.out.join; omega)
 have HCL := Lib.hid fun w (hG : PGlob w) => column_any q.left w hG HOK.out.left
 have HCR := Lib.hid fun w (hG : PGlob w) => column_any q.right w hG HOK.out.right
 have HNT := Lib.hid fun w (hG : PGlob w) => name_any q.table w hG.glob (by have := HOK.out.table; omega)
 have HRW := Lib.hid fun w (hG : PGlob w) (hR : QryIn q io wo go w) => right_any (cap := wcap) hG hR.wher HOK.out.wher HOK.out.wlen
 obtain ⟨D, hD⟩ : ∃ D, doubleR q = D := ⟨_, rfl⟩
 have HD := Lib.hid hD
 clear hD
 generalize hW1 : wc = W1 at *
 go_upto_region 2 with fail
 go_cut [4] (fun v wx => v = .bool D ∧ Below W1.heap.size W1 wx)
 case first =>
  have HD2 := HD.out
  unfold doubleR at HD2
  generalize nameR q.join = bn at *
  generalize columnR q.left = bl at *
  generalize columnR q.right = br at *
  cases hne : (q.join.toList == q.table.toList) with
  | true =>
   rw [hne] at HD2
   subst HD2
   go_wp2_with fail
   go_meet
   exact ⟨rfl, Below.refl _ _⟩
  | false =>
   rw [hne] at HD2
   have HD := Lib.hid HD2
   clear HD2
   cases bn with
   | false =>
    go_wp2_with (go_at_call 41; refine (HNJ.out _ HG.out).mono ?_; rintro e w2 ⟨rfl, hb2⟩; refine Hid.out ?_)
    refine Lib.hid ?_
    go_wp2_with fail
    go_meet
    exact ⟨congrArg Value.bool HD.out, hb2⟩
   | true =>
    go_wp2_with (go_at_call 41; refine (HNJ.out _ HG.out).mono ?_; rintro e w2 ⟨rfl, hb2⟩; refine Hid.out ?_)
    refine Lib.hid ?_
    have m3 := keep_cellP hb2 k3
    have m4 := keep_cellP hb2 k4
    have HG2 := Lib.hid (HG.out.self hb2)
    cases bl with
    | false =>
     go_wp2_with (go_at_call 42; refine (HCL.out _ HG2.out).mono ?_; rintro e w3 ⟨rfl, hb3⟩; refine Hid.out ?_)
     refine Lib.hid ?_
     go_wp2_with fail
     go_meet
     exact ⟨congrArg Value.bool HD.out, below_self hb2 hb3⟩
    | true =>
     go_wp2_with (go_at_call 42; refine (HCL.out _ HG2.out).mono ?_; rintro e w3 ⟨rfl, hb3⟩; refine Hid.out ?_)
     refine Lib.hid ?_
     have n4 := keep_cellP hb3 m4
     have HG3 := Lib.hid (HG2.out.self hb3)
     go_wp2_with (go_at_call 42; refine (HCR.out _ HG3.out).mono ?_; rintro e w4 ⟨rfl, hb4⟩; refine Hid.out ?_)
     refine Lib.hid ?_
     go_wp2_with fail
     go_meet
     exact ⟨congrArg Value.bool HD.out, below_self (below_self hb2 hb3) hb4⟩
 case rest =>
 obtain ⟨rfl, hbc⟩ := hcut
 have c0 := keep_cellP hbc k0
 have c1 := keep_cellP hbc k1
 have c5 := keep_cellP hbc k5
 have c6 := keep_cellP hbc k6
 have HG2 := Lib.hid (HG.out.self hbc)
 have HR2 := Lib.hid (HR.out.self hbc)
 have HB2 := Lib.hid (below_self HB.out hbc)
 clear hbc k0 k1 k2 k3 k4 k5 k6 HNJ HCL HCR HB HG HR hn hW1
 obtain ⟨Fr, hF⟩ : ∃ Fr, frontR q = Fr := ⟨_, rfl⟩
 have HF : Hid ((nameR q.table && (singleR q || D) && (decide (q.wher.length = 0) || rightR q.wher)) = Fr) := Lib.hid (by rw [← hF, frontR, HD.out])
 generalize hS : singleR q = S at *
 generalize hW2 : wc = W2 at *
 go_upto_region 3 with fail
 go_cut [5] (fun v wx => v = .bool Fr ∧ Below W2.heap.size W2 wx)
 case first =>
  generalize nameR q.table = bt at *
  cases bt
  ·
   go_wp2_with (go_at_call 41; refine (HNT.out _ HG2.out).mono ?_; rintro e w2 ⟨rfl, hb2⟩; refine Hid.out ?_)
   refine Lib.hid ?_
   go_wp2_with fail
   go_meet
   exact ⟨congrArg Value.bool HF.out, hb2⟩
  ·
   by_cases h0 : q.wher.length = 0
   ·
    have e0 : ((q.wher.length : Int) == 0) = true := beq_iff_eq.2 (by omega)
    rw [decide_eq_true h0] at HF
    clear h0
    cases S <;> cases D
    ·
     go_wp2_with (go_at_call 41; refine (HNT.out _ HG2.out).mono ?_; rintro e w2 ⟨rfl, hb2⟩; refine Hid.out ?_)
     refine Lib.hid ?_
     go_wp2_with fail
     go_meet
     exact ⟨congrArg Value.bool HF.out, hb2⟩
    ·
     go_wp2_with (go_at_call 41; refine (HNT.out _ HG2.out).mono ?_; rintro e w2 ⟨rfl, hb2⟩; refine Hid.out ?_)
     refine Lib.hid ?_
     have m5 := keep_cellP hb2 c5
     go_wp2_with fail
     go_meet
     exact ⟨congrArg Value.bool HF.out, hb2⟩
    ·
     go_wp2_with (go_at_call 41; refine (HNT.out _ HG2.out).mono ?_; rintro e w2 ⟨rfl, hb2⟩; refine Hid.out ?_)
     refine Lib.hid ?_
     have m5 := keep_cellP hb2 c5
     go_wp2_with fail
     go_meet
     exact ⟨congrArg Value.bool HF.out, hb2⟩
    ·
     go_wp2_with (go_at_call 41; refine (HNT.out _ HG2.out).mono ?_; rintro e w2 ⟨rfl, hb2⟩; refine Hid.out ?_)
     refine Lib.hid ?_
     have m5 := keep_cellP hb2 c5
     go_wp2_with fail
     go_meet
     exact ⟨congrArg Value.bool HF.out, hb2⟩
   ·
    have e0 : ((q.wher.length : Int) == 0) = false := beq_eq_false_iff_ne.2 (by omega)
    rw [decide_eq_false h0] at HF
    clear h0
    generalize rightR q.wher = br at *
    cases S <;> cases D
    ·
     go_wp2_with (go_at_call 41; refine (HNT.out _ HG2.out).mono ?_; rintro e w2 ⟨rfl, hb2⟩; refine Hid.out ?_)
     refine Lib.hid ?_
     go_wp2_with fail
     go_meet
     exact ⟨congrArg Value.bool HF.out, hb2⟩
    ·
     go_wp2_with (go_at_call 41; refine (HNT.out _ HG2.out).mono ?_; rintro e w2 ⟨rfl, hb2⟩; refine Hid.out ?_)
     refine Lib.hid ?_
     have m5 := keep_cellP hb2 c5
     have HR3 := Lib.hid (HR2.out.self hb2)
     have HG3 := Lib.hid (HG2.out.self hb2)
     go_wp2_with (go_at_call 43; refine (HRW.out _ HG3.out HR3.out).mono ?_; rintro e w3 ⟨rfl, hb3⟩; refine Hid.out ?_)
     refine Lib.hid ?_
     go_wp2_with fail
     go_meet
     exact ⟨congrArg Value.bool HF.out, below_self hb2 hb3⟩
    ·
     go_wp2_with (go_at_call 41; refine (HNT.out _ HG2.out).mono ?_; rintro e w2 ⟨rfl, hb2⟩; refine Hid.out ?_)
     refine Lib.hid ?_
     have m5 := keep_cellP hb2 c5
     have HR3 := Lib.hid (HR2.out.self hb2)
     have HG3 := Lib.hid (HG2.out.self hb2)
     go_wp2_with (go_at_call 43; refine (HRW.out _ HG3.out HR3.out).mono ?_; rintro e w3 ⟨rfl, hb3⟩; refine Hid.out ?_)
     refine Lib.hid ?_
     go_wp2_with fail
     go_meet
     exact ⟨congrArg Value.bool HF.out, below_self hb2 hb3⟩
    ·
     go_wp2_with (go_at_call 41; refine (HNT.out _ HG2.out).mono ?_; rintro e w2 ⟨rfl, hb2⟩; refine Hid.out ?_)
     refine Lib.hid ?_
     have m5 := keep_cellP hb2 c5
     have HR3 := Lib.hid (HR2.out.self hb2)
     have HG3 := Lib.hid (HG2.out.self hb2)
     go_wp2_with (go_at_call 43; refine (HRW.out _ HG3.out HR3.out).mono ?_; rintro e w3 ⟨rfl, hb3⟩; refine Hid.out ?_)
     refine Lib.hid ?_
     go_wp2_with fail
     go_meet
     exact ⟨congrArg Value.bool HF.out, below_self hb2 hb3⟩
 case rest =>
 obtain ⟨rfl, hbc⟩ := hcut
 have d0 := keep_cellP hbc c0
 have d6 := keep_cellP hbc c6
 have HG := Lib.hid (HG2.out.self hbc)
 have HR := Lib.hid (HR2.out.self hbc)
 have HB := Lib.hid (below_self HB2.out hbc)
 have HFR : Hid (frontR q = Fr) := Lib.hid hF
 clear hbc c0 c1 c5 c6 HG2 HR2 HB2 HNT HRW hW2 hF HF HD hS
 generalize hW3 : wc = W3 at *
 clear hW3
 have HKI := Lib.hid fun wr (hb : Below W3.heap.size W3 wr) => keep_cellP hb d0
 have HKG := Lib.hid fun wr (hb : Below W3.heap.size W3 wr) => keep_cellP hb d6
 have hil := HOK.out.ilen
 have hgl := HOK.out.glen
 clear d6
 go_upto_region 4 with fail
 go_wp2_with fail
 go_loopw [5, 66] (fun v i wr => ∃ k : Nat, i = .int .i64 k ∧ k ≤ q.items.length ∧ v = .bool (Fr && (q.items.take k).all itemOkR) ∧ Below W3.heap.size W3 wr) (fun _ i _ => q.items.length - (intOf i).toNat)
 case atStart => exact ⟨0, rfl, Nat.zero_le _, by simp, Below.refl _ _⟩
 case round =>
  obtain ⟨k, rfl, hk, rfl, hbr⟩ := hrel
  by_cases hlt : k < q.items.length
  ·
   have hit : q.items[k]? = some q.items[k] := List.getElem?_eq_getElem hlt
   obtain ⟨b, o, rfl, hcs⟩ := (HR.out.self hbr).items.resolve_left (by omega)
   obtain ⟨eo, ec, i0, i1, hst⟩ := hcs k _ hit
   have hsn : (q.items.take (k + 1)).all itemOkR = ((q.items.take k).all itemOkR && itemOkR q.items[k]) := by
    rw [List.take_succ_eq_append_getElem hlt, List.all_append]; simp
   have HSN := Lib.hid hsn
   have hpo := HOK.out.items _ (List.getElem_mem hlt)
   generalize q.items[k] = it at *
   have hbA := (Below.refl wr.heap.size wr).alloc (Nat.le_refl _) (.cells #[.int .u8 it.agg, .slice eo it.e.length ec] 40)
   have HPI := Lib.hid (pitem_any (ecap := ec) ((HG.out.self hbr).self hbA) (hst.self hbA) hpo)
   have HBA := Lib.hid (below_self hbr hbA)
   clear hsn hit hcs hst hpo hbA
   generalize (q.items.take k).all itemOkR = B at *
   cases hFB : (Fr && B) with
   | false =>
    have HFB := Lib.hid hFB
    clear hFB
    go_wp2_with fail
    go_roundw
    case rel => exact ⟨k + 1, by go_num, by omega, congrArg Value.bool (by rw [HSN.out, ← Bool.and_assoc, HFB.out]; rfl), HBA.out⟩
    case measure => simp [intOf]; omega
   | true =>
    have HFB := Lib.hid hFB
    clear hFB
    go_wp2_with (go_at_call 44; refine HPI.out.mono ?_; rintro e w2 ⟨rfl, hb2⟩; refine Hid.out ?_)
    refine Lib.hid ?_
    go_wp2_with fail
    go_roundw
    case rel => exact ⟨k + 1, by go_num, by omega, congrArg Value.bool (by rw [HSN.out, ← Bool.and_assoc, HFB.out]; rfl), below_self HBA.out hb2⟩
    case measure => simp [intOf]; omega
  ·
   obtain rfl : k = q.items.length := by omega
   have HAL : Hid (q.items.take q.items.length = q.items) := Lib.hid (List.take_length)
   have e6 := HKG.out _ hbr
   have HGr := Lib.hid (HG.out.self hbr)
   have HRr := Lib.hid (HR.out.self hbr)
   have HBr := Lib.hid (below_self HB.out hbr)
   have HKIr := Lib.hid fun w2 (hb : Below wr.heap.size wr w2) => HKI.out _ (below_self hbr hb)
   have HKGr := Lib.hid fun w2 (hb : Below wr.heap.size wr w2) => keep_cellP hb e6
   clear hbr d0 HKI HKG HG HR HB
   rw [HAL.out]
   obtain ⟨G1, hG1⟩ : ∃ G1, (Fr && q.items.all itemOkR) = G1 := ⟨_, rfl⟩
   rw [hG1]
   have HG1 := Lib.hid hG1
   clear hG1 HAL hlt hk
   go_wp2_with fail
   generalize hU : wr = U at *
   clear hU
   go_loopw [5, 79] (fun v i wr => ∃ k : Nat, i = .int .i64 k ∧ k ≤ q.group.length ∧ v = .bool (G1 && (q.group.take k).all fun g => columnR g && decide (0 < q.items.length)) ∧ Below U.heap.size U wr) (fun _ i _ => q.group.length - (intOf i).toNat)
   case atStart => exact ⟨0, rfl, Nat.zero_le _, by simp, Below.refl _ _⟩
   case round =>
    obtain ⟨k, rfl, hk, rfl, hbr⟩ := hrel
    by_cases hlt : k < q.group.length
    ·
     have hit : q.group[k]? = some q.group[k] := List.getElem?_eq_getElem hlt
     obtain ⟨b, o, rfl, hcs⟩ := (HRr.out.self hbr).group.resolve_left (by omega)
     have i0 := hcs k _ hit
     have hsn : ((q.group.take (k + 1)).all fun g => columnR g && decide (0 < q.items.length)) = (((q.group.take k).all fun g => columnR g && decide (0 < q.items.length)) && (columnR q.group[k] && decide (0 < q.items.length))) := by
      rw [List.take_succ_eq_append_getElem hlt, List.all_append]; simp
     have HSN := Lib.hid hsn
     have hpo := HOK.out.group _ (List.getElem_mem hlt)
     generalize q.group[k] = g at *
     have HPI := Lib.hid (column_any g wr (HGr.out.self hbr) hpo)
     have g0 := HKIr.out _ hbr
     clear hsn hit hcs hpo
     generalize ((q.group.take k).all fun g => columnR g && decide (0 < q.items.length)) = B at *
     cases hFB : (G1 && B) with
     | false =>
      have HFB := Lib.hid hFB
      clear hFB
      go_wp2_with fail
      go_roundw
      case rel => exact ⟨k + 1, by go_num, by omega, congrArg Value.bool (by rw [HSN.out, ← Bool.and_assoc, HFB.out]; rfl), hbr⟩
      case measure => simp [intOf]; omega
     | true =>
      have HFB := Lib.hid hFB
      clear hFB
      generalize columnR g = bc at *
      cases bc with
      | false =>
       go_wp2_with (go_at_call 42; refine HPI.out.mono ?_; rintro e w2 ⟨rfl, hb2⟩; refine Hid.out ?_)
       refine Lib.hid ?_
       go_wp2_with fail
       go_roundw
       case rel => exact ⟨k + 1, by go_num, by omega, congrArg Value.bool (by rw [HSN.out, ← Bool.and_assoc, HFB.out]; rfl), below_self hbr hb2⟩
       case measure => simp [intOf]; omega
      | true =>
       go_wp2_with (go_at_call 42; refine HPI.out.mono ?_; rintro e w2 ⟨rfl, hb2⟩; refine Hid.out ?_)
       refine Lib.hid ?_
       have g2 := keep_cellP hb2 g0
       go_wp2_with fail
       go_roundw
       case rel => exact ⟨k + 1, by go_num, by omega, congrArg Value.bool (by rw [HSN.out, ← Bool.and_assoc, HFB.out]; simp), below_self hbr hb2⟩
       case measure => simp [intOf]; omega
    ·
     obtain rfl : k = q.group.length := by omega
     have HAL : Hid (q.group.take q.group.length = q.group) := Lib.hid (List.take_length)
     have d0 := HKIr.out _ hbr
     have d6 := HKGr.out _ hbr
     have HBr2 := Lib.hid (below_self HBr.out hbr)
     clear hbr HKIr HKGr HGr HRr HBr
     rw [HAL.out]
     have HOKR : Hid ((G1 && q.group.all fun g => columnR g && decide (0 < q.items.length)) = okR q) := Lib.hid (by rw [okR, ← HG1.out, HFR.out])
     rw [HOKR.out]
     clear HAL HOKR hlt hk HG1 HFR
     obtain ⟨C, hC⟩ : ∃ C, checkR q = C := ⟨_, rfl⟩
     have HCC := Lib.hid hC
     unfold checkR at hC
     generalize okR q = O at *
     cases O with
     | false =>
      rw [if_pos (.inl rfl)] at hC
      have HC := Lib.hid hC
      clear hC
      go_wp2_with fail
      go_ret
      exact ⟨ret_int (HC.out.trans HCC.out.symm), HBr2.out⟩
     | true =>
      by_cases h8 : (q.items.length : Int) > 8
      ·
       rw [if_pos (.inr (.inl (by omega)))] at hC
       have HC := Lib.hid hC
       clear hC
       go_wp2_with fail
       go_ret
       exact ⟨ret_int (HC.out.trans HCC.out.symm), HBr2.out⟩
      ·
       by_cases g8 : (q.group.length : Int) > 8
       ·
        rw [if_pos (.inr (.inr (by omega)))] at hC
        have HC := Lib.hid hC
        clear hC
        go_wp2_with fail
        go_ret
        exact ⟨ret_int (HC.out.trans HCC.out.symm), HBr2.out⟩
       ·
        rw [if_neg (by simp; omega)] at hC
        have HC := Lib.hid hC
        clear hC
        go_wp2_with fail
        go_ret
        exact ⟨ret_int (HC.out.trans HCC.out.symm), HBr2.out⟩
end Go.Proofs.YtgjfbbmachoolaaGreatDoor.lx
namespace Go.Proofs.YtgjfbbmachoolaaGreatDoor.lx
open Go.RowKit

/-- a column: its name, its kind -/
structure Clm where
 nm : ByteArray
 k : Int
/-- a table, without its rows -/
structure Tbl where
 nm : ByteArray
 cols : List Clm
/-- a bound query -/
structure Bnd where
 table : ByteArray
 join : ByteArray
 width : Int
 left : Int
 right : Int
 wher : List Stp
 group : List Int
 items : List Itm
 grouped : Bool
 names : List ByteArray
 kinds : List Int
def Bnd.none : Bnd := ⟨⟨#[]⟩, ⟨#[]⟩, 0, 0, 0, [], [], [], false, [], []⟩

/-- something, or an error's number -/
inductive Ex (α : Type) where
 | ok (x : α)
 | no (why : Int)
def Ex.then {α β : Type} (r : Ex α) (f : α → Ex β) : Ex β := match r with | .ok x => f x | .no y => .no y
def Ex.why {α : Type} (r : Ex α) : Int := match r with | .ok _ => 0 | .no y => y
theorem Ex.then_ok {α β : Type} {r : Ex α} {f : α → Ex β} {y : β} (h : r.then f = .ok y) : ∃ x, r = .ok x ∧ f x = .ok y := by
 cases r with
 | ok x => exact ⟨x, rfl, h⟩
 | no y => cases h

/-- whether two texts are one -/
def eqS (a b : ByteArray) : Bool := a.toList == b.toList
theorem eqS_iff {a b : ByteArray} : eqS a b = true ↔ a = b := by
 unfold eqS
 rw [Lib.toList_data, Lib.toList_data, beq_iff_eq]
 exact ⟨fun h => by cases a; cases b; simp_all, fun h => by rw [h]⟩
theorem eqS_rfl (a : ByteArray) : eqS a a = true := eqS_iff.2 rfl
/-- whether a text may be a table's or a column's name: the error's number -/
def vnameR (s : ByteArray) : Int := if emptyS s = true ∨ 64 < s.size then 4 else if validS s = false then 9 else 0
/-- columns, of which some are seen already -/
def colsFrom : List Clm → List Clm → Int
 | _, [] => 0
 | seen, c :: l => if vnameR c.nm ≠ 0 then vnameR c.nm else if seen.any (fun x => eqS x.nm c.nm) = true then 15 else if c.k ≤ 0 ∨ 4 ≤ c.k then 5 else colsFrom (seen ++ [c]) l
def ccolsR (l : List Clm) : Int := if l.length = 0 ∨ 8 < l.length then 3 else colsFrom [] l
def ctableR (t : Tbl) : Int := if vnameR t.nm ≠ 0 then vnameR t.nm else ccolsR t.cols
/-- a catalog's tables, of which some are seen already -/
def tblsFrom : List ByteArray → List Tbl → Int
 | _, [] => 0
 | seen, t :: l => if ctableR t ≠ 0 then ctableR t else if seen.any (fun n => eqS n t.nm) = true then 15 else tblsFrom (t.nm :: seen) l
def catR (l : List Tbl) : Int := if 8 < l.length then 3 else tblsFrom [] l

/-- what a step takes and makes, where that is known -/
def ruleR (k : Int) : Option (Int × Int) :=
 if k = 1 then some (0, 0) else if k = 2 ∨ k = 3 then some (1, 1) else if k = 4 then some (2, 2) else if k = 5 then some (0, 3)
 else if k = 7 then some (2, 2) else if k = 8 then some (1, 1) else if k = 10 then some (3, 2) else if k = 11 ∨ k = 12 ∨ k = 13 then some (2, 2)
 else if k = 20 ∨ k = 21 then some (1, 1) else none
def kindR (k : Int) (l : List Int) : Ex Int :=
 match ruleR k with
 | some r => if l.all (fun y => y == r.1 || y == 0) = true then .ok r.2 else .no 5
 | none => if k ≠ 9 ∧ ¬ (l.getD 0 0 = l.getD 1 0 ∨ min (l.getD 0 0) (l.getD 1 0) = 0) then .no 5 else .ok 1
def takesB (s : Stp) : Int × Bool := if s.k = 6 then (0, true) else takesR s
/-- how many values are left; none: it is no expression -/
def heightR : List Stp → Int → Option Int
 | [], h => some h
 | s :: l, h => if (takesB s).2 = true ∧ (takesB s).1 ≤ h then heightR l (h - ((takesB s).1 - 1)) else none
def stackR (cols : List Clm) : List Stp → List Int → Ex (List Int)
 | [], st => .ok st
 | s :: l, st =>
  if s.k = 6 then stackR cols l (st ++ [(cols.getD s.n.toNat ⟨⟨#[]⟩, 0⟩).k])
  else (kindR s.k (st.drop (st.length - (takesB s).1.toNat))).then fun k => stackR cols l (st.take (st.length - (takesB s).1.toNat) ++ [k])
def inR (n : Nat) (s : Stp) : Bool := s.k != 6 || (emptyS s.s && decide (0 ≤ s.n) && decide (s.n < n))
def kindOfR (l : List Stp) (cols : List Clm) : Ex Int :=
 if heightR l 0 ≠ some 1 ∨ 64 < l.length then .no 13
 else if 16 < cols.length then .no 3
 else if l.all (inR cols.length) = false then .no 2
 else (stackR cols l []).then fun st => .ok (st.getD 0 0)

/-- a query's tables -/
def openR (l : List Tbl) : List ByteArray → List Tbl → Ex (List Tbl)
 | [], out => .ok out
 | n :: ns, out => match l.find? (fun t => eqS t.nm n) with
  | some t => openR l ns (out ++ [t])
  | none => .no 14
def scopeR (ts : List Tbl) : List Clm := ts.flatMap Tbl.cols
/-- whether a column is meant -/
def meantR (c : List UInt8 × List UInt8 × Bool) (tn cn : ByteArray) : Bool :=
 (cn.toList == if c.2.2 = true then c.2.1 else c.1) && (!c.2.2 || tn.toList == c.1)
/-- the places of the columns that are meant, from one on -/
def placesT (c : List UInt8 × List UInt8 × Bool) (tn : ByteArray) : List Clm → Nat → List Int
 | [], _ => []
 | x :: l, n => (if meantR c tn x.nm = true then [(n : Int)] else []) ++ placesT c tn l (n + 1)
def placesR (c : List UInt8 × List UInt8 × Bool) : List Tbl → Nat → List Int
 | [], _ => []
 | t :: l, n => placesT c t.nm t.cols n ++ placesR c l (n + t.cols.length)
def findR (ts : List Tbl) (s : ByteArray) : Ex Int :=
 match placesR (Lib.cut s.data.toList [46]) ts 0 with
 | [n] => .ok n
 | _ => .no 14
def nameStep (ts : List Tbl) : List Stp → List Stp → Ex (List Stp)
 | [], out => .ok out
 | s :: l, out => if s.k = 6 then (findR ts s.s).then fun n => nameStep ts l (out ++ [⟨6, ⟨#[]⟩, n⟩]) else nameStep ts l (out ++ [s])
def sbindR (ts : List Tbl) (l : List Stp) : Ex (List Stp × Int) :=
 (nameStep ts l []).then fun out => (kindOfR out (scopeR ts)).then fun k => .ok (out, k)
def namesR (table join : ByteArray) : List ByteArray := if emptyS join = true then [table] else [table, join]
def groupedR (group : List Int) (items : List Itm) : Bool := decide (0 < group.length) || items.any fun x => x.agg != 0
def columnB (x : Itm) : Int × Bool :=
 match x.e with
 | [s] => if x.agg ≠ 0 ∨ s.k ≠ 6 then (0, false) else (s.n, true)
 | _ => (0, false)
def cName (i : Nat) : ByteArray := ⟨#[99]⟩ ++ ⟨(Lib.itoa ((i : Int) + 1)).toArray⟩
/-- an item's name and its kind -/
def itemB (group : List Int) (grouped : Bool) (x : Itm) (cols : List Clm) (i : Nat) : Ex (ByteArray × Int) :=
 if 5 ≤ x.agg then .no 5
 else if x.agg = 1 then (if x.e.length = 0 then .ok (cName i, 2) else .no 5)
 else (kindOfR x.e cols).then fun k =>
  if x.agg = 2 ∧ ¬ (k = 2 ∨ k = 0) then .no 5
  else if x.agg = 0 ∧ grouped = true ∧ ¬ ((columnB x).2 = true ∧ (columnB x).1 ∈ group) then .no 14
  else .ok (if (columnB x).2 = true then (cols.getD (columnB x).1.toNat ⟨⟨#[]⟩, 0⟩).nm else cName i, if x.agg = 2 then 2 else k)

/-- a join's width and its columns -/
def joinB' (ts : List Tbl) (q : Qry) : Ex (Int × Int × Int) :=
 if emptyS q.join = true then .ok (0, 0, 0)
 else (findR ts q.left).then fun x => (findR ts q.right).then fun y =>
  let width : Int := ((ts.getD 0 ⟨⟨#[]⟩, []⟩).cols.length : Int)
  if min x y < width ∧ width ≤ max x y ∧ ((scopeR ts).getD (min x y).toNat ⟨⟨#[]⟩, 0⟩).k = ((scopeR ts).getD (max x y).toNat ⟨⟨#[]⟩, 0⟩).k then .ok (width, min x y, max x y - width) else .no 5
def whereR (ts : List Tbl) (l : List Stp) : Ex (List Stp) :=
 if l.length = 0 then .ok [] else (sbindR ts l).then fun e => if e.2 ≤ 1 then .ok e.1 else .no 5
def groupR (ts : List Tbl) : List ByteArray → List Int → Ex (List Int)
 | [], out => .ok out
 | g :: l, out => (findR ts g).then fun n => if n ∈ out then .no 15 else groupR ts l (out ++ [n])
/-- the items of a query that has none -/
def allItems (n : Nat) : List Itm := (List.range n).map fun (i : Nat) => Itm.mk 0 [Stp.mk 6 ⟨#[]⟩ (i : Int)]
def itemsB (ts : List Tbl) (group : List Int) (grouped : Bool) : List Itm → List Itm → Ex (List Itm)
 | [], out => .ok out
 | x :: l, out => (if x.agg = 1 then .ok (x.e, 0) else sbindR ts x.e).then fun e =>
   (itemB group grouped ⟨x.agg, e.1⟩ (scopeR ts) 0).then fun _ => itemsB ts group grouped l (out ++ [⟨x.agg, e.1⟩])
def outB (group : List Int) (grouped : Bool) (cols : List Clm) : List Itm → Nat → List ByteArray → List Int → Ex (List ByteArray × List Int)
 | [], _, ns, ks => .ok (ns, ks)
 | x :: l, i, ns, ks => (itemB group grouped x cols i).then fun r => outB group grouped cols l (i + 1) (ns ++ [r.1]) (ks ++ [r.2])
def bindR (q : Qry) (l : List Tbl) : Ex Bnd :=
 if checkR q ≠ 0 then .no (checkR q)
 else if catR l ≠ 0 then .no (catR l)
 else (openR l (namesR q.table q.join) []).then fun ts => (joinB' ts q).then fun j => (whereR ts q.wher).then fun wh => (groupR ts q.group []).then fun g =>
  let gr := groupedR g q.items
  if q.items.length = 0 ∧ 8 < (scopeR ts).length then .no 3
  else (if q.items.length = 0 then .ok (allItems (scopeR ts).length) else itemsB ts g gr q.items []).then fun its => (outB g gr (scopeR ts) its 0 [] []).then fun o =>
   .ok ⟨q.table, q.join, j.1, j.2.1, j.2.2, wh, g, its, gr, o.1, o.2⟩
/-- what Bind answers -/
def bindA (q : Qry) (l : List Tbl) : Bnd × Int := match bindR q l with | .ok b => (b, 0) | .no y => (Bnd.none, y)
def kindA (l : List Stp) (cols : List Clm) : Int × Int := match kindOfR l cols with | .ok k => (k, 0) | .no y => (0, y)

def groupOkR (n : Nat) : List Int → List Int → Bool
 | _, [] => true
 | seen, g :: l => decide (0 ≤ g) && decide (g < n) && !decide (g ∈ seen) && groupOkR n (seen ++ [g]) l
def outOkR (group : List Int) (grouped : Bool) (cols : List Clm) : List Itm → Nat → List ByteArray → List Int → Bool
 | [], _, _, _ => true
 | x :: l, i, ns, ks => match itemB group grouped x cols i with
  | .ok r => eqS r.1 (ns.getD i ⟨#[]⟩) && decide (r.2 = ks.getD i 0) && outOkR group grouped cols l (i + 1) ns ks
  | .no _ => false
def joinOkR (ts : List Tbl) (b : Bnd) : Bool :=
 if emptyS b.join = true then decide (b.width = 0 ∧ b.left = 0 ∧ b.right = 0)
 else
  let l := (ts.getD 0 ⟨⟨#[]⟩, []⟩).cols
  let r := (ts.getD 1 ⟨⟨#[]⟩, []⟩).cols
  !(eqS b.join b.table) && decide (b.width = l.length ∧ 0 ≤ b.left ∧ b.left < l.length ∧ 0 ≤ b.right ∧ b.right < r.length) &&
   decide ((l.getD b.left.toNat ⟨⟨#[]⟩, 0⟩).k = (r.getD b.right.toNat ⟨⟨#[]⟩, 0⟩).k)
def flagK (r : Ex Int) : Bool := match r with | .ok k => decide (k ≤ 1) | .no _ => false
def rightB (b : Bnd) (l : List Tbl) : Bool :=
 decide (catR l = 0) && match openR l (namesR b.table b.join) [] with
  | .no _ => false
  | .ok ts => joinOkR ts b && (decide (b.wher.length = 0) || flagK (kindOfR b.wher (scopeR ts))) &&
   decide (b.group.length ≤ 8 ∧ 1 ≤ b.items.length ∧ b.items.length ≤ 8 ∧ b.names.length = b.items.length ∧ b.kinds.length = b.items.length) &&
   groupOkR (scopeR ts).length [] b.group && (b.grouped == groupedR b.group b.items) && outOkR b.group b.grouped (scopeR ts) b.items 0 b.names b.kinds
end Go.Proofs.YtgjfbbmachoolaaGreatDoor.lx
