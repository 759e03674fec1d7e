/-
  The parser's expr and whole, every way. Conditions: the walk lies there; its steps' row is its own; the package-level variables are laid; the tokens' texts are no great ones. The parser's whole: an expression alone. Conditions: the walk lies there; the package-level variables are laid; the tokens' texts are no great ones. The parser's head, and the test of a query's first word. Conditions: the walk lies there. The parser's item without an aggregate. Conditions: the walk lies there; the package-level variables are laid; the tokens' texts are no great ones. The parser's item with an aggregate. Conditions as for the one without. The parser's item, every way. Conditions: the walk lies there; the package-level variables are laid; the tokens' texts are no great ones. The parser's some of columns. Conditions: the walk lies there; the package-level variables are laid; the tokens' texts are no great ones.
-/
import Derived.Test.YtgjfbbmachoolaaGreatDoorM06
namespace Go.Proofs.YtgjfbbmachoolaaGreatDoor.lx
open Go.RowKit

set_option maxHeartbeats 4000000 in
set_option maxRecDepth 100000 in
theorem expr_leaf {A B : Nat} {l : List Tok} {fin op : Int} {sv : Value} {st : List Stp} {w : World} (H : ExS A B l fin op sv st w w) (hs : ∀ t ∈ l, t.s.size < 4294967281) (hst : st.length ≤ 64) (hk : (tokAt l fin).k ≠ 1) :
  Calls Tryz.prog 106 #[.pointer (some ⟨A, 0, none⟩)] w fun e w' => ExprP A B fin w (leafR fin l op st) e w' := by
 have hp := wpeek_any H.at_
 have HLF := Lib.hid fun w2 (H2 : ExS A B l fin op sv st w w2) => leaf_any H2.at_ H2.hAB H2.hBr H2.own hst H2.glob hs
 have HH := Lib.hid H
 clear H
 generalize tokAt l fin = t at hp hk
 obtain ⟨tk, ts, tn, ta⟩ := t
 unfold Tok.v at hp
 simp only at hk hp
 have e1 : (tk != 1) = true := by simp [hk]
 have hfl := fldk (.int .u8 tk) (.string ts) (.int .i64 tn) (.int .i64 ta)
 generalize leafR fin l op st = R at HLF
 cases R with
 | bad y q =>
  go_enter Tryz.func106, Tryz.ntmps106
  go_wp2_with (go_at_call 105; refine hp.mono ?_; rintro e w2 ⟨rfl, hb2⟩; refine Hid.out ?_)
  refine Lib.hid ?_
  have H2 := Lib.hid (HH.out.next hb2)
  clear hp hb2
  go_wp2_with (go_at_call 129; refine (HLF.out _ H2.out).mono ?_; rintro e w3 ⟨rfl, hkb⟩; refine Hid.out ?_)
  refine Lib.hid ?_
  exact ⟨rfl, rfl, H2.out.kb.trans hkb⟩
 | ok s =>
  go_enter Tryz.func106, Tryz.ntmps106
  go_wp2_with (go_at_call 105; refine hp.mono ?_; rintro e w2 ⟨rfl, hb2⟩; refine Hid.out ?_)
  refine Lib.hid ?_
  have H2 := Lib.hid (HH.out.next hb2)
  clear hp hb2
  go_wp2_with (go_at_call 129; refine (HLF.out _ H2.out).mono ?_; rintro e w3 ⟨rfl, hst2, hkb⟩; refine Hid.out ?_)
  refine Lib.hid ?_
  go_wp2_with fail
  exact bodyPost_ret (results_none rfl _ _ _) rfl ⟨rfl, hst2, H2.out.kb.trans hkb⟩

set_option maxHeartbeats 4000000 in
set_option maxRecDepth 100000 in
theorem expr_bad1 {A B : Nat} {l : List Tok} {fin op y q : Int} {sv : Value} {st : List Stp} {w : World} (H : ExS A B l fin op sv st w w) (hop : OpOk op) (hk : (tokAt l fin).k = 1) (h1 : takeR fin 1 (fun _ => true) l op = .bad y q) :
  Calls Tryz.prog 106 #[.pointer (some ⟨A, 0, none⟩)] w fun e w' => e = .panicked [flt y q] ∧ KB A B w w' := by
 have hp := wpeek_any H.at_
 have HT1 := Lib.hid fun w2 (H2 : ExS A B l fin op sv st w w2) => takeN_any H2.at_ hop (.inl rfl : (1 : Int) = 1 ∨ (1 : Int) = 2 ∨ (1 : Int) = 3)
 rw [h1] at HT1
 have HH := Lib.hid H
 clear H h1
 generalize tokAt l fin = t at hp hk HT1
 obtain ⟨tk, ts, tn, ta⟩ := t
 unfold Tok.v at hp
 simp only at hk hp
 subst hk
 have hfl := fldk (.int .u8 1) (.string ts) (.int .i64 tn) (.int .i64 ta)
 go_enter Tryz.func106, Tryz.ntmps106
 go_wp2_with (go_at_call 105; refine hp.mono ?_; rintro e w2 ⟨rfl, hb2⟩; refine Hid.out ?_)
 refine Lib.hid ?_
 have H2 := Lib.hid (HH.out.next hb2)
 clear hp hb2
 go_wp2_with (go_at_call 79; refine (HT1.out _ H2.out).mono ?_; rintro e w3 ⟨rfl, hg⟩; refine Hid.out ?_)
 refine Lib.hid ?_
 exact ⟨rfl, rfl, H2.out.kb.trans (KB.of_gb hg H2.out.hBr)⟩

set_option maxHeartbeats 4000000 in
set_option maxRecDepth 100000 in
theorem expr_bad2 {A B : Nat} {l l1 : List Tok} {fin op op1 y q : Int} {sv : Value} {st : List Stp} {w : World} (H : ExS A B l fin op sv st w w) (hop : OpOk op) (hs : ∀ t ∈ l, t.s.size < 4294967281) (hk : (tokAt l fin).k = 1)
  (h1 : takeR fin 1 (fun _ => true) l op = .ok (l1, op1)) (h2 : takeR fin 3 isOp l1 op1 = .bad y q) :
  Calls Tryz.prog 106 #[.pointer (some ⟨A, 0, none⟩)] w fun e w' => e = .panicked [flt y q] ∧ KB A B w w' := by
 have hp := wpeek_any H.at_
 have HT1 := Lib.hid fun w2 (H2 : ExS A B l fin op sv st w w2) => takeN_any H2.at_ hop (.inl rfl : (1 : Int) = 1 ∨ (1 : Int) = 2 ∨ (1 : Int) = 3)
 rw [h1] at HT1
 have HT2 := Lib.hid fun w2 (H2 : ExS A B l1 fin op1 sv st w w2) => takeF_any (H2.al (.cells #[.func (.func 130) #[] #[]] 91)).at_ (H2.al (.cells #[.func (.func 130) #[] #[]] 91)).glob lets_op (bf := w2.heap.size) (by rw [Lib.cell_of_heap (heap_alloc_new _ _)]; rfl) (fun t ht => hs t (by
  have := (takeR_ok h1 (by decide)).1
  rw [this] at ht
  exact List.mem_of_mem_tail ht))
 rw [h2] at HT2
 have HH := Lib.hid H
 clear H h1 h2
 generalize tokAt l fin = t at hp hk HT1
 generalize tokAt l1 fin = o at HT2
 obtain ⟨tk, ts, tn, ta⟩ := t
 unfold Tok.v at hp
 simp only at hk hp
 subst hk
 have hfl := fldk (.int .u8 1) (.string ts) (.int .i64 tn) (.int .i64 ta)
 go_enter Tryz.func106, Tryz.ntmps106
 go_wp2_with (go_at_call 105; refine hp.mono ?_; rintro e w2 ⟨rfl, hb2⟩; refine Hid.out ?_)
 refine Lib.hid ?_
 have H2 := Lib.hid (HH.out.next hb2)
 clear hp hb2
 go_wp2_with (go_at_call 79; refine (HT1.out _ H2.out).mono ?_; rintro e w3 ⟨rfl, ha, hg⟩; refine Hid.out ?_)
 refine Lib.hid ?_
 have H3 := Lib.hid (H2.out.gb ha hg)
 clear ha hg HT1 H2 hfl
 go_wp2_with (go_at_call 79; refine (HT2.out _ H3.out).mono ?_; rintro e w4 ⟨rfl, hg⟩; refine Hid.out ?_)
 refine Lib.hid ?_
 have H3b := H3.out.al (.cells #[.func (.func 130) #[] #[]] 91)
 exact ⟨rfl, rfl, H3b.kb.trans (KB.of_gb hg H3b.hBr)⟩

theorem expr_any {A B : Nat} {fin : Int} : ∀ (n : Nat) (l : List Tok) (op : Int) (sv : Value) (st : List Stp) (w : World), ExS A B l fin op sv st w w → OpOk op → (∀ t ∈ l, t.s.size < 4294967281) → st.length ≤ 64 → l.length < n → l.length ≤ 1099511627776 →
  Calls Tryz.prog 106 #[.pointer (some ⟨A, 0, none⟩)] w fun e w' => ExprP A B fin w (exprR fin n l op st) e w' := by
 intro n
 induction n with
 | zero => intro l op sv st w _ _ _ _ h _; omega
 | succ n ih =>
  intro l op sv st w H hop hs hst hn hll
  unfold exprR
  by_cases hk : (tokAt l fin).k ≠ 1
  ·
   rw [if_pos hk]
   exact expr_leaf H hs hst hk
  rw [if_neg hk]
  have hk1 := Classical.not_not.1 hk
  cases h1 : takeR fin 1 (fun _ => true) l op with
  | bad y q => exact expr_bad1 H hop hk1 h1
  | ok x =>
   obtain ⟨l1, op1⟩ := x
   simp only [Res.then]
   cases h2 : takeR fin 3 isOp l1 op1 with
   | bad y q => exact expr_bad2 H hop hs hk1 h1 h2
   | ok y =>
    obtain ⟨l2, op2⟩ := y
    exact expr_main H hop hs hk1 h1 h2 hn hst hll ih _ rfl
end Go.Proofs.YtgjfbbmachoolaaGreatDoor.lx
namespace Go.Proofs.YtgjfbbmachoolaaGreatDoor.lx
open Go.RowKit

/-- what an expression alone comes to -/
def WholeP (A : Nat) (fin : Int) (w : World) (R : Res PS) (e : Ending) (w' : World) : Prop :=
 match R with
 | .ok x => (∃ v, e = .returned v ∧ AtW A x.1 fin x.2.1 v w' ∧ w'.ownsRow w.heap.size 50 3 v x.2.2.length (stpCells x.2.2)) ∧ w.grownBy w' (some A)
 | .bad y p => e = .panicked [flt y p] ∧ w.grownBy w' (some A)
theorem kb_set {A B j : Nat} {w w' : World} {v : Value} (h : KB A B (w.setCell ⟨A, j, none⟩ v) w') : KB A B w w' :=
 ⟨h.os, h.tape, h.output, by have := h.size; rwa [setCell_size] at this, fun k hk hne => (h.block k hk hne).trans (Below.heap_setCell _ _ _ _ hne)⟩

set_option maxHeartbeats 4000000 in
set_option maxRecDepth 100000 in
theorem whole_any {A : Nat} {l : List Tok} {fin op : Int} {sv : Value} {w : World} (h : AtW A l fin op sv w) (hG : PGlob w) (hA8 : 11 ≤ A) (hop : OpOk op) (hs : ∀ t ∈ l, t.s.size < 4294967281) (hll : l.length ≤ 1099511627776) :
  Calls Tryz.prog 85 #[.pointer (some ⟨A, 0, none⟩)] w fun e w' => WholeP A fin w (wholeR fin l op) e w' := by
 have hlt := h.lt
 have h' := h
 obtain ⟨ao, cap, hA, hc, hm, hT⟩ := h'
 have c3 : ∃ v, w.cell? ⟨A, 3, none⟩ = some v := ⟨_, by rw [Lib.cell_of_heap hA]; rfl⟩
 obtain ⟨v3, c3⟩ := c3
 have f3 : w.frozen? ⟨A, 3, none⟩ = false := Lib.frozen_of_heap hA 3
 have H : ExS A w.heap.size l fin op (.slice none 0 0) [] (w.setCell ⟨A, 3, none⟩ (.slice none 0 0)) (w.setCell ⟨A, 3, none⟩ (.slice none 0 0)) :=
  ⟨⟨ao, cap, atw_steps hA, hc, hm, hT.other (Nat.le_refl _) _ _⟩, KB.refl _ _ _, World.ownsRow_nil _ _ _ _, by rw [setCell_size]; exact Nat.le_refl _, hlt, hG.of (by rw [setCell_size]; exact Nat.le_refl _) (fun k hk => Below.heap_setCell _ _ _ _ (by show k ≠ A; omega)), hA8⟩
 have hx := expr_any (l.length + 1) l op _ [] _ H hop hs (by decide) (by omega) hll
 unfold wholeR
 generalize exprR fin (l.length + 1) l op [] = R at hx
 have HX := Lib.hid hx
 clear h hG hA hT H hx hs
 cases R with
 | bad y q =>
  go_enter Tryz.func85, Tryz.ntmps85
  go_wp2_with (go_at_call 106; refine HX.out.mono ?_; rintro e w3 ⟨rfl, hkb⟩; refine Hid.out ?_)
  refine Lib.hid ?_
  exact ⟨rfl, rfl, (kb_set hkb).gb (Nat.le_refl _)⟩
 | ok s =>
  go_enter Tryz.func85, Tryz.ntmps85
  go_wp2_with (go_at_call 106; refine HX.out.mono ?_; rintro e w3 ⟨rfl, ⟨sv2, ha, ho⟩, hkb⟩; refine Hid.out ?_)
  refine Lib.hid ?_
  obtain ⟨so, scap, rfl⟩ := own_shape ho
  have c33 : w3.cell? ⟨A, 3, none⟩ = some (.slice so s.2.2.length scap) := by
   obtain ⟨ao, cap, hA, _⟩ := ha; rw [Lib.cell_of_heap hA]; rfl
  have HA := Lib.hid ha
  have HO := Lib.hid ho
  have HK := Lib.hid hkb
  clear ha ho hkb c3
  go_wp2_with fail
  go_ret
  exact ⟨⟨_, rfl, HA.out, HO.out⟩, (kb_set HK.out).gb (Nat.le_refl _)⟩
end Go.Proofs.YtgjfbbmachoolaaGreatDoor.lx
namespace Go.Proofs.YtgjfbbmachoolaaGreatDoor.lx
open Go.RowKit

set_option maxHeartbeats 2000000 in
set_option maxRecDepth 100000 in
theorem head_any {A : Nat} {l : List Tok} {fin op : Int} {sv : Value} {w : World} (h : AtW A l fin op sv w) :
  Calls Tryz.prog 91 #[.pointer (some ⟨A, 0, none⟩)] w fun e w' => e = .returned (.string (headR l)) ∧ w = w' := by
 obtain ⟨ao, cap, hA, hc, hm, hT⟩ := h
 have c0 : w.cell? ⟨A, 0, none⟩ = some (.slice ao l.length cap) := by rw [Lib.cell_of_heap hA]; rfl
 clear hA
 rcases l with _ | ⟨t, _ | ⟨u, rest⟩⟩
 ·
  skip
  simp only [List.length_nil] at c0
  go_enter Tryz.func91, Tryz.ntmps91
  go_wp2_with fail
  go_ret
  exact ⟨rfl, rfl⟩
 ·
  skip
  simp only [List.length_cons, List.length_nil, Nat.zero_add] at c0
  go_enter Tryz.func91, Tryz.ntmps91
  go_wp2_with fail
  go_ret
  exact ⟨rfl, rfl⟩
 ·
  skip
  obtain ⟨b, o, rfl, hb, d0, d1, d2, d3, hT2⟩ := hT.cons
  obtain ⟨b2, o2, he, hb2, q0, q1, q2, q3, _⟩ := hT2.cons
  injection he with he
  injection he with he1 he2
  subst he1
  subst he2
  have hl2 : ¬ ((rest.length : Int) + 1 + 1 < 2) := by omega
  simp only [List.length_cons] at c0
  have q5 : w.cell? ⟨b, o + 5, none⟩ = some (.string u.s) := q1
  clear hT hT2 d1 d2 d3 q1 q2 q3
  have hH : headR (t :: u :: rest) = if t.k = 1 ∧ u.k = 3 then u.s else ⟨#[]⟩ := rfl
  rw [hH]
  by_cases h1 : t.k = 1
  ·
   have e1 : (t.k != 1) = false := by simp [h1]
   by_cases h3 : u.k = 3
   ·
    have e3 : (u.k != 3) = false := by simp [h3]
    rw [if_pos ⟨h1, h3⟩]
    clear h1 h3 hH
    go_enter Tryz.func91, Tryz.ntmps91
    go_wp2_with fail
    go_ret
    exact ⟨rfl, rfl⟩
   ·
    have e3 : (u.k != 3) = true := by simp [h3]
    rw [if_neg (fun h => h3 h.2)]
    clear h1 h3 hH
    go_enter Tryz.func91, Tryz.ntmps91
    go_wp2_with fail
    go_ret
    exact ⟨rfl, rfl⟩
  ·
   have e1 : (t.k != 1) = true := by simp [h1]
   rw [if_neg (fun h => h1 h.1)]
   clear h1 hH
   go_enter Tryz.func91, Tryz.ntmps91
   go_wp2_with fail
   go_ret
   exact ⟨rfl, rfl⟩

set_option maxRecDepth 100000 in
theorem fromfn_any (s : ByteArray) (w : World) :
  Calls Tryz.prog 80 #[.string s] w fun e w' => e = .returned (.bool (decide (s = fromB))) ∧ w = w' := by
 by_cases h : s = fromB
 ·
  have e : (s.toList == [102, 114, 111, 109]) = true := by rw [h]; decide +kernel
  rw [decide_eq_true h]
  clear h
  go_enter Tryz.func80, Tryz.ntmps80
  go_wp2_with fail
  go_ret
  exact ⟨rfl, rfl⟩
 ·
  have e : (s.toList == [102, 114, 111, 109]) = false := by
   simp only [beq_eq_false_iff_ne, ne_eq]
   intro hh
   apply h
   apply ByteArray.ext
   apply Array.toList_inj.1
   rw [← Lib.toList_data, hh]
   rfl
  rw [decide_eq_false h]
  clear h
  go_enter Tryz.func80, Tryz.ntmps80
  go_wp2_with fail
  go_ret
  exact ⟨rfl, rfl⟩
theorem lets_from : Lets 80 (fun s => decide (s = fromB)) := ⟨enters_of Tryz.func80 (by kernel_rfl) rfl, fun s w _ _ => (fromfn_any s w).mono fun e w' ⟨h1, h2⟩ => ⟨h1, h2 ▸ Below.refl _ _⟩⟩
end Go.Proofs.YtgjfbbmachoolaaGreatDoor.lx
namespace Go.Proofs.YtgjfbbmachoolaaGreatDoor.lx
open Go.RowKit

/-- an item's cell -/
def CellI (B : Nat) (k : Int) (v : Value) (w : World) : Prop := w.heap[B]? = some (.cells #[.int .u8 k, v] 40 (0, 0))
theorem resultsI {fn : Func} {q : Tmp} (hf : fn.results = #[.cell q 40]) {tmps : Array Value} {B : Nat} {k : Int} {v : Value} {w : World} (h : CellI B k v w)
  (hq : tmps.getD q undef = .pointer (some ⟨B, 0, none⟩)) : (results fn tmps).run Tryz.prog w = .ok (.agg #[.int .u8 k, v]) w :=
 results_cell_row hf tmps w B 40 _ (0, 0) _ hq h Tryz.underlying40 rfl (by kernel_rfl)
/-- what holds on the way through item -/
structure ItS (A : Nat) (l : List Tok) (fin op : Int) (sv : Value) (w wr : World) : Prop where
 at_ : AtW A l fin op sv wr
 gb : w.grownBy wr (some A)
 glob : PGlob wr
 hA8 : 11 ≤ A
 hAw : A < w.heap.size
theorem ItS.next {A : Nat} {l : List Tok} {fin op : Int} {sv : Value} {w wr w' : World} (h : ItS A l fin op sv w wr) (hb : Below wr.heap.size wr w') : ItS A l fin op sv w w' :=
 ⟨h.at_.below hb, gb_trans h.gb (below_gb hb), h.glob.self hb, h.hA8, h.hAw⟩
theorem ItS.step {A : Nat} {l l' : List Tok} {fin op op' : Int} {sv sv' : Value} {w wr w' : World} (h : ItS A l fin op sv w wr) (ha : AtW A l' fin op' sv' w') (hg : wr.grownBy w' (some A)) : ItS A l' fin op' sv' w w' :=
 ⟨ha, gb_trans h.gb hg, h.glob.gb h.hA8 hg, h.hA8, h.hAw⟩
theorem CellI.gb {A B : Nat} {k : Int} {v : Value} {w w' : World} (h : CellI B k v w) (hg : w.grownBy w' (some A)) (hne : B ≠ A) : CellI B k v w' :=
 (hg.block B (Array.getElem?_eq_some_iff.1 h).1 (by intro e; injection e; omega)).trans h
theorem CellI.c0 {B : Nat} {k : Int} {v : Value} {w : World} (h : CellI B k v w) : w.cell? ⟨B, 0, none⟩ = some (.int .u8 k) := by rw [Lib.cell_of_heap h]; rfl
theorem CellI.c1 {B : Nat} {k : Int} {v : Value} {w : World} (h : CellI B k v w) : w.cell? ⟨B, 1, none⟩ = some v := by rw [Lib.cell_of_heap h]; rfl
theorem CellI.f {B : Nat} {k : Int} {v : Value} {w : World} (h : CellI B k v w) (j : Nat) : w.frozen? ⟨B, j, none⟩ = false := Lib.frozen_of_heap h j
theorem CellI.put {B : Nat} {k k' : Int} {v v' : Value} {w : World} (h : CellI B k v w) : CellI B k' v' ((w.setCell ⟨B, 0, none⟩ (.int .u8 k')).setCell ⟨B, 1, none⟩ v') := by
 unfold CellI at *
 simp [World.setCell, Array.getElem?_modify, h]
/-- what an item comes to -/
def ItemP (A : Nat) (fin : Int) (w : World) (R : Res (List Tok × Int × Itm)) (e : Ending) (w' : World) : Prop :=
 match R with
 | .ok x => (∃ v sv', e = .returned (.agg #[.int .u8 x.2.2.agg, v]) ∧ AtW A x.1 fin x.2.1 sv' w' ∧ w'.ownsRow w.heap.size 50 3 v x.2.2.e.length (stpCells x.2.2.e)) ∧ w.grownBy w' (some A)
 | .bad y p => e = .panicked [flt y p] ∧ w.grownBy w' (some A)
theorem own_set2 {w : World} {B g : Nat} {v v0 v1 : Value} {n : Nat} {xs : List Value} (h : w.ownsRow B 50 3 v n xs) (hg : g < B) : ((w.setCell ⟨g, 0, none⟩ v0).setCell ⟨g, 1, none⟩ v1).ownsRow B 50 3 v n xs :=
 own_keepA h fun k hk _ => (Below.heap_setCell _ _ _ _ (by show k ≠ g; omega)).trans (Below.heap_setCell _ _ _ _ (by show k ≠ g; omega))

set_option maxHeartbeats 2000000 in
set_option maxRecDepth 100000 in
theorem item_whole {A : Nat} {l : List Tok} {fin op : Int} {sv : Value} {w : World} (h : AtW A l fin op sv w) (hG : PGlob w) (hA8 : 11 ≤ A) (hop : OpOk op) (hs : ∀ t ∈ l, t.s.size < 4294967281) (hll : l.length ≤ 1099511627776)
  (hi : Lib.idxOfS wordsL (headR l) < 1) :
  Calls Tryz.prog 90 #[.pointer (some ⟨A, 0, none⟩)] w fun e w' => ItemP A fin w ((wholeR fin l op).then fun s => .ok (s.1, s.2.1, ⟨0, s.2.2⟩)) e w' := by
 have hb0 : Below w.heap.size w (w.alloc (.cells #[.int .u8 0, .slice none 0 0] 40)) := (Below.refl _ w).alloc (Nat.le_refl _) _
 have H0 := Lib.hid ((⟨h, gb_refl _ _, hG, hA8, h.lt⟩ : ItS A l fin op sv w w).next hb0)
 have hc0 : CellI w.heap.size 0 (.slice none 0 0) (w.alloc (.cells #[.int .u8 0, .slice none 0 0] 40)) := by unfold CellI; rw [heap_alloc_new]
 have HC0 := Lib.hid hc0
 have HHD := Lib.hid fun wr (H : ItS A l fin op sv w wr) => head_any H.at_
 have HIX := Lib.hid fun b w5 (hS : SBlk b wordsL w5) => (Tryz.slices_Index_string b 0 5 5 wordsL (headR l) w5 (by decide) (by decide) hS).mono fun e w' ⟨h1, h2⟩ => (⟨h1, h2.symm⟩ : e = _ ∧ w5 = w')
 rw [show wordsL.take 5 = wordsL from rfl] at HIX
 have HWH := Lib.hid fun wr (H : ItS A l fin op sv w wr) => whole_any H.at_ H.glob H.hA8 hop hs hll
 generalize Lib.idxOfS wordsL (headR l) = X at hi HIX
 generalize wholeR fin l op = R at HWH
 have hlt := h.lt
 clear h hG hs hb0 hc0
 have hiI : X < 1 := hi
 cases R with
 | bad y q =>
  go_enter Tryz.func90, Tryz.ntmps90
  go_wp2_with (go_at_call 108; refine (words_any _).mono ?_; rintro e w2 ⟨rfl, hS, hb2⟩; refine Hid.out ?_)
  refine Lib.hid ?_
  have H2 := Lib.hid (H0.out.next hb2)
  rw [alloc_sz] at hS
  have HS := Lib.hid hS
  clear hb2 hS
  go_wp2_with (go_at_call 91; refine (HHD.out _ H2.out).mono ?_; rintro e w3 ⟨rfl, rfl⟩; refine Hid.out ?_)
  refine Lib.hid ?_
  go_wp2_with (go_at_call 94; refine (HIX.out _ _ HS.out).mono ?_; rintro e w3 ⟨rfl, rfl⟩; refine Hid.out ?_)
  refine Lib.hid ?_
  go_wp2_with (go_at_call 85; refine (HWH.out _ H2.out).mono ?_; rintro e w4 ⟨rfl, hg⟩; refine Hid.out ?_)
  refine Lib.hid ?_
  exact ⟨rfl, rfl, gb_trans H2.out.gb hg⟩
 | ok s =>
  go_enter Tryz.func90, Tryz.ntmps90
  go_wp2_with (go_at_call 108; refine (words_any _).mono ?_; rintro e w2 ⟨rfl, hS, hb2⟩; refine Hid.out ?_)
  refine Lib.hid ?_
  have H2 := Lib.hid (H0.out.next hb2)
  have HC2 := Lib.hid (HC0.out.gb (A := A) (below_gb hb2) (by omega))
  rw [alloc_sz] at hS
  have HS := Lib.hid hS
  clear hb2 hS
  go_wp2_with (go_at_call 91; refine (HHD.out _ H2.out).mono ?_; rintro e w3 ⟨rfl, rfl⟩; refine Hid.out ?_)
  refine Lib.hid ?_
  go_wp2_with (go_at_call 94; refine (HIX.out _ _ HS.out).mono ?_; rintro e w3 ⟨rfl, rfl⟩; refine Hid.out ?_)
  refine Lib.hid ?_
  go_wp2_with (go_at_call 85; refine (HWH.out _ H2.out).mono ?_; rintro e w4 ⟨⟨v, rfl, ha, ho⟩, hg⟩; refine Hid.out ?_)
  refine Lib.hid ?_
  have hsz2 : w.heap.size < w2.heap.size := (Array.getElem?_eq_some_iff.1 HC2.out).1
  have HC4 := Lib.hid (HC2.out.gb hg (by omega))
  have H4 := Lib.hid (H2.out.step ha hg)
  have HO := Lib.hid ho
  obtain ⟨so, scap, rfl⟩ := own_shape ho
  have r0 := HC4.out.c0
  have r1 := HC4.out.c1
  have fr := HC4.out.f
  clear ha hg ho
  go_wp2_with fail
  refine bodyPost_ret (v := .agg #[.int .u8 0, .slice so s.2.2.length scap]) (resultsI rfl HC4.out.put rfl) rfl ⟨⟨_, _, rfl, H4.out.at_.kept (fun k hk => (Below.heap_setCell _ _ _ _ (by show k ≠ w.heap.size; omega)).trans (Below.heap_setCell _ _ _ _ (by show k ≠ w.heap.size; omega))), ?_⟩, ?_⟩
  ·
   exact own_le (own_set2 HO.out hsz2) (by omega)
  ·
   exact ⟨H4.out.gb.os, H4.out.gb.tape, H4.out.gb.output, by have := H4.out.gb.size; rwa [setCell_size, setCell_size], fun k hk hne => ((Below.heap_setCell _ _ _ _ (by show k ≠ w.heap.size; omega)).trans (Below.heap_setCell _ _ _ _ (by show k ≠ w.heap.size; omega))).trans (H4.out.gb.block k hk hne)⟩
end Go.Proofs.YtgjfbbmachoolaaGreatDoor.lx
namespace Go.Proofs.YtgjfbbmachoolaaGreatDoor.lx
open Go.RowKit
set_option linter.unusedVariables false

theorem ItS.set {A C j : Nat} {l : List Tok} {fin op : Int} {sv v : Value} {w wr : World} (h : ItS A l fin op sv w wr) (hC : w.heap.size ≤ C) : ItS A l fin op sv w (wr.setCell ⟨C, j, none⟩ v) :=
 ⟨h.at_.kept fun k hk => Below.heap_setCell _ _ _ _ (by show k ≠ C; have := h.hAw; omega), ⟨h.gb.os, h.gb.tape, h.gb.output, by have := h.gb.size; rwa [setCell_size], fun k hk hne => (Below.heap_setCell _ _ _ _ (by show k ≠ C; omega)).trans (h.gb.block k hk hne)⟩,
  h.glob.of (by rw [setCell_size]; exact Nat.le_refl _) fun k hk => Below.heap_setCell _ _ _ _ (by show k ≠ C; have := h.hA8; have := h.hAw; omega), h.hA8, h.hAw⟩
theorem CellI.set1 {B : Nat} {k : Int} {v v' : Value} {w : World} (h : CellI B k v w) : CellI B k v' (w.setCell ⟨B, 1, none⟩ v') := by
 unfold CellI at *
 simp [World.setCell, Array.getElem?_modify, h]
theorem CellI.other {B C j : Nat} {k : Int} {v v' : Value} {w : World} (h : CellI B k v w) (hne : B ≠ C) : CellI B k v (w.setCell ⟨C, j, none⟩ v') := (Below.heap_setCell _ _ _ _ hne).trans h
set_option maxHeartbeats 2000000 in
set_option maxRecDepth 100000 in
theorem item_bad1 {A : Nat} {l1 l2 l3 l4 : List Tok} {op1 op2 op3 op4 y q : Int} {e3 : List Stp} {l : List Tok} {fin op X : Int} {sv : Value} {w : World} (h : AtW A l fin op sv w) (hG : PGlob w) (hA8 : 11 ≤ A) (hop : OpOk op) (hs : ∀ t ∈ l, t.s.size < 4294967281) (hll : l.length ≤ 1099511627776)
  (hX : Lib.idxOfS wordsL (headR l) = X) (hX1 : 1 ≤ X) (hX4 : X ≤ 4) (h1 : takeR fin 1 (fun _ => true) l op = .bad y q) :
  Calls Tryz.prog 90 #[.pointer (some ⟨A, 0, none⟩)] w fun e w' => e = .panicked [flt y q] ∧ w.grownBy w' (some A) := by
 have hb0 : Below w.heap.size w (w.alloc (.cells #[.int .u8 0, .slice none 0 0] 40)) := (Below.refl _ w).alloc (Nat.le_refl _) _
 have H0 := Lib.hid ((⟨h, gb_refl _ _, hG, hA8, h.lt⟩ : ItS A l fin op sv w w).next hb0)
 have hc0 : CellI w.heap.size 0 (.slice none 0 0) (w.alloc (.cells #[.int .u8 0, .slice none 0 0] 40)) := by unfold CellI; rw [heap_alloc_new]
 have HC0 := Lib.hid hc0
 have HHD := Lib.hid fun wr (H : ItS A l fin op sv w wr) => head_any H.at_
 have HIX := Lib.hid fun b w5 (hS : SBlk b wordsL w5) => (Tryz.slices_Index_string b 0 5 5 wordsL (headR l) w5 (by decide) (by decide) hS).mono fun e w' ⟨h1, h2⟩ => (⟨h1, h2.symm⟩ : e = _ ∧ w5 = w')
 rw [show wordsL.take 5 = wordsL from rfl, hX] at HIX
 have HT1 := Lib.hid fun wr (H : ItS A l fin op sv w wr) => takeN_any H.at_ hop (.inl rfl : (1 : Int) = 1 ∨ (1 : Int) = 2 ∨ (1 : Int) = 3)
 rw [h1] at HT1
 have hlt := h.lt
 have hwr : IntKind.u8.wrap X = X := by rw [IntKind.wrap_u8]; omega
 have hXI : ¬ X < 1 := by omega
 generalize tokAt l fin = T1 at HT1
 clear h hG hs hb0 hc0
 go_enter Tryz.func90, Tryz.ntmps90
 go_wp2_with (go_at_call 108; refine (words_any _).mono ?_; rintro e w2 ⟨rfl, hS, hb2⟩; refine Hid.out ?_)
 refine Lib.hid ?_
 have H2 := Lib.hid (H0.out.next hb2)
 have HC2 := Lib.hid (HC0.out.gb (A := A) (below_gb hb2) (by omega))
 rw [alloc_sz] at hS
 have HS := Lib.hid hS
 clear hb2 hS
 go_wp2_with (go_at_call 91; refine (HHD.out _ H2.out).mono ?_; rintro e w3 ⟨rfl, rfl⟩; refine Hid.out ?_)
 refine Lib.hid ?_
 go_wp2_with (go_at_call 94; refine (HIX.out _ _ HS.out).mono ?_; rintro e w3 ⟨rfl, rfl⟩; refine Hid.out ?_)
 refine Lib.hid ?_
 have hsz2 : w.heap.size < w2.heap.size := (Array.getElem?_eq_some_iff.1 HC2.out).1
 have H2a := Lib.hid (H2.out.next ((Below.refl w2.heap.size w2).alloc (Nat.le_refl _) (.cells #[.int .u8 X, .slice none 0 0] 40)))
 have HC2a := Lib.hid (HC2.out.gb (A := A) (below_gb ((Below.refl w2.heap.size w2).alloc (Nat.le_refl _) (.cells #[.int .u8 X, .slice none 0 0] 40))) (by omega))
 have HI2 : Hid (CellI w2.heap.size X (.slice none 0 0) (w2.alloc (.cells #[.int .u8 X, .slice none 0 0] 40))) := Lib.hid (by unfold CellI; rw [heap_alloc_new])
 go_wp2_with (go_at_call 79; refine (HT1.out _ H2a.out).mono ?_; rintro e v1 ⟨rfl, hg⟩; refine Hid.out ?_)
 refine Lib.hid ?_
 exact ⟨rfl, rfl, gb_trans H2a.out.gb hg⟩

set_option maxHeartbeats 2000000 in
set_option maxRecDepth 100000 in
theorem item_bad2 {A : Nat} {l1 l2 l3 l4 : List Tok} {op1 op2 op3 op4 y q : Int} {e3 : List Stp} {l : List Tok} {fin op X : Int} {sv : Value} {w : World} (h : AtW A l fin op sv w) (hG : PGlob w) (hA8 : 11 ≤ A) (hop : OpOk op) (hs : ∀ t ∈ l, t.s.size < 4294967281) (hll : l.length ≤ 1099511627776)
  (hX : Lib.idxOfS wordsL (headR l) = X) (hX1 : 1 ≤ X) (hX4 : X ≤ 4) (h1 : takeR fin 1 (fun _ => true) l op = .ok (l1, op1)) (h2 : takeR fin 3 (fun _ => true) l1 op1 = .bad y q) :
  Calls Tryz.prog 90 #[.pointer (some ⟨A, 0, none⟩)] w fun e w' => e = .panicked [flt y q] ∧ w.grownBy w' (some A) := by
 have hb0 : Below w.heap.size w (w.alloc (.cells #[.int .u8 0, .slice none 0 0] 40)) := (Below.refl _ w).alloc (Nat.le_refl _) _
 have H0 := Lib.hid ((⟨h, gb_refl _ _, hG, hA8, h.lt⟩ : ItS A l fin op sv w w).next hb0)
 have hc0 : CellI w.heap.size 0 (.slice none 0 0) (w.alloc (.cells #[.int .u8 0, .slice none 0 0] 40)) := by unfold CellI; rw [heap_alloc_new]
 have HC0 := Lib.hid hc0
 have HHD := Lib.hid fun wr (H : ItS A l fin op sv w wr) => head_any H.at_
 have HIX := Lib.hid fun b w5 (hS : SBlk b wordsL w5) => (Tryz.slices_Index_string b 0 5 5 wordsL (headR l) w5 (by decide) (by decide) hS).mono fun e w' ⟨h1, h2⟩ => (⟨h1, h2.symm⟩ : e = _ ∧ w5 = w')
 rw [show wordsL.take 5 = wordsL from rfl, hX] at HIX
 have HT1 := Lib.hid fun wr (H : ItS A l fin op sv w wr) => takeN_any H.at_ hop (.inl rfl : (1 : Int) = 1 ∨ (1 : Int) = 2 ∨ (1 : Int) = 3)
 rw [h1] at HT1
 have hop1 : OpOk op1 := by
  have e1 : op1 = op + 1 := takeR_op h1
  have e2 := (takeR_ok h1 (by decide)).2.2.2.2.2.2 rfl
  have := hop.1
  exact ⟨by omega, by omega⟩
 have HT2 := Lib.hid fun wr (H : ItS A l1 fin op1 sv w wr) => takeN_any H.at_ hop1 (.inr (.inr rfl) : (3 : Int) = 1 ∨ (3 : Int) = 2 ∨ (3 : Int) = 3)
 rw [h2] at HT2
 generalize tokAt l1 fin = T2 at HT2
 have hlt := h.lt
 have hwr : IntKind.u8.wrap X = X := by rw [IntKind.wrap_u8]; omega
 have hXI : ¬ X < 1 := by omega
 generalize tokAt l fin = T1 at HT1
 clear h hG hs hb0 hc0
 go_enter Tryz.func90, Tryz.ntmps90
 go_wp2_with (go_at_call 108; refine (words_any _).mono ?_; rintro e w2 ⟨rfl, hS, hb2⟩; refine Hid.out ?_)
 refine Lib.hid ?_
 have H2 := Lib.hid (H0.out.next hb2)
 have HC2 := Lib.hid (HC0.out.gb (A := A) (below_gb hb2) (by omega))
 rw [alloc_sz] at hS
 have HS := Lib.hid hS
 clear hb2 hS
 go_wp2_with (go_at_call 91; refine (HHD.out _ H2.out).mono ?_; rintro e w3 ⟨rfl, rfl⟩; refine Hid.out ?_)
 refine Lib.hid ?_
 go_wp2_with (go_at_call 94; refine (HIX.out _ _ HS.out).mono ?_; rintro e w3 ⟨rfl, rfl⟩; refine Hid.out ?_)
 refine Lib.hid ?_
 have hsz2 : w.heap.size < w2.heap.size := (Array.getElem?_eq_some_iff.1 HC2.out).1
 have H2a := Lib.hid (H2.out.next ((Below.refl w2.heap.size w2).alloc (Nat.le_refl _) (.cells #[.int .u8 X, .slice none 0 0] 40)))
 have HC2a := Lib.hid (HC2.out.gb (A := A) (below_gb ((Below.refl w2.heap.size w2).alloc (Nat.le_refl _) (.cells #[.int .u8 X, .slice none 0 0] 40))) (by omega))
 have HI2 : Hid (CellI w2.heap.size X (.slice none 0 0) (w2.alloc (.cells #[.int .u8 X, .slice none 0 0] 40))) := Lib.hid (by unfold CellI; rw [heap_alloc_new])
 go_wp2_with (go_at_call 79; refine (HT1.out _ H2a.out).mono ?_; rintro e v1 ⟨rfl, ha, hg⟩; refine Hid.out ?_)
 refine Lib.hid ?_
 have Ht1 := Lib.hid (H2a.out.step ha hg)
 have HCt1 := Lib.hid (HC2a.out.gb hg (by omega))
 have HIt1 := Lib.hid (HI2.out.gb hg (by have := H2.out.hAw; omega))
 clear ha hg
 go_wp2_with (go_at_call 79; refine (HT2.out _ Ht1.out).mono ?_; rintro e v2 ⟨rfl, hg⟩; refine Hid.out ?_)
 refine Lib.hid ?_
 exact ⟨rfl, rfl, gb_trans Ht1.out.gb hg⟩

set_option maxHeartbeats 2000000 in
set_option maxRecDepth 100000 in
theorem item_count_bad {A : Nat} {l1 l2 l3 l4 : List Tok} {op1 op2 op3 op4 y q : Int} {e3 : List Stp} {l : List Tok} {fin op X : Int} {sv : Value} {w : World} (h : AtW A l fin op sv w) (hG : PGlob w) (hA8 : 11 ≤ A) (hop : OpOk op) (hs : ∀ t ∈ l, t.s.size < 4294967281) (hll : l.length ≤ 1099511627776)
  (hX : Lib.idxOfS wordsL (headR l) = X) (hX1 : 1 ≤ X) (hX4 : X ≤ 4) (h1 : takeR fin 1 (fun _ => true) l op = .ok (l1, op1)) (h2 : takeR fin 3 (fun _ => true) l1 op1 = .ok (l2, op2)) (hc : X = 1) (h4 : takeR fin 2 (fun _ => true) l2 op2 = .bad y q) :
  Calls Tryz.prog 90 #[.pointer (some ⟨A, 0, none⟩)] w fun e w' => e = .panicked [flt y q] ∧ w.grownBy w' (some A) := by
 have hb0 : Below w.heap.size w (w.alloc (.cells #[.int .u8 0, .slice none 0 0] 40)) := (Below.refl _ w).alloc (Nat.le_refl _) _
 have H0 := Lib.hid ((⟨h, gb_refl _ _, hG, hA8, h.lt⟩ : ItS A l fin op sv w w).next hb0)
 have hc0 : CellI w.heap.size 0 (.slice none 0 0) (w.alloc (.cells #[.int .u8 0, .slice none 0 0] 40)) := by unfold CellI; rw [heap_alloc_new]
 have HC0 := Lib.hid hc0
 have HHD := Lib.hid fun wr (H : ItS A l fin op sv w wr) => head_any H.at_
 have HIX := Lib.hid fun b w5 (hS : SBlk b wordsL w5) => (Tryz.slices_Index_string b 0 5 5 wordsL (headR l) w5 (by decide) (by decide) hS).mono fun e w' ⟨h1, h2⟩ => (⟨h1, h2.symm⟩ : e = _ ∧ w5 = w')
 rw [show wordsL.take 5 = wordsL from rfl, hX] at HIX
 have HT1 := Lib.hid fun wr (H : ItS A l fin op sv w wr) => takeN_any H.at_ hop (.inl rfl : (1 : Int) = 1 ∨ (1 : Int) = 2 ∨ (1 : Int) = 3)
 rw [h1] at HT1
 have hop1 : OpOk op1 := by
  have e1 : op1 = op + 1 := takeR_op h1
  have e2 := (takeR_ok h1 (by decide)).2.2.2.2.2.2 rfl
  have := hop.1
  exact ⟨by omega, by omega⟩
 have HT2 := Lib.hid fun wr (H : ItS A l1 fin op1 sv w wr) => takeN_any H.at_ hop1 (.inr (.inr rfl) : (3 : Int) = 1 ∨ (3 : Int) = 2 ∨ (3 : Int) = 3)
 rw [h2] at HT2
 generalize tokAt l1 fin = T2 at HT2
 have hop2 : OpOk op2 := by
  have e1 : op2 = op1 := takeR_op h2
  rw [e1]; exact hop1
 have hop3 := hop2
 have HT3 := Lib.hid fun sv wr (H : ItS A l2 fin op2 sv w wr) => takeN_any H.at_ hop3 (.inr (.inl rfl) : (2 : Int) = 1 ∨ (2 : Int) = 2 ∨ (2 : Int) = 3)
 rw [h4] at HT3
 generalize tokAt l2 fin = T3 at HT3
 have hcb : (X != 1) = false := by simp [hc]
 clear hc
 have hlt := h.lt
 have hwr : IntKind.u8.wrap X = X := by rw [IntKind.wrap_u8]; omega
 have hXI : ¬ X < 1 := by omega
 generalize tokAt l fin = T1 at HT1
 clear h hG hs hb0 hc0
 go_enter Tryz.func90, Tryz.ntmps90
 go_wp2_with (go_at_call 108; refine (words_any _).mono ?_; rintro e w2 ⟨rfl, hS, hb2⟩; refine Hid.out ?_)
 refine Lib.hid ?_
 have H2 := Lib.hid (H0.out.next hb2)
 have HC2 := Lib.hid (HC0.out.gb (A := A) (below_gb hb2) (by omega))
 rw [alloc_sz] at hS
 have HS := Lib.hid hS
 clear hb2 hS
 go_wp2_with (go_at_call 91; refine (HHD.out _ H2.out).mono ?_; rintro e w3 ⟨rfl, rfl⟩; refine Hid.out ?_)
 refine Lib.hid ?_
 go_wp2_with (go_at_call 94; refine (HIX.out _ _ HS.out).mono ?_; rintro e w3 ⟨rfl, rfl⟩; refine Hid.out ?_)
 refine Lib.hid ?_
 have hsz2 : w.heap.size < w2.heap.size := (Array.getElem?_eq_some_iff.1 HC2.out).1
 have H2a := Lib.hid (H2.out.next ((Below.refl w2.heap.size w2).alloc (Nat.le_refl _) (.cells #[.int .u8 X, .slice none 0 0] 40)))
 have HC2a := Lib.hid (HC2.out.gb (A := A) (below_gb ((Below.refl w2.heap.size w2).alloc (Nat.le_refl _) (.cells #[.int .u8 X, .slice none 0 0] 40))) (by omega))
 have HI2 : Hid (CellI w2.heap.size X (.slice none 0 0) (w2.alloc (.cells #[.int .u8 X, .slice none 0 0] 40))) := Lib.hid (by unfold CellI; rw [heap_alloc_new])
 go_wp2_with (go_at_call 79; refine (HT1.out _ H2a.out).mono ?_; rintro e v1 ⟨rfl, ha, hg⟩; refine Hid.out ?_)
 refine Lib.hid ?_
 have Ht1 := Lib.hid (H2a.out.step ha hg)
 have HCt1 := Lib.hid (HC2a.out.gb hg (by omega))
 have HIt1 := Lib.hid (HI2.out.gb hg (by have := H2.out.hAw; omega))
 clear ha hg
 go_wp2_with (go_at_call 79; refine (HT2.out _ Ht1.out).mono ?_; rintro e v2 ⟨rfl, ha, hg⟩; refine Hid.out ?_)
 refine Lib.hid ?_
 have Ht2 := Lib.hid (Ht1.out.step ha hg)
 have HCt2 := Lib.hid (HCt1.out.gb hg (by omega))
 have HIt2 := Lib.hid (HIt1.out.gb hg (by have := H2.out.hAw; omega))
 clear ha hg
 have x0 := HIt2.out.c0
 go_wp2_with (go_at_call 79; refine (HT3.out _ _ Ht2.out).mono ?_; rintro e v3 ⟨rfl, hg⟩; refine Hid.out ?_)
 refine Lib.hid ?_
 exact ⟨rfl, rfl, gb_trans Ht2.out.gb hg⟩

set_option maxHeartbeats 2000000 in
set_option maxRecDepth 100000 in
theorem item_count_ok {A : Nat} {l1 l2 l3 l4 : List Tok} {op1 op2 op3 op4 y q : Int} {e3 : List Stp} {l : List Tok} {fin op X : Int} {sv : Value} {w : World} (h : AtW A l fin op sv w) (hG : PGlob w) (hA8 : 11 ≤ A) (hop : OpOk op) (hs : ∀ t ∈ l, t.s.size < 4294967281) (hll : l.length ≤ 1099511627776)
  (hX : Lib.idxOfS wordsL (headR l) = X) (hX1 : 1 ≤ X) (hX4 : X ≤ 4) (h1 : takeR fin 1 (fun _ => true) l op = .ok (l1, op1)) (h2 : takeR fin 3 (fun _ => true) l1 op1 = .ok (l2, op2)) (hc : X = 1) (h4 : takeR fin 2 (fun _ => true) l2 op2 = .ok (l4, op4)) :
  Calls Tryz.prog 90 #[.pointer (some ⟨A, 0, none⟩)] w fun e w' => ItemP A fin w (.ok (l4, op4, ⟨X, []⟩)) e w' := by
 have hb0 : Below w.heap.size w (w.alloc (.cells #[.int .u8 0, .slice none 0 0] 40)) := (Below.refl _ w).alloc (Nat.le_refl _) _
 have H0 := Lib.hid ((⟨h, gb_refl _ _, hG, hA8, h.lt⟩ : ItS A l fin op sv w w).next hb0)
 have hc0 : CellI w.heap.size 0 (.slice none 0 0) (w.alloc (.cells #[.int .u8 0, .slice none 0 0] 40)) := by unfold CellI; rw [heap_alloc_new]
 have HC0 := Lib.hid hc0
 have HHD := Lib.hid fun wr (H : ItS A l fin op sv w wr) => head_any H.at_
 have HIX := Lib.hid fun b w5 (hS : SBlk b wordsL w5) => (Tryz.slices_Index_string b 0 5 5 wordsL (headR l) w5 (by decide) (by decide) hS).mono fun e w' ⟨h1, h2⟩ => (⟨h1, h2.symm⟩ : e = _ ∧ w5 = w')
 rw [show wordsL.take 5 = wordsL from rfl, hX] at HIX
 have HT1 := Lib.hid fun wr (H : ItS A l fin op sv w wr) => takeN_any H.at_ hop (.inl rfl : (1 : Int) = 1 ∨ (1 : Int) = 2 ∨ (1 : Int) = 3)
 rw [h1] at HT1
 have hop1 : OpOk op1 := by
  have e1 : op1 = op + 1 := takeR_op h1
  have e2 := (takeR_ok h1 (by decide)).2.2.2.2.2.2 rfl
  have := hop.1
  exact ⟨by omega, by omega⟩
 have HT2 := Lib.hid fun wr (H : ItS A l1 fin op1 sv w wr) => takeN_any H.at_ hop1 (.inr (.inr rfl) : (3 : Int) = 1 ∨ (3 : Int) = 2 ∨ (3 : Int) = 3)
 rw [h2] at HT2
 generalize tokAt l1 fin = T2 at HT2
 have hop2 : OpOk op2 := by
  have e1 : op2 = op1 := takeR_op h2
  rw [e1]; exact hop1
 have hop3 := hop2
 have HT3 := Lib.hid fun sv wr (H : ItS A l2 fin op2 sv w wr) => takeN_any H.at_ hop3 (.inr (.inl rfl) : (2 : Int) = 1 ∨ (2 : Int) = 2 ∨ (2 : Int) = 3)
 rw [h4] at HT3
 generalize tokAt l2 fin = T3 at HT3
 have hcb : (X != 1) = false := by simp [hc]
 clear hc
 have hlt := h.lt
 have hwr : IntKind.u8.wrap X = X := by rw [IntKind.wrap_u8]; omega
 have hXI : ¬ X < 1 := by omega
 generalize tokAt l fin = T1 at HT1
 clear h hG hs hb0 hc0
 go_enter Tryz.func90, Tryz.ntmps90
 go_wp2_with (go_at_call 108; refine (words_any _).mono ?_; rintro e w2 ⟨rfl, hS, hb2⟩; refine Hid.out ?_)
 refine Lib.hid ?_
 have H2 := Lib.hid (H0.out.next hb2)
 have HC2 := Lib.hid (HC0.out.gb (A := A) (below_gb hb2) (by omega))
 rw [alloc_sz] at hS
 have HS := Lib.hid hS
 clear hb2 hS
 go_wp2_with (go_at_call 91; refine (HHD.out _ H2.out).mono ?_; rintro e w3 ⟨rfl, rfl⟩; refine Hid.out ?_)
 refine Lib.hid ?_
 go_wp2_with (go_at_call 94; refine (HIX.out _ _ HS.out).mono ?_; rintro e w3 ⟨rfl, rfl⟩; refine Hid.out ?_)
 refine Lib.hid ?_
 have hsz2 : w.heap.size < w2.heap.size := (Array.getElem?_eq_some_iff.1 HC2.out).1
 have H2a := Lib.hid (H2.out.next ((Below.refl w2.heap.size w2).alloc (Nat.le_refl _) (.cells #[.int .u8 X, .slice none 0 0] 40)))
 have HC2a := Lib.hid (HC2.out.gb (A := A) (below_gb ((Below.refl w2.heap.size w2).alloc (Nat.le_refl _) (.cells #[.int .u8 X, .slice none 0 0] 40))) (by omega))
 have HI2 : Hid (CellI w2.heap.size X (.slice none 0 0) (w2.alloc (.cells #[.int .u8 X, .slice none 0 0] 40))) := Lib.hid (by unfold CellI; rw [heap_alloc_new])
 go_wp2_with (go_at_call 79; refine (HT1.out _ H2a.out).mono ?_; rintro e v1 ⟨rfl, ha, hg⟩; refine Hid.out ?_)
 refine Lib.hid ?_
 have Ht1 := Lib.hid (H2a.out.step ha hg)
 have HCt1 := Lib.hid (HC2a.out.gb hg (by omega))
 have HIt1 := Lib.hid (HI2.out.gb hg (by have := H2.out.hAw; omega))
 clear ha hg
 go_wp2_with (go_at_call 79; refine (HT2.out _ Ht1.out).mono ?_; rintro e v2 ⟨rfl, ha, hg⟩; refine Hid.out ?_)
 refine Lib.hid ?_
 have Ht2 := Lib.hid (Ht1.out.step ha hg)
 have HCt2 := Lib.hid (HCt1.out.gb hg (by omega))
 have HIt2 := Lib.hid (HIt1.out.gb hg (by have := H2.out.hAw; omega))
 clear ha hg
 have x0 := HIt2.out.c0
 go_wp2_with (go_at_call 79; refine (HT3.out _ _ Ht2.out).mono ?_; rintro e v3 ⟨rfl, ha, hg⟩; refine Hid.out ?_)
 refine Lib.hid ?_
 have Ht3 := Lib.hid (Ht2.out.step ha hg)
 have HCt3 := Lib.hid (HCt2.out.gb hg (by omega))
 have HIt3 := Lib.hid (HIt2.out.gb hg (by have := H2.out.hAw; omega))
 clear ha hg
 clear x0
 have r0 := HCt3.out.c0
 have r1 := HCt3.out.c1
 have fr := HCt3.out.f
 have x0 := HIt3.out.c0
 have x1 := HIt3.out.c1
 go_wp2_with fail
 refine bodyPost_ret (v := .agg #[.int .u8 X, .slice none 0 0]) (resultsI rfl HCt3.out.put rfl) rfl ⟨⟨_, _, rfl, Ht3.out.at_.kept (fun k hk => (Below.heap_setCell _ _ _ _ (by show k ≠ w.heap.size; have := H2.out.hAw; omega)).trans (Below.heap_setCell _ _ _ _ (by show k ≠ w.heap.size; have := H2.out.hAw; omega))), ?_⟩, ?_⟩
 ·
  exact World.ownsRow_nil _ _ _ _
 ·
  exact ⟨Ht3.out.gb.os, Ht3.out.gb.tape, Ht3.out.gb.output, by have := Ht3.out.gb.size; rwa [setCell_size, setCell_size], fun k hk hne => ((Below.heap_setCell _ _ _ _ (by show k ≠ w.heap.size; omega)).trans (Below.heap_setCell _ _ _ _ (by show k ≠ w.heap.size; omega))).trans (Ht3.out.gb.block k hk hne)⟩

set_option maxHeartbeats 2000000 in
set_option maxRecDepth 100000 in
theorem item_agg_bad {A : Nat} {l1 l2 l3 l4 : List Tok} {op1 op2 op3 op4 y q : Int} {e3 : List Stp} {l : List Tok} {fin op X : Int} {sv : Value} {w : World} (h : AtW A l fin op sv w) (hG : PGlob w) (hA8 : 11 ≤ A) (hop : OpOk op) (hs : ∀ t ∈ l, t.s.size < 4294967281) (hll : l.length ≤ 1099511627776)
  (hX : Lib.idxOfS wordsL (headR l) = X) (hX1 : 1 ≤ X) (hX4 : X ≤ 4) (h1 : takeR fin 1 (fun _ => true) l op = .ok (l1, op1)) (h2 : takeR fin 3 (fun _ => true) l1 op1 = .ok (l2, op2)) (hc : X ≠ 1) (h3 : wholeR fin l2 op2 = .bad y q) :
  Calls Tryz.prog 90 #[.pointer (some ⟨A, 0, none⟩)] w fun e w' => e = .panicked [flt y q] ∧ w.grownBy w' (some A) := by
 have hb0 : Below w.heap.size w (w.alloc (.cells #[.int .u8 0, .slice none 0 0] 40)) := (Below.refl _ w).alloc (Nat.le_refl _) _
 have H0 := Lib.hid ((⟨h, gb_refl _ _, hG, hA8, h.lt⟩ : ItS A l fin op sv w w).next hb0)
 have hc0 : CellI w.heap.size 0 (.slice none 0 0) (w.alloc (.cells #[.int .u8 0, .slice none 0 0] 40)) := by unfold CellI; rw [heap_alloc_new]
 have HC0 := Lib.hid hc0
 have HHD := Lib.hid fun wr (H : ItS A l fin op sv w wr) => head_any H.at_
 have HIX := Lib.hid fun b w5 (hS : SBlk b wordsL w5) => (Tryz.slices_Index_string b 0 5 5 wordsL (headR l) w5 (by decide) (by decide) hS).mono fun e w' ⟨h1, h2⟩ => (⟨h1, h2.symm⟩ : e = _ ∧ w5 = w')
 rw [show wordsL.take 5 = wordsL from rfl, hX] at HIX
 have HT1 := Lib.hid fun wr (H : ItS A l fin op sv w wr) => takeN_any H.at_ hop (.inl rfl : (1 : Int) = 1 ∨ (1 : Int) = 2 ∨ (1 : Int) = 3)
 rw [h1] at HT1
 have hop1 : OpOk op1 := by
  have e1 : op1 = op + 1 := takeR_op h1
  have e2 := (takeR_ok h1 (by decide)).2.2.2.2.2.2 rfl
  have := hop.1
  exact ⟨by omega, by omega⟩
 have HT2 := Lib.hid fun wr (H : ItS A l1 fin op1 sv w wr) => takeN_any H.at_ hop1 (.inr (.inr rfl) : (3 : Int) = 1 ∨ (3 : Int) = 2 ∨ (3 : Int) = 3)
 rw [h2] at HT2
 generalize tokAt l1 fin = T2 at HT2
 have hop2 : OpOk op2 := by
  have e1 : op2 = op1 := takeR_op h2
  rw [e1]; exact hop1
 have hl2 : l2 <:+ l := by
  have a := (takeR_ok h1 (by decide)).1
  have b := (takeR_ok h2 (by decide)).1
  rw [b, a]
  exact (List.tail_suffix _).trans (List.tail_suffix _)
 have HWH := Lib.hid fun wr (H : ItS A l2 fin op2 sv w wr) => whole_any H.at_ H.glob H.hA8 hop2 (fun t ht => hs t (hl2.subset ht)) (Nat.le_trans hl2.length_le hll)
 rw [h3] at HWH
 have hcb : (X != 1) = true := by simp [hc]
 clear hc
 have hlt := h.lt
 have hwr : IntKind.u8.wrap X = X := by rw [IntKind.wrap_u8]; omega
 have hXI : ¬ X < 1 := by omega
 generalize tokAt l fin = T1 at HT1
 clear h hG hs hb0 hc0
 go_enter Tryz.func90, Tryz.ntmps90
 go_wp2_with (go_at_call 108; refine (words_any _).mono ?_; rintro e w2 ⟨rfl, hS, hb2⟩; refine Hid.out ?_)
 refine Lib.hid ?_
 have H2 := Lib.hid (H0.out.next hb2)
 have HC2 := Lib.hid (HC0.out.gb (A := A) (below_gb hb2) (by omega))
 rw [alloc_sz] at hS
 have HS := Lib.hid hS
 clear hb2 hS
 go_wp2_with (go_at_call 91; refine (HHD.out _ H2.out).mono ?_; rintro e w3 ⟨rfl, rfl⟩; refine Hid.out ?_)
 refine Lib.hid ?_
 go_wp2_with (go_at_call 94; refine (HIX.out _ _ HS.out).mono ?_; rintro e w3 ⟨rfl, rfl⟩; refine Hid.out ?_)
 refine Lib.hid ?_
 have hsz2 : w.heap.size < w2.heap.size := (Array.getElem?_eq_some_iff.1 HC2.out).1
 have H2a := Lib.hid (H2.out.next ((Below.refl w2.heap.size w2).alloc (Nat.le_refl _) (.cells #[.int .u8 X, .slice none 0 0] 40)))
 have HC2a := Lib.hid (HC2.out.gb (A := A) (below_gb ((Below.refl w2.heap.size w2).alloc (Nat.le_refl _) (.cells #[.int .u8 X, .slice none 0 0] 40))) (by omega))
 have HI2 : Hid (CellI w2.heap.size X (.slice none 0 0) (w2.alloc (.cells #[.int .u8 X, .slice none 0 0] 40))) := Lib.hid (by unfold CellI; rw [heap_alloc_new])
 go_wp2_with (go_at_call 79; refine (HT1.out _ H2a.out).mono ?_; rintro e v1 ⟨rfl, ha, hg⟩; refine Hid.out ?_)
 refine Lib.hid ?_
 have Ht1 := Lib.hid (H2a.out.step ha hg)
 have HCt1 := Lib.hid (HC2a.out.gb hg (by omega))
 have HIt1 := Lib.hid (HI2.out.gb hg (by have := H2.out.hAw; omega))
 clear ha hg
 go_wp2_with (go_at_call 79; refine (HT2.out _ Ht1.out).mono ?_; rintro e v2 ⟨rfl, ha, hg⟩; refine Hid.out ?_)
 refine Lib.hid ?_
 have Ht2 := Lib.hid (Ht1.out.step ha hg)
 have HCt2 := Lib.hid (HCt1.out.gb hg (by omega))
 have HIt2 := Lib.hid (HIt1.out.gb hg (by have := H2.out.hAw; omega))
 clear ha hg
 have x0 := HIt2.out.c0
 go_wp2_with (go_at_call 85; refine (HWH.out _ Ht2.out).mono ?_; rintro e v3 ⟨rfl, hg⟩; refine Hid.out ?_)
 refine Lib.hid ?_
 exact ⟨rfl, rfl, gb_trans Ht2.out.gb hg⟩

set_option maxHeartbeats 2000000 in
set_option maxRecDepth 100000 in
theorem item_agg_bad3 {A : Nat} {l1 l2 l3 l4 : List Tok} {op1 op2 op3 op4 y q : Int} {e3 : List Stp} {l : List Tok} {fin op X : Int} {sv : Value} {w : World} (h : AtW A l fin op sv w) (hG : PGlob w) (hA8 : 11 ≤ A) (hop : OpOk op) (hs : ∀ t ∈ l, t.s.size < 4294967281) (hll : l.length ≤ 1099511627776)
  (hX : Lib.idxOfS wordsL (headR l) = X) (hX1 : 1 ≤ X) (hX4 : X ≤ 4) (h1 : takeR fin 1 (fun _ => true) l op = .ok (l1, op1)) (h2 : takeR fin 3 (fun _ => true) l1 op1 = .ok (l2, op2)) (hc : X ≠ 1) (h3 : wholeR fin l2 op2 = .ok (l3, op3, e3)) (h4 : takeR fin 2 (fun _ => true) l3 op3 = .bad y q) :
  Calls Tryz.prog 90 #[.pointer (some ⟨A, 0, none⟩)] w fun e w' => e = .panicked [flt y q] ∧ w.grownBy w' (some A) := by
 have hb0 : Below w.heap.size w (w.alloc (.cells #[.int .u8 0, .slice none 0 0] 40)) := (Below.refl _ w).alloc (Nat.le_refl _) _
 have H0 := Lib.hid ((⟨h, gb_refl _ _, hG, hA8, h.lt⟩ : ItS A l fin op sv w w).next hb0)
 have hc0 : CellI w.heap.size 0 (.slice none 0 0) (w.alloc (.cells #[.int .u8 0, .slice none 0 0] 40)) := by unfold CellI; rw [heap_alloc_new]
 have HC0 := Lib.hid hc0
 have HHD := Lib.hid fun wr (H : ItS A l fin op sv w wr) => head_any H.at_
 have HIX := Lib.hid fun b w5 (hS : SBlk b wordsL w5) => (Tryz.slices_Index_string b 0 5 5 wordsL (headR l) w5 (by decide) (by decide) hS).mono fun e w' ⟨h1, h2⟩ => (⟨h1, h2.symm⟩ : e = _ ∧ w5 = w')
 rw [show wordsL.take 5 = wordsL from rfl, hX] at HIX
 have HT1 := Lib.hid fun wr (H : ItS A l fin op sv w wr) => takeN_any H.at_ hop (.inl rfl : (1 : Int) = 1 ∨ (1 : Int) = 2 ∨ (1 : Int) = 3)
 rw [h1] at HT1
 have hop1 : OpOk op1 := by
  have e1 : op1 = op + 1 := takeR_op h1
  have e2 := (takeR_ok h1 (by decide)).2.2.2.2.2.2 rfl
  have := hop.1
  exact ⟨by omega, by omega⟩
 have HT2 := Lib.hid fun wr (H : ItS A l1 fin op1 sv w wr) => takeN_any H.at_ hop1 (.inr (.inr rfl) : (3 : Int) = 1 ∨ (3 : Int) = 2 ∨ (3 : Int) = 3)
 rw [h2] at HT2
 generalize tokAt l1 fin = T2 at HT2
 have hop2 : OpOk op2 := by
  have e1 : op2 = op1 := takeR_op h2
  rw [e1]; exact hop1
 have hop3 : OpOk op3 := by
  have e1 : op3 = op2 := (exprR_ok fin _ _ _ _ _ h3).2.2.2
  rw [e1]; exact hop2
 have hl2 : l2 <:+ l := by
  have a := (takeR_ok h1 (by decide)).1
  have b := (takeR_ok h2 (by decide)).1
  rw [b, a]
  exact (List.tail_suffix _).trans (List.tail_suffix _)
 have HWH := Lib.hid fun wr (H : ItS A l2 fin op2 sv w wr) => whole_any H.at_ H.glob H.hA8 hop2 (fun t ht => hs t (hl2.subset ht)) (Nat.le_trans hl2.length_le hll)
 rw [h3] at HWH
 have HT3 := Lib.hid fun sv wr (H : ItS A l3 fin op3 sv w wr) => takeN_any H.at_ hop3 (.inr (.inl rfl) : (2 : Int) = 1 ∨ (2 : Int) = 2 ∨ (2 : Int) = 3)
 rw [h4] at HT3
 generalize tokAt l3 fin = T3 at HT3
 have hcb : (X != 1) = true := by simp [hc]
 clear hc
 have hlt := h.lt
 have hwr : IntKind.u8.wrap X = X := by rw [IntKind.wrap_u8]; omega
 have hXI : ¬ X < 1 := by omega
 generalize tokAt l fin = T1 at HT1
 clear h hG hs hb0 hc0
 go_enter Tryz.func90, Tryz.ntmps90
 go_wp2_with (go_at_call 108; refine (words_any _).mono ?_; rintro e w2 ⟨rfl, hS, hb2⟩; refine Hid.out ?_)
 refine Lib.hid ?_
 have H2 := Lib.hid (H0.out.next hb2)
 have HC2 := Lib.hid (HC0.out.gb (A := A) (below_gb hb2) (by omega))
 rw [alloc_sz] at hS
 have HS := Lib.hid hS
 clear hb2 hS
 go_wp2_with (go_at_call 91; refine (HHD.out _ H2.out).mono ?_; rintro e w3 ⟨rfl, rfl⟩; refine Hid.out ?_)
 refine Lib.hid ?_
 go_wp2_with (go_at_call 94; refine (HIX.out _ _ HS.out).mono ?_; rintro e w3 ⟨rfl, rfl⟩; refine Hid.out ?_)
 refine Lib.hid ?_
 have hsz2 : w.heap.size < w2.heap.size := (Array.getElem?_eq_some_iff.1 HC2.out).1
 have H2a := Lib.hid (H2.out.next ((Below.refl w2.heap.size w2).alloc (Nat.le_refl _) (.cells #[.int .u8 X, .slice none 0 0] 40)))
 have HC2a := Lib.hid (HC2.out.gb (A := A) (below_gb ((Below.refl w2.heap.size w2).alloc (Nat.le_refl _) (.cells #[.int .u8 X, .slice none 0 0] 40))) (by omega))
 have HI2 : Hid (CellI w2.heap.size X (.slice none 0 0) (w2.alloc (.cells #[.int .u8 X, .slice none 0 0] 40))) := Lib.hid (by unfold CellI; rw [heap_alloc_new])
 go_wp2_with (go_at_call 79; refine (HT1.out _ H2a.out).mono ?_; rintro e v1 ⟨rfl, ha, hg⟩; refine Hid.out ?_)
 refine Lib.hid ?_
 have Ht1 := Lib.hid (H2a.out.step ha hg)
 have HCt1 := Lib.hid (HC2a.out.gb hg (by omega))
 have HIt1 := Lib.hid (HI2.out.gb hg (by have := H2.out.hAw; omega))
 clear ha hg
 go_wp2_with (go_at_call 79; refine (HT2.out _ Ht1.out).mono ?_; rintro e v2 ⟨rfl, ha, hg⟩; refine Hid.out ?_)
 refine Lib.hid ?_
 have Ht2 := Lib.hid (Ht1.out.step ha hg)
 have HCt2 := Lib.hid (HCt1.out.gb hg (by omega))
 have HIt2 := Lib.hid (HIt1.out.gb hg (by have := H2.out.hAw; omega))
 clear ha hg
 have x0 := HIt2.out.c0
 go_wp2_with (go_at_call 85; refine (HWH.out _ Ht2.out).mono ?_; rintro e v3 ⟨⟨v, rfl, ha, ho⟩, hg⟩; refine Hid.out ?_)
 refine Lib.hid ?_
 obtain ⟨so, scap, rfl⟩ := own_shape ho
 have hszt : w.heap.size ≤ v2.heap.size := Ht2.out.gb.size
 have HO := Lib.hid (own_le ho hszt)
 have HI3 := Lib.hid (HIt2.out.gb hg (by have := H2.out.hAw; omega))
 have HC3 := Lib.hid (HCt2.out.gb hg (by have := H2.out.hAw; omega))
 have y1 := HI3.out.c1
 have yf := HI3.out.f 1
 have HIw := Lib.hid (HI3.out.set1 (v' := .slice so e3.length scap))
 have HCw := Lib.hid (HC3.out.other (C := w2.heap.size) (j := 1) (v' := .slice so e3.length scap) (by omega))
 have Hw := Lib.hid ((Ht2.out.step ha hg).set (C := w2.heap.size) (j := 1) (v := .slice so e3.length scap) (by omega))
 clear x0 ha hg ho
 go_wp2_with (go_at_call 79; refine (HT3.out _ _ Hw.out).mono ?_; rintro e v3 ⟨rfl, hg⟩; refine Hid.out ?_)
 refine Lib.hid ?_
 exact ⟨rfl, rfl, gb_trans Hw.out.gb hg⟩

set_option maxHeartbeats 2000000 in
set_option maxRecDepth 100000 in
theorem item_agg_ok {A : Nat} {l1 l2 l3 l4 : List Tok} {op1 op2 op3 op4 y q : Int} {e3 : List Stp} {l : List Tok} {fin op X : Int} {sv : Value} {w : World} (h : AtW A l fin op sv w) (hG : PGlob w) (hA8 : 11 ≤ A) (hop : OpOk op) (hs : ∀ t ∈ l, t.s.size < 4294967281) (hll : l.length ≤ 1099511627776)
  (hX : Lib.idxOfS wordsL (headR l) = X) (hX1 : 1 ≤ X) (hX4 : X ≤ 4) (h1 : takeR fin 1 (fun _ => true) l op = .ok (l1, op1)) (h2 : takeR fin 3 (fun _ => true) l1 op1 = .ok (l2, op2)) (hc : X ≠ 1) (h3 : wholeR fin l2 op2 = .ok (l3, op3, e3)) (h4 : takeR fin 2 (fun _ => true) l3 op3 = .ok (l4, op4)) :
  Calls Tryz.prog 90 #[.pointer (some ⟨A, 0, none⟩)] w fun e w' => ItemP A fin w (.ok (l4, op4, ⟨X, e3⟩)) e w' := by
 have hb0 : Below w.heap.size w (w.alloc (.cells #[.int .u8 0, .slice none 0 0] 40)) := (Below.refl _ w).alloc (Nat.le_refl _) _
 have H0 := Lib.hid ((⟨h, gb_refl _ _, hG, hA8, h.lt⟩ : ItS A l fin op sv w w).next hb0)
 have hc0 : CellI w.heap.size 0 (.slice none 0 0) (w.alloc (.cells #[.int .u8 0, .slice none 0 0] 40)) := by unfold CellI; rw [heap_alloc_new]
 have HC0 := Lib.hid hc0
 have HHD := Lib.hid fun wr (H : ItS A l fin op sv w wr) => head_any H.at_
 have HIX := Lib.hid fun b w5 (hS : SBlk b wordsL w5) => (Tryz.slices_Index_string b 0 5 5 wordsL (headR l) w5 (by decide) (by decide) hS).mono fun e w' ⟨h1, h2⟩ => (⟨h1, h2.symm⟩ : e = _ ∧ w5 = w')
 rw [show wordsL.take 5 = wordsL from rfl, hX] at HIX
 have HT1 := Lib.hid fun wr (H : ItS A l fin op sv w wr) => takeN_any H.at_ hop (.inl rfl : (1 : Int) = 1 ∨ (1 : Int) = 2 ∨ (1 : Int) = 3)
 rw [h1] at HT1
 have hop1 : OpOk op1 := by
  have e1 : op1 = op + 1 := takeR_op h1
  have e2 := (takeR_ok h1 (by decide)).2.2.2.2.2.2 rfl
  have := hop.1
  exact ⟨by omega, by omega⟩
 have HT2 := Lib.hid fun wr (H : ItS A l1 fin op1 sv w wr) => takeN_any H.at_ hop1 (.inr (.inr rfl) : (3 : Int) = 1 ∨ (3 : Int) = 2 ∨ (3 : Int) = 3)
 rw [h2] at HT2
 generalize tokAt l1 fin = T2 at HT2
 have hop2 : OpOk op2 := by
  have e1 : op2 = op1 := takeR_op h2
  rw [e1]; exact hop1
 have hop3 : OpOk op3 := by
  have e1 : op3 = op2 := (exprR_ok fin _ _ _ _ _ h3).2.2.2
  rw [e1]; exact hop2
 have hl2 : l2 <:+ l := by
  have a := (takeR_ok h1 (by decide)).1
  have b := (takeR_ok h2 (by decide)).1
  rw [b, a]
  exact (List.tail_suffix _).trans (List.tail_suffix _)
 have HWH := Lib.hid fun wr (H : ItS A l2 fin op2 sv w wr) => whole_any H.at_ H.glob H.hA8 hop2 (fun t ht => hs t (hl2.subset ht)) (Nat.le_trans hl2.length_le hll)
 rw [h3] at HWH
 have HT3 := Lib.hid fun sv wr (H : ItS A l3 fin op3 sv w wr) => takeN_any H.at_ hop3 (.inr (.inl rfl) : (2 : Int) = 1 ∨ (2 : Int) = 2 ∨ (2 : Int) = 3)
 rw [h4] at HT3
 generalize tokAt l3 fin = T3 at HT3
 have hcb : (X != 1) = true := by simp [hc]
 clear hc
 have hlt := h.lt
 have hwr : IntKind.u8.wrap X = X := by rw [IntKind.wrap_u8]; omega
 have hXI : ¬ X < 1 := by omega
 generalize tokAt l fin = T1 at HT1
 clear h hG hs hb0 hc0
 go_enter Tryz.func90, Tryz.ntmps90
 go_wp2_with (go_at_call 108; refine (words_any _).mono ?_; rintro e w2 ⟨rfl, hS, hb2⟩; refine Hid.out ?_)
 refine Lib.hid ?_
 have H2 := Lib.hid (H0.out.next hb2)
 have HC2 := Lib.hid (HC0.out.gb (A := A) (below_gb hb2) (by omega))
 rw [alloc_sz] at hS
 have HS := Lib.hid hS
 clear hb2 hS
 go_wp2_with (go_at_call 91; refine (HHD.out _ H2.out).mono ?_; rintro e w3 ⟨rfl, rfl⟩; refine Hid.out ?_)
 refine Lib.hid ?_
 go_wp2_with (go_at_call 94; refine (HIX.out _ _ HS.out).mono ?_; rintro e w3 ⟨rfl, rfl⟩; refine Hid.out ?_)
 refine Lib.hid ?_
 have hsz2 : w.heap.size < w2.heap.size := (Array.getElem?_eq_some_iff.1 HC2.out).1
 have H2a := Lib.hid (H2.out.next ((Below.refl w2.heap.size w2).alloc (Nat.le_refl _) (.cells #[.int .u8 X, .slice none 0 0] 40)))
 have HC2a := Lib.hid (HC2.out.gb (A := A) (below_gb ((Below.refl w2.heap.size w2).alloc (Nat.le_refl _) (.cells #[.int .u8 X, .slice none 0 0] 40))) (by omega))
 have HI2 : Hid (CellI w2.heap.size X (.slice none 0 0) (w2.alloc (.cells #[.int .u8 X, .slice none 0 0] 40))) := Lib.hid (by unfold CellI; rw [heap_alloc_new])
 go_wp2_with (go_at_call 79; refine (HT1.out _ H2a.out).mono ?_; rintro e v1 ⟨rfl, ha, hg⟩; refine Hid.out ?_)
 refine Lib.hid ?_
 have Ht1 := Lib.hid (H2a.out.step ha hg)
 have HCt1 := Lib.hid (HC2a.out.gb hg (by omega))
 have HIt1 := Lib.hid (HI2.out.gb hg (by have := H2.out.hAw; omega))
 clear ha hg
 go_wp2_with (go_at_call 79; refine (HT2.out _ Ht1.out).mono ?_; rintro e v2 ⟨rfl, ha, hg⟩; refine Hid.out ?_)
 refine Lib.hid ?_
 have Ht2 := Lib.hid (Ht1.out.step ha hg)
 have HCt2 := Lib.hid (HCt1.out.gb hg (by omega))
 have HIt2 := Lib.hid (HIt1.out.gb hg (by have := H2.out.hAw; omega))
 clear ha hg
 have x0 := HIt2.out.c0
 go_wp2_with (go_at_call 85; refine (HWH.out _ Ht2.out).mono ?_; rintro e v3 ⟨⟨v, rfl, ha, ho⟩, hg⟩; refine Hid.out ?_)
 refine Lib.hid ?_
 obtain ⟨so, scap, rfl⟩ := own_shape ho
 have hszt : w.heap.size ≤ v2.heap.size := Ht2.out.gb.size
 have HOb := Lib.hid ho
 have hCv : w2.heap.size < v2.heap.size := (Array.getElem?_eq_some_iff.1 HIt2.out).1
 have hAv : A < v2.heap.size := Ht2.out.at_.lt
 have HI3 := Lib.hid (HIt2.out.gb hg (by have := H2.out.hAw; omega))
 have HC3 := Lib.hid (HCt2.out.gb hg (by have := H2.out.hAw; omega))
 have y1 := HI3.out.c1
 have yf := HI3.out.f 1
 have HIw := Lib.hid (HI3.out.set1 (v' := .slice so e3.length scap))
 have HCw := Lib.hid (HC3.out.other (C := w2.heap.size) (j := 1) (v' := .slice so e3.length scap) (by omega))
 have Hw := Lib.hid ((Ht2.out.step ha hg).set (C := w2.heap.size) (j := 1) (v := .slice so e3.length scap) (by omega))
 clear x0 ha hg ho
 go_wp2_with (go_at_call 79; refine (HT3.out _ _ Hw.out).mono ?_; rintro e v3 ⟨rfl, ha, hg⟩; refine Hid.out ?_)
 refine Lib.hid ?_
 have Ht3 := Lib.hid (Hw.out.step ha hg)
 have HCt3 := Lib.hid (HCw.out.gb hg (by omega))
 have HIt3 := Lib.hid (HIw.out.gb hg (by have := H2.out.hAw; omega))
 have HG3 := Lib.hid hg
 clear ha hg
 clear y1 yf
 have r0 := HCt3.out.c0
 have r1 := HCt3.out.c1
 have fr := HCt3.out.f
 have x0 := HIt3.out.c0
 have x1 := HIt3.out.c1
 go_wp2_with fail
 refine bodyPost_ret (v := .agg #[.int .u8 X, .slice so e3.length scap]) (resultsI rfl HCt3.out.put rfl) rfl ⟨⟨_, _, rfl, Ht3.out.at_.kept (fun k hk => (Below.heap_setCell _ _ _ _ (by show k ≠ w.heap.size; have := H2.out.hAw; omega)).trans (Below.heap_setCell _ _ _ _ (by show k ≠ w.heap.size; have := H2.out.hAw; omega))), ?_⟩, ?_⟩
 ·
  exact own_le (own_set2 (own_gbA (own_keepA HOb.out fun k hk _ => Below.heap_setCell _ _ _ _ (by show k ≠ w2.heap.size; omega)) HG3.out hAv) (by omega)) hszt
 ·
  exact ⟨Ht3.out.gb.os, Ht3.out.gb.tape, Ht3.out.gb.output, by have := Ht3.out.gb.size; rwa [setCell_size, setCell_size], fun k hk hne => ((Below.heap_setCell _ _ _ _ (by show k ≠ w.heap.size; omega)).trans (Below.heap_setCell _ _ _ _ (by show k ≠ w.heap.size; omega))).trans (Ht3.out.gb.block k hk hne)⟩
end Go.Proofs.YtgjfbbmachoolaaGreatDoor.lx
namespace Go.Proofs.YtgjfbbmachoolaaGreatDoor.lx
open Go.RowKit

theorem item_any {A : Nat} {l : List Tok} {fin op : Int} {sv : Value} {w : World} (h : AtW A l fin op sv w) (hG : PGlob w) (hA8 : 11 ≤ A) (hop : OpOk op) (hs : ∀ t ∈ l, t.s.size < 4294967281) (hll : l.length ≤ 1099511627776) :
  Calls Tryz.prog 90 #[.pointer (some ⟨A, 0, none⟩)] w fun e w' => ItemP A fin w (itemR fin l op) e w' := by
 unfold itemR
 by_cases hi : Lib.idxOfS wordsL (headR l) < 1
 ·
  rw [if_pos hi]
  exact item_whole h hG hA8 hop hs hll hi
 rw [if_neg hi]
 obtain ⟨X, hX⟩ : ∃ X, Lib.idxOfS wordsL (headR l) = X := ⟨_, rfl⟩
 have hX1 : 1 ≤ X := by omega
 have hX4 : X ≤ 4 := by
  have h1 := idx_range wordsL (headR l) 0
  have h2 : wordsL.length = 5 := rfl
  unfold Lib.idxOfS at hX
  omega
 rw [hX]
 cases h1 : takeR fin 1 (fun _ => true) l op with
 | bad y q => exact item_bad1 (l1 := []) (l2 := []) (l3 := []) (l4 := []) (op1 := 0) (op2 := 0) (op3 := 0) (op4 := 0) (e3 := []) h hG hA8 hop hs hll hX hX1 hX4 h1
 | ok x =>
  obtain ⟨l1, op1⟩ := x
  simp only [Res.then]
  cases h2 : takeR fin 3 (fun _ => true) l1 op1 with
  | bad y q => exact item_bad2 (l2 := []) (l3 := []) (l4 := []) (op2 := 0) (op3 := 0) (op4 := 0) (e3 := []) h hG hA8 hop hs hll hX hX1 hX4 h1 h2
  | ok x =>
   obtain ⟨l2, op2⟩ := x
   simp only
   by_cases hc : X = 1
   ·
    rw [if_pos hc]
    simp only
    cases h4 : takeR fin 2 (fun _ => true) l2 op2 with
    | bad y q => exact item_count_bad (l3 := []) (l4 := []) (op3 := 0) (op4 := 0) (e3 := []) h hG hA8 hop hs hll hX hX1 hX4 h1 h2 hc h4
    | ok x =>
     obtain ⟨l4, op4⟩ := x
     exact item_count_ok (l3 := []) (op3 := 0) (y := 0) (q := 0) (e3 := []) h hG hA8 hop hs hll hX hX1 hX4 h1 h2 hc h4
   ·
    rw [if_neg hc]
    cases h3 : wholeR fin l2 op2 with
    | bad y q => exact item_agg_bad (l3 := []) (l4 := []) (op3 := 0) (op4 := 0) (e3 := []) h hG hA8 hop hs hll hX hX1 hX4 h1 h2 hc h3
    | ok s =>
     obtain ⟨l3, op3, e3⟩ := s
     simp only
     cases h4 : takeR fin 2 (fun _ => true) l3 op3 with
     | bad y q => exact item_agg_bad3 (l4 := []) (op4 := 0) h hG hA8 hop hs hll hX hX1 hX4 h1 h2 hc h3 h4
     | ok x =>
      obtain ⟨l4, op4⟩ := x
      exact item_agg_ok (y := 0) (q := 0) h hG hA8 hop hs hll hX hX1 hX4 h1 h2 hc h3 h4
end Go.Proofs.YtgjfbbmachoolaaGreatDoor.lx
namespace Go.Proofs.YtgjfbbmachoolaaGreatDoor.lx
open Go.RowKit

theorem infoStr : (Tryz.prog.info? 9).map (fun i => (i.zero, i.size, i.bytes)) = some (some (.string ⟨#[]⟩), 1, 16) := by kernel_rfl
/-- what some comes to -/
def SomeP (A : Nat) (fin : Int) (w : World) (R : Res (List Tok × Int × List ByteArray)) (e : Ending) (w' : World) : Prop :=
 match R with
 | .ok x => (∃ v sv', e = .returned v ∧ AtW A x.1 fin x.2.1 sv' w' ∧ w'.ownsRow w.heap.size 9 1 v x.2.2.length (x.2.2.map Value.string)) ∧ w.grownBy w' (some A)
 | .bad y p => e = .panicked [flt y p] ∧ w.grownBy w' (some A)
/-- the loop of some: where it stands -/
structure SmS (A : Nat) (fin : Int) (R : Res (List Tok × Int × List ByteArray)) (out : List ByteArray) (l : List Tok) (op : Int) (sv : Value) (w wr : World) : Prop where
 it : ItS A l fin op sv w wr
 op_ : OpOk op
 sz : ∀ t ∈ l, t.s.size < 4294967281
 o8 : out.length ≤ 8
 run : ∃ m, l.length + 1 ≤ m ∧ someR (atomR columnR fin) fin m out l op = R
theorem SmS.next {A : Nat} {fin : Int} {R : Res (List Tok × Int × List ByteArray)} {out : List ByteArray} {l : List Tok} {op : Int} {sv : Value} {w wr w' : World} (h : SmS A fin R out l op sv w wr) (hb : Below wr.heap.size wr w') : SmS A fin R out l op sv w w' := ⟨h.it.next hb, h.op_, h.sz, h.o8, h.run⟩
theorem SmS.stop {A : Nat} {fin : Int} {R : Res (List Tok × Int × List ByteArray)} {out : List ByteArray} {l : List Tok} {op : Int} {sv : Value} {w wr : World} (h : SmS A fin R out l op sv w wr) (h0 : out.length ≠ 0) (hc : closesR l fin = true) : R = .ok (l, op, out) := by
 obtain ⟨m, hm, hr⟩ := h.run
 obtain ⟨m, rfl⟩ : ∃ k, m = k + 1 := ⟨m - 1, by omega⟩
 rw [someR, if_neg (by rw [hc]; simp; exact fun e => h0 (by rw [e]; rfl))] at hr
 exact hr.symm
theorem SmS.many {A : Nat} {fin : Int} {R : Res (List Tok × Int × List ByteArray)} {out : List ByteArray} {l : List Tok} {op : Int} {sv : Value} {w wr : World} (h : SmS A fin R out l op sv w wr) (h0 : out.length = 0 ∨ closesR l fin = false) (h8 : ¬ out.length < 8) : R = .bad 3 (tokAt l fin).a := by
 obtain ⟨m, hm, hr⟩ := h.run
 obtain ⟨m, rfl⟩ : ∃ k, m = k + 1 := ⟨m - 1, by omega⟩
 rw [someR, if_pos h0, if_neg h8] at hr
 exact hr.symm
theorem SmS.bad {A : Nat} {fin y q : Int} {R : Res (List Tok × Int × List ByteArray)} {out : List ByteArray} {l : List Tok} {op : Int} {sv : Value} {w wr : World} (h : SmS A fin R out l op sv w wr) (h0 : out.length = 0 ∨ closesR l fin = false) (h8 : out.length < 8) (ha : atomR columnR fin l op = .bad y q) : R = .bad y q := by
 obtain ⟨m, hm, hr⟩ := h.run
 obtain ⟨m, rfl⟩ : ∃ k, m = k + 1 := ⟨m - 1, by omega⟩
 rw [someR, if_pos h0, if_pos h8, ha] at hr
 exact hr.symm
theorem SmS.go {A : Nat} {fin : Int} {R : Res (List Tok × Int × List ByteArray)} {out : List ByteArray} {l : List Tok} {op : Int} {sv : Value} {w wr w' : World} {s : List Tok × Int × ByteArray} (h : SmS A fin R out l op sv w wr) (h0 : out.length = 0 ∨ closesR l fin = false) (h8 : out.length < 8) (ha : atomR columnR fin l op = .ok s)
  (hi : ItS A s.1 fin s.2.1 sv w w') : SmS A fin R (out ++ [s.2.2]) s.1 s.2.1 sv w w' ∧ s.1.length < l.length := by
 obtain ⟨m, hm, hr⟩ := h.run
 obtain ⟨m, rfl⟩ : ∃ k, m = k + 1 := ⟨m - 1, by omega⟩
 rw [someR, if_pos h0, if_pos h8, ha] at hr
 unfold atomR at ha
 cases ht : takeR fin 3 columnR l op with
 | bad y q => rw [ht] at ha; cases ha
 | ok x =>
  obtain ⟨l', op'⟩ := x
  rw [ht] at ha
  injection ha with ha
  subst ha
  obtain ⟨a1, _, _, a4, _⟩ := takeR_ok ht (by decide)
  have e1 : op' = op := takeR_op ht
  exact ⟨⟨hi, by rw [e1]; exact h.op_, fun t ht => h.sz t (by rw [a1] at ht; exact List.mem_of_mem_tail ht), by rw [List.length_append]; simp; omega, ⟨m, by simp only; omega, hr⟩⟩, by simp only; omega⟩
end Go.Proofs.YtgjfbbmachoolaaGreatDoor.lx
