/-
  The parser's query, walked up to its clauses. Conditions: the walk lies there; the package-level variables are laid; the tokens' texts are no great ones. What a step takes (parse.Takes). Conditions: the package-level variables are laid; the step's text is no great one. slices.Backward over steps: what it hands over, and in which order. Conditions: the steps lie there.
-/
import Derived.Test.YtgjfbbmachoolaaGreatDoorM08
import Derived.Laws.EntriesVeiled
import Derived.StillTailTactics
import Derived.RangeFuncNested
import Derived.RangeFuncBound
import Derived.RangeFuncCalls
import Derived.RangeFuncLeaves
import Derived.Shelf.Abstract
import Derived.Shelf.RegionOpen
import Derived.OwnWalkIn
import Derived.TacticsInMore
import Derived.LoopNIn
import Derived.LoopIn
namespace Go.Proofs.YtgjfbbmachoolaaGreatDoor.lx
open Go.RowKit

/-- a query that is handed back -/
def QryV (B : Nat) (q : Qry) (v : Value) (w : World) : Prop :=
 ∃ iv wv gv, v = .agg #[iv, .string q.table, .string q.join, .string q.left, .string q.right, wv, gv] ∧ IO B w q.items iv ∧ w.ownsRow B 50 3 wv q.wher.length (stpCells q.wher) ∧ w.ownsRow B 9 1 gv q.group.length (q.group.map Value.string)
/-- what query comes to -/
def QueryP (A : Nat) (w : World) (R : Res Qry) (e : Ending) (w' : World) : Prop :=
 match R with
 | .ok q => (∃ v, e = .returned v ∧ QryV w.heap.size q v w') ∧ w.grownBy w' (some A)
 | .bad y p => e = .panicked [flt y p] ∧ w.grownBy w' (some A)
theorem QueryP.bad {A : Nat} {y p : Int} {w : World} {R : Res Qry} {w' : World} (h : R = .bad y p) (hg : w.grownBy w' (some A)) : QueryP A w R (.panicked [flt y p]) w' := by subst h; exact ⟨rfl, hg⟩

theorem QueryP.ok {A : Nat} {w : World} {R : Res Qry} {q : Qry} {v : Value} {w' : World} (h : R = .ok q) (hv : QryV w.heap.size q v w') (hg : w.grownBy w' (some A)) : QueryP A w R (.returned v) w' := by subst h; exact ⟨⟨_, rfl, hv⟩, hg⟩
theorem QryV.kept {B : Nat} {q : Qry} {v : Value} {w w' : World} (h : QryV B q v w) (hb : ∀ k, B ≤ k → k < w.heap.size → w'.heap[k]? = w.heap[k]?) : QryV B q v w' := by
 obtain ⟨iv, wv, gv, h1, h2, h3, h4⟩ := h
 exact ⟨iv, wv, gv, h1, h2.kept hb, own_keepA h3 hb, own_keepA h4 hb⟩
theorem QryV.le {B C : Nat} {q : Qry} {v : Value} {w : World} (h : QryV B q v w) (hC : C ≤ B) : QryV C q v w := by
 obtain ⟨iv, wv, gv, h1, h2, h3, h4⟩ := h
 exact ⟨iv, wv, gv, h1, h2.le hC, own_le h3 hC, own_le h4 hC⟩
/-- seven cells written -/
def set7 (Q : Nat) (a b c d e f g : Value) (w : World) : World :=
 ((((((w.setCell ⟨Q, 0, none⟩ a).setCell ⟨Q, 1, none⟩ b).setCell ⟨Q, 2, none⟩ c).setCell ⟨Q, 3, none⟩ d).setCell ⟨Q, 4, none⟩ e).setCell ⟨Q, 5, none⟩ f).setCell ⟨Q, 6, none⟩ g
theorem set7_at {Q : Nat} {a b c d e f g a' b' c' d' e' f' g' : Value} {ty : TypeId} {w : World} (h : w.heap[Q]? = some (.cells #[a', b', c', d', e', f', g'] ty (0, 0))) : (set7 Q a b c d e f g w).heap[Q]? = some (.cells #[a, b, c, d, e, f, g] ty (0, 0)) := by
 simp [set7, World.setCell, Array.getElem?_modify, h]
theorem set7_ne {Q k : Nat} {a b c d e f g : Value} {w : World} (h : k ≠ Q) : (set7 Q a b c d e f g w).heap[k]? = w.heap[k]? := by
 simp [set7, World.setCell, Array.getElem?_modify, Ne.symm h]
theorem set7_size {Q : Nat} {a b c d e f g : Value} {w : World} : (set7 Q a b c d e f g w).heap.size = w.heap.size := by simp [set7, World.setCell]
theorem gb_far {A Q j : Nat} {v : Value} {w w' : World} (h : w.grownBy w' (some A)) (hQ : w.heap.size ≤ Q) : w.grownBy (w'.setCell ⟨Q, j, none⟩ v) (some A) :=
 ⟨h.os, h.tape, h.output, by rw [setCell_size]; exact h.size, fun k hk hne => (Below.heap_setCell _ _ _ _ (by show k ≠ Q; omega)).trans (h.block k hk hne)⟩
theorem set7_gb {A Q : Nat} {a b c d e f g : Value} {w w' : World} (h : w.grownBy w' (some A)) (hQ : w.heap.size ≤ Q) : w.grownBy (set7 Q a b c d e f g w') (some A) :=
 gb_far (gb_far (gb_far (gb_far (gb_far (gb_far (gb_far h hQ) hQ) hQ) hQ) hQ) hQ) hQ

/-- behind the clauses -/
def endQ (fin : Int) (s : QS) : Res Qry := (takeR fin 2 (fun _ => true) s.1 s.2.1).then fun u => if u.1.length = 0 then .ok s.2.2 else .bad 13 (tokAt u.1 fin).a
def clauseF : Nat → Nat | 0 => 82 | 1 => 84 | 2 => 86 | _ => 88
def clauseW (k : Nat) : ByteArray := clausesL.getD k ⟨#[]⟩
/-- the clauses' row -/
def ClB (P Q C : Nat) (w : World) : Prop := ∀ k, k < 4 → w.cell? ⟨C, k * 2, none⟩ = some (.string (clauseW k)) ∧ w.cell? ⟨C, k * 2 + 1, none⟩ = some (.func (.func (clauseF k)) #[] #[.pointer (some ⟨P, 0, none⟩), .pointer (some ⟨Q, 0, none⟩)])
/-- where the loop over the clauses stands -/
structure LpS (A P Q C k : Nat) (R : Res Qry) (q : Qry) (l : List Tok) (fin op : Int) (sv : Value) (w wr : World) : Prop where
 q_ : QrS A P Q q l fin op sv w wr
 hC : Q < C
 cl : ClB P Q C wr
 run : (clausesR fin k (clausesL.drop k) (l, op, q)).then (endQ fin) = R
 one : op = 1

def clArr (P Q : Nat) : Array Value := #[.string ⟨#[106, 111, 105, 110]⟩, .func (.func 82) #[] #[.pointer (some ⟨P, 0, none⟩), .pointer (some ⟨Q, 0, none⟩)], .string ⟨#[119, 104, 101, 114, 101]⟩, .func (.func 84) #[] #[.pointer (some ⟨P, 0, none⟩), .pointer (some ⟨Q, 0, none⟩)], .string ⟨#[103, 114, 111, 117, 112]⟩, .func (.func 86) #[] #[.pointer (some ⟨P, 0, none⟩), .pointer (some ⟨Q, 0, none⟩)], .string ⟨#[103, 101, 116]⟩, .func (.func 88) #[] #[.pointer (some ⟨P, 0, none⟩), .pointer (some ⟨Q, 0, none⟩)]]
theorem clb_of {P Q C : Nat} {w : World} (h : w.heap[C]? = some (.cells (clArr P Q) 154 (0, 0))) : ClB P Q C w := by
 intro k hk
 rw [Lib.cell_of_heap h, Lib.cell_of_heap h]
 match k, hk with
 | 0, _ => exact ⟨rfl, rfl⟩
 | 1, _ => exact ⟨rfl, rfl⟩
 | 2, _ => exact ⟨rfl, rfl⟩
 | 3, _ => exact ⟨rfl, rfl⟩

theorem LpS.next {A P Q C k : Nat} {R : Res Qry} {q : Qry} {l : List Tok} {fin op : Int} {sv : Value} {w wr w' : World} (h : LpS A P Q C k R q l fin op sv w wr) (hb : Below wr.heap.size wr w') : LpS A P Q C k R q l fin op sv w w' :=
 ⟨h.q_.next hb, h.hC, fun k hk => ⟨keep_cellP hb (h.cl k hk).1, keep_cellP hb (h.cl k hk).2⟩, h.run, h.one⟩

theorem resultsQ {fn : Func} {t : Tmp} (hf : fn.results = #[.cell t 26]) {tmps : Array Value} {B : Nat} {a b c d e f g : Value} {w : World} (h : w.heap[B]? = some (.cells #[a, b, c, d, e, f, g] 26 (0, 0)))
  (hq : tmps.getD t undef = .pointer (some ⟨B, 0, none⟩)) : (results fn tmps).run Tryz.prog w = .ok (.agg #[a, b, c, d, e, f, g]) w :=
 results_cell_row hf tmps w B 26 _ (0, 0) _ hq h Tryz.underlying26 rfl (by kernel_rfl)
theorem then_assoc {α β γ : Type} (r : Res α) (f : α → Res β) (g : β → Res γ) : (r.then f).then g = r.then fun x => (f x).then g := by cases r <;> rfl
theorem ok_then {α β : Type} (x : α) (f : α → Res β) : (Res.ok x).then f = f x := rfl
theorem drop_cl {k : Nat} (hk : k < 4) : clausesL.drop k = clauseW k :: clausesL.drop (k + 1) := by
 match k, hk with
 | 0, _ => rfl
 | 1, _ => rfl
 | 2, _ => rfl
 | 3, _ => rfl
theorem ClB.kept {A P Q C : Nat} {w w' : World} (h : ClB P Q C w) (hf : FrQ A Q w w') (hA : A < Q) (hC : Q < C) : ClB P Q C w' := by
 intro k hk
 obtain ⟨a, b⟩ := h k hk
 have e := hf.block C (World.block_lt_of_cell? w _ a) (by omega) (by omega)
 exact ⟨(World.cell?_of_block (a := ⟨C, _, none⟩) e).trans a, (World.cell?_of_block (a := ⟨C, _, none⟩) e).trans b⟩
theorem LpS.skip {A P Q C k : Nat} {R : Res Qry} {q : Qry} {l : List Tok} {fin op : Int} {sv : Value} {w wr : World} (h : LpS A P Q C k R q l fin op sv w wr) (hk : k < 4) (hne : ¬ headR l = clauseW k) : LpS A P Q C (k + 1) R q l fin op sv w wr := by
 refine ⟨h.q_, h.hC, h.cl, ?_, h.one⟩
 have := h.run
 rw [drop_cl hk, clausesR, clauseR, if_neg hne] at this
 exact this
theorem LpS.read {A P Q C k : Nat} {R : Res Qry} {q : Qry} {l : List Tok} {fin op : Int} {sv : Value} {w wr : World} (h : LpS A P Q C k R q l fin op sv w wr) (hk : k < 4) (he : headR l = clauseW k) :
  ((takeR fin 1 (fun _ => true) l op).then fun x => (takeR fin 3 (fun _ => true) x.1 x.2).then fun y => (readR k fin (y.1, y.2, q)).then fun z => (takeR fin 2 (fun _ => true) z.1 z.2.1).then fun u => (clausesR fin (k + 1) (clausesL.drop (k + 1)) (u.1, u.2, z.2.2)).then (endQ fin)) = R := by
 have := h.run
 rw [drop_cl hk, clausesR, clauseR, if_pos he] at this
 simpa only [then_assoc, ok_then] using this
theorem readk_any {k : Nat} (hk : k < 4) {A P Q : Nat} {q : Qry} {l : List Tok} {fin op : Int} {sv : Value} {w wr : World} (H : QrS A P Q q l fin op sv w wr) :
  Calls Tryz.prog (clauseF k) #[.pointer (some ⟨P, 0, none⟩), .pointer (some ⟨Q, 0, none⟩)] wr fun e w' => RdP A P Q fin w wr (readR k fin (l, op, q)) e w' := by
 match k, hk with
 | 0, _ => exact read0_any H
 | 1, _ => exact read1_any H
 | 2, _ => exact read2_any H
 | 3, _ => exact read3_any H
theorem readR_ok {k : Nat} (hk : k < 4) {fin : Int} {l : List Tok} {op : Int} {q : Qry} {s : QS} (h : readR k fin (l, op, q) = .ok s) : s.1 <:+ l ∧ s.2.1 = op := by
 have one : ∀ {α : Type} {r : Res (List Tok × Int × α)} {f : List Tok × Int × α → Qry}, (∀ x, r = .ok x → x.1 <:+ l ∧ x.2.1 = op) → r.then (fun a => Res.ok (a.1, a.2.1, f a)) = .ok s → s.1 <:+ l ∧ s.2.1 = op := by
  intro α r f hx hr
  cases r with
  | bad y p => cases hr
  | ok x => injection hr with hr; subst hr; exact hx x rfl
 match k, hk with
 | 0, _ =>
  unfold readR at h
  simp only at h
  cases ha : atomR nameR fin l op with
  | bad y p => rw [ha] at h; cases h
  | ok a =>
   rw [ha] at h
   simp only [Res.then] at h
   obtain ⟨a1, _, a2, _⟩ := atomR_ok ha
   cases hb : atomR columnR fin a.1 a.2.1 with
   | bad y p => rw [hb] at h; cases h
   | ok b =>
    rw [hb] at h
    simp only at h
    obtain ⟨b1, _, b2, _⟩ := atomR_ok hb
    cases hc : atomR columnR fin b.1 b.2.1 with
    | bad y p => rw [hc] at h; cases h
    | ok c =>
     rw [hc] at h
     injection h with h
     subst h
     obtain ⟨c1, _, c2, _⟩ := atomR_ok hc
     exact ⟨c1.trans (b1.trans a1), c2.trans (b2.trans a2)⟩
 | 1, _ => exact one (fun x hx => ⟨(exprR_ok fin _ _ _ _ _ hx).1, (exprR_ok fin _ _ _ _ _ hx).2.2.2⟩) h
 | 2, _ => exact one (fun x hx => someR_ok (fun l op s h => ⟨(atomR_ok h).1, (atomR_ok h).2.2.1⟩) _ _ _ _ _ hx) h
 | 3, _ => exact one (fun x hx => someR_ok (fun l op s h => ⟨(itemR_ok h).1, (itemR_ok h).2.2.2.1⟩) _ _ _ _ _ hx) h
theorem enters_clause {k : Nat} (hk : k < 4) : ∀ args w, (callFunc (clauseF k) args).run Tryz.prog w = .ok (.enter (clauseF k) args) w := by
 match k, hk with
 | 0, _ => exact enters_of Tryz.func82 (by kernel_rfl) rfl
 | 1, _ => exact enters_of Tryz.func84 (by kernel_rfl) rfl
 | 2, _ => exact enters_of Tryz.func86 (by kernel_rfl) rfl
 | 3, _ => exact enters_of Tryz.func88 (by kernel_rfl) rfl

set_option maxHeartbeats 2000000 in
set_option maxRecDepth 100000 in
theorem query_any {A : Nat} {l : List Tok} {fin : Int} {sv : Value} {w : World} (h : AtW A l fin 0 sv w) (hG : PGlob w) (hA8 : 11 ≤ A) (hs : ∀ t ∈ l, t.s.size < 4294967281) (hll : l.length ≤ 1099511627776) :
  Calls Tryz.prog 62 #[.pointer (some ⟨A, 0, none⟩)] w fun e w' => QueryP A w (queryR fin l) e w' := by
 obtain ⟨R, hR⟩ : ∃ R, queryR fin l = R := ⟨_, rfl⟩
 rw [hR]
 unfold queryR at hR
 have H0 : Hid (QrS A w.heap.size (w.heap.size + 1) Qry.none l fin 0 sv w ((w.alloc (.cells #[.pointer (some ⟨A, 0, none⟩)] 117)).alloc (.cells #[.slice none 0 0, .string ⟨#[]⟩, .string ⟨#[]⟩, .string ⟨#[]⟩, .string ⟨#[]⟩, .slice none 0 0, .slice none 0 0] 26))) := by
  have e0 : (w.alloc (.cells #[.pointer (some ⟨A, 0, none⟩)] 117)).heap.size = w.heap.size + 1 := by simp
  have hb : Below w.heap.size w ((w.alloc (.cells #[.pointer (some ⟨A, 0, none⟩)] 117)).alloc (.cells #[.slice none 0 0, .string ⟨#[]⟩, .string ⟨#[]⟩, .string ⟨#[]⟩, .string ⟨#[]⟩, .slice none 0 0, .slice none 0 0] 26)) := ((Below.refl _ w).alloc (Nat.le_refl _) _).alloc (by rw [e0]; omega) _
  refine Lib.hid ⟨⟨h.below hb, gb_of_below hb _, hG.self hb, hA8, h.lt⟩, ⟨by decide, by decide⟩, hs, hll, Nat.le_refl _, Nat.lt_succ_self _, ?_, .slice none 0 0, .slice none 0 0, .slice none 0 0, ?_, IO.nil _ _, World.ownsRow_nil _ _ _ _, World.ownsRow_nil _ _ _ _⟩
  ·
   rw [heap_alloc_old _ _ (by rw [e0]; omega)]
   exact heap_alloc_new _ _
  ·
   rw [← e0]
   exact heap_alloc_new _ _
 have hlt := h.lt
 have hPQ : w.heap.size < w.heap.size + 1 := Nat.lt_succ_self _
 clear h hG hs
 have hmf : ∀ (fn : Fn) (first cap : Array Value) (w : World), (Instr.makeFunc fn first cap).run Tryz.prog w = .ok (.func fn first cap) w := fun _ _ _ _ => rfl
 go_enter Tryz.func62, Tryz.ntmps62
 have ht := takeN_any H0.out.it.at_ H0.out.op_ (.inl rfl : (1 : Int) = 1 ∨ (1 : Int) = 2 ∨ (1 : Int) = 3)
 have c0 := H0.out.cP
 cases ha : takeR fin 1 (fun _ => true) l 0 with
 | bad y q' =>
  rw [ha] at ht hR
  simp only [Res.then] at hR
  have HR := Lib.hid hR.symm
  have HT := Lib.hid ht
  clear ht ha hR
  go_wp2_with (go_at_call 79; refine HT.out.mono ?_; rintro e w1 ⟨rfl, hg⟩; refine Hid.out ?_)
  refine Lib.hid ?_
  exact ⟨rfl, QueryP.bad HR.out (gb_trans H0.out.it.gb hg)⟩
 | ok x =>
  obtain ⟨l1, op1⟩ := x
  rw [ha] at ht hR
  simp only [Res.then] at hR
  have HR := Lib.hid hR
  have HT := Lib.hid ht
  have HA := Lib.hid (take_suf ha (by decide)).1
  have HO : Hid (OpOk op1) := Lib.hid (by have := takeR_op ha; rw [if_pos rfl] at this; unfold OpOk; omega)
  have HOP : Hid (op1 = 1) := Lib.hid (by have := takeR_op ha; rw [if_pos rfl] at this; omega)
  clear ht ha hR
  generalize tokAt l fin = T1 at HT
  go_wp2_with (go_at_call 79; refine HT.out.mono ?_; rintro e w1 ⟨rfl, ha1, hg1⟩; refine Hid.out ?_)
  refine Lib.hid ?_
  have H1 := Lib.hid (H0.out.step ha1 hg1 HO.out HA.out)
  have hb1 := (Below.refl w1.heap.size w1).alloc (Nat.le_refl _) (.cells #[.func (.func 80) #[] #[]] 91)
  have H2 := Lib.hid (H1.out.next hb1)
  have c1 := H1.out.cP
  have c2 := H2.out.cP
  clear ha1 hg1 c0 HT HA HO
  have ht := takeF_any H2.out.it.at_ H2.out.it.glob lets_from (bf := w1.heap.size) (by rw [Lib.cell_of_heap (heap_alloc_new _ _)]; rfl) H2.out.sz
  clear hb1
  have hR := HR.out
  cases ha : takeR fin 3 (fun s => decide (s = fromB)) l1 op1 with
  | bad y q' =>
   rw [ha] at ht hR
   simp only at hR
   have HR := Lib.hid hR.symm
   have HT := Lib.hid ht
   clear ht ha hR
   go_wp2_with (go_at_call 79; refine HT.out.mono ?_; rintro e w3 ⟨rfl, hg⟩; refine Hid.out ?_)
   refine Lib.hid ?_
   exact ⟨rfl, QueryP.bad HR.out (gb_trans H2.out.it.gb hg)⟩
  | ok x =>
   obtain ⟨l3, op3⟩ := x
   rw [ha] at ht hR
   simp only at hR
   have HR := Lib.hid hR
   have HT := Lib.hid ht
   have HA := Lib.hid (take_suf ha (by decide)).1
   have HO : Hid (OpOk op3) := Lib.hid (by have := takeR_op ha; rw [if_neg (by decide), if_neg (by decide)] at this; rw [this]; exact H2.out.op_)
   have HOP : Hid (op3 = 1) := Lib.hid (by have := takeR_op ha; rw [if_neg (by decide), if_neg (by decide)] at this; rw [this]; exact HOP.out)
   clear ht ha hR
   generalize tokAt l1 fin = T3 at HT
   go_wp2_with (go_at_call 79; refine HT.out.mono ?_; rintro e w3 ⟨rfl, ha3, hg3⟩; refine Hid.out ?_)
   refine Lib.hid ?_
   have H3 := Lib.hid (H2.out.step ha3 hg3 HO.out HA.out)
   have c3 := H3.out.cP
   clear ha3 hg3 c1 c2 HT HA HO
   have hcol := wname_any H3.out.it.at_ H3.out.it.glob H3.out.sz
   have hR := HR.out
   cases ha : atomR nameR fin l3 op3 with
   | bad y q' =>
    rw [ha] at hcol hR
    simp only at hR
    have HR := Lib.hid hR.symm
    have HCO := Lib.hid hcol
    clear hcol ha hR
    go_wp2_with (go_at_call 81; refine HCO.out.mono ?_; rintro e w4 ⟨rfl, hg⟩; refine Hid.out ?_)
    refine Lib.hid ?_
    exact ⟨rfl, QueryP.bad HR.out (gb_trans H3.out.it.gb hg)⟩
   | ok s =>
    obtain ⟨l4, op4, x4⟩ := s
    rw [ha] at hcol hR
    simp only at hR
    have HCO := Lib.hid hcol
    have HA := Lib.hid (atomR_ok ha)
    have HR : Hid ((clausesR fin 0 (clausesL.drop 0) (l4, op4, setS Qry.none 1 x4)).then (endQ fin) = R) := Lib.hid hR
    have HOP : Hid (op4 = 1) := Lib.hid (HA.out.2.2.1.trans HOP.out)
    clear hcol ha hR
    go_wp2_with (go_at_call 81; refine HCO.out.mono ?_; rintro e w4 ⟨rfl, ha4, hg4⟩; refine Hid.out ?_)
    refine Lib.hid ?_
    have H4 := Lib.hid (H3.out.step ha4 hg4 (Eq.mpr (congrArg OpOk HA.out.2.2.1) H3.out.op_) HA.out.1)
    obtain ⟨v4, c4⟩ := H4.out.blk.cell 1 (by decide)
    have f4 := H4.out.blk.free 1
    have H5 := Lib.hid (H4.out.putS 1 (by decide) x4)
    clear ha4 hg4 c3 HCO HA
    go_wp2_with fail
    have H6 : Hid (LpS A w.heap.size (w.heap.size + 1) w4.heap.size 0 R (setS Qry.none 1 x4) l4 fin op4 sv w ((w4.setCell ⟨w.heap.size + 1, 1, none⟩ (.string x4)).alloc (.cells (clArr w.heap.size (w.heap.size + 1)) 154))) := by
     have e0 : (w4.setCell ⟨w.heap.size + 1, 1, none⟩ (.string x4)).heap.size = w4.heap.size := setCell_size _ _ _
     refine Lib.hid ⟨H5.out.next ((Below.refl _ _).alloc (Nat.le_refl _) _), H4.out.blk.lt, ?_, HR.out, HOP.out⟩
     have hn := heap_alloc_new (w4.setCell ⟨w.heap.size + 1, 1, none⟩ (.string x4)) (.cells (clArr w.heap.size (w.heap.size + 1)) 154)
     rw [e0] at hn
     exact clb_of hn
    have hQ4 : w.heap.size + 1 < w4.heap.size := H4.out.blk.lt
    generalize hC : w4.heap.size = C at H6 hQ4
    clear c4 f4 H4 H5
    generalize w.heap.size + 1 = Q at *
    go_loopw [31] (fun v wr => ∃ (k : Nat) (q' : Qry) (l' : List Tok) (op' : Int) (sv' : Value), v = .int .i64 k ∧ k ≤ 4 ∧ Hid (LpS A w.heap.size Q C k R q' l' fin op' sv' w wr)) (fun v _ => 4 - (intOf v).toNat)
    case atStart => exact ⟨0, _, _, _, _, rfl, by omega, H6⟩
    case round =>
     clear H6
     obtain ⟨k, q', l', op', sv', rfl, hk, HL⟩ := hrel
     by_cases hk4 : k < 4
     ·
      obtain ⟨d0, d1⟩ := HL.out.cl k hk4
      have c0 := HL.out.q_.cP
      have HRD := Lib.hid fun l op sv wr (H : QrS A w.heap.size Q q' l fin op sv w wr) => readk_any hk4 H
      have eg := enters_clause hk4
      have HK := Lib.hid fun wr (H : LpS A w.heap.size Q C k R q' l' fin op' sv' w wr) (hne : ¬ headR l' = clauseW k) => H.skip hk4 hne
      have HRR := Lib.hid fun wr (H : LpS A w.heap.size Q C k R q' l' fin op' sv' w wr) (he : headR l' = clauseW k) => H.read hk4 he
      generalize clauseW k = W at *
      generalize clauseF k = F at *
      go_wp2_with fail
      have hbV := (Below.refl wr.heap.size wr).alloc (Nat.le_refl _) (.cells #[.string W, .func (.func F) #[] #[.pointer (some ⟨w.heap.size, 0, none⟩), .pointer (some ⟨Q, 0, none⟩)]] 154)
      have hnV := heap_alloc_new wr (.cells #[.string W, .func (.func F) #[] #[.pointer (some ⟨w.heap.size, 0, none⟩), .pointer (some ⟨Q, 0, none⟩)]] 154)
      have HLV := Lib.hid (HL.out.next hbV)
      have HWS := Lib.hid HL.out.q_.it.gb.size
      have HCQ := Lib.hid HL.out.hC
      have HFV := Lib.hid ((FrQ.refl A Q wr).bel hbV)
      have HCL := Lib.hid HL.out.cl
      obtain ⟨V, hV⟩ : ∃ V, wr.alloc (.cells #[.string W, .func (.func F) #[] #[.pointer (some ⟨w.heap.size, 0, none⟩), .pointer (some ⟨Q, 0, none⟩)]] 154) = V := ⟨_, rfl⟩
      rw [hV] at hnV HLV HFV
      rw [hV]
      have cP := HLV.out.q_.cP
      have e0 : V.cell? ⟨wr.heap.size, 0, none⟩ = some (.string W) := by rw [Lib.cell_of_heap hnV]; rfl
      have hhd := fun n => (head_any (HLV.out.q_.it.at_.kept (w' := V.drewN n) fun _ _ => rfl)).mono fun e w' (h : e = _ ∧ V.drewN n = w') => (⟨h.1, h.2.symm⟩ : e = _ ∧ w' = V.drewN n)
      have HD := Lib.hid hhd
      have HNV := Lib.hid hnV
      clear hbV hnV hV HL c0 d0 d1 hhd
      obtain ⟨hd, hhd⟩ : ∃ hd, headR l' = hd := ⟨_, rfl⟩
      rw [hhd] at HD
      have HHD := Lib.hid hhd
      clear hhd
      have e1 : V.cell? ⟨wr.heap.size, 1, none⟩ = some (.func (.func F) #[] #[.pointer (some ⟨w.heap.size, 0, none⟩), .pointer (some ⟨Q, 0, none⟩)]) := by rw [Lib.cell_of_heap HNV.out]; rfl
      have hlV : wr.heap.size < V.heap.size := (Array.getElem?_eq_some_iff.1 HNV.out).1
      by_cases hw : hd = W
      ·
       have ew : (hd.toList == W.toList) = true := by rw [hw]; exact beq_self_eq_true _
       have HW := Lib.hid hw
       clear hw
       go_quiet ((go_at_call 91; exact Calls.quiet_of_same (HD.out _)))
       rename_i nq _
       have hbn : Below V.heap.size V (V.drewN nq) := ⟨rfl, rfl, rfl, Nat.le_refl _, fun _ _ => rfl⟩
       have HRR2 := Lib.hid (HRR.out _ HLV.out (by rw [HHD.out]; exact HW.out))
       have HLN := Lib.hid (HLV.out.next hbn)
       have e1n : (V.drewN nq).cell? ⟨wr.heap.size, 1, none⟩ = some (.func (.func F) #[] #[.pointer (some ⟨w.heap.size, 0, none⟩), .pointer (some ⟨Q, 0, none⟩)]) := e1
       have hlN : wr.heap.size < (V.drewN nq).heap.size := hlV
       have HFN := Lib.hid (HFV.out.bel hbn)
       have HNN : Hid ((V.drewN nq).heap[wr.heap.size]? = _) := Lib.hid HNV.out
       clear hbn e1 e0 hlV
       generalize V.drewN nq = U at *
       have cP := HLN.out.q_.cP
       have hR := HRR2.out
       have ht := takeN_any HLN.out.q_.it.at_ HLN.out.q_.op_ (.inl rfl : (1 : Int) = 1 ∨ (1 : Int) = 2 ∨ (1 : Int) = 3)
       cases ha : takeR fin 1 (fun _ => true) l' op' with
       | bad y q' =>
        rw [ha] at ht hR
        simp only [Res.then] at hR
        have HR := Lib.hid hR.symm
        have HT := Lib.hid ht
        clear ht ha hR
        go_wp2_with (go_at_call 79; refine HT.out.mono ?_; rintro e w1 ⟨rfl, hg⟩; refine Hid.out ?_)
        refine Lib.hid ?_
        exact ⟨rfl, QueryP.bad HR.out (gb_trans HLN.out.q_.it.gb hg)⟩
       | ok x =>
        obtain ⟨l1, op1⟩ := x
        rw [ha] at ht hR
        simp only [Res.then] at hR
        have HR := Lib.hid hR
        have HT := Lib.hid ht
        have HA := Lib.hid (take_suf ha (by decide)).1
        have HO : Hid (OpOk op1) := Lib.hid (by have := takeR_op ha; rw [if_pos rfl] at this; have h8 := (takeR_ok ha (by decide)).2.2.2.2.2.2 rfl; have h9 := HLN.out.q_.op_.1; unfold OpOk; omega)
        have HOP : Hid (op1 = 2) := Lib.hid (by have := takeR_op ha; rw [if_pos rfl] at this; have := HLN.out.one; omega)
        clear ht ha hR
        go_wp2_with (go_at_call 79; refine HT.out.mono ?_; rintro e w1 ⟨rfl, ha1, hg1⟩; refine Hid.out ?_)
        refine Lib.hid ?_
        have H1 := Lib.hid (HLN.out.q_.step ha1 hg1 HO.out HA.out)
        have HF1 := Lib.hid (HFN.out.gb hg1)
        have HA1 := Lib.hid HLN.out.q_.it.hAw
        have HDA : Hid (wr.heap.size ≠ A) := Lib.hid (by have := HA1.out; have := HWS.out; omega)
        have HN1 := Lib.hid ((hg1.block _ hlN (by intro e; injection e; exact HDA.out ‹_›)).trans HNN.out)
        have c1 := H1.out.cP
        clear ha1 hg1 cP e1n hlN HT HA HO
        have hR := HR.out
        have ht := takeN_any H1.out.it.at_ H1.out.op_ (.inr (.inr rfl) : (3 : Int) = 1 ∨ (3 : Int) = 2 ∨ (3 : Int) = 3)
        cases ha : takeR fin 3 (fun _ => true) l1 op1 with
        | bad y q' =>
         rw [ha] at ht hR
         simp only at hR
         have HR := Lib.hid hR.symm
         have HT := Lib.hid ht
         clear ht ha hR
         go_wp2_with (go_at_call 79; refine HT.out.mono ?_; rintro e w2 ⟨rfl, hg⟩; refine Hid.out ?_)
         refine Lib.hid ?_
         exact ⟨rfl, QueryP.bad HR.out (gb_trans H1.out.it.gb hg)⟩
        | ok x =>
         obtain ⟨l2, op2⟩ := x
         rw [ha] at ht hR
         simp only at hR
         have HR := Lib.hid hR
         have HT := Lib.hid ht
         have HA := Lib.hid (take_suf ha (by decide)).1
         have HOP : Hid (op2 = 2) := Lib.hid (by have := takeR_op ha; rw [if_neg (by decide), if_neg (by decide)] at this; rw [this]; exact HOP.out)
         have HO : Hid (OpOk op2) := Lib.hid (by rw [HOP.out]; unfold OpOk; omega)
         clear ht ha hR
         go_wp2_with (go_at_call 79; refine HT.out.mono ?_; rintro e w2 ⟨rfl, ha2, hg2⟩; refine Hid.out ?_)
         refine Lib.hid ?_
         have H2 := Lib.hid (H1.out.step ha2 hg2 HO.out HA.out)
         have HF2 := Lib.hid (HF1.out.gb hg2)
         have HN2 := Lib.hid ((hg2.block _ (Array.getElem?_eq_some_iff.1 HN1.out).1 (by intro e; injection e; exact HDA.out ‹_›)).trans HN1.out)
         have d2 : w2.cell? ⟨wr.heap.size, 1, none⟩ = some (.func (.func F) #[] #[.pointer (some ⟨w.heap.size, 0, none⟩), .pointer (some ⟨Q, 0, none⟩)]) := by rw [Lib.cell_of_heap HN2.out]; rfl
         clear ha2 hg2 c1 HT HA HO
         have hR := HR.out
         have ht := HRD.out l2 op2 _ w2 H2.out
         cases ha : readR k fin (l2, op2, q') with
         | bad y q' =>
          rw [ha] at ht hR
          simp only at hR
          have HR := Lib.hid hR.symm
          have HT := Lib.hid ht
          clear ht ha hR
          go_wp2_with (go_at_fn F; refine HT.out.mono ?_; rintro e w3 ⟨rfl, hg⟩; refine Hid.out ?_)
          refine Lib.hid ?_
          exact ⟨rfl, QueryP.bad HR.out hg⟩
         | ok x =>
          obtain ⟨l3, op3, q3⟩ := x
          rw [ha] at ht hR
          simp only at hR
          have HR := Lib.hid hR
          have HT := Lib.hid ht
          have HOP : Hid (op3 = 2) := Lib.hid ((readR_ok hk4 ha).2.trans HOP.out)
          clear ht ha hR
          go_wp2_with (go_at_fn F; refine HT.out.mono ?_; rintro e w3 ⟨rfl, ⟨sv3, h3⟩, hf3⟩; refine Hid.out ?_)
          refine Lib.hid ?_
          have H3 := Lib.hid h3
          have HF3 : Hid (FrQ A Q wr w3) := Lib.hid ⟨Nat.le_trans HF2.out.size hf3.size, fun i hi h1 h2 => (hf3.block i (by have := HF2.out.size; omega) h1 h2).trans (HF2.out.block i hi h1 h2)⟩
          have c3 := H3.out.cP
          clear h3 hf3 d2 HT
          have hR := HR.out
          have ht := takeN_any H3.out.it.at_ H3.out.op_ (.inr (.inl rfl) : (2 : Int) = 1 ∨ (2 : Int) = 2 ∨ (2 : Int) = 3)
          cases ha : takeR fin 2 (fun _ => true) l3 op3 with
          | bad y q' =>
           rw [ha] at ht hR
           simp only at hR
           have HR := Lib.hid hR.symm
           have HT := Lib.hid ht
           clear ht ha hR
           go_wp2_with (go_at_call 79; refine HT.out.mono ?_; rintro e w4 ⟨rfl, hg⟩; refine Hid.out ?_)
           refine Lib.hid ?_
           exact ⟨rfl, QueryP.bad HR.out (gb_trans H3.out.it.gb hg)⟩
          | ok x =>
           obtain ⟨l4, op4⟩ := x
           rw [ha] at ht hR
           simp only at hR
           have HR := Lib.hid hR
           have HT := Lib.hid ht
           have HA := Lib.hid (take_suf ha (by decide)).1
           have HOP : Hid (op4 = 1) := Lib.hid (by have := takeR_op ha; rw [if_neg (by decide), if_pos rfl] at this; rw [this, HOP.out]; rfl)
           have HO : Hid (OpOk op4) := Lib.hid (by rw [HOP.out]; unfold OpOk; omega)
           clear ht ha hR
           go_wp2_with (go_at_call 79; refine HT.out.mono ?_; rintro e w4 ⟨rfl, ha4, hg4⟩; refine Hid.out ?_)
           refine Lib.hid ?_
           have H4 := Lib.hid (H3.out.step ha4 hg4 HO.out HA.out)
           have HF4 := Lib.hid (HF3.out.gb hg4)
           have HAQ : Hid (A < Q) := Lib.hid (Nat.lt_trans H4.out.hAP H4.out.hQ)
           have HL4 : Hid (LpS A w.heap.size Q C (k + 1) R q3 l4 fin op4 sv3 w w4) := Lib.hid ⟨H4.out, HCQ.out, HCL.out.kept HF4.out HAQ.out HCQ.out, HR.out, HOP.out⟩
           clear ha4 hg4 c3 HT HA HO
           go_wp2_with fail
           exact ⟨⟨k + 1, q3, l4, op4, sv3, by go_num, by omega, HL4⟩, by simp [intOf]; omega⟩
      ·
       have ew : (hd.toList == W.toList) = false := by
        rw [beq_eq_false_iff_ne]
        intro e
        exact hw (ByteArray.ext (Array.toList_inj.1 (by rw [← Lib.toList_data, ← Lib.toList_data, e])))
       have HW := Lib.hid hw
       clear hw
       go_quiet ((go_at_call 91; exact Calls.quiet_of_same (HD.out _)))
       go_wp2_with fail
       exact ⟨⟨k + 1, q', l', op', sv', by go_num, by omega, Lib.hid ((HK.out _ HLV.out (by rw [HHD.out]; exact HW.out)).next ⟨rfl, rfl, rfl, Nat.le_refl _, fun _ _ => rfl⟩)⟩, by simp [intOf]; omega⟩
     ·
      obtain rfl : k = 4 := by omega
      have c0 := HL.out.q_.cP
      have hR : endQ fin (l', op', q') = R := HL.out.run
      unfold endQ at hR
      simp only at hR
      have ht := takeN_any HL.out.q_.it.at_ HL.out.q_.op_ (.inr (.inl rfl) : (2 : Int) = 1 ∨ (2 : Int) = 2 ∨ (2 : Int) = 3)
      cases ha : takeR fin 2 (fun _ => true) l' op' with
      | bad y q' =>
       rw [ha] at ht hR
       simp only [Res.then] at hR
       have HR := Lib.hid hR.symm
       have HT := Lib.hid ht
       clear ht ha hR
       go_wp2_with (go_at_call 79; refine HT.out.mono ?_; rintro e w1 ⟨rfl, hg⟩; refine Hid.out ?_)
       refine Lib.hid ?_
       exact ⟨rfl, QueryP.bad HR.out (gb_trans HL.out.q_.it.gb hg)⟩
      | ok x =>
       obtain ⟨l5, op5⟩ := x
       rw [ha] at ht hR
       simp only [Res.then] at hR
       have HR := Lib.hid hR
       have HT := Lib.hid ht
       have HA := Lib.hid (take_suf ha (by decide)).1
       have HO : Hid (OpOk op5) := Lib.hid (by have := takeR_op ha; rw [if_neg (by decide), if_pos rfl] at this; rw [this, HL.out.one]; unfold OpOk; omega)
       clear ht ha hR
       go_wp2_with (go_at_call 79; refine HT.out.mono ?_; rintro e w5 ⟨rfl, ha5, hg5⟩; refine Hid.out ?_)
       refine Lib.hid ?_
       have H5 := Lib.hid (HL.out.q_.step ha5 hg5 HO.out HA.out)
       clear ha5 hg5 c0 HT HA HO
       have c5 := H5.out.cP
       obtain ⟨ao, cap, hA, hc, hm, hT⟩ := H5.out.it.at_
       have cl0 : w5.cell? ⟨A, 0, none⟩ = some (.slice ao l5.length cap) := by rw [Lib.cell_of_heap hA]; rfl
       clear hA hc hm hT
       by_cases h0 : l5.length = 0
       ·
        have HR2 : Hid (R = .ok q') := Lib.hid (by have := HR.out; rw [if_pos h0] at this; exact this.symm)
        have HY := Lib.hid fun n p y is (hi : is = true) => (must_yes (w := w5.drewN n) (p := p) (why := y) (is := is) hi).mono fun e w' (h : e = _ ∧ w5.drewN n = w') => (⟨h.1, h.2.symm⟩ : e = _ ∧ w' = w5.drewN n)
        rw [h0] at cl0
        clear h0
        go_wp2_with fail
        go_quiet ((go_at_call 92; exact Calls.quiet_of_same (HY.out _ _ _ _ (by first | rfl | simp))))
        rename_i nq _
        obtain ⟨iv, wv, gv, b1, b2, b3, b4⟩ := H5.out.blk
        have hn1 : (w5.drewN nq).heap[Q]? = _ := b1
        have H6 := Lib.hid (H5.out.next (w' := w5.drewN nq) ⟨rfl, rfl, rfl, Nat.le_refl _, fun _ _ => rfl⟩)
        have HB2 := Lib.hid b2
        have HB3 := Lib.hid b3
        have HB4 := Lib.hid b4
        have HQW := Lib.hid (Nat.le_trans H5.out.hP (Nat.le_trans (Nat.le_of_lt H5.out.hQ) (Nat.le_succ Q)))
        obtain ⟨io, icap, rfl⟩ := b2.shape
        obtain ⟨wo, wcap, rfl⟩ := own_shape b3
        obtain ⟨go, gcap, rfl⟩ := own_shape b4
        have HV : Hid (QryV (Q + 1) q' (.agg #[.slice io q'.items.length icap, .string q'.table, .string q'.join, .string q'.left, .string q'.right, .slice wo q'.wher.length wcap, .slice go q'.group.length gcap]) (w5.drewN nq)) := Lib.hid ⟨_, _, _, rfl, HB2.out.kept fun _ _ _ => rfl, own_keepA HB3.out fun _ _ _ => rfl, own_keepA HB4.out fun _ _ _ => rfl⟩
        clear b1 b2 b3 b4
        generalize w5.drewN nq = U at *
        have q0 : U.cell? ⟨Q, 0, none⟩ = some (.slice io q'.items.length icap) := by rw [Lib.cell_of_heap hn1]; rfl
        have q1 : U.cell? ⟨Q, 1, none⟩ = some (.string q'.table) := by rw [Lib.cell_of_heap hn1]; rfl
        have q2 : U.cell? ⟨Q, 2, none⟩ = some (.string q'.join) := by rw [Lib.cell_of_heap hn1]; rfl
        have q3 : U.cell? ⟨Q, 3, none⟩ = some (.string q'.left) := by rw [Lib.cell_of_heap hn1]; rfl
        have q4 : U.cell? ⟨Q, 4, none⟩ = some (.string q'.right) := by rw [Lib.cell_of_heap hn1]; rfl
        have q5 : U.cell? ⟨Q, 5, none⟩ = some (.slice wo q'.wher.length wcap) := by rw [Lib.cell_of_heap hn1]; rfl
        have q6 : U.cell? ⟨Q, 6, none⟩ = some (.slice go q'.group.length gcap) := by rw [Lib.cell_of_heap hn1]; rfl
        have hfz : ∀ j, U.frozen? ⟨Q, j, none⟩ = false := Lib.frozen_of_heap hn1
        have HN := Lib.hid hn1
        clear hn1
        go_wp2_with fail
        refine bodyPost_ret (v := .agg #[.slice io q'.items.length icap, .string q'.table, .string q'.join, .string q'.left, .string q'.right, .slice wo q'.wher.length wcap, .slice go q'.group.length gcap]) (resultsQ rfl (B := Q) ?_ rfl) rfl ?_
        ·
         exact set7_at HN.out
        ·
         exact QueryP.ok HR2.out ((HV.out.kept fun k hk _ => set7_ne (by omega)).le HQW.out) (set7_gb H6.out.it.gb (Nat.le_trans H5.out.hP (Nat.le_of_lt H5.out.hQ)))
       ·
        have HR2 : Hid (R = .bad 13 (tokAt l5 fin).a) := Lib.hid (by have := HR.out; rw [if_neg h0] at this; exact this.symm)
        have e0 : ((l5.length : Int) == 0) = false := by rw [beq_eq_false_iff_ne]; omega
        have HM := Lib.hid fun is (hi : is = false) => must_no (why := 13) (is := is) hi (H5.out.it.at_.kept (w' := w5.drew) fun _ _ => rfl)
        have H5d : Hid (Below w5.heap.size w5 w5.drew) := Lib.hid ⟨rfl, rfl, rfl, Nat.le_refl _, fun _ _ => rfl⟩
        clear h0
        go_wp2_with fail
        go_still_tail 7, (by kernel_rfl)
        change wpList _ _ _ _ _ w5.drew
        generalize w5.drew = U at *
        go_wp2_with (go_at_call 92; refine (HM.out _ (by first | rfl | (simp; omega))).mono ?_; rintro e w6 ⟨rfl, hb6⟩; refine Hid.out ?_)
        refine Lib.hid ?_
        exact ⟨rfl, QueryP.bad HR2.out (gb_trans H5.out.it.gb (below_gb (below_self H5d.out hb6)))⟩
end Go.Proofs.YtgjfbbmachoolaaGreatDoor.lx
namespace Go.Proofs.YtgjfbbmachoolaaGreatDoor.lx
open Go.RowKit

theorem bdn {B : Nat} {w W : World} (h : Below B w W) (n : Nat) : Below B w (W.drewN n) := ⟨h.os, h.tape, h.output, h.size, h.block⟩
def emptyS (s : ByteArray) : Bool := s.toList.isEmpty
theorem emptyS_eq (s : ByteArray) : s.toList.isEmpty = emptyS s := rfl
def validS (s : ByteArray) : Bool := Lib.validD s.data.toList
/-- what a step takes, and whether it is one -/
def takesR (t : Stp) : Int × Bool :=
 if t.k = 1 ∨ t.k = 2 ∨ t.k = 3 then (0, emptyS t.s && t.n == 0)
 else if t.k = 4 then (0, emptyS t.s)
 else if t.k = 5 then (0, t.n == 0 && decide ((t.s.size : Int) ≤ 256) && validS t.s)
 else if t.k = 6 then (0, t.n == 0 && columnR t.s)
 else if t.k = 0 ∨ 22 ≤ t.k ∨ (emptyS t.s && t.n == 0) = false then (0, false)
 else if t.k ≤ 10 then (1, true) else (2, true)
theorem pair_ret {R : Int × Bool} {a : Int} {c : Bool} (h : R = (a, c)) : Ending.returned (.tuple #[.int .i64 a, .bool c]) = .returned (.tuple #[.int .i64 R.1, .bool R.2]) := by rw [h]

set_option maxHeartbeats 4000000 in
set_option maxRecDepth 100000 in
theorem takes_any (t : Stp) (w : World) (hG : PGlob w) (hs : t.s.size < 4294967281) (hk : 0 ≤ t.k ∧ t.k ≤ 255) :
  Calls Tryz.prog 69 #[t.v] w fun e w' => e = .returned (.tuple #[.int .i64 (takesR t).1, .bool (takesR t).2]) ∧ Below w.heap.size w w' := by
 obtain ⟨R, hR⟩ : ∃ R, takesR t = R := ⟨_, rfl⟩
 rw [hR]
 unfold takesR at hR
 obtain ⟨k, s, n⟩ := t
 unfold Stp.v
 simp only at hR hs hk ⊢
 have hbV := (Below.refl w.heap.size w).alloc (Nat.le_refl _) (.cells #[.int .u8 k, .string s, .int .i64 n] 50)
 have HG := Lib.hid (hG.self hbV)
 have HB := Lib.hid hbV
 clear hG hbV
 by_cases h1 : k = 1 ∨ k = 2 ∨ k = 3
 ·
  rw [if_pos h1] at hR
  have HR := Lib.hid hR
  clear hR hk
  rcases h1 with rfl | rfl | rfl
  all_goals
   cases se : s.toList.isEmpty
   ·
    go_enter Tryz.func69, Tryz.ntmps69
    go_wp2_with fail
    go_ret2
    exact ⟨pair_ret (by rw [← HR.out, ← emptyS_eq, se]; rfl), HB.out⟩
   ·
    go_enter Tryz.func69, Tryz.ntmps69
    go_wp2_with fail
    go_ret2
    exact ⟨pair_ret (by rw [← HR.out, ← emptyS_eq, se]; rfl), HB.out⟩
 rw [if_neg h1] at hR
 by_cases h4 : k = 4
 ·
  subst h4
  rw [if_pos rfl] at hR
  have HR := Lib.hid hR
  clear hR hk h1
  go_enter Tryz.func69, Tryz.ntmps69
  cases se : s.toList.isEmpty
  ·
   go_wp2_with fail
   go_quiet (fail)
   go_wp2_with fail
   go_ret2
   exact ⟨pair_ret (by rw [← HR.out, ← emptyS_eq, se]), bdn HB.out _⟩
  ·
   go_wp2_with fail
   go_quiet (fail)
   go_wp2_with fail
   go_ret2
   exact ⟨pair_ret (by rw [← HR.out, ← emptyS_eq, se]), bdn HB.out _⟩
 rw [if_neg h4] at hR
 by_cases h5 : k = 5
 ·
  subst h5
  rw [if_pos rfl] at hR
  have HV := Lib.hid fun w (hG : PGlob w) => Tryz.utf8_ValidString_laid s w (by omega) hG.glob.utf
  rw [show Lib.validD s.data.toList = validS s from rfl] at HV
  have HR := Lib.hid hR
  clear hR hk h1 h4
  cases se : s.toList.isEmpty
  all_goals
   cases sn : n == 0
   ·
    go_enter Tryz.func69, Tryz.ntmps69
    go_wp2_with fail
    go_ret2
    exact ⟨pair_ret (by rw [← HR.out, sn]; rfl), HB.out⟩
   ·
    by_cases sz : (s.size : Int) ≤ 256
    ·
     go_enter Tryz.func69, Tryz.ntmps69
     go_wp2_with (go_at_call 63; refine (HV.out _ HG.out).mono ?_; rintro e w2 ⟨rfl, hb2⟩; refine Hid.out ?_)
     refine Lib.hid ?_
     go_wp2_with fail
     go_ret2
     exact ⟨pair_ret (by rw [← HR.out, sn, decide_eq_true sz]; rfl), below_self HB.out hb2⟩
    ·
     go_enter Tryz.func69, Tryz.ntmps69
     go_wp2_with fail
     go_ret2
     exact ⟨pair_ret (by rw [← HR.out, sn, decide_eq_false (Int.not_le.2 sz)]; rfl), HB.out⟩
 rw [if_neg h5] at hR
 by_cases h6 : k = 6
 ·
  subst h6
  rw [if_pos rfl] at hR
  have HV := Lib.hid fun w (hG : PGlob w) => column_any s w hG hs
  have HR := Lib.hid hR
  clear hR hk h1 h4 h5
  cases se : s.toList.isEmpty
  all_goals
   cases sn : n == 0
   ·
    go_enter Tryz.func69, Tryz.ntmps69
    go_wp2_with fail
    go_ret2
    exact ⟨pair_ret (by rw [← HR.out, sn]; rfl), HB.out⟩
   ·
    go_enter Tryz.func69, Tryz.ntmps69
    go_wp2_with (go_at_call 42; refine (HV.out _ HG.out).mono ?_; rintro e w2 ⟨rfl, hb2⟩; refine Hid.out ?_)
    refine Lib.hid ?_
    go_wp2_with fail
    go_ret2
    exact ⟨pair_ret (by rw [← HR.out, sn]; rfl), below_self HB.out hb2⟩
 rw [if_neg h6] at hR
 have e1 : (k == 1) = false := beq_eq_false_iff_ne.2 (by omega)
 have e2 : (k == 2) = false := beq_eq_false_iff_ne.2 (by omega)
 have e3 : (k == 3) = false := beq_eq_false_iff_ne.2 (by omega)
 have e4 : (k == 4) = false := beq_eq_false_iff_ne.2 (by omega)
 have e5 : (k == 5) = false := beq_eq_false_iff_ne.2 (by omega)
 have e6 : (k == 6) = false := beq_eq_false_iff_ne.2 (by omega)
 by_cases h0 : k = 0
 ·
  subst h0
  rw [if_pos (.inl rfl)] at hR
  have HR := Lib.hid hR
  clear hR hk h1 h4 h5 h6 e1 e2 e3 e4 e5 e6
  cases se : s.toList.isEmpty
  ·
   go_enter Tryz.func69, Tryz.ntmps69
   go_wp2_with fail
   go_ret2
   exact ⟨pair_ret HR.out.symm, HB.out⟩
  ·
   go_enter Tryz.func69, Tryz.ntmps69
   go_wp2_with fail
   go_ret2
   exact ⟨pair_ret HR.out.symm, HB.out⟩
 have e0 : (k == 0) = false := beq_eq_false_iff_ne.2 h0
 by_cases h22 : 22 ≤ k
 ·
  rw [if_pos (.inr (.inl h22))] at hR
  have HR := Lib.hid hR
  clear hR hk h1 h4 h5 h6 h0
  cases se : s.toList.isEmpty
  ·
   go_enter Tryz.func69, Tryz.ntmps69
   go_wp2_with fail
   go_ret2
   exact ⟨pair_ret HR.out.symm, HB.out⟩
  ·
   go_enter Tryz.func69, Tryz.ntmps69
   go_wp2_with fail
   go_ret2
   exact ⟨pair_ret HR.out.symm, HB.out⟩
 have h1b : ¬ (k = 0 ∨ 22 ≤ k) := by omega
 clear hk h1 h4 h5 h6 h0
 cases sf : (s.toList.isEmpty && n == 0)
 ·
  rw [if_pos (.inr (.inr sf))] at hR
  have HR := Lib.hid hR
  clear hR h1b
  cases se : s.toList.isEmpty
  ·
   clear sf
   go_enter Tryz.func69, Tryz.ntmps69
   go_wp2_with fail
   go_ret2
   exact ⟨pair_ret HR.out.symm, HB.out⟩
  ·
   have sn : (n == 0) = false := by rw [se] at sf; exact sf
   clear sf
   go_enter Tryz.func69, Tryz.ntmps69
   go_wp2_with fail
   go_ret2
   exact ⟨pair_ret HR.out.symm, HB.out⟩
 ·
  have hno : ¬ (k = 0 ∨ 22 ≤ k ∨ (emptyS s && n == 0) = false) := by rw [← emptyS_eq, sf]; simp; omega
  rw [if_neg hno] at hR
  have se : s.toList.isEmpty = true := by cases h : s.toList.isEmpty <;> simp [h] at sf ⊢
  have sn : (n == 0) = true := by rw [se] at sf; exact sf
  clear sf hno h1b
  by_cases h10 : k ≤ 10
  ·
   rw [if_pos h10] at hR
   have HR := Lib.hid hR
   clear hR
   go_enter Tryz.func69, Tryz.ntmps69
   go_wp2_with fail
   go_ret2
   exact ⟨pair_ret HR.out.symm, HB.out⟩
  ·
   rw [if_neg h10] at hR
   have HR := Lib.hid hR
   clear hR
   go_enter Tryz.func69, Tryz.ntmps69
   go_wp2_with fail
   go_ret2
   exact ⟨pair_ret HR.out.symm, HB.out⟩
end Go.Proofs.YtgjfbbmachoolaaGreatDoor.lx
namespace Go.Proofs.YtgjfbbmachoolaaGreatDoor.lx
open Go.RowKit Go.Shelf
attribute [local go_sem] Oper.semAt_some

/-- a row of steps that can be read -/
def StpRow (ao : Option Addr) (L : List Stp) (w : World) : Prop :=
 L.length = 0 ∨ ∃ b o, ao = some ⟨b, o, none⟩ ∧ ∀ (i : Nat) t, L[i]? = some t →
  w.cell? ⟨b, o + i * 3, none⟩ = some (.int .u8 t.k) ∧ w.cell? ⟨b, o + i * 3 + 1, none⟩ = some (.string t.s) ∧ w.cell? ⟨b, o + i * 3 + 2, none⟩ = some (.int .i64 t.n)
theorem StpRow.below {B : Nat} {ao : Option Addr} {L : List Stp} {w w' : World} (h : StpRow ao L w) (hb : Below B w w') (hB : ∀ b o, ao = some ⟨b, o, none⟩ → 0 < L.length → b < B) : StpRow ao L w' := by
 rcases h with h | ⟨b, o, h1, h2⟩
 ·
  exact .inl h
 ·
  refine .inr ⟨b, o, h1, fun i t ht => ?_⟩
  obtain ⟨c0, c1, c2⟩ := h2 i t ht
  have hlt := hB b o h1 (by have := (List.getElem?_eq_some_iff.1 ht).1; omega)
  exact ⟨(hb.cell (p := ⟨b, _, none⟩) hlt).trans c0, (hb.cell (p := ⟨b, _, none⟩) hlt).trans c1, (hb.cell (p := ⟨b, _, none⟩) hlt).trans c2⟩
theorem StpRow.lt {ao : Option Addr} {L : List Stp} {w : World} (h : StpRow ao L w) : ∀ b o, ao = some ⟨b, o, none⟩ → 0 < L.length → b < w.heap.size := by
 intro b o e hl
 obtain ⟨b', o', h1, h2⟩ := h.resolve_left (by omega)
 rw [h1] at e
 injection e with e; injection e with e _; subst e
 obtain ⟨t, ht⟩ : ∃ t, L[0]? = some t := ⟨_, List.getElem?_eq_getElem hl⟩
 exact World.block_lt_of_cell? w _ (h2 0 t ht).1
theorem StpRow.self {ao : Option Addr} {L : List Stp} {w w' : World} (h : StpRow ao L w) (hb : Below w.heap.size w w') : StpRow ao L w' := h.below hb h.lt

/-- the step at a place; one of no kind where there is none -/
def stpAt (L : List Stp) (x : Nat) : Stp := L.getD x ⟨0, ⟨#[]⟩, 0⟩
theorem stpAt_some {L : List Stp} {x : Nat} (h : x < L.length) : L[x]? = some (stpAt L x) := by
 rw [List.getElem?_eq_getElem h, stpAt, List.getD_eq_getElem?_getD, List.getElem?_eq_getElem h]
 rfl
/-- the first k places from the right -/
def downL (len k : Nat) : List Nat := (List.range k).map fun j => len - 1 - j
theorem down_succ (len k : Nat) : downL len (k + 1) = downL len k ++ [len - 1 - k] := by simp [downL, List.range_succ]
theorem down_length (len k : Nat) : (downL len k).length = k := by simp [downL]

/-- what a round keeps: all below n₀, and the slice's box -/
def KpB (n₀ Bs : Nat) (W W' : World) : Prop := Below n₀ W W' ∧ ∀ v, Boxed W Bs 23 v → Boxed W' Bs 23 v
theorem KpB.refl (n₀ Bs : Nat) (W : World) : KpB n₀ Bs W W := ⟨Below.refl _ _, fun _ h => h⟩
theorem KpB.trans {n₀ Bs : Nat} {A B C : World} (h : KpB n₀ Bs A B) (k : KpB n₀ Bs B C) : KpB n₀ Bs A C := ⟨h.1.trans k.1, fun v hv => k.2 v (h.2 v hv)⟩
theorem KpB.put {n₀ Bs : Nat} {w : World} (hn : n₀ ≤ w.heap.size) (W : World) (l : Nat) (o o' : Obj) (hl : w.heap.size ≤ l) (ho : W.heap[l]? = some o) (hc : o.isCells = false) (hk : o.isWalk = false) : KpB n₀ Bs W (W.putObj l o') :=
 ⟨belowK_b hn W l o o' hl ho hc hk, fun v hv => hv.kept (grownBy_putObj' W l o') (fun e => by injection e with e; subst e; rw [show W.heap[Bs]? = _ from hv] at ho; injection ho with ho; rw [← ho] at hc; cases hc)⟩

set_option maxRecDepth 100000 in
set_option maxHeartbeats 2000000 in
theorem back1_in (F : Fence) (n : Nat) (hf : F.fn 97) (hro : F.round = none) (hn : 1 ≤ n) (l Bs n₀ b off cap : Nat) (L : List Stp) (hreach : L.length ≤ 1099511627776) (hb : b < n₀) (J Jx : List Nat → World → Prop)
  (hY : ∀ pre (x : Nat) W, J pre W → pre.length < L.length → YieldAt F (n - 1) Tryz.prog l #[.int .i64 (x : Int), .agg #[.int .u8 (stpAt L x).k, .string (stpAt L x).s, .int .i64 (stpAt L x).n]] W fun e W' =>
   (e = .returned (.bool true) ∧ J (pre ++ [x]) W' ∧ KpB n₀ Bs W W') ∨ (e = .returned (.bool false) ∧ Jx (pre ++ [x]) W'))
  (W : World) (hBs : Boxed W Bs 23 (.slice (some ⟨b, off, none⟩) L.length cap))
  (hc : ∀ (i : Nat) t, L[i]? = some t → W.cell? ⟨b, off + i * 3, none⟩ = some (.int .u8 t.k) ∧ W.cell? ⟨b, off + i * 3 + 1, none⟩ = some (.string t.s) ∧ W.cell? ⟨b, off + i * 3 + 2, none⟩ = some (.int .i64 t.n)) (h0 : J [] W) :
  CallsIn F n Tryz.prog 97 #[.func (.yield l) #[] #[], .pointer (some ⟨Bs, 0, none⟩)] W fun e W' => (∃ v, e = .returned v) ∧
   ((∃ ys, ys = downL L.length L.length ∧ J ys W') ∨ (∃ pre, (∃ k, k ≤ L.length ∧ pre = downL L.length k) ∧ Jx pre W')) := by
 refine callsIn_of_wp Tryz.func97 rfl hf ?_ hro
 simp only [Tryz.ntmps97, List.size_toArray, List.length_cons, List.length_nil, Nat.reduceAdd, Nat.reduceSub, Array.replicate_succ, Array.replicate_zero, List.push_toArray, List.append_toArray, List.nil_append, List.cons_append]
 have cb0 := hBs.cell
 gi_wp2
 gi_loopw [3] (fun i wr => ∃ m : Nat, m ≤ L.length ∧ i = .int .i64 ((m : Int) - 1) ∧ J (downL L.length (L.length - m)) wr ∧ KpB n₀ Bs W wr)
  (fun i _ => (intOf i + 1).toNat)
 case atStart => exact ⟨L.length, Nat.le_refl _, rfl, by rw [Nat.sub_self]; exact h0, KpB.refl _ _ _⟩
 case round =>
  obtain ⟨m, hm, rfl, hJs, hnx⟩ := hrel
  have cb := (hnx.2 _ hBs).cell
  cases m with
  | zero =>
   rw [Nat.sub_zero] at hJs
   gi_wp2
   go_end0
   exact ⟨⟨_, rfl⟩, .inl ⟨_, rfl, hJs⟩⟩
  | succ x =>
   have hx : x < L.length := by omega
   have e1 : ((x + 1 : Nat) : Int) - 1 = (x : Int) := by omega
   rw [e1]
   obtain ⟨c0, c1, c2⟩ := hc x _ (stpAt_some hx)
   have d0 := (hnx.1.cell (p := ⟨b, off + x * 3, none⟩) hb).trans c0
   have d1 := (hnx.1.cell (p := ⟨b, off + x * 3 + 1, none⟩) hb).trans c1
   have d2 := (hnx.1.cell (p := ⟨b, off + x * 3 + 2, none⟩) hb).trans c2
   obtain ⟨fn, tmps, assign, body, hy, hR⟩ := hY _ x wr hJs (by rw [down_length]; omega)
   have HJ : Hid (downL L.length (L.length - (x + 1)) ++ [x] = downL L.length (L.length - x)) := Lib.hid (by
    obtain ⟨k, hk⟩ : ∃ k, L.length - (x + 1) = k := ⟨_, rfl⟩
    have e : L.length - x = k + 1 := by omega
    rw [hk, e, down_succ]
    congr 2
    omega)
   clear e1 c0 c1 c2 hJs
   gi_wp2
   refine hR.mono ?_
   rintro e W3 (⟨rfl, hJ3, hk3⟩ | ⟨rfl, hJx3⟩)
   ·
    gi_wp2
    go_roundw
    case rel =>
     refine ⟨x, by omega, ?_, by rw [← HJ.out]; exact hJ3, hnx.trans hk3⟩
     rfl
    case measure => simp [intOf]
   ·
    gi_wp2
    refine bodyPost_ret (results_none rfl _ _ _) rfl ?_
    exact ⟨⟨_, rfl⟩, .inr ⟨_, ⟨L.length - x, by omega, HJ.out⟩, hJx3⟩⟩

set_option maxRecDepth 100000 in
set_option maxHeartbeats 1000000 in
theorem back1_nil_in (F : Fence) (n : Nat) (hf : F.fn 97) (hro : F.round = none) (l Bs : Nat) (ao : Option Addr) (cap : Nat) (J : List Nat → World → Prop) (W : World) (hBs : W.cell? ⟨Bs, 0, none⟩ = some (.slice ao 0 cap)) (h0 : J [] W) :
  CallsIn F n Tryz.prog 97 #[.func (.yield l) #[] #[], .pointer (some ⟨Bs, 0, none⟩)] W fun e W' => (∃ v, e = .returned v) ∧ J [] W' := by
 refine callsIn_of_wp Tryz.func97 rfl hf ?_ hro
 simp only [Tryz.ntmps97, List.size_toArray, List.length_cons, List.length_nil, Nat.reduceAdd, Nat.reduceSub, Array.replicate_succ, Array.replicate_zero, List.push_toArray, List.append_toArray, List.nil_append, List.cons_append]
 gi_wp2
 gi_loopw [3] (fun i wr => i = .int .i64 (-1) ∧ J [] wr) (fun _ _ => 0)
 case atStart => exact ⟨rfl, h0⟩
 case round =>
  obtain ⟨rfl, hJs⟩ := hrel
  gi_wp2
  go_end0
  exact ⟨⟨_, rfl⟩, hJs⟩

set_option maxHeartbeats 1000000 in
theorem back_in (F : Fence) (n : Nat) (hf : F.fn 68) (hro : F.round = none) (a : Option Addr) (len cap : Nat) (w : World) :
  CallsIn F n Tryz.prog 68 #[.slice a len cap] w fun e w' => e = .returned (.func (.func 97) #[] #[.pointer (some ⟨w.heap.size, 0, none⟩)]) ∧ w' = w.alloc (.cells #[.slice a len cap] 23) := by
 refine callsIn_of_wp Tryz.func68 rfl hf ?_ hro
 simp only [Tryz.ntmps68, List.size_toArray, List.length_cons, List.length_nil, Nat.reduceAdd, Nat.reduceSub, Array.replicate_succ, Array.replicate_zero, List.push_toArray, List.append_toArray, List.nil_append, List.cons_append]
 gi_wp2
 go_ret
 exact ⟨rfl, rfl⟩

theorem back_stops (F : Fence) (n : Nat) (hf : F.fn 97) (hro : F.round = none) (hn : 1 ≤ n) (Bs n₀ : Nat) (ao : Option Addr) (cap : Nat) (L : List Stp) (hreach : L.length ≤ 1099511627776) (w : World) (hn₀ : n₀ ≤ w.heap.size)
  (hc : Boxed w Bs 23 (.slice ao L.length cap)) (hR : StpRow ao L w) (hRl : ∀ b o, ao = some ⟨b, o, none⟩ → 0 < L.length → b < n₀) :
  SeqStopsK F n Tryz.prog 97 #[.pointer (some ⟨Bs, 0, none⟩)] (fun x : Nat => #[Value.int .i64 (x : Int), .agg #[.int .u8 (stpAt L x).k, .string (stpAt L x).s, .int .i64 (stpAt L x).n]]) (KpB n₀ Bs) (fun ys => ys = downL L.length L.length)
   (fun pre => ∃ k, k ≤ L.length ∧ pre = downL L.length k) L.length w := fun l J Jx W hW _ _ hY h0 => by
 have hW' : Below n₀ w W := hW.mono hn₀
 have hc' : Boxed W Bs 23 (.slice ao L.length cap) := (hW.block Bs hc.lt).trans hc
 by_cases hl : L.length = 0
 ·
  rw [hl] at hc' ⊢
  exact (back1_nil_in F n hf hro l Bs ao cap J W hc'.cell h0).mono fun e W' ⟨he, hj⟩ => ⟨he, .inl ⟨_, rfl, hj⟩⟩
 ·
  obtain ⟨b, o, rfl, hcs⟩ := hR.resolve_left hl
  have hb := hRl b o rfl (by omega)
  exact back1_in F n hf hro hn l Bs n₀ b o cap L hreach hb J Jx hY W hc' (fun i t ht => by
   obtain ⟨c0, c1, c2⟩ := hcs i t ht
   exact ⟨(hW'.cell (p := ⟨b, _, none⟩) hb).trans c0, (hW'.cell (p := ⟨b, _, none⟩) hb).trans c1, (hW'.cell (p := ⟨b, _, none⟩) hb).trans c2⟩) h0
end Go.Proofs.YtgjfbbmachoolaaGreatDoor.lx
