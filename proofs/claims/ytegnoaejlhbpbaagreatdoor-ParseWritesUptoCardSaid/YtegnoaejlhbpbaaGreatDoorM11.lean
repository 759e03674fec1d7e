/-
  The parser's query: what holds on the way; its clauses' readers. Conditions: the walk lies there; the package-level variables are laid; the tokens' texts are no great ones.
-/
import Derived.Test.YtegnoaejlhbpbaaGreatDoorM10
namespace Go.Proofs.YtegnoaejlhbpbaaGreatDoor.lx
open Go.RowKit

/-- a query of the call's own, its cells in a block -/
def QBlk (B Q : Nat) (q : Qry) (w : World) : Prop :=
  ∃ iv wv gv, w.heap[Q]? = some (.cells #[iv, .string q.table, .string q.join, .string q.left, .string q.right, wv, gv] 26 (0, 0)) ∧ IO B w q.items iv ∧ w.ownsRow B 29 3 wv q.wher.length (stpCells q.wher) ∧ w.ownsRow B 9 1 gv q.group.length (q.group.map Value.string)
theorem QBlk.kept {B Q : Nat} {q : Qry} {w w' : World} (h : QBlk B Q q w) (hQ : w'.heap[Q]? = w.heap[Q]?) (hb : ∀ k, B ≤ k → k < w.heap.size → w'.heap[k]? = w.heap[k]?) : QBlk B Q q w' := by
  obtain ⟨iv, wv, gv, h1, h2, h3, h4⟩ := h
  exact ⟨iv, wv, gv, hQ.trans h1, h2.kept hb, own_keepA h3 hb, own_keepA h4 hb⟩
theorem QBlk.lt {B Q : Nat} {q : Qry} {w : World} (h : QBlk B Q q w) : Q < w.heap.size := by
  obtain ⟨_, _, _, h, _⟩ := h
  exact (Array.getElem?_eq_some_iff.1 h).1
theorem QBlk.cell {B Q : Nat} {q : Qry} {w : World} (h : QBlk B Q q w) (j : Nat) (hj : j < 7) : ∃ v, w.cell? ⟨Q, j, none⟩ = some v := by
  obtain ⟨iv, wv, gv, h, _⟩ := h
  rw [Lib.cell_of_heap h]
  match j, hj with
  | 0, _ => exact ⟨_, rfl⟩
  | 1, _ => exact ⟨_, rfl⟩
  | 2, _ => exact ⟨_, rfl⟩
  | 3, _ => exact ⟨_, rfl⟩
  | 4, _ => exact ⟨_, rfl⟩
  | 5, _ => exact ⟨_, rfl⟩
  | 6, _ => exact ⟨_, rfl⟩
theorem QBlk.free {B Q : Nat} {q : Qry} {w : World} (h : QBlk B Q q w) (j : Nat) : w.frozen? ⟨Q, j, none⟩ = false := by
  obtain ⟨_, _, _, h, _⟩ := h
  exact Lib.frozen_of_heap h j

/-- what holds on the way through query -/
structure QrS (A P Q : Nat) (q : Qry) (l : List Tok) (fin op : Int) (sv : Value) (w wr : World) : Prop where
  it : ItS A l fin op sv w wr
  op_ : OpOk op
  sz : ∀ t ∈ l, t.s.size < 4294967281
  ll : l.length ≤ 1099511627776
  hP : w.heap.size ≤ P
  hQ : P < Q
  box : wr.heap[P]? = some (.cells #[.pointer (some ⟨A, 0, none⟩)] 67 (0, 0))
  blk : QBlk (Q + 1) Q q wr
theorem QrS.cP {A P Q : Nat} {q : Qry} {l : List Tok} {fin op : Int} {sv : Value} {w wr : World} (h : QrS A P Q q l fin op sv w wr) : wr.cell? ⟨P, 0, none⟩ = some (.pointer (some ⟨A, 0, none⟩)) := by rw [Lib.cell_of_heap h.box]; rfl
theorem QrS.hAP {A P Q : Nat} {q : Qry} {l : List Tok} {fin op : Int} {sv : Value} {w wr : World} (h : QrS A P Q q l fin op sv w wr) : A < P := by have := h.it.hAw; have := h.hP; omega
theorem QrS.next {A P Q : Nat} {q : Qry} {l : List Tok} {fin op : Int} {sv : Value} {w wr w' : World} (h : QrS A P Q q l fin op sv w wr) (hb : Below wr.heap.size wr w') : QrS A P Q q l fin op sv w w' :=
  have := h.blk.lt; have := h.hQ
  ⟨h.it.next hb, h.op_, h.sz, h.ll, h.hP, h.hQ, (hb.block P (by omega)).trans h.box, h.blk.kept (hb.block Q (by omega)) fun k _ hk => hb.block k hk⟩
theorem QrS.step {A P Q : Nat} {q : Qry} {l l' : List Tok} {fin op op' : Int} {sv sv' : Value} {w wr w' : World} (h : QrS A P Q q l fin op sv w wr) (ha : AtW A l' fin op' sv' w') (hg : wr.grownBy w' (some A)) (ho : OpOk op') (hl : l' <:+ l) : QrS A P Q q l' fin op' sv' w w' :=
  have h1 := h.blk.lt; have h2 := h.hQ; have h3 := h.hAP
  ⟨h.it.step ha hg, ho, fun t ht => h.sz t (hl.subset ht), Nat.le_trans hl.length_le h.ll, h.hP, h.hQ, (hg.block P (by omega) (by intro e; injection e; omega)).trans h.box,
    h.blk.kept (hg.block Q h1 (by intro e; injection e; omega)) fun k hk hk2 => hg.block k hk2 (by intro e; injection e; omega)⟩
theorem ItS.setO {A C j : Nat} {l : List Tok} {fin op : Int} {sv v : Value} {w wr : World} (h : ItS A l fin op sv w wr) (hC : w.heap.size ≤ C) : ItS A l fin op sv w (wr.setCell ⟨C, j, none⟩ v) := h.set hC
/-- a text of it is written -/
def setS (q : Qry) (j : Nat) (x : ByteArray) : Qry := match j with | 1 => { q with table := x } | 2 => { q with join := x } | 3 => { q with left := x } | _ => { q with right := x }
theorem QrS.putS {A P Q : Nat} {q : Qry} {l : List Tok} {fin op : Int} {sv : Value} {w wr : World} (h : QrS A P Q q l fin op sv w wr) (j : Nat) (hj : 1 ≤ j ∧ j ≤ 4) (x : ByteArray) : QrS A P Q (setS q j x) l fin op sv w (wr.setCell ⟨Q, j, none⟩ (.string x)) := by
  have h2 := h.hQ
  have h4 := h.hP
  obtain ⟨iv, wv, gv, b1, b2, b3, b4⟩ := h.blk
  refine ⟨h.it.set (by omega), h.op_, h.sz, h.ll, h.hP, h.hQ, (Below.heap_setCell _ _ _ _ (by show P ≠ Q; omega)).trans h.box, iv, wv, gv, ?_, ?_, ?_, ?_⟩
  · obtain ⟨j1, j4⟩ := hj
    match j, j1, j4 with
    | 1, _, _ => simp [World.setCell, Array.getElem?_modify, b1, setS]
    | 2, _, _ => simp [World.setCell, Array.getElem?_modify, b1, setS]
    | 3, _, _ => simp [World.setCell, Array.getElem?_modify, b1, setS]
    | 4, _, _ => simp [World.setCell, Array.getElem?_modify, b1, setS]
  · have e : (setS q j x).items = q.items := by unfold setS; split <;> rfl
    rw [e]
    exact b2.kept fun k hk _ => Below.heap_setCell _ _ _ _ (by show k ≠ Q; omega)
  · have e : (setS q j x).wher = q.wher := by unfold setS; split <;> rfl
    rw [e]
    exact own_keepA b3 fun k hk _ => Below.heap_setCell _ _ _ _ (by show k ≠ Q; omega)
  · have e : (setS q j x).group = q.group := by unfold setS; split <;> rfl
    rw [e]
    exact own_keepA b4 fun k hk _ => Below.heap_setCell _ _ _ _ (by show k ≠ Q; omega)
theorem QrS.putI {A P Q : Nat} {q : Qry} {l : List Tok} {fin op : Int} {sv v : Value} {w wr : World} {x : List Itm} (h : QrS A P Q q l fin op sv w wr) (hv : IO (Q + 1) wr x v) : QrS A P Q { q with items := x } l fin op sv w (wr.setCell ⟨Q, 0, none⟩ v) := by
  have h2 := h.hQ
  have h4 := h.hP
  obtain ⟨iv, wv, gv, b1, b2, b3, b4⟩ := h.blk
  refine ⟨h.it.set (by omega), h.op_, h.sz, h.ll, h.hP, h.hQ, (Below.heap_setCell _ _ _ _ (by show P ≠ Q; omega)).trans h.box, v, wv, gv, by simp [World.setCell, Array.getElem?_modify, b1], hv.kept fun k hk _ => Below.heap_setCell _ _ _ _ (by show k ≠ Q; omega), own_keepA b3 fun k hk _ => Below.heap_setCell _ _ _ _ (by show k ≠ Q; omega), own_keepA b4 fun k hk _ => Below.heap_setCell _ _ _ _ (by show k ≠ Q; omega)⟩
theorem QrS.putW {A P Q : Nat} {q : Qry} {l : List Tok} {fin op : Int} {sv v : Value} {w wr : World} {x : List Stp} (h : QrS A P Q q l fin op sv w wr) (hv : wr.ownsRow (Q + 1) 29 3 v x.length (stpCells x)) : QrS A P Q { q with wher := x } l fin op sv w (wr.setCell ⟨Q, 5, none⟩ v) := by
  have h2 := h.hQ
  have h4 := h.hP
  obtain ⟨iv, wv, gv, b1, b2, b3, b4⟩ := h.blk
  refine ⟨h.it.set (by omega), h.op_, h.sz, h.ll, h.hP, h.hQ, (Below.heap_setCell _ _ _ _ (by show P ≠ Q; omega)).trans h.box, iv, v, gv, by simp [World.setCell, Array.getElem?_modify, b1], b2.kept fun k hk _ => Below.heap_setCell _ _ _ _ (by show k ≠ Q; omega), own_keepA hv fun k hk _ => Below.heap_setCell _ _ _ _ (by show k ≠ Q; omega), own_keepA b4 fun k hk _ => Below.heap_setCell _ _ _ _ (by show k ≠ Q; omega)⟩
theorem QrS.putG {A P Q : Nat} {q : Qry} {l : List Tok} {fin op : Int} {sv v : Value} {w wr : World} {x : List ByteArray} (h : QrS A P Q q l fin op sv w wr) (hv : wr.ownsRow (Q + 1) 9 1 v x.length (x.map Value.string)) : QrS A P Q { q with group := x } l fin op sv w (wr.setCell ⟨Q, 6, none⟩ v) := by
  have h2 := h.hQ
  have h4 := h.hP
  obtain ⟨iv, wv, gv, b1, b2, b3, b4⟩ := h.blk
  refine ⟨h.it.set (by omega), h.op_, h.sz, h.ll, h.hP, h.hQ, (Below.heap_setCell _ _ _ _ (by show P ≠ Q; omega)).trans h.box, iv, wv, v, by simp [World.setCell, Array.getElem?_modify, b1], b2.kept fun k hk _ => Below.heap_setCell _ _ _ _ (by show k ≠ Q; omega), own_keepA b3 fun k hk _ => Below.heap_setCell _ _ _ _ (by show k ≠ Q; omega), own_keepA hv fun k hk _ => Below.heap_setCell _ _ _ _ (by show k ≠ Q; omega)⟩

theorem atomR_ok {fin : Int} {p : ByteArray → Bool} {l : List Tok} {op : Int} {s : List Tok × Int × ByteArray} (h : atomR p fin l op = .ok s) : s.1 <:+ l ∧ s.1.length < l.length ∧ s.2.1 = op ∧ p s.2.2 = true := by
  unfold atomR at h
  cases ht : takeR fin 3 p l op with
  | bad y q => rw [ht] at h; cases h
  | ok x =>
    obtain ⟨l', op'⟩ := x
    rw [ht] at h
    injection h with h
    subst h
    obtain ⟨a, b⟩ := take_suf ht (by decide)
    obtain ⟨_, _, c, _⟩ := takeR_ok ht (by decide)
    exact ⟨a, b, takeR_op ht, c⟩
theorem IO.le {B C : Nat} {w : World} {its : List Itm} {iv : Value} (h : IO B w its iv) (hC : C ≤ B) : IO C w its iv := by
  obtain ⟨vs, h1, h2, h3⟩ := h
  exact ⟨vs, h1, own_le h2 hC, fun i it v a b => ⟨own_le (h3 i it v a b).1 hC, (h3 i it v a b).2⟩⟩
theorem IO.shape {B : Nat} {w : World} {its : List Itm} {iv : Value} (h : IO B w its iv) : ∃ ao cap, iv = .slice ao its.length cap := by
  obtain ⟨vs, h1, h2, h3⟩ := h
  exact own_shape h2
/-- all that lay lies as it did, but the walk's block and the query's -/
structure FrQ (A Q : Nat) (w w' : World) : Prop where
  size : w.heap.size ≤ w'.heap.size
  block : ∀ k, k < w.heap.size → k ≠ A → k ≠ Q → w'.heap[k]? = w.heap[k]?
theorem FrQ.refl (A Q : Nat) (w : World) : FrQ A Q w w := ⟨Nat.le_refl _, fun _ _ _ _ => rfl⟩
theorem FrQ.gb {A Q : Nat} {w w1 w2 : World} (h : FrQ A Q w w1) (k : w1.grownBy w2 (some A)) : FrQ A Q w w2 :=
  ⟨Nat.le_trans h.size k.size, fun i hi hne h2 => (k.block i (by have := h.size; omega) (by intro e; injection e; omega)).trans (h.block i hi hne h2)⟩
theorem FrQ.bel {A Q : Nat} {w w1 w2 : World} (h : FrQ A Q w w1) (k : Below w1.heap.size w1 w2) : FrQ A Q w w2 := h.gb (below_gb k)
theorem FrQ.set {A Q j : Nat} {w w1 : World} {v : Value} (h : FrQ A Q w w1) : FrQ A Q w (w1.setCell ⟨Q, j, none⟩ v) :=
  ⟨by rw [setCell_size]; exact h.size, fun i hi hne h2 => (Below.heap_setCell _ _ _ _ h2).trans (h.block i hi hne h2)⟩
/-- what a clause's reader comes to -/
def RdP (A P Q : Nat) (fin : Int) (w wr : World) (R : Res QS) (e : Ending) (w' : World) : Prop :=
  match R with
  | .ok s => e = .returned (.tuple #[]) ∧ (∃ sv, QrS A P Q s.2.2 s.1 fin s.2.1 sv w w') ∧ FrQ A Q wr w'
  | .bad y p => e = .panicked [flt y p] ∧ w.grownBy w' (some A)
theorem RdP.bad {A P Q : Nat} {fin y p : Int} {w wr : World} {R : Res QS} {w' : World} (h : R = .bad y p) (hg : w.grownBy w' (some A)) : RdP A P Q fin w wr R (.panicked [flt y p]) w' := by subst h; exact ⟨rfl, hg⟩

theorem RdP.ok {A P Q : Nat} {fin : Int} {sv : Value} {s : QS} {w wr : World} {R : Res QS} {w' : World} (h : .ok s = R) (hq : QrS A P Q s.2.2 s.1 fin s.2.1 sv w w') (hf : FrQ A Q wr w') : RdP A P Q fin w wr R (.returned (.tuple #[])) w' := by subst h; exact ⟨rfl, ⟨_, hq⟩, hf⟩

set_option maxHeartbeats 2000000 in
set_option maxRecDepth 100000 in
theorem read0_any {A P Q : Nat} {q : Qry} {l : List Tok} {fin op : Int} {sv : Value} {w wr : World} (H : QrS A P Q q l fin op sv w wr) :
    Calls Tryz.prog 61 #[.pointer (some ⟨P, 0, none⟩), .pointer (some ⟨Q, 0, none⟩)] wr fun e w' => RdP A P Q fin w wr (readR 0 fin (l, op, q)) e w' := by
  obtain ⟨R, hR⟩ : ∃ R, readR 0 fin (l, op, q) = R := ⟨_, rfl⟩
  rw [hR]
  unfold readR at hR
  simp only at hR
  have HH := Lib.hid H
  have hPQ := H.hQ
  have c0 := H.cP
  clear H
  go_enter Tryz.func61, Tryz.ntmps61
  have hcol := wname_any HH.out.it.at_ HH.out.it.glob HH.out.sz
  cases ha : atomR nameR fin l op with
  | bad y q' =>
    rw [ha] at hcol hR
    simp only [Res.then] at hR
    have HR := Lib.hid hR.symm
    have HCO := Lib.hid hcol
    clear hcol ha hR
    go_wp2_with (go_at_call 60; refine HCO.out.mono ?_; rintro e w4 ⟨rfl, hg⟩; refine Hid.out ?_)
    refine Lib.hid ?_
    exact ⟨rfl, RdP.bad HR.out (gb_trans HH.out.it.gb hg)⟩
  | ok s =>
    obtain ⟨l1, op1, x1⟩ := s
    rw [ha] at hcol hR
    simp only [Res.then] at hR
    have HR := Lib.hid hR
    have HCO := Lib.hid hcol
    have HA := Lib.hid (atomR_ok ha)
    clear hcol ha hR
    go_wp2_with (go_at_call 60; refine HCO.out.mono ?_; rintro e w4 ⟨rfl, ha4, hg4⟩; refine Hid.out ?_)
    refine Lib.hid ?_
    have H4 := Lib.hid (HH.out.step ha4 hg4 (by rw [HA.out.2.2.1]; exact HH.out.op_) HA.out.1)
    obtain ⟨v4, c4⟩ := H4.out.blk.cell 2 (by decide)
    have f4 := H4.out.blk.free 2
    have H5 := Lib.hid (H4.out.putS 2 (by decide) x1)
    have c5 := H5.out.cP
    have HF4 := Lib.hid ((FrQ.refl A Q wr).gb hg4)
    clear ha4 hg4 c0
    have hcol := wcolumn_any H5.out.it.at_ H5.out.it.glob H5.out.sz
    have hR := HR.out
    cases ha : atomR columnR fin l1 op1 with
    | bad y q' =>
      rw [ha] at hcol hR
      simp only at hR
      have HR := Lib.hid hR.symm
      have HCO := Lib.hid hcol
      clear hcol ha hR
      go_wp2_with (go_at_call 62; refine HCO.out.mono ?_; rintro e w6 ⟨rfl, hg⟩; refine Hid.out ?_)
      refine Lib.hid ?_
      exact ⟨rfl, RdP.bad HR.out (gb_trans H5.out.it.gb hg)⟩
    | ok s =>
      obtain ⟨l2, op2, x2⟩ := s
      rw [ha] at hcol hR
      simp only at hR
      have HR := Lib.hid hR
      have HCO := Lib.hid hcol
      have HA := Lib.hid (atomR_ok ha)
      clear hcol ha hR
      go_wp2_with (go_at_call 62; refine HCO.out.mono ?_; rintro e w6 ⟨rfl, ha6, hg6⟩; refine Hid.out ?_)
      refine Lib.hid ?_
      have H6 := Lib.hid (H5.out.step ha6 hg6 (by rw [HA.out.2.2.1]; exact H5.out.op_) HA.out.1)
      obtain ⟨v6, c6⟩ := H6.out.blk.cell 3 (by decide)
      have f6 := H6.out.blk.free 3
      have H7 := Lib.hid (H6.out.putS 3 (by decide) x2)
      have c7 := H7.out.cP
      have HF6 := Lib.hid ((HF4.out.set (j := 2) (v := .string x1)).gb hg6)
      clear ha6 hg6 c5 c4 f4
      have hcol := wcolumn_any H7.out.it.at_ H7.out.it.glob H7.out.sz
      have hR := HR.out
      cases ha : atomR columnR fin l2 op2 with
      | bad y q' =>
        rw [ha] at hcol hR
        simp only at hR
        have HR := Lib.hid hR.symm
        have HCO := Lib.hid hcol
        clear hcol ha hR
        go_wp2_with (go_at_call 62; refine HCO.out.mono ?_; rintro e w8 ⟨rfl, hg⟩; refine Hid.out ?_)
        refine Lib.hid ?_
        exact ⟨rfl, RdP.bad HR.out (gb_trans H7.out.it.gb hg)⟩
      | ok s =>
        obtain ⟨l3, op3, x3⟩ := s
        rw [ha] at hcol hR
        simp only at hR
        have HR := Lib.hid hR
        have HCO := Lib.hid hcol
        have HA := Lib.hid (atomR_ok ha)
        clear hcol ha hR
        go_wp2_with (go_at_call 62; refine HCO.out.mono ?_; rintro e w8 ⟨rfl, ha8, hg8⟩; refine Hid.out ?_)
        refine Lib.hid ?_
        have H8 := Lib.hid (H7.out.step ha8 hg8 (by rw [HA.out.2.2.1]; exact H7.out.op_) HA.out.1)
        obtain ⟨v8, c8⟩ := H8.out.blk.cell 4 (by decide)
        have f8 := H8.out.blk.free 4
        have H9 := Lib.hid (H8.out.putS 4 (by decide) x3)
        have HF8 := Lib.hid ((HF6.out.set (j := 3) (v := .string x2)).gb hg8)
        clear ha8 hg8 c7 c6 f6
        go_wp2_with fail
        refine bodyPost_end (results_none rfl _ _ _) rfl ?_
        exact RdP.ok HR.out H9.out HF8.out.set

set_option maxHeartbeats 2000000 in
set_option maxRecDepth 100000 in
theorem read1_any {A P Q : Nat} {q : Qry} {l : List Tok} {fin op : Int} {sv : Value} {w wr : World} (H : QrS A P Q q l fin op sv w wr) :
    Calls Tryz.prog 63 #[.pointer (some ⟨P, 0, none⟩), .pointer (some ⟨Q, 0, none⟩)] wr fun e w' => RdP A P Q fin w wr (readR 1 fin (l, op, q)) e w' := by
  obtain ⟨R, hR⟩ : ∃ R, readR 1 fin (l, op, q) = R := ⟨_, rfl⟩
  rw [hR]
  unfold readR at hR
  simp only at hR
  have HH := Lib.hid H
  have c0 := H.cP
  have hQb := H.blk.lt
  clear H
  go_enter Tryz.func63, Tryz.ntmps63
  have hcol := whole_any HH.out.it.at_ HH.out.it.glob HH.out.it.hA8 HH.out.op_ HH.out.sz HH.out.ll
  cases ha : wholeR fin l op with
  | bad y q' =>
    rw [ha] at hcol hR
    simp only [Res.then] at hR
    have HR := Lib.hid hR.symm
    have HCO := Lib.hid hcol
    clear hcol ha hR
    go_wp2_with (go_at_call 64; refine HCO.out.mono ?_; rintro e w4 ⟨rfl, hg⟩; refine Hid.out ?_)
    refine Lib.hid ?_
    exact ⟨rfl, RdP.bad HR.out (gb_trans HH.out.it.gb hg)⟩
  | ok s =>
    obtain ⟨l1, op1, x1⟩ := s
    rw [ha] at hcol hR
    simp only [Res.then] at hR
    have HR := Lib.hid hR
    have HCO := Lib.hid hcol
    have HA := Lib.hid (exprR_ok fin _ _ _ _ _ ha)
    clear hcol ha hR
    go_wp2_with (go_at_call 64; refine HCO.out.mono ?_; rintro e w4 ⟨⟨v, rfl, ha4, ho⟩, hg4⟩; refine Hid.out ?_)
    refine Lib.hid ?_
    have H4 := Lib.hid (HH.out.step ha4 hg4 (Eq.mpr (congrArg OpOk HA.out.2.2.2) HH.out.op_) HA.out.1)
    obtain ⟨v4, c4⟩ := H4.out.blk.cell 5 (by decide)
    have f4 := H4.out.blk.free 5
    have H5 := Lib.hid (H4.out.putW (own_le ho (by omega)))
    obtain ⟨so, scap, rfl⟩ := own_shape ho
    have HF4 := Lib.hid ((FrQ.refl A Q wr).gb hg4)
    clear ha4 hg4 ho c0
    go_wp2_with fail
    refine bodyPost_end (results_none rfl _ _ _) rfl ?_
    exact RdP.ok HR.out H5.out HF4.out.set

theorem someR_ok {α : Type} {one : List Tok → Int → Res (List Tok × Int × α)} {fin : Int} (hone : ∀ l op s, one l op = .ok s → s.1 <:+ l ∧ s.2.1 = op) : ∀ (m : Nat) (out : List α) (l : List Tok) (op : Int) (s : List Tok × Int × List α), someR one fin m out l op = .ok s → s.1 <:+ l ∧ s.2.1 = op
  | 0, _, _, _, _, h => by cases h
  | m + 1, out, l, op, s, h => by
    rw [someR] at h
    split at h
    · split at h
      · cases ho : one l op with
        | bad y q => rw [ho] at h; cases h
        | ok x =>
          rw [ho] at h
          obtain ⟨a, b⟩ := someR_ok hone m _ _ _ s h
          obtain ⟨c, d⟩ := hone _ _ _ ho
          exact ⟨a.trans c, b.trans d⟩
      · cases h
    · injection h with h
      subst h
      exact ⟨List.suffix_refl _, rfl⟩

set_option maxHeartbeats 2000000 in
set_option maxRecDepth 100000 in
theorem read2_any {A P Q : Nat} {q : Qry} {l : List Tok} {fin op : Int} {sv : Value} {w wr : World} (H : QrS A P Q q l fin op sv w wr) :
    Calls Tryz.prog 65 #[.pointer (some ⟨P, 0, none⟩), .pointer (some ⟨Q, 0, none⟩)] wr fun e w' => RdP A P Q fin w wr (readR 2 fin (l, op, q)) e w' := by
  obtain ⟨R, hR⟩ : ∃ R, readR 2 fin (l, op, q) = R := ⟨_, rfl⟩
  rw [hR]
  unfold readR at hR
  simp only at hR
  have HH := Lib.hid H
  have c0 := H.cP
  have hQb := H.blk.lt
  clear H
  go_enter Tryz.func65, Tryz.ntmps65
  have hcol := someStr_any HH.out.it.at_ HH.out.it.glob HH.out.it.hA8 HH.out.op_ HH.out.sz
  cases ha : someR (atomR columnR fin) fin (l.length + 2) [] l op with
  | bad y q' =>
    rw [ha] at hcol hR
    simp only [Res.then] at hR
    have HR := Lib.hid hR.symm
    have HCO := Lib.hid hcol
    clear hcol ha hR
    go_wp2_with (go_at_call 66; refine HCO.out.mono ?_; rintro e w4 ⟨rfl, hg⟩; refine Hid.out ?_)
    refine Lib.hid ?_
    exact ⟨rfl, RdP.bad HR.out (gb_trans HH.out.it.gb hg)⟩
  | ok s =>
    obtain ⟨l1, op1, x1⟩ := s
    rw [ha] at hcol hR
    simp only [Res.then] at hR
    have HR := Lib.hid hR
    have HCO := Lib.hid hcol
    have HA := Lib.hid (someR_ok (fun l op s h => ⟨(atomR_ok h).1, (atomR_ok h).2.2.1⟩) _ _ _ _ _ ha)
    clear hcol ha hR
    go_wp2_with (go_at_call 66; refine HCO.out.mono ?_; rintro e w4 ⟨⟨v, sv', rfl, ha4, ho⟩, hg4⟩; refine Hid.out ?_)
    refine Lib.hid ?_
    have H4 := Lib.hid (HH.out.step ha4 hg4 (Eq.mpr (congrArg OpOk HA.out.2) HH.out.op_) HA.out.1)
    obtain ⟨v4, c4⟩ := H4.out.blk.cell 6 (by decide)
    have f4 := H4.out.blk.free 6
    have H5 := Lib.hid (H4.out.putG (own_le ho (by omega)))
    obtain ⟨so, scap, rfl⟩ := own_shape ho
    have HF4 := Lib.hid ((FrQ.refl A Q wr).gb hg4)
    clear ha4 hg4 ho c0
    go_wp2_with fail
    refine bodyPost_end (results_none rfl _ _ _) rfl ?_
    exact RdP.ok HR.out H5.out HF4.out.set

set_option maxHeartbeats 2000000 in
set_option maxRecDepth 100000 in
theorem read3_any {A P Q : Nat} {q : Qry} {l : List Tok} {fin op : Int} {sv : Value} {w wr : World} (H : QrS A P Q q l fin op sv w wr) :
    Calls Tryz.prog 67 #[.pointer (some ⟨P, 0, none⟩), .pointer (some ⟨Q, 0, none⟩)] wr fun e w' => RdP A P Q fin w wr (readR 3 fin (l, op, q)) e w' := by
  obtain ⟨R, hR⟩ : ∃ R, readR 3 fin (l, op, q) = R := ⟨_, rfl⟩
  rw [hR]
  unfold readR at hR
  simp only at hR
  have HH := Lib.hid H
  have c0 := H.cP
  have hQb := H.blk.lt
  clear H
  go_enter Tryz.func67, Tryz.ntmps67
  have hcol := someItm_any HH.out.it.at_ HH.out.it.glob HH.out.it.hA8 HH.out.op_ HH.out.sz HH.out.ll
  cases ha : someR (itemR fin) fin (l.length + 2) [] l op with
  | bad y q' =>
    rw [ha] at hcol hR
    simp only [Res.then] at hR
    have HR := Lib.hid hR.symm
    have HCO := Lib.hid hcol
    clear hcol ha hR
    go_wp2_with (go_at_call 68; refine HCO.out.mono ?_; rintro e w4 ⟨rfl, hg⟩; refine Hid.out ?_)
    refine Lib.hid ?_
    exact ⟨rfl, RdP.bad HR.out (gb_trans HH.out.it.gb hg)⟩
  | ok s =>
    obtain ⟨l1, op1, x1⟩ := s
    rw [ha] at hcol hR
    simp only [Res.then] at hR
    have HR := Lib.hid hR
    have HCO := Lib.hid hcol
    have HA := Lib.hid (someR_ok (fun l op s h => ⟨(itemR_ok h).1, (itemR_ok h).2.2.2.1⟩) _ _ _ _ _ ha)
    clear hcol ha hR
    go_wp2_with (go_at_call 68; refine HCO.out.mono ?_; rintro e w4 ⟨⟨v, sv', rfl, ha4, ho⟩, hg4⟩; refine Hid.out ?_)
    refine Lib.hid ?_
    have H4 := Lib.hid (HH.out.step ha4 hg4 (Eq.mpr (congrArg OpOk HA.out.2) HH.out.op_) HA.out.1)
    obtain ⟨v4, c4⟩ := H4.out.blk.cell 0 (by decide)
    have f4 := H4.out.blk.free 0
    have H5 := Lib.hid (H4.out.putI (ho.le (by omega)))
    obtain ⟨so, scap, rfl⟩ := ho.shape
    have HF4 := Lib.hid ((FrQ.refl A Q wr).gb hg4)
    clear ha4 hg4 ho c0
    go_wp2_with fail
    refine bodyPost_end (results_none rfl _ _ _) rfl ?_
    exact RdP.ok HR.out H5.out HF4.out.set
end Go.Proofs.YtegnoaejlhbpbaaGreatDoor.lx
