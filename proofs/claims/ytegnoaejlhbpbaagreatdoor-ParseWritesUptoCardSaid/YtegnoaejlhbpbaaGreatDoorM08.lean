/-
  The parser's expr in brackets, walked. Conditions: as in ExS; what it does of shorter texts. The parser's expr and whole, every way. Conditions: the walk lies there; its steps' row is its own; the package-level variables are laid; the tokens' texts are no great ones. The parser's whole: an expression alone. Conditions: the walk lies there; the package-level variables are laid; the tokens' texts are no great ones.
-/
import Derived.Test.YtegnoaejlhbpbaaGreatDoorM07
namespace Go.Proofs.YtegnoaejlhbpbaaGreatDoor.lx
open Go.RowKit

def wlen (A : Nat) (w : World) : Nat := match w.heap[A]? with | some (.cells cs _ _) => (match cs[0]? with | some (Value.slice _ n _) => n | _ => 0) | _ => 0
theorem wlen_of {A : Nat} {l : List Tok} {fin op : Int} {sv : Value} {w : World} (h : AtW A l fin op sv w) : wlen A w = l.length := by
  obtain ⟨ao, cap, hA, _⟩ := h
  unfold wlen
  rw [hA]
  rfl
theorem ExS.self {A B : Nat} {l : List Tok} {fin op : Int} {sv : Value} {st : List Stp} {w wr : World} (h : ExS A B l fin op sv st w wr) : ExS A B l fin op sv st wr wr := ⟨h.at_, KB.refl _ _ _, h.own, h.hBr, h.hAB, h.glob, h.hA8⟩
theorem partsR_go {f : List Tok → Int → List Stp → Res PS} {fin k : Int} {m p : Nat} {l : List Tok} {op : Int} {st : List Stp} (h : p < 1 ∨ (p < 2 ∧ 10 < k) ∨ (20 ≤ k ∧ closesR l fin = false)) : partsR f fin k (m + 1) p l op st = (f l op st).then fun s => partsR f fin k m (p + 1) s.1 s.2.1 s.2.2 := by rw [partsR, if_pos h]
theorem partsR_stop {f : List Tok → Int → List Stp → Res PS} {fin k : Int} {m p : Nat} {l : List Tok} {op : Int} {st : List Stp} (h : ¬ (p < 1 ∨ (p < 2 ∧ 10 < k) ∨ (20 ≤ k ∧ closesR l fin = false))) : partsR f fin k (m + 1) p l op st = .ok (p, l, op, st) := by rw [partsR, if_neg h]
def endZ (fin K : Int) (z : Nat × PS) : Res PS := endR' fin K z.1 z.2.1 z.2.2.1 z.2.2.2
/-- the loop over an expression's parts: where it stands -/
structure Prt (n A B : Nat) (fin K : Int) (R : Res PS) (l0 : List Tok) (p : Nat) (l : List Tok) (op : Int) (sv : Value) (st : List Stp) (w wr : World) : Prop where
  ex : ExS A B l fin op sv st w wr
  op_ : OpOk op
  st_ : st.length ≤ 64
  cnt : p + l.length + 2 ≤ l0.length
  sz : ∀ t ∈ l, t.s.size < 4294967281
  run : ∃ m, l.length + 1 ≤ m ∧ (partsR (exprR fin n) fin K m p l op st).then (endZ fin K) = R
theorem Prt.next {n A B : Nat} {fin K : Int} {R : Res PS} {l0 : List Tok} {p : Nat} {l : List Tok} {op : Int} {sv : Value} {st : List Stp} {w wr w' : World} (h : Prt n A B fin K R l0 p l op sv st w wr) (hb : Below wr.heap.size wr w') : Prt n A B fin K R l0 p l op sv st w w' := ⟨h.ex.next hb, h.op_, h.st_, h.cnt, h.sz, h.run⟩
theorem Prt.bad {n A B : Nat} {fin K : Int} {R : Res PS} {l0 : List Tok} {p : Nat} {l : List Tok} {op : Int} {sv : Value} {st : List Stp} {w wr : World} {y q : Int} (h : Prt n A B fin K R l0 p l op sv st w wr) (hc : p < 1 ∨ (p < 2 ∧ 10 < K) ∨ (20 ≤ K ∧ closesR l fin = false)) (hf : exprR fin n l op st = .bad y q) : R = .bad y q := by
  obtain ⟨m, hm, hr⟩ := h.run
  obtain ⟨m, rfl⟩ : ∃ k, m = k + 1 := ⟨m - 1, by omega⟩
  rw [partsR_go hc, hf] at hr
  exact hr.symm
theorem Prt.go {n A B : Nat} {fin K : Int} {R : Res PS} {l0 : List Tok} {p : Nat} {l : List Tok} {op : Int} {sv sv' : Value} {st : List Stp} {w wr w' : World} {s : PS} (h : Prt n A B fin K R l0 p l op sv st w wr) (hc : p < 1 ∨ (p < 2 ∧ 10 < K) ∨ (20 ≤ K ∧ closesR l fin = false)) (hf : exprR fin n l op st = .ok s)
    (ha : AtW A s.1 fin s.2.1 sv' w') (ho : w'.ownsRow B 29 3 sv' s.2.2.length (stpCells s.2.2)) (hkb : KB A B wr w') : Prt n A B fin K R l0 (p + 1) s.1 s.2.1 sv' s.2.2 w w' ∧ s.1.length < l.length := by
  obtain ⟨m, hm, hr⟩ := h.run
  obtain ⟨m, rfl⟩ : ∃ k, m = k + 1 := ⟨m - 1, by omega⟩
  rw [partsR_go hc, hf] at hr
  obtain ⟨h1, h2, h3, h4⟩ := exprR_ok fin n l op st s hf
  exact ⟨⟨h.ex.kb' ha ho hkb, by rw [h4]; exact h.op_, h3, by have := h.cnt; omega, fun t ht => h.sz t (h1.subset ht), ⟨m, by omega, hr⟩⟩, h2⟩
theorem Prt.stop {n A B : Nat} {fin K : Int} {R : Res PS} {l0 : List Tok} {p : Nat} {l : List Tok} {op : Int} {sv : Value} {st : List Stp} {w wr : World} (h : Prt n A B fin K R l0 p l op sv st w wr) (hc : ¬ (p < 1 ∨ (p < 2 ∧ 10 < K) ∨ (20 ≤ K ∧ closesR l fin = false))) : endR' fin K p l op st = R := by
  obtain ⟨m, hm, hr⟩ := h.run
  obtain ⟨m, rfl⟩ : ∃ k, m = k + 1 := ⟨m - 1, by omega⟩
  rw [partsR_stop hc] at hr
  exact hr
theorem end_bad {fin K : Int} {p : Nat} {l : List Tok} {op : Int} {st : List Stp} {R : Res PS} (h : endR' fin K p l op st = R) (hc : closesR l fin = false) : R = .bad (if (tokAt l fin).k = 1 ∧ ¬ op < 8 then 10 else 13) (tokAt l fin).a := by rw [← h, endR', if_pos hc]
theorem end_put_bad {fin K : Int} {p : Nat} {l : List Tok} {op : Int} {st : List Stp} {R : Res PS} {y q : Int} (h : endR' fin K p l op st = R) (hc : closesR l fin = true) (hp : putR fin l st (List.replicate (if 20 ≤ K then p - 1 else 1) ⟨K, ⟨#[]⟩, 0⟩) = .bad y q) : R = .bad y q := by
  rw [← h, endR', if_neg (by rw [hc]; decide), hp]; rfl
theorem end_put_ok {fin K : Int} {p : Nat} {t : Tok} {l : List Tok} {op : Int} {st st' : List Stp} {R : Res PS} (h : endR' fin K p (t :: l) op st = R) (hc : t.k = 2) (hp : putR fin (t :: l) st (List.replicate (if 20 ≤ K then p - 1 else 1) ⟨K, ⟨#[]⟩, 0⟩) = .ok st') : R = .ok (l, op - 1, st') := by
  rw [← h, endR', if_neg (by show ¬ (t.k == 2) = false; rw [hc]; decide), hp]
  show (takeR fin 2 (fun _ => true) (t :: l) op).then _ = _
  unfold takeR
  rw [if_neg (by show ¬ (t.k = 1 ∧ _); rw [hc]; omega), if_neg (by show ¬ t.k ≠ 2; rw [hc]; decide), if_neg (by simp), if_neg (by decide), if_pos rfl]
  rfl
theorem ExS.c2 {A B : Nat} {l : List Tok} {fin op : Int} {sv : Value} {st : List Stp} {w wr : World} (h : ExS A B l fin op sv st w wr) : wr.cell? ⟨A, 2, none⟩ = some (.int .i64 op) := by
  obtain ⟨ao, cap, hA, _⟩ := h.at_; rw [Lib.cell_of_heap hA]; rfl
/-- a step laid, repeated, and put -/
theorem rep_new {A B nn : Nat} {l : List Tok} {fin op : Int} {sv : Value} {st : List Stp} {w wr : World} {PR : Res (List Stp)} (K : Int) (h1 : 1 ≤ nn) (h2 : nn ≤ 1099511627776) (H : ExS A B l fin op sv st w wr) (hPR : putR fin l st (List.replicate nn ⟨K, ⟨#[]⟩, 0⟩) = PR) (hst : st.length ≤ 64) :
    (Calls Tryz.prog 107 #[.slice (some ⟨wr.heap.size, 0, none⟩) 1 1, .int .i64 nn] (wr.alloc (.cells #[.int .u8 K, .string ⟨#[]⟩, .int .i64 0] 29)) fun e w' => ∃ g, e = .returned (.slice (some ⟨g, 0, none⟩) nn nn) ∧
      (∀ (j : Nat) u, (stpCells (List.replicate nn ⟨K, ⟨#[]⟩, 0⟩))[j]? = some u → w'.cell? ⟨g, 0 + j, none⟩ = some u) ∧ Below (wr.alloc (.cells #[.int .u8 K, .string ⟨#[]⟩, .int .i64 0] 29)).heap.size (wr.alloc (.cells #[.int .u8 K, .string ⟨#[]⟩, .int .i64 0] 29)) w') ∧
    ∀ g w', (∀ (j : Nat) u, (stpCells (List.replicate nn ⟨K, ⟨#[]⟩, 0⟩))[j]? = some u → w'.cell? ⟨g, 0 + j, none⟩ = some u) → Below (wr.alloc (.cells #[.int .u8 K, .string ⟨#[]⟩, .int .i64 0] 29)).heap.size (wr.alloc (.cells #[.int .u8 K, .string ⟨#[]⟩, .int .i64 0] 29)) w' →
      Calls Tryz.prog 106 #[.pointer (some ⟨A, 0, none⟩), .slice (some ⟨g, 0, none⟩) nn nn] w' fun e w2 => PutP A B l fin op sv w' PR e w2 := by
  refine ⟨repeat_any wr.heap.size ⟨K, ⟨#[]⟩, 0⟩ nn _ h1 h2 (fun j v hj => ?_), fun g w' hcs hb => ?_⟩
  · rw [Lib.cell_of_heap (heap_alloc_new _ _)]
    match j, hj with
    | 0, hj => simpa [Stp.cells] using hj
    | 1, hj => simpa [Stp.cells] using hj
    | 2, hj => simpa [Stp.cells] using hj
    | (j + 3), hj => simp [Stp.cells] at hj
  · have H2 := (H.al (.cells #[.int .u8 K, .string ⟨#[]⟩, .int .i64 0] 29)).next hb
    have := put_any (bn := g) (on := 0) (cn := nn) (new := List.replicate nn ⟨K, ⟨#[]⟩, 0⟩) H2.at_ H2.hAB H2.hBr H2.own hst (by simp; omega) hcs
    rw [List.length_replicate, hPR] at this
    exact this

set_option maxHeartbeats 16000000 in
set_option maxRecDepth 100000 in
theorem expr_main {n A B : Nat} {l l1 l2 : List Tok} {fin op op1 op2 : Int} {sv : Value} {st : List Stp} {w : World} (H : ExS A B l fin op sv st w w) (hop : OpOk op) (hs : ∀ t ∈ l, t.s.size < 4294967281)
    (hk : (tokAt l fin).k = 1) (h1 : takeR fin 1 (fun _ => true) l op = .ok (l1, op1)) (h2 : takeR fin 3 isOp l1 op1 = .ok (l2, op2)) (hn : l.length < n + 1) (hst : st.length ≤ 64) (hll : l.length ≤ 1099511627776)
    (IH : ∀ (l : List Tok) (op : Int) (sv : Value) (st : List Stp) (wr : World), ExS A B l fin op sv st wr wr → OpOk op → (∀ t ∈ l, t.s.size < 4294967281) → st.length ≤ 64 → l.length < n → l.length ≤ 1099511627776 → Calls Tryz.prog 87 #[.pointer (some ⟨A, 0, none⟩)] wr fun e w' => ExprP A B fin wr (exprR fin n l op st) e w')
    (R : Res PS) (hR : (partsR (exprR fin n) fin (opK (tokAt l1 fin).s) (l2.length + 2) 0 l2 op2 st).then (endZ fin (opK (tokAt l1 fin).s)) = R) :
    Calls Tryz.prog 87 #[.pointer (some ⟨A, 0, none⟩)] w fun e w' => ExprP A B fin w R e w' := by
  have HIH := Lib.hid IH
  have HRR : Hid (∀ wr, ExS A B l2 fin op2 sv st w wr → Prt n A B fin (opK (tokAt l1 fin).s) R l 0 l2 op2 sv st w wr) := Lib.hid fun wr H => by
    obtain ⟨a1, _, _, a2, a3, a4, a5⟩ := takeR_ok h1 (by decide)
    obtain ⟨b1, _, _, b2, _⟩ := takeR_ok h2 (by decide)
    have hop2 : op2 = op1 := takeR_op h2
    have hop1 : op1 = op + 1 := takeR_op h1
    exact ⟨H, by rw [hop2, hop1]; have := hop.1; have := a5 rfl; exact ⟨by omega, by omega⟩, hst, by omega, fun t ht => hs t (by rw [b1, a1] at ht; exact List.mem_of_mem_tail (List.mem_of_mem_tail ht)), ⟨_, by omega, hR⟩⟩
  clear IH hR
  have hp := wpeek_any H.at_
  have HT1 := Lib.hid fun w2 (H2 : ExS A B l fin op sv st w w2) => takeN_any H2.at_ hop (.inl rfl : (1 : Int) = 1 ∨ (1 : Int) = 2 ∨ (1 : Int) = 3)
  rw [h1] at HT1
  have HT2 := Lib.hid fun w2 (H2 : ExS A B l1 fin op1 sv st w w2) => takeF_any (H2.al (.cells #[.func (.func 105) #[] #[]] 43)).at_ (H2.al (.cells #[.func (.func 105) #[] #[]] 43)).glob lets_op (bf := w2.heap.size) (by rw [Lib.cell_of_heap (heap_alloc_new _ _)]; rfl) (fun t ht => hs t (by
    have := (takeR_ok h1 (by decide)).1
    rw [this] at ht
    exact List.mem_of_mem_tail ht))
  rw [h2] at HT2
  have HK := Lib.hid (opK_range (takeR_ok h2 (by decide)).2.2.1)
  have HH := Lib.hid H
  clear H h1 h2
  generalize tokAt l fin = t at hp hk HT1
  generalize tokAt l1 fin = o at HT2 HK HRR
  obtain ⟨tk, ts, tn, ta⟩ := t
  obtain ⟨ok, os, on, oa⟩ := o
  unfold Tok.v at hp
  simp only at hk hp HK HRR
  subst hk
  have hfl := fldk (.int .u8 1) (.string ts) (.int .i64 tn) (.int .i64 ta)
  go_enter Tryz.func87, Tryz.ntmps87
  go_wp2_with (go_at_call 86; refine hp.mono ?_; rintro e w2 ⟨rfl, hb2⟩; refine Hid.out ?_)
  refine Lib.hid ?_
  have H2 := Lib.hid (HH.out.next hb2)
  clear hp hb2
  go_wp2_with (go_at_call 58; refine (HT1.out _ H2.out).mono ?_; rintro e w3 ⟨rfl, ha, hg⟩; refine Hid.out ?_)
  refine Lib.hid ?_
  have H3 := Lib.hid (H2.out.gb ha hg)
  clear ha hg HT1 H2 hfl
  go_wp2_with (go_at_call 58; refine (HT2.out _ H3.out).mono ?_; rintro e w4 ⟨rfl, ha, hg⟩; refine Hid.out ?_)
  refine Lib.hid ?_
  have H4 := Lib.hid (((H3.out.al (.cells #[.func (.func 105) #[] #[]] 43)).gb ha hg).al (.cells #[.int .u8 ok, .string os, .int .i64 on, .int .i64 oa] 79))
  clear ha hg HT2 H3
  unfold Tok.v
  go_upto_region 4 with fail
  have q0 : (w4.alloc (.cells #[.int .u8 ok, .string os, .int .i64 on, .int .i64 oa] 79)).cell? ⟨w4.heap.size, 1, none⟩ = some (.string os) := by rw [Lib.cell_of_heap (heap_alloc_new _ _)]; rfl
  have HQ := Lib.hid fun w5 (hb : Below (w4.alloc (.cells #[.int .u8 ok, .string os, .int .i64 on, .int .i64 oa] 79)).heap.size (w4.alloc (.cells #[.int .u8 ok, .string os, .int .i64 on, .int .i64 oa] 79)) w5) => keep_cellP hb q0
  have HOP := Lib.hid fun w5 (hb : Below (w4.alloc (.cells #[.int .u8 ok, .string os, .int .i64 on, .int .i64 oa] 79)).heap.size (w4.alloc (.cells #[.int .u8 ok, .string os, .int .i64 on, .int .i64 oa] 79)) w5) => operators_any w5 (H4.out.next hb).glob
  have HIX := Lib.hid fun b w5 (hS : SBlk b opsL w5) => (Tryz.slices_Index_string b 0 15 15 opsL os w5 (by decide) (by decide) hS).mono fun e w' ⟨h1, h2⟩ => (⟨h1, h2.symm⟩ : e = _ ∧ w5 = w')
  rw [show opsL.take 15 = opsL from rfl] at HIX
  obtain ⟨X, hX⟩ : ∃ X, Lib.idxOfS opsL os = X := ⟨_, rfl⟩
  have hKX : opK os = 7 + X := by unfold opK; rw [hX]
  rw [hKX] at HRR
  have hXr : 0 ≤ X ∧ X ≤ 14 := by have := HK.out; unfold opK at this; omega
  rw [hX] at HIX
  generalize w4.alloc (.cells #[.int .u8 ok, .string os, .int .i64 on, .int .i64 oa] 79) = W4 at q0 HQ HOP H4 ⊢
  have HWR : Hid (IntKind.u8.wrap (7 + IntKind.u8.wrap X) = 7 + X) := Lib.hid (by rw [IntKind.wrap_u8, IntKind.wrap_u8]; omega)
  clear hX hKX
  go_cut [3] from 17 to 22 (fun v wx => v = .int .u8 (7 + X) ∧ Below W4.heap.size W4 wx)
  case first =>
    go_region_with (first | (go_at_call 27; refine (HOP.out _ (by first | exact Below.refl _ _ | exact (Below.refl _ _).drew | exact (Below.refl _ _).drew.drew)).mono ?_; rintro e w5 ⟨rfl, hS, hb5⟩; have q5 := HQ.out w5 (by first | exact hb5 | exact below_self (Below.refl _ _).drew hb5 | exact below_self (Below.refl _ _).drew.drew hb5)) | (go_at_call 81; refine (HIX.out _ _ hS).mono ?_; rintro e w6 ⟨rfl, rfl⟩))
    all_goals (go_wp2_with fail; go_meet; exact ⟨by rw [HWR.out], by first | exact hb5 | exact below_self (Below.refl _ _).drew hb5 | exact below_self (Below.refl _ _).drew.drew hb5⟩)
  case rest =>
  obtain ⟨rfl, hbc⟩ := hcut
  have hKr : 7 ≤ 7 + X ∧ 7 + X ≤ 21 := by omega
  have HP0 := Lib.hid (HRR.out wc (H4.out.next hbc))
  generalize 7 + X = K at hKr HP0 ⊢
  clear hbc H4 HQ HOP HIX q0 HWR hXr HRR HK HH
  go_wp2_with fail
  go_loopw [4] (fun v wr => ∃ (p : Nat) (l' : List Tok) (op' : Int) (sv' : Value) (st' : List Stp), v = .int .i64 p ∧ Hid (Prt n A B fin K R l p l' op' sv' st' w wr)) (fun _ wr => wlen A wr)
  case atStart => exact ⟨0, l2, op2, sv, st, rfl, HP0⟩
  case round =>
    clear HP0 wc
    obtain ⟨p, l', op', sv', st', rfl, HP⟩ := hrel
    have hpl : p ≤ 1099511627776 := by have := HP.out.cnt; omega
    have HWL := Lib.hid (wlen_of HP.out.ex.at_)
    have HW0 : Hid (wlen A wr = l'.length) := HWL
    by_cases hp0 : p = 0
    · subst hp0
      have hcd : 0 < 1 ∨ (0 < 2 ∧ 10 < K) ∨ (20 ≤ K ∧ closesR l' fin = false) := .inl (by omega)
      have hih := HIH.out l' op' sv' st' _ HP.out.ex.self HP.out.op_ HP.out.sz HP.out.st_ (by have := HP.out.cnt; omega) (by have := HP.out.cnt; omega)
      cases hf : exprR fin n l' op' st' with
      | bad y q =>
        rw [hf] at hih
        have HRB := Lib.hid (HP.out.bad hcd hf)
        have HIC := Lib.hid hih
        clear hih hf hcd
        go_wp2_with (go_at_call 87; refine HIC.out.mono ?_; rintro e w6 ⟨rfl, hkb⟩; refine Hid.out ?_)
        refine Lib.hid ?_
        exact ⟨rfl, by rw [HRB.out]; exact ⟨rfl, HP.out.ex.kb.trans hkb⟩⟩
      | ok s =>
        rw [hf] at hih
        have HIC := Lib.hid hih
        have HGO := Lib.hid fun w' sv2 ha ho hkb => HP.out.go (w' := w') (sv' := sv2) hcd hf ha ho hkb
        clear hih hf hcd
        go_wp2_with (go_at_call 87; refine HIC.out.mono ?_; rintro e w6 ⟨rfl, ⟨sv2, ha, ho⟩, hkb⟩; refine Hid.out ?_)
        refine Lib.hid ?_
        have HN := Lib.hid (HGO.out _ _ ha ho hkb)
        have HWN := Lib.hid (wlen_of ha)
        clear ha ho hkb
        go_wp2_with fail
        go_roundw
        case rel => exact ⟨0 + 1, s.1, s.2.1, sv2, s.2.2, by go_num, Lib.hid HN.out.1⟩
        case measure => rw [HW0.out, HWN.out]; exact HN.out.2
    by_cases hp1 : p = 1
    · subst hp1
      by_cases hK10 : 10 < K
      · skip
        have hcd : 1 < 1 ∨ (1 < 2 ∧ 10 < K) ∨ (20 ≤ K ∧ closesR l' fin = false) := .inr (.inl ⟨by omega, hK10⟩)
        have hih := HIH.out l' op' sv' st' _ HP.out.ex.self HP.out.op_ HP.out.sz HP.out.st_ (by have := HP.out.cnt; omega) (by have := HP.out.cnt; omega)
        cases hf : exprR fin n l' op' st' with
        | bad y q =>
          rw [hf] at hih
          have HRB := Lib.hid (HP.out.bad hcd hf)
          have HIC := Lib.hid hih
          clear hih hf hcd
          go_wp2_with (go_at_call 87; refine HIC.out.mono ?_; rintro e w6 ⟨rfl, hkb⟩; refine Hid.out ?_)
          refine Lib.hid ?_
          exact ⟨rfl, by rw [HRB.out]; exact ⟨rfl, HP.out.ex.kb.trans hkb⟩⟩
        | ok s =>
          rw [hf] at hih
          have HIC := Lib.hid hih
          have HGO := Lib.hid fun w' sv2 ha ho hkb => HP.out.go (w' := w') (sv' := sv2) hcd hf ha ho hkb
          clear hih hf hcd
          go_wp2_with (go_at_call 87; refine HIC.out.mono ?_; rintro e w6 ⟨rfl, ⟨sv2, ha, ho⟩, hkb⟩; refine Hid.out ?_)
          refine Lib.hid ?_
          have HN := Lib.hid (HGO.out _ _ ha ho hkb)
          have HWN := Lib.hid (wlen_of ha)
          clear ha ho hkb
          go_wp2_with fail
          go_roundw
          case rel => exact ⟨1 + 1, s.1, s.2.1, sv2, s.2.2, by go_num, Lib.hid HN.out.1⟩
          case measure => rw [HW0.out, HWN.out]; exact HN.out.2
      · have hK20 : ¬ 20 ≤ K := by omega
        have hstop : ¬ (1 < 1 ∨ (1 < 2 ∧ 10 < K) ∨ (20 ≤ K ∧ closesR l' fin = false)) := by omega
        have HE := Lib.hid HP.out.ex
        have hse := HP.out.stop hstop
        obtain ⟨T, hT⟩ : ∃ T, tokAt l' fin = T := ⟨_, rfl⟩
        cases hcl : closesR l' fin with
        | false =>
          have hRb := end_bad hse hcl
          have hc1 := fun wr (H : ExS A B l' fin op' sv' st' w wr) => closes_any H.at_
          have hp1 := fun wr (H : ExS A B l' fin op' sv' st' w wr) => wpeek_any H.at_
          have hm1 := fun wr y is (hi : is = false) (H : ExS A B l' fin op' sv' st' w wr) => must_no (why := y) (is := is) hi H.at_
          rw [show ((tokAt l' fin).k == 2) = false from hcl] at hc1
          rw [hT] at hRb hp1 hm1
          obtain ⟨Tk, Ts, Tn, Ta⟩ := T
          unfold Tok.v at hp1
          simp only at hRb hp1 hm1
          have HC1 := Lib.hid hc1
          have HP1 := Lib.hid hp1
          have HM1 := Lib.hid hm1
          have hfl := fldk (.int .u8 Tk) (.string Ts) (.int .i64 Tn) (.int .i64 Ta)
          clear hc1 hp1 hm1 hT hse hcl hstop
          by_cases hd : Tk = 1 ∧ ¬ op' < 8
          · rw [if_pos hd] at hRb
            have HRB := Lib.hid hRb
            obtain ⟨hd1, hd2⟩ := hd
            subst hd1
            clear hRb
            go_wp2_with (go_at_call 88; refine (HC1.out _ HE.out).mono ?_; rintro e w6 ⟨rfl, hb6⟩; refine Hid.out ?_)
            refine Lib.hid ?_
            have HE6 := Lib.hid (HE.out.next hb6)
            clear hb6
            go_wp2_with (go_at_call 86; refine (HP1.out _ HE6.out).mono ?_; rintro e w7 ⟨rfl, hb7⟩; refine Hid.out ?_)
            refine Lib.hid ?_
            have HE7 := Lib.hid (HE6.out.next hb7)
            have c2 := HE7.out.c2
            clear hb7
            go_wp2_with (go_at_call 71; refine (HM1.out _ _ _ (by first | rfl | (simp; omega)) HE7.out).mono ?_; rintro e w8 ⟨rfl, hb8⟩; refine Hid.out ?_)
            refine Lib.hid ?_
            exact ⟨rfl, by rw [HRB.out]; exact ⟨rfl, (HE7.out.next hb8).kb⟩⟩
          · rw [if_neg hd] at hRb
            have HRB := Lib.hid hRb
            clear hRb
            by_cases hd1 : Tk = 1
            · have hd8 : op' < 8 := by by_cases h8 : op' < 8; exact h8; exact absurd ⟨hd1, h8⟩ hd
              subst hd1
              clear hd
              go_wp2_with (go_at_call 88; refine (HC1.out _ HE.out).mono ?_; rintro e w6 ⟨rfl, hb6⟩; refine Hid.out ?_)
              refine Lib.hid ?_
              have HE6 := Lib.hid (HE.out.next hb6)
              clear hb6
              go_wp2_with (go_at_call 86; refine (HP1.out _ HE6.out).mono ?_; rintro e w7 ⟨rfl, hb7⟩; refine Hid.out ?_)
              refine Lib.hid ?_
              have HE7 := Lib.hid (HE6.out.next hb7)
              have c2 := HE7.out.c2
              clear hb7
              go_wp2_with (go_at_call 71; refine (must_yes (by first | rfl | (simp; omega) | simp)).mono ?_; rintro e w8 ⟨rfl, rfl⟩; refine Hid.out ?_)
              refine Lib.hid ?_
              clear c2
              go_wp2_with (go_at_call 88; refine (HC1.out _ HE7.out).mono ?_; rintro e w8 ⟨rfl, hb8⟩; refine Hid.out ?_)
              refine Lib.hid ?_
              have HE8 := Lib.hid (HE7.out.next hb8)
              clear hb8
              go_wp2_with (go_at_call 71; refine (HM1.out _ _ _ (by first | rfl | simp) HE8.out).mono ?_; rintro e w9 ⟨rfl, hb9⟩; refine Hid.out ?_)
              refine Lib.hid ?_
              exact ⟨rfl, by rw [HRB.out]; exact ⟨rfl, (HE8.out.next hb9).kb⟩⟩
            · have e1 : (Tk != 1) = true := by simp [hd1]
              clear hd
              go_wp2_with (go_at_call 88; refine (HC1.out _ HE.out).mono ?_; rintro e w6 ⟨rfl, hb6⟩; refine Hid.out ?_)
              refine Lib.hid ?_
              have HE6 := Lib.hid (HE.out.next hb6)
              clear hb6
              go_wp2_with (go_at_call 86; refine (HP1.out _ HE6.out).mono ?_; rintro e w7 ⟨rfl, hb7⟩; refine Hid.out ?_)
              refine Lib.hid ?_
              have HE7 := Lib.hid (HE6.out.next hb7)
              have c2 := HE7.out.c2
              clear hb7
              go_wp2_with (go_at_call 71; refine (must_yes (by first | rfl | (simp; omega) | simp)).mono ?_; rintro e w8 ⟨rfl, rfl⟩; refine Hid.out ?_)
              refine Lib.hid ?_
              clear c2
              go_wp2_with (go_at_call 88; refine (HC1.out _ HE7.out).mono ?_; rintro e w8 ⟨rfl, hb8⟩; refine Hid.out ?_)
              refine Lib.hid ?_
              have HE8 := Lib.hid (HE7.out.next hb8)
              clear hb8
              go_wp2_with (go_at_call 71; refine (HM1.out _ _ _ (by first | rfl | simp) HE8.out).mono ?_; rintro e w9 ⟨rfl, hb9⟩; refine Hid.out ?_)
              refine Lib.hid ?_
              exact ⟨rfl, by rw [HRB.out]; exact ⟨rfl, (HE8.out.next hb9).kb⟩⟩
        | true =>
          have ht2 : (tokAt l' fin).k = 2 := by simpa [closesR] using hcl
          obtain ⟨t2, rest, rfl⟩ := tok_cons ht2 (by decide)
          have ht2' : t2.k = 2 := ht2
          have hc1 := fun wr (H : ExS A B (t2 :: rest) fin op' sv' st' w wr) => closes_any H.at_
          rw [show ((tokAt (t2 :: rest) fin).k == 2) = true from hcl] at hc1
          obtain ⟨nn, hnn⟩ : ∃ nn : Nat, (if 20 ≤ K then 1 - 1 else 1) = nn := ⟨_, rfl⟩
          have hnn2 : nn = 1 := by rw [← hnn, if_neg hK20]
          obtain ⟨PR, hPR⟩ : ∃ PR, putR fin (t2 :: rest) st' (List.replicate nn ⟨K, ⟨#[]⟩, 0⟩) = PR := ⟨_, rfl⟩
          have HPB := Lib.hid fun y q (e : PR = .bad y q) => end_put_bad hse hcl (by rw [hnn, hPR]; exact e)
          have HPO := Lib.hid fun st2 (e : PR = .ok st2) => end_put_ok hse ht2' (by rw [hnn, hPR]; exact e)
          have HC1 := Lib.hid hc1
          have HST := Lib.hid HP.out.st_
          have HRP := Lib.hid fun wr (H : ExS A B (t2 :: rest) fin op' sv' st' w wr) => rep_new (nn := nn) K (by omega) (by omega) H hPR HST.out
          have HT2 := Lib.hid ht2'
          have HOP := Lib.hid HP.out.op_
          clear hc1 hnn hPR hse hcl hstop hT ht2 ht2'
          go_wp2_with (go_at_call 88; refine (HC1.out _ HE.out).mono ?_; rintro e w6 ⟨rfl, hb6⟩; refine Hid.out ?_)
          refine Lib.hid ?_
          have HE6 := Lib.hid (HE.out.next hb6)
          clear hb6
          go_wp2_with (go_at_call 71; refine (must_yes (by first | rfl | simp)).mono ?_; rintro e w8 ⟨rfl, rfl⟩; refine Hid.out ?_)
          refine Lib.hid ?_
          go_wp2_with (go_at_call 88; refine (HC1.out _ HE6.out).mono ?_; rintro e w7 ⟨rfl, hb7⟩; refine Hid.out ?_)
          refine Lib.hid ?_
          have HE7 := Lib.hid (HE6.out.next hb7)
          clear hb7
          go_wp2_with (go_at_call 71; refine (must_yes (by first | rfl | simp)).mono ?_; rintro e w8 ⟨rfl, rfl⟩; refine Hid.out ?_)
          refine Lib.hid ?_
          obtain ⟨hrep, hput⟩ := HRP.out _ HE7.out
          have HRE := Lib.hid hrep
          have HPU := Lib.hid hput
          clear hrep hput
          subst hnn2
          go_wp2_with (go_at_call 107; refine HRE.out.mono ?_; rintro e w8 ⟨g, rfl, hcs, hb8⟩; refine Hid.out ?_)
          refine Lib.hid ?_
          have hpu := HPU.out g w8 hcs hb8
          have HE8 := Lib.hid ((HE7.out.al (.cells #[.int .u8 K, .string ⟨#[]⟩, .int .i64 0] 29)).next hb8)
          clear hcs hb8
          cases PR with
          | bad y q =>
            have HRB := Lib.hid (HPB.out y q rfl)
            go_wp2_with (go_at_call 106; refine hpu.mono ?_; rintro e w9 ⟨rfl, hf⟩; refine Hid.out ?_)
            refine Lib.hid ?_
            exact ⟨rfl, by rw [HRB.out]; exact ⟨rfl, HE8.out.kb.trans (hf.kb HE8.out.hBr (own_base HE8.out.own))⟩⟩
          | ok st2 =>
            have HRO := Lib.hid (HPO.out st2 rfl)
            go_wp2_with (go_at_call 106; refine hpu.mono ?_; rintro e w9 ⟨rfl, ⟨sv2, ha, ho⟩, hf⟩; refine Hid.out ?_)
            refine Lib.hid ?_
            have HE9 := Lib.hid (HE8.out.kb' ha ho (hf.kb HE8.out.hBr (own_base HE8.out.own)))
            clear ha ho hf hpu
            go_wp2_with (go_at_call 58; refine (take_close HE9.out.at_ HT2.out HOP.out.1 HOP.out.2).mono ?_; rintro e w10 ⟨rfl, ha, hg⟩; refine Hid.out ?_)
            refine Lib.hid ?_
            have HE10 := Lib.hid (HE9.out.gb ha hg)
            clear ha hg
            go_wp2_with fail
            exact bodyPost_end (results_none rfl _ _ _) rfl (by rw [HRO.out]; exact ⟨rfl, ⟨sv2, HE10.out.at_, HE10.out.own⟩, HE10.out.kb⟩)
    · have hp1I : ¬ (p : Int) < 1 := by omega
      have hp2I : ¬ (p : Int) < 2 := by omega
      by_cases hK20 : 20 ≤ K
      · cases hcl : closesR l' fin with
        | false =>
          have hcc := closes_any HP.out.ex.at_
          rw [show ((tokAt l' fin).k == 2) = false from hcl] at hcc
          have HCL := Lib.hid hcl
          have HCC := Lib.hid hcc
          clear hcc hcl
          go_wp2_with (go_at_call 88; refine HCC.out.mono ?_; rintro e w5 ⟨rfl, hb5⟩; refine Hid.out ?_)
          refine Lib.hid ?_
          have HPn := Lib.hid (HP.out.next hb5)
          clear HP hb5
          have HP := HPn
          have hcd : p < 1 ∨ (p < 2 ∧ 10 < K) ∨ (20 ≤ K ∧ closesR l' fin = false) := .inr (.inr ⟨hK20, HCL.out⟩)
          have hih := HIH.out l' op' sv' st' _ HP.out.ex.self HP.out.op_ HP.out.sz HP.out.st_ (by have := HP.out.cnt; omega) (by have := HP.out.cnt; omega)
          cases hf : exprR fin n l' op' st' with
          | bad y q =>
            rw [hf] at hih
            have HRB := Lib.hid (HP.out.bad hcd hf)
            have HIC := Lib.hid hih
            clear hih hf hcd
            go_wp2_with (go_at_call 87; refine HIC.out.mono ?_; rintro e w6 ⟨rfl, hkb⟩; refine Hid.out ?_)
            refine Lib.hid ?_
            exact ⟨rfl, by rw [HRB.out]; exact ⟨rfl, HP.out.ex.kb.trans hkb⟩⟩
          | ok s =>
            rw [hf] at hih
            have HIC := Lib.hid hih
            have HGO := Lib.hid fun w' sv2 ha ho hkb => HP.out.go (w' := w') (sv' := sv2) hcd hf ha ho hkb
            clear hih hf hcd
            go_wp2_with (go_at_call 87; refine HIC.out.mono ?_; rintro e w6 ⟨rfl, ⟨sv2, ha, ho⟩, hkb⟩; refine Hid.out ?_)
            refine Lib.hid ?_
            have HN := Lib.hid (HGO.out _ _ ha ho hkb)
            have HWN := Lib.hid (wlen_of ha)
            clear ha ho hkb
            go_wp2_with fail
            go_roundw
            case rel => exact ⟨p + 1, s.1, s.2.1, sv2, s.2.2, by go_num, Lib.hid HN.out.1⟩
            case measure => rw [HW0.out, HWN.out]; exact HN.out.2
        | true =>
          have hcc := closes_any HP.out.ex.at_
          rw [show ((tokAt l' fin).k == 2) = true from hcl] at hcc
          have hstop : ¬ (p < 1 ∨ (p < 2 ∧ 10 < K) ∨ (20 ≤ K ∧ closesR l' fin = false)) := by rw [hcl]; simp; omega
          have HCC := Lib.hid hcc
          have HSL := Lib.hid hcl
          have HSP := Lib.hid hstop
          clear hcc hcl hstop
          go_wp2_with (go_at_call 88; refine HCC.out.mono ?_; rintro e w5 ⟨rfl, hb5⟩; refine Hid.out ?_)
          refine Lib.hid ?_
          have HPn := Lib.hid (HP.out.next hb5)
          clear HP hb5 HCC
          have HP := HPn
          have hcl := HSL.out
          have hstop := HSP.out
          have HE := Lib.hid HP.out.ex
          have hse := HP.out.stop hstop
          obtain ⟨T, hT⟩ : ∃ T, tokAt l' fin = T := ⟨_, rfl⟩
          have ht2 : (tokAt l' fin).k = 2 := by simpa [closesR] using hcl
          obtain ⟨t2, rest, rfl⟩ := tok_cons ht2 (by decide)
          have ht2' : t2.k = 2 := ht2
          have hc1 := fun wr (H : ExS A B (t2 :: rest) fin op' sv' st' w wr) => closes_any H.at_
          rw [show ((tokAt (t2 :: rest) fin).k == 2) = true from hcl] at hc1
          obtain ⟨nn, hnn⟩ : ∃ nn : Nat, (if 20 ≤ K then p - 1 else 1) = nn := ⟨_, rfl⟩
          have hnn2 : nn = p - 1 := by rw [← hnn, if_pos hK20]
          obtain ⟨PR, hPR⟩ : ∃ PR, putR fin (t2 :: rest) st' (List.replicate nn ⟨K, ⟨#[]⟩, 0⟩) = PR := ⟨_, rfl⟩
          have HPB := Lib.hid fun y q (e : PR = .bad y q) => end_put_bad hse hcl (by rw [hnn, hPR]; exact e)
          have HPO := Lib.hid fun st2 (e : PR = .ok st2) => end_put_ok hse ht2' (by rw [hnn, hPR]; exact e)
          have HC1 := Lib.hid hc1
          have HST := Lib.hid HP.out.st_
          have HRP := Lib.hid fun wr (H : ExS A B (t2 :: rest) fin op' sv' st' w wr) => rep_new (nn := nn) K (by omega) (by omega) H hPR HST.out
          have HT2 := Lib.hid ht2'
          have HOP := Lib.hid HP.out.op_
          have hp1J : (p : Int) - 1 = ((nn : Nat) : Int) := by omega
          clear hc1 hnn hPR hse hcl hstop hT ht2 ht2'
          go_wp2_with (go_at_call 88; refine (HC1.out _ HE.out).mono ?_; rintro e w6 ⟨rfl, hb6⟩; refine Hid.out ?_)
          refine Lib.hid ?_
          have HE6 := Lib.hid (HE.out.next hb6)
          clear hb6
          go_wp2_with (go_at_call 71; refine (must_yes (by first | rfl | simp)).mono ?_; rintro e w8 ⟨rfl, rfl⟩; refine Hid.out ?_)
          refine Lib.hid ?_
          go_wp2_with (go_at_call 88; refine (HC1.out _ HE6.out).mono ?_; rintro e w7 ⟨rfl, hb7⟩; refine Hid.out ?_)
          refine Lib.hid ?_
          have HE7 := Lib.hid (HE6.out.next hb7)
          clear hb7
          go_wp2_with (go_at_call 71; refine (must_yes (by first | rfl | simp)).mono ?_; rintro e w8 ⟨rfl, rfl⟩; refine Hid.out ?_)
          refine Lib.hid ?_
          obtain ⟨hrep, hput⟩ := HRP.out _ HE7.out
          have HRE := Lib.hid hrep
          have HPU := Lib.hid hput
          clear hrep hput
          subst hnn2
          go_wp2_with (go_at_call 107; refine HRE.out.mono ?_; rintro e w8 ⟨g, rfl, hcs, hb8⟩; refine Hid.out ?_)
          refine Lib.hid ?_
          have hpu := HPU.out g w8 hcs hb8
          have HE8 := Lib.hid ((HE7.out.al (.cells #[.int .u8 K, .string ⟨#[]⟩, .int .i64 0] 29)).next hb8)
          clear hcs hb8
          cases PR with
          | bad y q =>
            have HRB := Lib.hid (HPB.out y q rfl)
            go_wp2_with (go_at_call 106; refine hpu.mono ?_; rintro e w9 ⟨rfl, hf⟩; refine Hid.out ?_)
            refine Lib.hid ?_
            exact ⟨rfl, by rw [HRB.out]; exact ⟨rfl, HE8.out.kb.trans (hf.kb HE8.out.hBr (own_base HE8.out.own))⟩⟩
          | ok st2 =>
            have HRO := Lib.hid (HPO.out st2 rfl)
            go_wp2_with (go_at_call 106; refine hpu.mono ?_; rintro e w9 ⟨rfl, ⟨sv2, ha, ho⟩, hf⟩; refine Hid.out ?_)
            refine Lib.hid ?_
            have HE9 := Lib.hid (HE8.out.kb' ha ho (hf.kb HE8.out.hBr (own_base HE8.out.own)))
            clear ha ho hf hpu
            go_wp2_with (go_at_call 58; refine (take_close HE9.out.at_ HT2.out HOP.out.1 HOP.out.2).mono ?_; rintro e w10 ⟨rfl, ha, hg⟩; refine Hid.out ?_)
            refine Lib.hid ?_
            have HE10 := Lib.hid (HE9.out.gb ha hg)
            clear ha hg
            go_wp2_with fail
            exact bodyPost_end (results_none rfl _ _ _) rfl (by rw [HRO.out]; exact ⟨rfl, ⟨sv2, HE10.out.at_, HE10.out.own⟩, HE10.out.kb⟩)
      · have hstop : ¬ (p < 1 ∨ (p < 2 ∧ 10 < K) ∨ (20 ≤ K ∧ closesR l' fin = false)) := by omega
        have HE := Lib.hid HP.out.ex
        have hse := HP.out.stop hstop
        obtain ⟨T, hT⟩ : ∃ T, tokAt l' fin = T := ⟨_, rfl⟩
        cases hcl : closesR l' fin with
        | false =>
          have hRb := end_bad hse hcl
          have hc1 := fun wr (H : ExS A B l' fin op' sv' st' w wr) => closes_any H.at_
          have hp1 := fun wr (H : ExS A B l' fin op' sv' st' w wr) => wpeek_any H.at_
          have hm1 := fun wr y is (hi : is = false) (H : ExS A B l' fin op' sv' st' w wr) => must_no (why := y) (is := is) hi H.at_
          rw [show ((tokAt l' fin).k == 2) = false from hcl] at hc1
          rw [hT] at hRb hp1 hm1
          obtain ⟨Tk, Ts, Tn, Ta⟩ := T
          unfold Tok.v at hp1
          simp only at hRb hp1 hm1
          have HC1 := Lib.hid hc1
          have HP1 := Lib.hid hp1
          have HM1 := Lib.hid hm1
          have hfl := fldk (.int .u8 Tk) (.string Ts) (.int .i64 Tn) (.int .i64 Ta)
          clear hc1 hp1 hm1 hT hse hcl hstop
          by_cases hd : Tk = 1 ∧ ¬ op' < 8
          · rw [if_pos hd] at hRb
            have HRB := Lib.hid hRb
            obtain ⟨hd1, hd2⟩ := hd
            subst hd1
            clear hRb
            go_wp2_with (go_at_call 88; refine (HC1.out _ HE.out).mono ?_; rintro e w6 ⟨rfl, hb6⟩; refine Hid.out ?_)
            refine Lib.hid ?_
            have HE6 := Lib.hid (HE.out.next hb6)
            clear hb6
            go_wp2_with (go_at_call 86; refine (HP1.out _ HE6.out).mono ?_; rintro e w7 ⟨rfl, hb7⟩; refine Hid.out ?_)
            refine Lib.hid ?_
            have HE7 := Lib.hid (HE6.out.next hb7)
            have c2 := HE7.out.c2
            clear hb7
            go_wp2_with (go_at_call 71; refine (HM1.out _ _ _ (by first | rfl | (simp; omega)) HE7.out).mono ?_; rintro e w8 ⟨rfl, hb8⟩; refine Hid.out ?_)
            refine Lib.hid ?_
            exact ⟨rfl, by rw [HRB.out]; exact ⟨rfl, (HE7.out.next hb8).kb⟩⟩
          · rw [if_neg hd] at hRb
            have HRB := Lib.hid hRb
            clear hRb
            by_cases hd1 : Tk = 1
            · have hd8 : op' < 8 := by by_cases h8 : op' < 8; exact h8; exact absurd ⟨hd1, h8⟩ hd
              subst hd1
              clear hd
              go_wp2_with (go_at_call 88; refine (HC1.out _ HE.out).mono ?_; rintro e w6 ⟨rfl, hb6⟩; refine Hid.out ?_)
              refine Lib.hid ?_
              have HE6 := Lib.hid (HE.out.next hb6)
              clear hb6
              go_wp2_with (go_at_call 86; refine (HP1.out _ HE6.out).mono ?_; rintro e w7 ⟨rfl, hb7⟩; refine Hid.out ?_)
              refine Lib.hid ?_
              have HE7 := Lib.hid (HE6.out.next hb7)
              have c2 := HE7.out.c2
              clear hb7
              go_wp2_with (go_at_call 71; refine (must_yes (by first | rfl | (simp; omega) | simp)).mono ?_; rintro e w8 ⟨rfl, rfl⟩; refine Hid.out ?_)
              refine Lib.hid ?_
              clear c2
              go_wp2_with (go_at_call 88; refine (HC1.out _ HE7.out).mono ?_; rintro e w8 ⟨rfl, hb8⟩; refine Hid.out ?_)
              refine Lib.hid ?_
              have HE8 := Lib.hid (HE7.out.next hb8)
              clear hb8
              go_wp2_with (go_at_call 71; refine (HM1.out _ _ _ (by first | rfl | simp) HE8.out).mono ?_; rintro e w9 ⟨rfl, hb9⟩; refine Hid.out ?_)
              refine Lib.hid ?_
              exact ⟨rfl, by rw [HRB.out]; exact ⟨rfl, (HE8.out.next hb9).kb⟩⟩
            · have e1 : (Tk != 1) = true := by simp [hd1]
              clear hd
              go_wp2_with (go_at_call 88; refine (HC1.out _ HE.out).mono ?_; rintro e w6 ⟨rfl, hb6⟩; refine Hid.out ?_)
              refine Lib.hid ?_
              have HE6 := Lib.hid (HE.out.next hb6)
              clear hb6
              go_wp2_with (go_at_call 86; refine (HP1.out _ HE6.out).mono ?_; rintro e w7 ⟨rfl, hb7⟩; refine Hid.out ?_)
              refine Lib.hid ?_
              have HE7 := Lib.hid (HE6.out.next hb7)
              have c2 := HE7.out.c2
              clear hb7
              go_wp2_with (go_at_call 71; refine (must_yes (by first | rfl | (simp; omega) | simp)).mono ?_; rintro e w8 ⟨rfl, rfl⟩; refine Hid.out ?_)
              refine Lib.hid ?_
              clear c2
              go_wp2_with (go_at_call 88; refine (HC1.out _ HE7.out).mono ?_; rintro e w8 ⟨rfl, hb8⟩; refine Hid.out ?_)
              refine Lib.hid ?_
              have HE8 := Lib.hid (HE7.out.next hb8)
              clear hb8
              go_wp2_with (go_at_call 71; refine (HM1.out _ _ _ (by first | rfl | simp) HE8.out).mono ?_; rintro e w9 ⟨rfl, hb9⟩; refine Hid.out ?_)
              refine Lib.hid ?_
              exact ⟨rfl, by rw [HRB.out]; exact ⟨rfl, (HE8.out.next hb9).kb⟩⟩
        | true =>
          have ht2 : (tokAt l' fin).k = 2 := by simpa [closesR] using hcl
          obtain ⟨t2, rest, rfl⟩ := tok_cons ht2 (by decide)
          have ht2' : t2.k = 2 := ht2
          have hc1 := fun wr (H : ExS A B (t2 :: rest) fin op' sv' st' w wr) => closes_any H.at_
          rw [show ((tokAt (t2 :: rest) fin).k == 2) = true from hcl] at hc1
          obtain ⟨nn, hnn⟩ : ∃ nn : Nat, (if 20 ≤ K then p - 1 else 1) = nn := ⟨_, rfl⟩
          have hnn2 : nn = 1 := by rw [← hnn, if_neg hK20]
          obtain ⟨PR, hPR⟩ : ∃ PR, putR fin (t2 :: rest) st' (List.replicate nn ⟨K, ⟨#[]⟩, 0⟩) = PR := ⟨_, rfl⟩
          have HPB := Lib.hid fun y q (e : PR = .bad y q) => end_put_bad hse hcl (by rw [hnn, hPR]; exact e)
          have HPO := Lib.hid fun st2 (e : PR = .ok st2) => end_put_ok hse ht2' (by rw [hnn, hPR]; exact e)
          have HC1 := Lib.hid hc1
          have HST := Lib.hid HP.out.st_
          have HRP := Lib.hid fun wr (H : ExS A B (t2 :: rest) fin op' sv' st' w wr) => rep_new (nn := nn) K (by omega) (by omega) H hPR HST.out
          have HT2 := Lib.hid ht2'
          have HOP := Lib.hid HP.out.op_
          clear hc1 hnn hPR hse hcl hstop hT ht2 ht2'
          go_wp2_with (go_at_call 88; refine (HC1.out _ HE.out).mono ?_; rintro e w6 ⟨rfl, hb6⟩; refine Hid.out ?_)
          refine Lib.hid ?_
          have HE6 := Lib.hid (HE.out.next hb6)
          clear hb6
          go_wp2_with (go_at_call 71; refine (must_yes (by first | rfl | simp)).mono ?_; rintro e w8 ⟨rfl, rfl⟩; refine Hid.out ?_)
          refine Lib.hid ?_
          go_wp2_with (go_at_call 88; refine (HC1.out _ HE6.out).mono ?_; rintro e w7 ⟨rfl, hb7⟩; refine Hid.out ?_)
          refine Lib.hid ?_
          have HE7 := Lib.hid (HE6.out.next hb7)
          clear hb7
          go_wp2_with (go_at_call 71; refine (must_yes (by first | rfl | simp)).mono ?_; rintro e w8 ⟨rfl, rfl⟩; refine Hid.out ?_)
          refine Lib.hid ?_
          obtain ⟨hrep, hput⟩ := HRP.out _ HE7.out
          have HRE := Lib.hid hrep
          have HPU := Lib.hid hput
          clear hrep hput
          subst hnn2
          go_wp2_with (go_at_call 107; refine HRE.out.mono ?_; rintro e w8 ⟨g, rfl, hcs, hb8⟩; refine Hid.out ?_)
          refine Lib.hid ?_
          have hpu := HPU.out g w8 hcs hb8
          have HE8 := Lib.hid ((HE7.out.al (.cells #[.int .u8 K, .string ⟨#[]⟩, .int .i64 0] 29)).next hb8)
          clear hcs hb8
          cases PR with
          | bad y q =>
            have HRB := Lib.hid (HPB.out y q rfl)
            go_wp2_with (go_at_call 106; refine hpu.mono ?_; rintro e w9 ⟨rfl, hf⟩; refine Hid.out ?_)
            refine Lib.hid ?_
            exact ⟨rfl, by rw [HRB.out]; exact ⟨rfl, HE8.out.kb.trans (hf.kb HE8.out.hBr (own_base HE8.out.own))⟩⟩
          | ok st2 =>
            have HRO := Lib.hid (HPO.out st2 rfl)
            go_wp2_with (go_at_call 106; refine hpu.mono ?_; rintro e w9 ⟨rfl, ⟨sv2, ha, ho⟩, hf⟩; refine Hid.out ?_)
            refine Lib.hid ?_
            have HE9 := Lib.hid (HE8.out.kb' ha ho (hf.kb HE8.out.hBr (own_base HE8.out.own)))
            clear ha ho hf hpu
            go_wp2_with (go_at_call 58; refine (take_close HE9.out.at_ HT2.out HOP.out.1 HOP.out.2).mono ?_; rintro e w10 ⟨rfl, ha, hg⟩; refine Hid.out ?_)
            refine Lib.hid ?_
            have HE10 := Lib.hid (HE9.out.gb ha hg)
            clear ha hg
            go_wp2_with fail
            exact bodyPost_end (results_none rfl _ _ _) rfl (by rw [HRO.out]; exact ⟨rfl, ⟨sv2, HE10.out.at_, HE10.out.own⟩, HE10.out.kb⟩)
end Go.Proofs.YtegnoaejlhbpbaaGreatDoor.lx
namespace Go.Proofs.YtegnoaejlhbpbaaGreatDoor.lx
open Go.RowKit

set_option maxHeartbeats 4000000 in
set_option maxRecDepth 100000 in
theorem expr_leaf {A B : Nat} {l : List Tok} {fin op : Int} {sv : Value} {st : List Stp} {w : World} (H : ExS A B l fin op sv st w w) (hs : ∀ t ∈ l, t.s.size < 4294967281) (hst : st.length ≤ 64) (hk : (tokAt l fin).k ≠ 1) :
    Calls Tryz.prog 87 #[.pointer (some ⟨A, 0, none⟩)] w fun e w' => ExprP A B fin w (leafR fin l op st) e w' := by
  have hp := wpeek_any H.at_
  have HLF := Lib.hid fun w2 (H2 : ExS A B l fin op sv st w w2) => leaf_any H2.at_ H2.hAB H2.hBr H2.own hst H2.glob hs
  have HH := Lib.hid H
  clear H
  generalize tokAt l fin = t at hp hk
  obtain ⟨tk, ts, tn, ta⟩ := t
  unfold Tok.v at hp
  simp only at hk hp
  have e1 : (tk != 1) = true := by simp [hk]
  have hfl := fldk (.int .u8 tk) (.string ts) (.int .i64 tn) (.int .i64 ta)
  generalize leafR fin l op st = R at HLF
  cases R with
  | bad y q =>
    go_enter Tryz.func87, Tryz.ntmps87
    go_wp2_with (go_at_call 86; refine hp.mono ?_; rintro e w2 ⟨rfl, hb2⟩; refine Hid.out ?_)
    refine Lib.hid ?_
    have H2 := Lib.hid (HH.out.next hb2)
    clear hp hb2
    go_wp2_with (go_at_call 104; refine (HLF.out _ H2.out).mono ?_; rintro e w3 ⟨rfl, hkb⟩; refine Hid.out ?_)
    refine Lib.hid ?_
    exact ⟨rfl, rfl, H2.out.kb.trans hkb⟩
  | ok s =>
    go_enter Tryz.func87, Tryz.ntmps87
    go_wp2_with (go_at_call 86; refine hp.mono ?_; rintro e w2 ⟨rfl, hb2⟩; refine Hid.out ?_)
    refine Lib.hid ?_
    have H2 := Lib.hid (HH.out.next hb2)
    clear hp hb2
    go_wp2_with (go_at_call 104; refine (HLF.out _ H2.out).mono ?_; rintro e w3 ⟨rfl, hst2, hkb⟩; refine Hid.out ?_)
    refine Lib.hid ?_
    go_wp2_with fail
    exact bodyPost_ret (results_none rfl _ _ _) rfl ⟨rfl, hst2, H2.out.kb.trans hkb⟩

set_option maxHeartbeats 4000000 in
set_option maxRecDepth 100000 in
theorem expr_bad1 {A B : Nat} {l : List Tok} {fin op y q : Int} {sv : Value} {st : List Stp} {w : World} (H : ExS A B l fin op sv st w w) (hop : OpOk op) (hk : (tokAt l fin).k = 1) (h1 : takeR fin 1 (fun _ => true) l op = .bad y q) :
    Calls Tryz.prog 87 #[.pointer (some ⟨A, 0, none⟩)] w fun e w' => e = .panicked [flt y q] ∧ KB A B w w' := by
  have hp := wpeek_any H.at_
  have HT1 := Lib.hid fun w2 (H2 : ExS A B l fin op sv st w w2) => takeN_any H2.at_ hop (.inl rfl : (1 : Int) = 1 ∨ (1 : Int) = 2 ∨ (1 : Int) = 3)
  rw [h1] at HT1
  have HH := Lib.hid H
  clear H h1
  generalize tokAt l fin = t at hp hk HT1
  obtain ⟨tk, ts, tn, ta⟩ := t
  unfold Tok.v at hp
  simp only at hk hp
  subst hk
  have hfl := fldk (.int .u8 1) (.string ts) (.int .i64 tn) (.int .i64 ta)
  go_enter Tryz.func87, Tryz.ntmps87
  go_wp2_with (go_at_call 86; refine hp.mono ?_; rintro e w2 ⟨rfl, hb2⟩; refine Hid.out ?_)
  refine Lib.hid ?_
  have H2 := Lib.hid (HH.out.next hb2)
  clear hp hb2
  go_wp2_with (go_at_call 58; refine (HT1.out _ H2.out).mono ?_; rintro e w3 ⟨rfl, hg⟩; refine Hid.out ?_)
  refine Lib.hid ?_
  exact ⟨rfl, rfl, H2.out.kb.trans (KB.of_gb hg H2.out.hBr)⟩

set_option maxHeartbeats 4000000 in
set_option maxRecDepth 100000 in
theorem expr_bad2 {A B : Nat} {l l1 : List Tok} {fin op op1 y q : Int} {sv : Value} {st : List Stp} {w : World} (H : ExS A B l fin op sv st w w) (hop : OpOk op) (hs : ∀ t ∈ l, t.s.size < 4294967281) (hk : (tokAt l fin).k = 1)
    (h1 : takeR fin 1 (fun _ => true) l op = .ok (l1, op1)) (h2 : takeR fin 3 isOp l1 op1 = .bad y q) :
    Calls Tryz.prog 87 #[.pointer (some ⟨A, 0, none⟩)] w fun e w' => e = .panicked [flt y q] ∧ KB A B w w' := by
  have hp := wpeek_any H.at_
  have HT1 := Lib.hid fun w2 (H2 : ExS A B l fin op sv st w w2) => takeN_any H2.at_ hop (.inl rfl : (1 : Int) = 1 ∨ (1 : Int) = 2 ∨ (1 : Int) = 3)
  rw [h1] at HT1
  have HT2 := Lib.hid fun w2 (H2 : ExS A B l1 fin op1 sv st w w2) => takeF_any (H2.al (.cells #[.func (.func 105) #[] #[]] 43)).at_ (H2.al (.cells #[.func (.func 105) #[] #[]] 43)).glob lets_op (bf := w2.heap.size) (by rw [Lib.cell_of_heap (heap_alloc_new _ _)]; rfl) (fun t ht => hs t (by
    have := (takeR_ok h1 (by decide)).1
    rw [this] at ht
    exact List.mem_of_mem_tail ht))
  rw [h2] at HT2
  have HH := Lib.hid H
  clear H h1 h2
  generalize tokAt l fin = t at hp hk HT1
  generalize tokAt l1 fin = o at HT2
  obtain ⟨tk, ts, tn, ta⟩ := t
  unfold Tok.v at hp
  simp only at hk hp
  subst hk
  have hfl := fldk (.int .u8 1) (.string ts) (.int .i64 tn) (.int .i64 ta)
  go_enter Tryz.func87, Tryz.ntmps87
  go_wp2_with (go_at_call 86; refine hp.mono ?_; rintro e w2 ⟨rfl, hb2⟩; refine Hid.out ?_)
  refine Lib.hid ?_
  have H2 := Lib.hid (HH.out.next hb2)
  clear hp hb2
  go_wp2_with (go_at_call 58; refine (HT1.out _ H2.out).mono ?_; rintro e w3 ⟨rfl, ha, hg⟩; refine Hid.out ?_)
  refine Lib.hid ?_
  have H3 := Lib.hid (H2.out.gb ha hg)
  clear ha hg HT1 H2 hfl
  go_wp2_with (go_at_call 58; refine (HT2.out _ H3.out).mono ?_; rintro e w4 ⟨rfl, hg⟩; refine Hid.out ?_)
  refine Lib.hid ?_
  have H3b := H3.out.al (.cells #[.func (.func 105) #[] #[]] 43)
  exact ⟨rfl, rfl, H3b.kb.trans (KB.of_gb hg H3b.hBr)⟩

theorem expr_any {A B : Nat} {fin : Int} : ∀ (n : Nat) (l : List Tok) (op : Int) (sv : Value) (st : List Stp) (w : World), ExS A B l fin op sv st w w → OpOk op → (∀ t ∈ l, t.s.size < 4294967281) → st.length ≤ 64 → l.length < n → l.length ≤ 1099511627776 →
    Calls Tryz.prog 87 #[.pointer (some ⟨A, 0, none⟩)] w fun e w' => ExprP A B fin w (exprR fin n l op st) e w' := by
  intro n
  induction n with
  | zero => intro l op sv st w _ _ _ _ h _; omega
  | succ n ih =>
    intro l op sv st w H hop hs hst hn hll
    unfold exprR
    by_cases hk : (tokAt l fin).k ≠ 1
    · rw [if_pos hk]
      exact expr_leaf H hs hst hk
    rw [if_neg hk]
    have hk1 := Classical.not_not.1 hk
    cases h1 : takeR fin 1 (fun _ => true) l op with
    | bad y q => exact expr_bad1 H hop hk1 h1
    | ok x =>
      obtain ⟨l1, op1⟩ := x
      simp only [Res.then]
      cases h2 : takeR fin 3 isOp l1 op1 with
      | bad y q => exact expr_bad2 H hop hs hk1 h1 h2
      | ok y =>
        obtain ⟨l2, op2⟩ := y
        exact expr_main H hop hs hk1 h1 h2 hn hst hll ih _ rfl
end Go.Proofs.YtegnoaejlhbpbaaGreatDoor.lx
namespace Go.Proofs.YtegnoaejlhbpbaaGreatDoor.lx
open Go.RowKit

/-- what an expression alone comes to -/
def WholeP (A : Nat) (fin : Int) (w : World) (R : Res PS) (e : Ending) (w' : World) : Prop :=
  match R with
  | .ok x => (∃ v, e = .returned v ∧ AtW A x.1 fin x.2.1 v w' ∧ w'.ownsRow w.heap.size 29 3 v x.2.2.length (stpCells x.2.2)) ∧ w.grownBy w' (some A)
  | .bad y p => e = .panicked [flt y p] ∧ w.grownBy w' (some A)
theorem kb_set {A B j : Nat} {w w' : World} {v : Value} (h : KB A B (w.setCell ⟨A, j, none⟩ v) w') : KB A B w w' :=
  ⟨h.os, h.tape, h.output, by have := h.size; rwa [setCell_size] at this, fun k hk hne => (h.block k hk hne).trans (Below.heap_setCell _ _ _ _ hne)⟩

set_option maxHeartbeats 4000000 in
set_option maxRecDepth 100000 in
theorem whole_any {A : Nat} {l : List Tok} {fin op : Int} {sv : Value} {w : World} (h : AtW A l fin op sv w) (hG : PGlob w) (hA8 : 11 ≤ A) (hop : OpOk op) (hs : ∀ t ∈ l, t.s.size < 4294967281) (hll : l.length ≤ 1099511627776) :
    Calls Tryz.prog 64 #[.pointer (some ⟨A, 0, none⟩)] w fun e w' => WholeP A fin w (wholeR fin l op) e w' := by
  have hlt := h.lt
  have h' := h
  obtain ⟨ao, cap, hA, hc, hm, hT⟩ := h'
  have c3 : ∃ v, w.cell? ⟨A, 3, none⟩ = some v := ⟨_, by rw [Lib.cell_of_heap hA]; rfl⟩
  obtain ⟨v3, c3⟩ := c3
  have f3 : w.frozen? ⟨A, 3, none⟩ = false := Lib.frozen_of_heap hA 3
  have H : ExS A w.heap.size l fin op (.slice none 0 0) [] (w.setCell ⟨A, 3, none⟩ (.slice none 0 0)) (w.setCell ⟨A, 3, none⟩ (.slice none 0 0)) :=
    ⟨⟨ao, cap, atw_steps hA, hc, hm, hT.other (Nat.le_refl _) _ _⟩, KB.refl _ _ _, World.ownsRow_nil _ _ _ _, by rw [setCell_size]; exact Nat.le_refl _, hlt, hG.of (by rw [setCell_size]; exact Nat.le_refl _) (fun k hk => Below.heap_setCell _ _ _ _ (by show k ≠ A; omega)), hA8⟩
  have hx := expr_any (l.length + 1) l op _ [] _ H hop hs (by decide) (by omega) hll
  unfold wholeR
  generalize exprR fin (l.length + 1) l op [] = R at hx
  have HX := Lib.hid hx
  clear h hG hA hT H hx hs
  cases R with
  | bad y q =>
    go_enter Tryz.func64, Tryz.ntmps64
    go_wp2_with (go_at_call 87; refine HX.out.mono ?_; rintro e w3 ⟨rfl, hkb⟩; refine Hid.out ?_)
    refine Lib.hid ?_
    exact ⟨rfl, rfl, (kb_set hkb).gb (Nat.le_refl _)⟩
  | ok s =>
    go_enter Tryz.func64, Tryz.ntmps64
    go_wp2_with (go_at_call 87; refine HX.out.mono ?_; rintro e w3 ⟨rfl, ⟨sv2, ha, ho⟩, hkb⟩; refine Hid.out ?_)
    refine Lib.hid ?_
    obtain ⟨so, scap, rfl⟩ := own_shape ho
    have c33 : w3.cell? ⟨A, 3, none⟩ = some (.slice so s.2.2.length scap) := by
      obtain ⟨ao, cap, hA, _⟩ := ha; rw [Lib.cell_of_heap hA]; rfl
    have HA := Lib.hid ha
    have HO := Lib.hid ho
    have HK := Lib.hid hkb
    clear ha ho hkb c3
    go_wp2_with fail
    go_ret
    exact ⟨⟨_, rfl, HA.out, HO.out⟩, (kb_set HK.out).gb (Nat.le_refl _)⟩
end Go.Proofs.YtegnoaejlhbpbaaGreatDoor.lx
