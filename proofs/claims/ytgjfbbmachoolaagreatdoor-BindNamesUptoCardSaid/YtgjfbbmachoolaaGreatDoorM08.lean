/-
  The parser's some of columns, walked. Conditions: the walk lies there; the package-level variables are laid; the tokens' texts are no great ones. The parser's some of items: where its loop stands; items in memory of the call's own. No condition. The parser's some of items, walked. Conditions: the walk lies there; the package-level variables are laid; the tokens' texts are no great ones. The parser's query: what holds on the way; its clauses' readers. Conditions: the walk lies there; the package-level variables are laid; the tokens' texts are no great ones.
-/
import Derived.Test.YtgjfbbmachoolaaGreatDoorM07
namespace Go.Proofs.YtgjfbbmachoolaaGreatDoor.lx
open Go.RowKit

theorem ItS.app {A : Nat} {l : List Tok} {fin op : Int} {sv v : Value} {w wr w' : World} {o : Obj} (h : ItS A l fin op sv w wr) (hg : (wr.alloc o).grownBy w' v.ownBlock) (hb : ∀ k, v.ownBlock = some k → w.heap.size ≤ k) : ItS A l fin op sv w w' := by
 have h1 := h.next ((Below.refl wr.heap.size wr).alloc (Nat.le_refl _) o)
 have hk : ∀ k, k < w.heap.size → w'.heap[k]? = (wr.alloc o).heap[k]? := fun k hk => hg.block k (by have := h1.gb.size; omega) (fun e => by have := hb k e.symm; omega)
 have hA := h.hAw
 exact ⟨h1.at_.kept fun k hk' => hk k (by omega), ⟨hg.os.trans h1.gb.os, hg.tape.trans h1.gb.tape, hg.output.trans h1.gb.output, Nat.le_trans h1.gb.size hg.size, fun k hk' hne => (hk k hk').trans (h1.gb.block k hk' hne)⟩, h1.glob.of hg.size fun k hk' => hk k (by have := h.hA8; omega), h.hA8, h.hAw⟩

set_option maxHeartbeats 2000000 in
set_option maxRecDepth 100000 in
theorem someStr_any {A : Nat} {l : List Tok} {fin op : Int} {sv : Value} {w : World} (h : AtW A l fin op sv w) (hG : PGlob w) (hA8 : 11 ≤ A) (hop : OpOk op) (hs : ∀ t ∈ l, t.s.size < 4294967281) :
  Calls Tryz.prog 87 #[.pointer (some ⟨A, 0, none⟩), .func (.func 83) #[.pointer (some ⟨A, 0, none⟩)] #[]] w fun e w' => SomeP A fin w (someR (atomR columnR fin) fin (l.length + 2) [] l op) e w' := by
 obtain ⟨R, hR⟩ : ∃ R, someR (atomR columnR fin) fin (l.length + 2) [] l op = R := ⟨_, rfl⟩
 rw [hR]
 have HS0 : Hid (SmS A fin R [] l op sv w w) := Lib.hid ⟨⟨h, gb_refl _ _, hG, hA8, h.lt⟩, hop, hs, by decide, ⟨_, by omega, hR⟩⟩
 have hlt := h.lt
 clear h hG hs hR
 go_enter Tryz.func87, Tryz.ntmps87
 go_wp2_with fail
 go_loopw [5] (fun v wr => ∃ (out : List ByteArray) (l' : List Tok) (op' : Int), Hid (SmS A fin R out l' op' sv w wr) ∧ wr.ownsRow w.heap.size 9 1 v out.length (out.map Value.string)) (fun _ wr => wlen A wr)
 case atStart => exact ⟨[], l, op, HS0, World.ownsRow_nil _ _ _ _⟩
 case round =>
  clear HS0
  obtain ⟨out, l', op', HS, hown⟩ := hrel
  have HW0 := Lib.hid (wlen_of HS.out.it.at_)
  obtain ⟨so, scap, rfl⟩ := own_shape hown
  have ho8 := HS.out.o8
  have hbase := Lib.hid (own_base hown)
  have HO := Lib.hid hown
  clear hown
  by_cases h0 : out.length = 0
  ·
   obtain rfl : out = [] := List.eq_nil_of_length_eq_zero h0
   clear h0
   have HCD : Hid (([] : List ByteArray).length = 0 ∨ closesR l' fin = false) := Lib.hid (.inl rfl)
   by_cases h8 : 0 < 8
   ·
    have h8I : (0 : Int) < 8 := by omega
    have hcol := wcolumn_any HS.out.it.at_ HS.out.it.glob HS.out.sz
    cases ha : atomR columnR fin l' op' with
    | bad y q =>
     rw [ha] at hcol
     have HRB := Lib.hid (HS.out.bad HCD.out (show ([] : List ByteArray).length < 8 by decide) ha)
     have HCO := Lib.hid hcol
     clear hcol ha
     go_wp2_with (go_at_call 92; refine (must_yes (by first | rfl | (simp; omega))).mono ?_; rintro e w3 ⟨rfl, rfl⟩; refine Hid.out ?_)
     refine Lib.hid ?_
     go_wp2_with (go_at_call 83; refine HCO.out.mono ?_; rintro e w4 ⟨rfl, hg⟩; refine Hid.out ?_)
     refine Lib.hid ?_
     exact ⟨rfl, by rw [HRB.out]; exact ⟨rfl, gb_trans HS.out.it.gb hg⟩⟩
    | ok s =>
     rw [ha] at hcol
     have HCO := Lib.hid hcol
     have HA := Lib.hid ha
     clear hcol ha
     go_wp2_with (go_at_call 92; refine (must_yes (by first | rfl | (simp; omega))).mono ?_; rintro e w3 ⟨rfl, rfl⟩; refine Hid.out ?_)
     refine Lib.hid ?_
     go_wp2_with (go_at_call 83; refine HCO.out.mono ?_; rintro e w4 ⟨rfl, ha4, hg4⟩; refine Hid.out ?_)
     refine Lib.hid ?_
     have HI4 := Lib.hid (HS.out.it.step ha4 hg4)
     have hown4 := (own_keepA HO.out fun k hk hk2 => hg4.block k hk2 (by intro e; injection e; omega))
     have hsz4 : w.heap.size ≤ w4.heap.size := HI4.out.gb.size
     clear ha4 hg4
     obtain ⟨i0, hi0, hz0, hz1, hz2⟩ := info_parts infoStr
     go_wp2_with (at_builtin; refine wpList_append_own_at _ rfl _ _ 24 rfl w.heap.size 9 i0 _ 1 16 Tryz.underlying24 hi0 hz0 hz1 hz2 rfl (by decide) (.slice so 0 scap) 0 [] rfl (hown4.alloc _) ⟨w4.heap.size, 0, none⟩ 1 1 [.string s.2.2] rfl rfl ?c1 ?c2 ?c3 ?c4 ?c5 ?_)
     case c1 =>
      intro j u hj
      match j, hj with
      | 0, hj => simp at hj; subst hj; simp [Addr.add]
      | (j + 1), hj => simp at hj
     case c2 => intro u hu; simp at hu; rcases hu with rfl; rfl
     case c3 => unfold maxLen; omega
     case c4 => omega
     case c5 => simp; omega
     intro v' w5 hown5 hg5 _ _
     have HI5 := Lib.hid (HI4.out.app (o := .cells #[.string s.2.2] 9) hg5 (fun k hk => hbase.out k hk))
     have HN := Lib.hid (HS.out.go HCD.out (show ([] : List ByteArray).length < 8 by decide) HA.out HI5.out)
     have HW5 := Lib.hid (wlen_of HI5.out.at_)
     clear hg5 hown4 hi0 hz0 hz1 hz2
     go_wp2_with fail
     go_roundw
     case rel => exact ⟨[] ++ [s.2.2], s.1, s.2.1, Lib.hid HN.out.1, by simpa using hown5⟩
     case measure => rw [HW0.out, HW5.out]; exact HN.out.2
   ·
    exact absurd (by decide) h8
  ·
   have e0 : ((out.length : Int) == 0) = false := by rw [beq_eq_false_iff_ne]; omega
   have hcc := closes_any HS.out.it.at_
   cases hcl : closesR l' fin with
   | true =>
    rw [show ((tokAt l' fin).k == 2) = true from hcl] at hcc
    have HRS := Lib.hid (HS.out.stop h0 hcl)
    have HCC := Lib.hid hcc
    clear hcc hcl
    go_wp2_with (go_at_call 107; refine HCC.out.mono ?_; rintro e w3 ⟨rfl, hb3⟩; refine Hid.out ?_)
    refine Lib.hid ?_
    have HN := Lib.hid (HS.out.next hb3)
    have HO3 := Lib.hid (own_bel HO.out hb3)
    clear hb3
    go_wp2_with fail
    go_ret
    rw [HRS.out]
    exact ⟨⟨_, _, rfl, HN.out.it.at_, HO3.out⟩, HN.out.it.gb⟩
   | false =>
    rw [show ((tokAt l' fin).k == 2) = false from hcl] at hcc
    have HCL := Lib.hid hcl
    have HCC := Lib.hid hcc
    clear hcc hcl
    go_wp2_with (go_at_call 107; refine HCC.out.mono ?_; rintro e w2 ⟨rfl, hb2⟩; refine Hid.out ?_)
    refine Lib.hid ?_
    have HSn := Lib.hid (HS.out.next hb2)
    have HOn := Lib.hid (own_bel HO.out hb2)
    clear HS HO hb2
    have HS := HSn
    have HO := HOn
    have HCD : Hid (out.length = 0 ∨ closesR l' fin = false) := Lib.hid (.inr HCL.out)
    by_cases h8 : out.length < 8
    ·
     have h8I : (out.length : Int) < 8 := by omega
     have hcol := wcolumn_any HS.out.it.at_ HS.out.it.glob HS.out.sz
     cases ha : atomR columnR fin l' op' with
     | bad y q =>
      rw [ha] at hcol
      have HRB := Lib.hid (HS.out.bad HCD.out h8 ha)
      have HCO := Lib.hid hcol
      clear hcol ha
      go_wp2_with (go_at_call 92; refine (must_yes (by first | rfl | (simp; omega))).mono ?_; rintro e w3 ⟨rfl, rfl⟩; refine Hid.out ?_)
      refine Lib.hid ?_
      go_wp2_with (go_at_call 83; refine HCO.out.mono ?_; rintro e w4 ⟨rfl, hg⟩; refine Hid.out ?_)
      refine Lib.hid ?_
      exact ⟨rfl, by rw [HRB.out]; exact ⟨rfl, gb_trans HS.out.it.gb hg⟩⟩
     | ok s =>
      rw [ha] at hcol
      have HCO := Lib.hid hcol
      have HA := Lib.hid ha
      clear hcol ha
      go_wp2_with (go_at_call 92; refine (must_yes (by first | rfl | (simp; omega))).mono ?_; rintro e w3 ⟨rfl, rfl⟩; refine Hid.out ?_)
      refine Lib.hid ?_
      go_wp2_with (go_at_call 83; refine HCO.out.mono ?_; rintro e w4 ⟨rfl, ha4, hg4⟩; refine Hid.out ?_)
      refine Lib.hid ?_
      have HI4 := Lib.hid (HS.out.it.step ha4 hg4)
      have hown4 := (own_keepA HO.out fun k hk hk2 => hg4.block k hk2 (by intro e; injection e; omega))
      have hsz4 : w.heap.size ≤ w4.heap.size := HI4.out.gb.size
      clear ha4 hg4
      obtain ⟨i0, hi0, hz0, hz1, hz2⟩ := info_parts infoStr
      go_wp2_with (at_builtin; refine wpList_append_own_at _ rfl _ _ 24 rfl w.heap.size 9 i0 _ 1 16 Tryz.underlying24 hi0 hz0 hz1 hz2 rfl (by decide) (.slice so out.length scap) out.length (out.map Value.string) rfl (hown4.alloc _) ⟨w4.heap.size, 0, none⟩ 1 1 [.string s.2.2] rfl rfl ?c1 ?c2 ?c3 ?c4 ?c5 ?_)
      case c1 =>
       intro j u hj
       match j, hj with
       | 0, hj => simp at hj; subst hj; simp [Addr.add]
       | (j + 1), hj => simp at hj
      case c2 => intro u hu; simp at hu; rcases hu with rfl; rfl
      case c3 => unfold maxLen; omega
      case c4 => omega
      case c5 => simp; omega
      intro v' w5 hown5 hg5 _ _
      have HI5 := Lib.hid (HI4.out.app (o := .cells #[.string s.2.2] 9) hg5 (fun k hk => hbase.out k hk))
      have HN := Lib.hid (HS.out.go HCD.out h8 HA.out HI5.out)
      have HW5 := Lib.hid (wlen_of HI5.out.at_)
      clear hg5 hown4 hi0 hz0 hz1 hz2
      go_wp2_with fail
      go_roundw
      case rel => exact ⟨out ++ [s.2.2], s.1, s.2.1, Lib.hid HN.out.1, by simpa using hown5⟩
      case measure => rw [HW0.out, HW5.out]; exact HN.out.2
    ·
     have h8I : ¬ (out.length : Int) < 8 := by omega
     have HRM := Lib.hid (HS.out.many HCD.out h8)
     have HD8 : Hid (decide ((out.length : Int) < 8) = false) := Lib.hid (decide_eq_false h8I)
     go_wp2_with (go_at_call 92; refine (must_no (by first | exact HD8.out | rfl | (simp; omega)) HS.out.it.at_).mono ?_; rintro e w3 ⟨rfl, hb3⟩; refine Hid.out ?_)
     refine Lib.hid ?_
     exact ⟨rfl, by rw [HRM.out]; exact ⟨rfl, gb_trans HS.out.it.gb (below_gb hb3)⟩⟩
end Go.Proofs.YtgjfbbmachoolaaGreatDoor.lx
namespace Go.Proofs.YtgjfbbmachoolaaGreatDoor.lx
open Go.RowKit

theorem take_suf {fin k : Int} {p : ByteArray → Bool} {l l' : List Tok} {op op' : Int} (h : takeR fin k p l op = .ok (l', op')) (hk : k ≠ 0) : l' <:+ l ∧ l'.length < l.length := by
 obtain ⟨a, _, _, b, _⟩ := takeR_ok h hk
 exact ⟨by rw [a]; exact List.tail_suffix l, by omega⟩
theorem itemR_ok {fin : Int} {l : List Tok} {op : Int} {s : List Tok × Int × Itm} (h : itemR fin l op = .ok s) : s.1 <:+ l ∧ s.1.length < l.length ∧ s.2.2.e.length ≤ 64 ∧ s.2.1 = op ∧ 0 ≤ s.2.2.agg ∧ s.2.2.agg ≤ 4 := by
 unfold itemR at h
 by_cases hi : Lib.idxOfS wordsL (headR l) < 1
 ·
  rw [if_pos hi] at h
  cases hw : wholeR fin l op with
  | bad y q => rw [hw] at h; cases h
  | ok x =>
   rw [hw] at h
   injection h with h
   subst h
   obtain ⟨a, b, c, d⟩ := exprR_ok fin _ _ _ _ _ hw
   exact ⟨a, b, c, d, Int.le_refl _, by simp only; omega⟩
 rw [if_neg hi] at h
 obtain ⟨X, hX⟩ : ∃ X, Lib.idxOfS wordsL (headR l) = X := ⟨_, rfl⟩
 have hX4 : X ≤ 4 := by
  have h1 := idx_range wordsL (headR l) 0
  have h2 : wordsL.length = 5 := rfl
  unfold Lib.idxOfS at hX
  omega
 rw [hX] at h hi
 cases h1 : takeR fin 1 (fun _ => true) l op with
 | bad y q => rw [h1] at h; cases h
 | ok x =>
  obtain ⟨l1, op1⟩ := x
  rw [h1] at h
  simp only [Res.then] at h
  cases h2 : takeR fin 3 (fun _ => true) l1 op1 with
  | bad y q => rw [h2] at h; cases h
  | ok x =>
   obtain ⟨l2, op2⟩ := x
   rw [h2] at h
   simp only at h
   obtain ⟨a1, b1⟩ := take_suf h1 (by decide)
   obtain ⟨a2, b2⟩ := take_suf h2 (by decide)
   have o1 := takeR_op h1
   have o2 := takeR_op h2
   rw [if_pos rfl] at o1
   rw [if_neg (by decide), if_neg (by decide)] at o2
   by_cases hX1 : X = 1
   ·
    rw [if_pos hX1] at h
    simp only at h
    cases h4 : takeR fin 2 (fun _ => true) l2 op2 with
    | bad y q => rw [h4] at h; cases h
    | ok x =>
     obtain ⟨l4, op4⟩ := x
     rw [h4] at h
     injection h with h
     subst h
     obtain ⟨a4, b4⟩ := take_suf h4 (by decide)
     have o4 := takeR_op h4
     rw [if_neg (by decide), if_pos rfl] at o4
     exact ⟨a4.trans (a2.trans a1), by simp only; omega, by simp, by simp only; omega, by simp only; omega, hX4⟩
   ·
    rw [if_neg hX1] at h
    cases h3 : wholeR fin l2 op2 with
    | bad y q => rw [h3] at h; cases h
    | ok x =>
     obtain ⟨l3, op3, e3⟩ := x
     rw [h3] at h
     simp only at h
     obtain ⟨a3, b3, c3, d3⟩ := exprR_ok fin _ _ _ _ _ h3
     simp only at a3 b3 c3 d3
     cases h4 : takeR fin 2 (fun _ => true) l3 op3 with
     | bad y q => rw [h4] at h; cases h
     | ok x =>
      obtain ⟨l4, op4⟩ := x
      rw [h4] at h
      injection h with h
      subst h
      obtain ⟨a4, b4⟩ := take_suf h4 (by decide)
      have o4 := takeR_op h4
      rw [if_neg (by decide), if_pos rfl] at o4
      exact ⟨a4.trans (a3.trans (a2.trans a1)), by simp only; omega, by simp only; omega, by simp only; omega, by simp only; omega, hX4⟩

/-- the cells of items -/
def itmCells : List Itm → List Value → List Value
 | it :: its, v :: vs => .int .u8 it.agg :: v :: itmCells its vs
 | _, _ => []
theorem itmCells_snoc : ∀ (its : List Itm) (vs : List Value) (it : Itm) (v : Value), vs.length = its.length → itmCells (its ++ [it]) (vs ++ [v]) = itmCells its vs ++ [.int .u8 it.agg, v]
 | [], [], _, _, _ => rfl
 | x :: its, y :: vs, it, v, h => by
  have := itmCells_snoc its vs it v (by simpa using h)
  simp only [List.cons_append, itmCells, this]
/-- items of the call's own -/
def IO (B : Nat) (w : World) (its : List Itm) (iv : Value) : Prop :=
 ∃ vs : List Value, vs.length = its.length ∧ w.ownsRow B 40 2 iv its.length (itmCells its vs) ∧
  ∀ (i : Nat) it v, its[i]? = some it → vs[i]? = some v → w.ownsRow B 50 3 v it.e.length (stpCells it.e) ∧ ∀ k, v.ownBlock = some k → iv.ownBlock ≠ some k
theorem IO.nil (B : Nat) (w : World) : IO B w [] (.slice none 0 0) := ⟨[], rfl, World.ownsRow_nil _ _ _ _, fun i it v h => by simp at h⟩
theorem IO.kept {B : Nat} {w w' : World} {its : List Itm} {iv : Value} (h : IO B w its iv) (hb : ∀ k, B ≤ k → k < w.heap.size → w'.heap[k]? = w.heap[k]?) : IO B w' its iv := by
 obtain ⟨vs, h1, h2, h3⟩ := h
 exact ⟨vs, h1, own_keepA h2 hb, fun i it v a b => ⟨own_keepA (h3 i it v a b).1 hb, (h3 i it v a b).2⟩⟩
/-- an item more -/
theorem IO.app {B C : Nat} {w4 w5 : World} {its : List Itm} {vs : List Value} {iv v v' : Value} {it : Itm} {o : Obj} (hC : B ≤ C) (hl : vs.length = its.length) (hlt : ∀ k, iv.ownBlock = some k → k < C)
  (hex : ∀ (i : Nat) it v, its[i]? = some it → vs[i]? = some v → w4.ownsRow B 50 3 v it.e.length (stpCells it.e) ∧ ∀ k, v.ownBlock = some k → iv.ownBlock ≠ some k)
  (hv : w4.ownsRow C 50 3 v it.e.length (stpCells it.e)) (hg : (w4.alloc o).grownBy w5 iv.ownBlock) (h5 : w5.ownsRow B 40 2 v' (its.length + 1) (itmCells its vs ++ [.int .u8 it.agg, v]))
  (hb : v'.ownBlock = iv.ownBlock ∨ v'.ownBlock = some (w4.heap.size + 1)) : IO B w5 (its ++ [it]) v' := by
 have keep : ∀ {x : Value} {n : Nat} {xs : List Value} {D : Nat}, w4.ownsRow D 50 3 x n xs → (∀ k, x.ownBlock = some k → iv.ownBlock ≠ some k) → w5.ownsRow D 50 3 x n xs := by
  intro x n xs D hx hne
  refine ⟨hx.1, ?_⟩
  rcases hx.2 with hn | ⟨g, cap, cur, e, hg', hc, rest⟩
  ·
   exact .inl hn
  ·
   refine .inr ⟨g, cap, cur, e, hg', ?_, rest⟩
   have hgl := (Array.getElem?_eq_some_iff.1 hc).1
   have h1 := hg.block g (by rw [alloc_sz]; omega) (fun e2 => hne g (by rw [e]; rfl) e2.symm)
   rw [h1]
   exact (heap_alloc_old _ _ hgl).trans hc
 have fresh : ∀ {x : Value} {n : Nat} {xs : List Value} {D : Nat}, w4.ownsRow D 50 3 x n xs → (∀ k, x.ownBlock = some k → iv.ownBlock ≠ some k) → ∀ k, x.ownBlock = some k → v'.ownBlock ≠ some k := by
  intro x n xs D hx hne k hk e
  have h1 := own_lt hx k hk
  rcases hb with hb | hb
  ·
   exact hne k hk (hb ▸ e)
  ·
   rw [hb] at e
   injection e with e
   omega
 have hvne : ∀ k, v.ownBlock = some k → iv.ownBlock ≠ some k := fun k hk e => by have := hlt k e; have := own_base hv k hk; omega
 refine ⟨vs ++ [v], by simp [hl], ?_, fun i it' u ha hbb => ?_⟩
 ·
  rw [itmCells_snoc _ _ _ _ hl, List.length_append]
  exact h5
 ·
  by_cases hi : i < its.length
  ·
   rw [List.getElem?_append_left hi] at ha
   rw [List.getElem?_append_left (by omega)] at hbb
   obtain ⟨h1, h2⟩ := hex i it' u ha hbb
   exact ⟨keep h1 h2, fresh h1 h2⟩
  ·
   rw [List.getElem?_append_right (by omega)] at ha
   rw [List.getElem?_append_right (by omega), hl] at hbb
   have e1 : i - its.length = 0 := by
    by_cases e : i - its.length = 0
    ·
     exact e
    ·
     obtain ⟨m, hm⟩ : ∃ m, i - its.length = m + 1 := ⟨i - its.length - 1, by omega⟩
     rw [hm] at ha; simp at ha
   rw [e1] at ha hbb
   simp at ha hbb
   subst ha
   subst hbb
   exact ⟨own_le (keep hv hvne) hC, fresh hv hvne⟩

/-- the loop of some: where it stands -/
structure SmI (A : Nat) (fin : Int) (R : Res (List Tok × Int × List Itm)) (out : List Itm) (l : List Tok) (op : Int) (sv : Value) (w wr : World) : Prop where
 it : ItS A l fin op sv w wr
 op_ : OpOk op
 sz : ∀ t ∈ l, t.s.size < 4294967281
 ll : l.length ≤ 1099511627776
 o8 : out.length ≤ 8
 run : ∃ m, l.length + 1 ≤ m ∧ someR (itemR fin) fin m out l op = R
theorem SmI.next {A : Nat} {fin : Int} {R : Res (List Tok × Int × List Itm)} {out : List Itm} {l : List Tok} {op : Int} {sv : Value} {w wr w' : World} (h : SmI A fin R out l op sv w wr) (hb : Below wr.heap.size wr w') : SmI A fin R out l op sv w w' := ⟨h.it.next hb, h.op_, h.sz, h.ll, h.o8, h.run⟩
theorem SmI.stop {A : Nat} {fin : Int} {R : Res (List Tok × Int × List Itm)} {out : List Itm} {l : List Tok} {op : Int} {sv : Value} {w wr : World} (h : SmI A fin R out l op sv w wr) (h0 : out.length ≠ 0) (hc : closesR l fin = true) : R = .ok (l, op, out) := by
 obtain ⟨m, hm, hr⟩ := h.run
 obtain ⟨m, rfl⟩ : ∃ k, m = k + 1 := ⟨m - 1, by omega⟩
 rw [someR, if_neg (by rw [hc]; simp; exact fun e => h0 (by rw [e]; rfl))] at hr
 exact hr.symm
theorem SmI.many {A : Nat} {fin : Int} {R : Res (List Tok × Int × List Itm)} {out : List Itm} {l : List Tok} {op : Int} {sv : Value} {w wr : World} (h : SmI A fin R out l op sv w wr) (h0 : out.length = 0 ∨ closesR l fin = false) (h8 : ¬ out.length < 8) : R = .bad 3 (tokAt l fin).a := by
 obtain ⟨m, hm, hr⟩ := h.run
 obtain ⟨m, rfl⟩ : ∃ k, m = k + 1 := ⟨m - 1, by omega⟩
 rw [someR, if_pos h0, if_neg h8] at hr
 exact hr.symm
theorem SmI.bad {A : Nat} {fin y q : Int} {R : Res (List Tok × Int × List Itm)} {out : List Itm} {l : List Tok} {op : Int} {sv : Value} {w wr : World} (h : SmI A fin R out l op sv w wr) (h0 : out.length = 0 ∨ closesR l fin = false) (h8 : out.length < 8) (ha : itemR fin l op = .bad y q) : R = .bad y q := by
 obtain ⟨m, hm, hr⟩ := h.run
 obtain ⟨m, rfl⟩ : ∃ k, m = k + 1 := ⟨m - 1, by omega⟩
 rw [someR, if_pos h0, if_pos h8, ha] at hr
 exact hr.symm
theorem SmI.go {A : Nat} {fin : Int} {R : Res (List Tok × Int × List Itm)} {out : List Itm} {l : List Tok} {op : Int} {sv sv' : Value} {w wr w' : World} {s : List Tok × Int × Itm} (h : SmI A fin R out l op sv w wr) (h0 : out.length = 0 ∨ closesR l fin = false) (h8 : out.length < 8) (ha : itemR fin l op = .ok s)
  (hi : ItS A s.1 fin s.2.1 sv' w w') : SmI A fin R (out ++ [s.2.2]) s.1 s.2.1 sv' w w' ∧ s.1.length < l.length := by
 obtain ⟨m, hm, hr⟩ := h.run
 obtain ⟨m, rfl⟩ : ∃ k, m = k + 1 := ⟨m - 1, by omega⟩
 rw [someR, if_pos h0, if_pos h8, ha] at hr
 obtain ⟨a1, a2, _, a3, _⟩ := itemR_ok ha
 exact ⟨⟨hi, by rw [a3]; exact h.op_, fun t ht => h.sz t (a1.subset ht), by have := h.ll; omega, by rw [List.length_append]; simp; omega, ⟨m, by omega, hr⟩⟩, a2⟩
end Go.Proofs.YtgjfbbmachoolaaGreatDoor.lx
namespace Go.Proofs.YtgjfbbmachoolaaGreatDoor.lx
open Go.RowKit

theorem infoItm : (Tryz.prog.info? 40).map (fun i => (i.zero, i.size, i.bytes)) = some (some (.agg #[.int .u8 0, .slice none 0 0]), 2, 32) := by kernel_rfl
/-- what some comes to -/
def ItemsP (A : Nat) (fin : Int) (w : World) (R : Res (List Tok × Int × List Itm)) (e : Ending) (w' : World) : Prop :=
 match R with
 | .ok x => (∃ v sv', e = .returned v ∧ AtW A x.1 fin x.2.1 sv' w' ∧ IO w.heap.size w' x.2.2 v) ∧ w.grownBy w' (some A)
 | .bad y p => e = .panicked [flt y p] ∧ w.grownBy w' (some A)
theorem IO.bel {B : Nat} {w w' : World} {its : List Itm} {iv : Value} (h : IO B w its iv) (hb : Below w.heap.size w w') : IO B w' its iv := h.kept fun k _ hk => hb.block k hk

set_option maxHeartbeats 2000000 in
set_option maxRecDepth 100000 in
theorem someItm_any {A : Nat} {l : List Tok} {fin op : Int} {sv : Value} {w : World} (h : AtW A l fin op sv w) (hG : PGlob w) (hA8 : 11 ≤ A) (hop : OpOk op) (hs : ∀ t ∈ l, t.s.size < 4294967281) (hll : l.length ≤ 1099511627776) :
  Calls Tryz.prog 89 #[.pointer (some ⟨A, 0, none⟩), .func (.func 90) #[.pointer (some ⟨A, 0, none⟩)] #[]] w fun e w' => ItemsP A fin w (someR (itemR fin) fin (l.length + 2) [] l op) e w' := by
 obtain ⟨R, hR⟩ : ∃ R, someR (itemR fin) fin (l.length + 2) [] l op = R := ⟨_, rfl⟩
 rw [hR]
 have HS0 : Hid (SmI A fin R [] l op sv w w) := Lib.hid ⟨⟨h, gb_refl _ _, hG, hA8, h.lt⟩, hop, hs, hll, by decide, ⟨_, by omega, hR⟩⟩
 have hlt := h.lt
 clear h hG hs hR
 go_enter Tryz.func89, Tryz.ntmps89
 go_wp2_with fail
 go_loopw [5] (fun v wr => ∃ (out : List Itm) (l' : List Tok) (op' : Int) (sv' : Value), Hid (SmI A fin R out l' op' sv' w wr) ∧ Hid (IO w.heap.size wr out v)) (fun _ wr => wlen A wr)
 case atStart => exact ⟨[], l, op, sv, HS0, Lib.hid (IO.nil _ _)⟩
 case round =>
  clear HS0
  obtain ⟨out, l', op', sv', HS, HIO⟩ := hrel
  have HW0 := Lib.hid (wlen_of HS.out.it.at_)
  have hio := HIO.out
  obtain ⟨vs, hvl, hown, hex⟩ := hio
  obtain ⟨so, scap, rfl⟩ := own_shape hown
  have ho8 := HS.out.o8
  have hbase := Lib.hid (own_base hown)
  have HO := Lib.hid hown
  have HVL := Lib.hid hvl
  have HEX := Lib.hid hex
  clear hown hvl hex
  by_cases h0 : out.length = 0
  ·
   obtain rfl : out = [] := List.eq_nil_of_length_eq_zero h0
   clear h0
   have HCD : Hid (([] : List Itm).length = 0 ∨ closesR l' fin = false) := Lib.hid (.inl rfl)
   by_cases h8 : 0 < 8
   ·
    have h8I : (0 : Int) < 8 := by omega
    have H8 : Hid (([] : List Itm).length < 8) := Lib.hid h8
    have hcol := item_any HS.out.it.at_ HS.out.it.glob HS.out.it.hA8 HS.out.op_ HS.out.sz HS.out.ll
    cases ha : itemR fin l' op' with
    | bad y q =>
     rw [ha] at hcol
     have HRB := Lib.hid (HS.out.bad HCD.out H8.out ha)
     have HCO := Lib.hid hcol
     clear hcol ha
     go_wp2_with (go_at_call 92; refine (must_yes (by first | rfl | (simp; omega))).mono ?_; rintro e w3 ⟨rfl, rfl⟩; refine Hid.out ?_)
     refine Lib.hid ?_
     go_wp2_with (go_at_call 90; refine HCO.out.mono ?_; rintro e w4 ⟨rfl, hg⟩; refine Hid.out ?_)
     refine Lib.hid ?_
     exact ⟨rfl, by rw [HRB.out]; exact ⟨rfl, gb_trans HS.out.it.gb hg⟩⟩
    | ok s =>
     rw [ha] at hcol
     have HCO := Lib.hid hcol
     have HA := Lib.hid ha
     clear hcol ha
     go_wp2_with (go_at_call 92; refine (must_yes (by first | rfl | (simp; omega))).mono ?_; rintro e w3 ⟨rfl, rfl⟩; refine Hid.out ?_)
     refine Lib.hid ?_
     go_wp2_with (go_at_call 90; refine HCO.out.mono ?_; rintro e w4 ⟨⟨v4, sv4, rfl, ha4, ho4⟩, hg4⟩; refine Hid.out ?_)
     refine Lib.hid ?_
     obtain ⟨eo, ecap, rfl⟩ := own_shape ho4
     have HI4 := Lib.hid (HS.out.it.step ha4 hg4)
     have hown4 := (own_keepA HO.out fun k hk hk2 => hg4.block k hk2 (by intro e; injection e; omega))
     have HEX4 := Lib.hid fun (i : Nat) it v (a : ([] : List Itm)[i]? = some it) (b : vs[i]? = some v) => And.intro (own_keepA (HEX.out i it v a b).1 fun k hk hk2 => hg4.block k hk2 (by intro e; injection e; omega)) (HEX.out i it v a b).2
     have HO4 := Lib.hid ho4
     have HOW4 := Lib.hid hown4
     have hsz4 : w.heap.size ≤ w4.heap.size := HI4.out.gb.size
     have HWS := Lib.hid HS.out.it.gb.size
     clear ha4 hg4 ho4
     obtain ⟨i0, hi0, hz0, hz1, hz2⟩ := info_parts infoItm
     go_wp2_with (at_builtin; refine wpList_append_own_at _ rfl _ _ 22 rfl w.heap.size 40 i0 _ 2 32 Tryz.underlying22 hi0 hz0 hz1 hz2 rfl (by decide) (.slice so 0 scap) 0 (itmCells [] vs) rfl (hown4.alloc _) ⟨w4.heap.size, 0, none⟩ 1 1 [.int .u8 s.2.2.agg, .slice eo s.2.2.e.length ecap] rfl rfl ?c1 ?c2 ?c3 ?c4 ?c5 ?_)
     case c1 =>
      intro j u hj
      match j, hj with
      | 0, hj => simp at hj; subst hj; simp [Addr.add]
      | 1, hj => simp at hj; subst hj; simp [Addr.add]
      | (j + 2), hj => simp at hj
     case c2 => intro u hu; simp at hu; rcases hu with rfl | rfl <;> rfl
     case c3 => unfold maxLen; omega
     case c4 => omega
     case c5 => simp; omega
     intro v' w5 hown5 hg5 _ hb5
     have HI5 := Lib.hid (HI4.out.app (o := .cells #[.int .u8 s.2.2.agg, .slice eo s.2.2.e.length ecap] 40) hg5 (fun k hk => hbase.out k hk))
     have HIO5 := Lib.hid (IO.app (its := ([] : List Itm)) (it := s.2.2) HWS.out HVL.out (own_lt HO.out) HEX4.out HO4.out hg5 hown5 hb5)
     have HN := Lib.hid (HS.out.go HCD.out H8.out HA.out HI5.out)
     have HW5 := Lib.hid (wlen_of HI5.out.at_)
     clear hg5 hown4 hown5 hb5 hi0 hz0 hz1 hz2
     go_wp2_with fail
     go_roundw
     case rel => exact ⟨([] : List Itm) ++ [s.2.2], s.1, s.2.1, _, Lib.hid HN.out.1, HIO5⟩
     case measure => rw [HW0.out, HW5.out]; exact HN.out.2
   ·
    exact absurd (by decide) h8
  ·
   have e0 : ((out.length : Int) == 0) = false := by rw [beq_eq_false_iff_ne]; omega
   have hcc := closes_any HS.out.it.at_
   cases hcl : closesR l' fin with
   | true =>
    rw [show ((tokAt l' fin).k == 2) = true from hcl] at hcc
    have HRS := Lib.hid (HS.out.stop h0 hcl)
    have HCC := Lib.hid hcc
    clear hcc hcl
    go_wp2_with (go_at_call 107; refine HCC.out.mono ?_; rintro e w3 ⟨rfl, hb3⟩; refine Hid.out ?_)
    refine Lib.hid ?_
    have HN := Lib.hid (HS.out.next hb3)
    have HO3 := Lib.hid (HIO.out.bel hb3)
    clear hb3
    go_wp2_with fail
    go_ret
    rw [HRS.out]
    exact ⟨⟨_, _, rfl, HN.out.it.at_, HO3.out⟩, HN.out.it.gb⟩
   | false =>
    rw [show ((tokAt l' fin).k == 2) = false from hcl] at hcc
    have HCL := Lib.hid hcl
    have HCC := Lib.hid hcc
    clear hcc hcl
    go_wp2_with (go_at_call 107; refine HCC.out.mono ?_; rintro e w2 ⟨rfl, hb2⟩; refine Hid.out ?_)
    refine Lib.hid ?_
    have HSn := Lib.hid (HS.out.next hb2)
    have HOn := Lib.hid (own_bel HO.out hb2)
    have HEXn := Lib.hid fun (i : Nat) it v (a : out[i]? = some it) (b : vs[i]? = some v) => And.intro (own_bel (HEX.out i it v a b).1 hb2) (HEX.out i it v a b).2
    clear HS HO HEX hb2 HIO
    have HS := HSn
    have HO := HOn
    have HEX := HEXn
    clear HSn HOn HEXn
    have HCD : Hid (out.length = 0 ∨ closesR l' fin = false) := Lib.hid (.inr HCL.out)
    by_cases h8 : out.length < 8
    ·
     have h8I : (out.length : Int) < 8 := by omega
     have H8 : Hid (out.length < 8) := Lib.hid h8
     have hcol := item_any HS.out.it.at_ HS.out.it.glob HS.out.it.hA8 HS.out.op_ HS.out.sz HS.out.ll
     cases ha : itemR fin l' op' with
     | bad y q =>
      rw [ha] at hcol
      have HRB := Lib.hid (HS.out.bad HCD.out H8.out ha)
      have HCO := Lib.hid hcol
      clear hcol ha
      go_wp2_with (go_at_call 92; refine (must_yes (by first | rfl | (simp; omega))).mono ?_; rintro e w3 ⟨rfl, rfl⟩; refine Hid.out ?_)
      refine Lib.hid ?_
      go_wp2_with (go_at_call 90; refine HCO.out.mono ?_; rintro e w4 ⟨rfl, hg⟩; refine Hid.out ?_)
      refine Lib.hid ?_
      exact ⟨rfl, by rw [HRB.out]; exact ⟨rfl, gb_trans HS.out.it.gb hg⟩⟩
     | ok s =>
      rw [ha] at hcol
      have HCO := Lib.hid hcol
      have HA := Lib.hid ha
      clear hcol ha
      go_wp2_with (go_at_call 92; refine (must_yes (by first | rfl | (simp; omega))).mono ?_; rintro e w3 ⟨rfl, rfl⟩; refine Hid.out ?_)
      refine Lib.hid ?_
      go_wp2_with (go_at_call 90; refine HCO.out.mono ?_; rintro e w4 ⟨⟨v4, sv4, rfl, ha4, ho4⟩, hg4⟩; refine Hid.out ?_)
      refine Lib.hid ?_
      obtain ⟨eo, ecap, rfl⟩ := own_shape ho4
      have HI4 := Lib.hid (HS.out.it.step ha4 hg4)
      have hown4 := (own_keepA HO.out fun k hk hk2 => hg4.block k hk2 (by intro e; injection e; omega))
      have HEX4 := Lib.hid fun (i : Nat) it v (a : out[i]? = some it) (b : vs[i]? = some v) => And.intro (own_keepA (HEX.out i it v a b).1 fun k hk hk2 => hg4.block k hk2 (by intro e; injection e; omega)) (HEX.out i it v a b).2
      have HO4 := Lib.hid ho4
      have HOW4 := Lib.hid hown4
      have hsz4 : w.heap.size ≤ w4.heap.size := HI4.out.gb.size
      have HWS := Lib.hid HS.out.it.gb.size
      clear ha4 hg4 ho4
      obtain ⟨i0, hi0, hz0, hz1, hz2⟩ := info_parts infoItm
      go_wp2_with (at_builtin; refine wpList_append_own_at _ rfl _ _ 22 rfl w.heap.size 40 i0 _ 2 32 Tryz.underlying22 hi0 hz0 hz1 hz2 rfl (by decide) (.slice so out.length scap) out.length (itmCells out vs) rfl (hown4.alloc _) ⟨w4.heap.size, 0, none⟩ 1 1 [.int .u8 s.2.2.agg, .slice eo s.2.2.e.length ecap] rfl rfl ?c1 ?c2 ?c3 ?c4 ?c5 ?_)
      case c1 =>
       intro j u hj
       match j, hj with
       | 0, hj => simp at hj; subst hj; simp [Addr.add]
       | 1, hj => simp at hj; subst hj; simp [Addr.add]
       | (j + 2), hj => simp at hj
      case c2 => intro u hu; simp at hu; rcases hu with rfl | rfl <;> rfl
      case c3 => unfold maxLen; omega
      case c4 => omega
      case c5 => simp; omega
      intro v' w5 hown5 hg5 _ hb5
      have HI5 := Lib.hid (HI4.out.app (o := .cells #[.int .u8 s.2.2.agg, .slice eo s.2.2.e.length ecap] 40) hg5 (fun k hk => hbase.out k hk))
      have HIO5 := Lib.hid (IO.app (its := out) (it := s.2.2) HWS.out HVL.out (own_lt HO.out) HEX4.out HO4.out hg5 hown5 hb5)
      have HN := Lib.hid (HS.out.go HCD.out H8.out HA.out HI5.out)
      have HW5 := Lib.hid (wlen_of HI5.out.at_)
      clear hg5 hown4 hown5 hb5 hi0 hz0 hz1 hz2
      go_wp2_with fail
      go_roundw
      case rel => exact ⟨out ++ [s.2.2], s.1, s.2.1, _, Lib.hid HN.out.1, HIO5⟩
      case measure => rw [HW0.out, HW5.out]; exact HN.out.2
    ·
     have h8I : ¬ (out.length : Int) < 8 := by omega
     have HRM := Lib.hid (HS.out.many HCD.out h8)
     have HD8 : Hid (decide ((out.length : Int) < 8) = false) := Lib.hid (decide_eq_false h8I)
     go_wp2_with (go_at_call 92; refine (must_no (by first | exact HD8.out | rfl | (simp; omega)) HS.out.it.at_).mono ?_; rintro e w3 ⟨rfl, hb3⟩; refine Hid.out ?_)
     refine Lib.hid ?_
     exact ⟨rfl, by rw [HRM.out]; exact ⟨rfl, gb_trans HS.out.it.gb (below_gb hb3)⟩⟩
end Go.Proofs.YtgjfbbmachoolaaGreatDoor.lx
namespace Go.Proofs.YtgjfbbmachoolaaGreatDoor.lx
open Go.RowKit

/-- a query of the call's own, its cells in a block -/
def QBlk (B Q : Nat) (q : Qry) (w : World) : Prop :=
 ∃ iv wv gv, w.heap[Q]? = some (.cells #[iv, .string q.table, .string q.join, .string q.left, .string q.right, wv, gv] 26 (0, 0)) ∧ IO B w q.items iv ∧ w.ownsRow B 50 3 wv q.wher.length (stpCells q.wher) ∧ w.ownsRow B 9 1 gv q.group.length (q.group.map Value.string)
theorem QBlk.kept {B Q : Nat} {q : Qry} {w w' : World} (h : QBlk B Q q w) (hQ : w'.heap[Q]? = w.heap[Q]?) (hb : ∀ k, B ≤ k → k < w.heap.size → w'.heap[k]? = w.heap[k]?) : QBlk B Q q w' := by
 obtain ⟨iv, wv, gv, h1, h2, h3, h4⟩ := h
 exact ⟨iv, wv, gv, hQ.trans h1, h2.kept hb, own_keepA h3 hb, own_keepA h4 hb⟩
theorem QBlk.lt {B Q : Nat} {q : Qry} {w : World} (h : QBlk B Q q w) : Q < w.heap.size := by
 obtain ⟨_, _, _, h, _⟩ := h
 exact (Array.getElem?_eq_some_iff.1 h).1
theorem QBlk.cell {B Q : Nat} {q : Qry} {w : World} (h : QBlk B Q q w) (j : Nat) (hj : j < 7) : ∃ v, w.cell? ⟨Q, j, none⟩ = some v := by
 obtain ⟨iv, wv, gv, h, _⟩ := h
 rw [Lib.cell_of_heap h]
 match j, hj with
 | 0, _ => exact ⟨_, rfl⟩
 | 1, _ => exact ⟨_, rfl⟩
 | 2, _ => exact ⟨_, rfl⟩
 | 3, _ => exact ⟨_, rfl⟩
 | 4, _ => exact ⟨_, rfl⟩
 | 5, _ => exact ⟨_, rfl⟩
 | 6, _ => exact ⟨_, rfl⟩
theorem QBlk.free {B Q : Nat} {q : Qry} {w : World} (h : QBlk B Q q w) (j : Nat) : w.frozen? ⟨Q, j, none⟩ = false := by
 obtain ⟨_, _, _, h, _⟩ := h
 exact Lib.frozen_of_heap h j

/-- what holds on the way through query -/
structure QrS (A P Q : Nat) (q : Qry) (l : List Tok) (fin op : Int) (sv : Value) (w wr : World) : Prop where
 it : ItS A l fin op sv w wr
 op_ : OpOk op
 sz : ∀ t ∈ l, t.s.size < 4294967281
 ll : l.length ≤ 1099511627776
 hP : w.heap.size ≤ P
 hQ : P < Q
 box : wr.heap[P]? = some (.cells #[.pointer (some ⟨A, 0, none⟩)] 117 (0, 0))
 blk : QBlk (Q + 1) Q q wr
theorem QrS.cP {A P Q : Nat} {q : Qry} {l : List Tok} {fin op : Int} {sv : Value} {w wr : World} (h : QrS A P Q q l fin op sv w wr) : wr.cell? ⟨P, 0, none⟩ = some (.pointer (some ⟨A, 0, none⟩)) := by rw [Lib.cell_of_heap h.box]; rfl
theorem QrS.hAP {A P Q : Nat} {q : Qry} {l : List Tok} {fin op : Int} {sv : Value} {w wr : World} (h : QrS A P Q q l fin op sv w wr) : A < P := by have := h.it.hAw; have := h.hP; omega
theorem QrS.next {A P Q : Nat} {q : Qry} {l : List Tok} {fin op : Int} {sv : Value} {w wr w' : World} (h : QrS A P Q q l fin op sv w wr) (hb : Below wr.heap.size wr w') : QrS A P Q q l fin op sv w w' :=
 have := h.blk.lt; have := h.hQ
 ⟨h.it.next hb, h.op_, h.sz, h.ll, h.hP, h.hQ, (hb.block P (by omega)).trans h.box, h.blk.kept (hb.block Q (by omega)) fun k _ hk => hb.block k hk⟩
theorem QrS.step {A P Q : Nat} {q : Qry} {l l' : List Tok} {fin op op' : Int} {sv sv' : Value} {w wr w' : World} (h : QrS A P Q q l fin op sv w wr) (ha : AtW A l' fin op' sv' w') (hg : wr.grownBy w' (some A)) (ho : OpOk op') (hl : l' <:+ l) : QrS A P Q q l' fin op' sv' w w' :=
 have h1 := h.blk.lt; have h2 := h.hQ; have h3 := h.hAP
 ⟨h.it.step ha hg, ho, fun t ht => h.sz t (hl.subset ht), Nat.le_trans hl.length_le h.ll, h.hP, h.hQ, (hg.block P (by omega) (by intro e; injection e; omega)).trans h.box,
  h.blk.kept (hg.block Q h1 (by intro e; injection e; omega)) fun k hk hk2 => hg.block k hk2 (by intro e; injection e; omega)⟩
/-- a text of it is written -/
def setS (q : Qry) (j : Nat) (x : ByteArray) : Qry := match j with | 1 => { q with table := x } | 2 => { q with join := x } | 3 => { q with left := x } | _ => { q with right := x }
theorem QrS.putS {A P Q : Nat} {q : Qry} {l : List Tok} {fin op : Int} {sv : Value} {w wr : World} (h : QrS A P Q q l fin op sv w wr) (j : Nat) (hj : 1 ≤ j ∧ j ≤ 4) (x : ByteArray) : QrS A P Q (setS q j x) l fin op sv w (wr.setCell ⟨Q, j, none⟩ (.string x)) := by
 have h2 := h.hQ
 have h4 := h.hP
 obtain ⟨iv, wv, gv, b1, b2, b3, b4⟩ := h.blk
 refine ⟨h.it.set (by omega), h.op_, h.sz, h.ll, h.hP, h.hQ, (Below.heap_setCell _ _ _ _ (by show P ≠ Q; omega)).trans h.box, iv, wv, gv, ?_, ?_, ?_, ?_⟩
 ·
  obtain ⟨j1, j4⟩ := hj
  match j, j1, j4 with
  | 1, _, _ => simp [World.setCell, Array.getElem?_modify, b1, setS]
  | 2, _, _ => simp [World.setCell, Array.getElem?_modify, b1, setS]
  | 3, _, _ => simp [World.setCell, Array.getElem?_modify, b1, setS]
  | 4, _, _ => simp [World.setCell, Array.getElem?_modify, b1, setS]
 ·
  have e : (setS q j x).items = q.items := by unfold setS; split <;> rfl
  rw [e]
  exact b2.kept fun k hk _ => Below.heap_setCell _ _ _ _ (by show k ≠ Q; omega)
 ·
  have e : (setS q j x).wher = q.wher := by unfold setS; split <;> rfl
  rw [e]
  exact own_keepA b3 fun k hk _ => Below.heap_setCell _ _ _ _ (by show k ≠ Q; omega)
 ·
  have e : (setS q j x).group = q.group := by unfold setS; split <;> rfl
  rw [e]
  exact own_keepA b4 fun k hk _ => Below.heap_setCell _ _ _ _ (by show k ≠ Q; omega)
theorem QrS.putI {A P Q : Nat} {q : Qry} {l : List Tok} {fin op : Int} {sv v : Value} {w wr : World} {x : List Itm} (h : QrS A P Q q l fin op sv w wr) (hv : IO (Q + 1) wr x v) : QrS A P Q { q with items := x } l fin op sv w (wr.setCell ⟨Q, 0, none⟩ v) := by
 have h2 := h.hQ
 have h4 := h.hP
 obtain ⟨iv, wv, gv, b1, b2, b3, b4⟩ := h.blk
 refine ⟨h.it.set (by omega), h.op_, h.sz, h.ll, h.hP, h.hQ, (Below.heap_setCell _ _ _ _ (by show P ≠ Q; omega)).trans h.box, v, wv, gv, by simp [World.setCell, Array.getElem?_modify, b1], hv.kept fun k hk _ => Below.heap_setCell _ _ _ _ (by show k ≠ Q; omega), own_keepA b3 fun k hk _ => Below.heap_setCell _ _ _ _ (by show k ≠ Q; omega), own_keepA b4 fun k hk _ => Below.heap_setCell _ _ _ _ (by show k ≠ Q; omega)⟩
theorem QrS.putW {A P Q : Nat} {q : Qry} {l : List Tok} {fin op : Int} {sv v : Value} {w wr : World} {x : List Stp} (h : QrS A P Q q l fin op sv w wr) (hv : wr.ownsRow (Q + 1) 50 3 v x.length (stpCells x)) : QrS A P Q { q with wher := x } l fin op sv w (wr.setCell ⟨Q, 5, none⟩ v) := by
 have h2 := h.hQ
 have h4 := h.hP
 obtain ⟨iv, wv, gv, b1, b2, b3, b4⟩ := h.blk
 refine ⟨h.it.set (by omega), h.op_, h.sz, h.ll, h.hP, h.hQ, (Below.heap_setCell _ _ _ _ (by show P ≠ Q; omega)).trans h.box, iv, v, gv, by simp [World.setCell, Array.getElem?_modify, b1], b2.kept fun k hk _ => Below.heap_setCell _ _ _ _ (by show k ≠ Q; omega), own_keepA hv fun k hk _ => Below.heap_setCell _ _ _ _ (by show k ≠ Q; omega), own_keepA b4 fun k hk _ => Below.heap_setCell _ _ _ _ (by show k ≠ Q; omega)⟩
theorem QrS.putG {A P Q : Nat} {q : Qry} {l : List Tok} {fin op : Int} {sv v : Value} {w wr : World} {x : List ByteArray} (h : QrS A P Q q l fin op sv w wr) (hv : wr.ownsRow (Q + 1) 9 1 v x.length (x.map Value.string)) : QrS A P Q { q with group := x } l fin op sv w (wr.setCell ⟨Q, 6, none⟩ v) := by
 have h2 := h.hQ
 have h4 := h.hP
 obtain ⟨iv, wv, gv, b1, b2, b3, b4⟩ := h.blk
 refine ⟨h.it.set (by omega), h.op_, h.sz, h.ll, h.hP, h.hQ, (Below.heap_setCell _ _ _ _ (by show P ≠ Q; omega)).trans h.box, iv, wv, v, by simp [World.setCell, Array.getElem?_modify, b1], b2.kept fun k hk _ => Below.heap_setCell _ _ _ _ (by show k ≠ Q; omega), own_keepA b3 fun k hk _ => Below.heap_setCell _ _ _ _ (by show k ≠ Q; omega), own_keepA hv fun k hk _ => Below.heap_setCell _ _ _ _ (by show k ≠ Q; omega)⟩

theorem atomR_ok {fin : Int} {p : ByteArray → Bool} {l : List Tok} {op : Int} {s : List Tok × Int × ByteArray} (h : atomR p fin l op = .ok s) : s.1 <:+ l ∧ s.1.length < l.length ∧ s.2.1 = op ∧ p s.2.2 = true := by
 unfold atomR at h
 cases ht : takeR fin 3 p l op with
 | bad y q => rw [ht] at h; cases h
 | ok x =>
  obtain ⟨l', op'⟩ := x
  rw [ht] at h
  injection h with h
  subst h
  obtain ⟨a, b⟩ := take_suf ht (by decide)
  obtain ⟨_, _, c, _⟩ := takeR_ok ht (by decide)
  exact ⟨a, b, takeR_op ht, c⟩
theorem IO.le {B C : Nat} {w : World} {its : List Itm} {iv : Value} (h : IO B w its iv) (hC : C ≤ B) : IO C w its iv := by
 obtain ⟨vs, h1, h2, h3⟩ := h
 exact ⟨vs, h1, own_le h2 hC, fun i it v a b => ⟨own_le (h3 i it v a b).1 hC, (h3 i it v a b).2⟩⟩
theorem IO.shape {B : Nat} {w : World} {its : List Itm} {iv : Value} (h : IO B w its iv) : ∃ ao cap, iv = .slice ao its.length cap := by
 obtain ⟨vs, h1, h2, h3⟩ := h
 exact own_shape h2
/-- all that lay lies as it did, but the walk's block and the query's -/
structure FrQ (A Q : Nat) (w w' : World) : Prop where
 size : w.heap.size ≤ w'.heap.size
 block : ∀ k, k < w.heap.size → k ≠ A → k ≠ Q → w'.heap[k]? = w.heap[k]?
theorem FrQ.refl (A Q : Nat) (w : World) : FrQ A Q w w := ⟨Nat.le_refl _, fun _ _ _ _ => rfl⟩
theorem FrQ.gb {A Q : Nat} {w w1 w2 : World} (h : FrQ A Q w w1) (k : w1.grownBy w2 (some A)) : FrQ A Q w w2 :=
 ⟨Nat.le_trans h.size k.size, fun i hi hne h2 => (k.block i (by have := h.size; omega) (by intro e; injection e; omega)).trans (h.block i hi hne h2)⟩
theorem FrQ.bel {A Q : Nat} {w w1 w2 : World} (h : FrQ A Q w w1) (k : Below w1.heap.size w1 w2) : FrQ A Q w w2 := h.gb (below_gb k)
theorem FrQ.set {A Q j : Nat} {w w1 : World} {v : Value} (h : FrQ A Q w w1) : FrQ A Q w (w1.setCell ⟨Q, j, none⟩ v) :=
 ⟨by rw [setCell_size]; exact h.size, fun i hi hne h2 => (Below.heap_setCell _ _ _ _ h2).trans (h.block i hi hne h2)⟩
/-- what a clause's reader comes to -/
def RdP (A P Q : Nat) (fin : Int) (w wr : World) (R : Res QS) (e : Ending) (w' : World) : Prop :=
 match R with
 | .ok s => e = .returned (.tuple #[]) ∧ (∃ sv, QrS A P Q s.2.2 s.1 fin s.2.1 sv w w') ∧ FrQ A Q wr w'
 | .bad y p => e = .panicked [flt y p] ∧ w.grownBy w' (some A)
theorem RdP.bad {A P Q : Nat} {fin y p : Int} {w wr : World} {R : Res QS} {w' : World} (h : R = .bad y p) (hg : w.grownBy w' (some A)) : RdP A P Q fin w wr R (.panicked [flt y p]) w' := by subst h; exact ⟨rfl, hg⟩

theorem RdP.ok {A P Q : Nat} {fin : Int} {sv : Value} {s : QS} {w wr : World} {R : Res QS} {w' : World} (h : .ok s = R) (hq : QrS A P Q s.2.2 s.1 fin s.2.1 sv w w') (hf : FrQ A Q wr w') : RdP A P Q fin w wr R (.returned (.tuple #[])) w' := by subst h; exact ⟨rfl, ⟨_, hq⟩, hf⟩

set_option maxHeartbeats 2000000 in
set_option maxRecDepth 100000 in
theorem read0_any {A P Q : Nat} {q : Qry} {l : List Tok} {fin op : Int} {sv : Value} {w wr : World} (H : QrS A P Q q l fin op sv w wr) :
  Calls Tryz.prog 82 #[.pointer (some ⟨P, 0, none⟩), .pointer (some ⟨Q, 0, none⟩)] wr fun e w' => RdP A P Q fin w wr (readR 0 fin (l, op, q)) e w' := by
 obtain ⟨R, hR⟩ : ∃ R, readR 0 fin (l, op, q) = R := ⟨_, rfl⟩
 rw [hR]
 unfold readR at hR
 simp only at hR
 have HH := Lib.hid H
 have hPQ := H.hQ
 have c0 := H.cP
 clear H
 go_enter Tryz.func82, Tryz.ntmps82
 have hcol := wname_any HH.out.it.at_ HH.out.it.glob HH.out.sz
 cases ha : atomR nameR fin l op with
 | bad y q' =>
  rw [ha] at hcol hR
  simp only [Res.then] at hR
  have HR := Lib.hid hR.symm
  have HCO := Lib.hid hcol
  clear hcol ha hR
  go_wp2_with (go_at_call 81; refine HCO.out.mono ?_; rintro e w4 ⟨rfl, hg⟩; refine Hid.out ?_)
  refine Lib.hid ?_
  exact ⟨rfl, RdP.bad HR.out (gb_trans HH.out.it.gb hg)⟩
 | ok s =>
  obtain ⟨l1, op1, x1⟩ := s
  rw [ha] at hcol hR
  simp only [Res.then] at hR
  have HR := Lib.hid hR
  have HCO := Lib.hid hcol
  have HA := Lib.hid (atomR_ok ha)
  clear hcol ha hR
  go_wp2_with (go_at_call 81; refine HCO.out.mono ?_; rintro e w4 ⟨rfl, ha4, hg4⟩; refine Hid.out ?_)
  refine Lib.hid ?_
  have H4 := Lib.hid (HH.out.step ha4 hg4 (by rw [HA.out.2.2.1]; exact HH.out.op_) HA.out.1)
  obtain ⟨v4, c4⟩ := H4.out.blk.cell 2 (by decide)
  have f4 := H4.out.blk.free 2
  have H5 := Lib.hid (H4.out.putS 2 (by decide) x1)
  have c5 := H5.out.cP
  have HF4 := Lib.hid ((FrQ.refl A Q wr).gb hg4)
  clear ha4 hg4 c0
  have hcol := wcolumn_any H5.out.it.at_ H5.out.it.glob H5.out.sz
  have hR := HR.out
  cases ha : atomR columnR fin l1 op1 with
  | bad y q' =>
   rw [ha] at hcol hR
   simp only at hR
   have HR := Lib.hid hR.symm
   have HCO := Lib.hid hcol
   clear hcol ha hR
   go_wp2_with (go_at_call 83; refine HCO.out.mono ?_; rintro e w6 ⟨rfl, hg⟩; refine Hid.out ?_)
   refine Lib.hid ?_
   exact ⟨rfl, RdP.bad HR.out (gb_trans H5.out.it.gb hg)⟩
  | ok s =>
   obtain ⟨l2, op2, x2⟩ := s
   rw [ha] at hcol hR
   simp only at hR
   have HR := Lib.hid hR
   have HCO := Lib.hid hcol
   have HA := Lib.hid (atomR_ok ha)
   clear hcol ha hR
   go_wp2_with (go_at_call 83; refine HCO.out.mono ?_; rintro e w6 ⟨rfl, ha6, hg6⟩; refine Hid.out ?_)
   refine Lib.hid ?_
   have H6 := Lib.hid (H5.out.step ha6 hg6 (by rw [HA.out.2.2.1]; exact H5.out.op_) HA.out.1)
   obtain ⟨v6, c6⟩ := H6.out.blk.cell 3 (by decide)
   have f6 := H6.out.blk.free 3
   have H7 := Lib.hid (H6.out.putS 3 (by decide) x2)
   have c7 := H7.out.cP
   have HF6 := Lib.hid ((HF4.out.set (j := 2) (v := .string x1)).gb hg6)
   clear ha6 hg6 c5 c4 f4
   have hcol := wcolumn_any H7.out.it.at_ H7.out.it.glob H7.out.sz
   have hR := HR.out
   cases ha : atomR columnR fin l2 op2 with
   | bad y q' =>
    rw [ha] at hcol hR
    simp only at hR
    have HR := Lib.hid hR.symm
    have HCO := Lib.hid hcol
    clear hcol ha hR
    go_wp2_with (go_at_call 83; refine HCO.out.mono ?_; rintro e w8 ⟨rfl, hg⟩; refine Hid.out ?_)
    refine Lib.hid ?_
    exact ⟨rfl, RdP.bad HR.out (gb_trans H7.out.it.gb hg)⟩
   | ok s =>
    obtain ⟨l3, op3, x3⟩ := s
    rw [ha] at hcol hR
    simp only at hR
    have HR := Lib.hid hR
    have HCO := Lib.hid hcol
    have HA := Lib.hid (atomR_ok ha)
    clear hcol ha hR
    go_wp2_with (go_at_call 83; refine HCO.out.mono ?_; rintro e w8 ⟨rfl, ha8, hg8⟩; refine Hid.out ?_)
    refine Lib.hid ?_
    have H8 := Lib.hid (H7.out.step ha8 hg8 (by rw [HA.out.2.2.1]; exact H7.out.op_) HA.out.1)
    obtain ⟨v8, c8⟩ := H8.out.blk.cell 4 (by decide)
    have f8 := H8.out.blk.free 4
    have H9 := Lib.hid (H8.out.putS 4 (by decide) x3)
    have HF8 := Lib.hid ((HF6.out.set (j := 3) (v := .string x2)).gb hg8)
    clear ha8 hg8 c7 c6 f6
    go_wp2_with fail
    refine bodyPost_end (results_none rfl _ _ _) rfl ?_
    exact RdP.ok HR.out H9.out HF8.out.set

set_option maxHeartbeats 2000000 in
set_option maxRecDepth 100000 in
theorem read1_any {A P Q : Nat} {q : Qry} {l : List Tok} {fin op : Int} {sv : Value} {w wr : World} (H : QrS A P Q q l fin op sv w wr) :
  Calls Tryz.prog 84 #[.pointer (some ⟨P, 0, none⟩), .pointer (some ⟨Q, 0, none⟩)] wr fun e w' => RdP A P Q fin w wr (readR 1 fin (l, op, q)) e w' := by
 obtain ⟨R, hR⟩ : ∃ R, readR 1 fin (l, op, q) = R := ⟨_, rfl⟩
 rw [hR]
 unfold readR at hR
 simp only at hR
 have HH := Lib.hid H
 have c0 := H.cP
 have hQb := H.blk.lt
 clear H
 go_enter Tryz.func84, Tryz.ntmps84
 have hcol := whole_any HH.out.it.at_ HH.out.it.glob HH.out.it.hA8 HH.out.op_ HH.out.sz HH.out.ll
 cases ha : wholeR fin l op with
 | bad y q' =>
  rw [ha] at hcol hR
  simp only [Res.then] at hR
  have HR := Lib.hid hR.symm
  have HCO := Lib.hid hcol
  clear hcol ha hR
  go_wp2_with (go_at_call 85; refine HCO.out.mono ?_; rintro e w4 ⟨rfl, hg⟩; refine Hid.out ?_)
  refine Lib.hid ?_
  exact ⟨rfl, RdP.bad HR.out (gb_trans HH.out.it.gb hg)⟩
 | ok s =>
  obtain ⟨l1, op1, x1⟩ := s
  rw [ha] at hcol hR
  simp only [Res.then] at hR
  have HR := Lib.hid hR
  have HCO := Lib.hid hcol
  have HA := Lib.hid (exprR_ok fin _ _ _ _ _ ha)
  clear hcol ha hR
  go_wp2_with (go_at_call 85; refine HCO.out.mono ?_; rintro e w4 ⟨⟨v, rfl, ha4, ho⟩, hg4⟩; refine Hid.out ?_)
  refine Lib.hid ?_
  have H4 := Lib.hid (HH.out.step ha4 hg4 (Eq.mpr (congrArg OpOk HA.out.2.2.2) HH.out.op_) HA.out.1)
  obtain ⟨v4, c4⟩ := H4.out.blk.cell 5 (by decide)
  have f4 := H4.out.blk.free 5
  have H5 := Lib.hid (H4.out.putW (own_le ho (by omega)))
  obtain ⟨so, scap, rfl⟩ := own_shape ho
  have HF4 := Lib.hid ((FrQ.refl A Q wr).gb hg4)
  clear ha4 hg4 ho c0
  go_wp2_with fail
  refine bodyPost_end (results_none rfl _ _ _) rfl ?_
  exact RdP.ok HR.out H5.out HF4.out.set

theorem someR_ok {α : Type} {one : List Tok → Int → Res (List Tok × Int × α)} {fin : Int} (hone : ∀ l op s, one l op = .ok s → s.1 <:+ l ∧ s.2.1 = op) : ∀ (m : Nat) (out : List α) (l : List Tok) (op : Int) (s : List Tok × Int × List α), someR one fin m out l op = .ok s → s.1 <:+ l ∧ s.2.1 = op
 | 0, _, _, _, _, h => by cases h
 | m + 1, out, l, op, s, h => by
  rw [someR] at h
  split at h
  ·
   split at h
   ·
    cases ho : one l op with
    | bad y q => rw [ho] at h; cases h
    | ok x =>
     rw [ho] at h
     obtain ⟨a, b⟩ := someR_ok hone m _ _ _ s h
     obtain ⟨c, d⟩ := hone _ _ _ ho
     exact ⟨a.trans c, b.trans d⟩
   ·
    cases h
  ·
   injection h with h
   subst h
   exact ⟨List.suffix_refl _, rfl⟩

set_option maxHeartbeats 2000000 in
set_option maxRecDepth 100000 in
theorem read2_any {A P Q : Nat} {q : Qry} {l : List Tok} {fin op : Int} {sv : Value} {w wr : World} (H : QrS A P Q q l fin op sv w wr) :
  Calls Tryz.prog 86 #[.pointer (some ⟨P, 0, none⟩), .pointer (some ⟨Q, 0, none⟩)] wr fun e w' => RdP A P Q fin w wr (readR 2 fin (l, op, q)) e w' := by
 obtain ⟨R, hR⟩ : ∃ R, readR 2 fin (l, op, q) = R := ⟨_, rfl⟩
 rw [hR]
 unfold readR at hR
 simp only at hR
 have HH := Lib.hid H
 have c0 := H.cP
 have hQb := H.blk.lt
 clear H
 go_enter Tryz.func86, Tryz.ntmps86
 have hcol := someStr_any HH.out.it.at_ HH.out.it.glob HH.out.it.hA8 HH.out.op_ HH.out.sz
 cases ha : someR (atomR columnR fin) fin (l.length + 2) [] l op with
 | bad y q' =>
  rw [ha] at hcol hR
  simp only [Res.then] at hR
  have HR := Lib.hid hR.symm
  have HCO := Lib.hid hcol
  clear hcol ha hR
  go_wp2_with (go_at_call 87; refine HCO.out.mono ?_; rintro e w4 ⟨rfl, hg⟩; refine Hid.out ?_)
  refine Lib.hid ?_
  exact ⟨rfl, RdP.bad HR.out (gb_trans HH.out.it.gb hg)⟩
 | ok s =>
  obtain ⟨l1, op1, x1⟩ := s
  rw [ha] at hcol hR
  simp only [Res.then] at hR
  have HR := Lib.hid hR
  have HCO := Lib.hid hcol
  have HA := Lib.hid (someR_ok (fun l op s h => ⟨(atomR_ok h).1, (atomR_ok h).2.2.1⟩) _ _ _ _ _ ha)
  clear hcol ha hR
  go_wp2_with (go_at_call 87; refine HCO.out.mono ?_; rintro e w4 ⟨⟨v, sv', rfl, ha4, ho⟩, hg4⟩; refine Hid.out ?_)
  refine Lib.hid ?_
  have H4 := Lib.hid (HH.out.step ha4 hg4 (Eq.mpr (congrArg OpOk HA.out.2) HH.out.op_) HA.out.1)
  obtain ⟨v4, c4⟩ := H4.out.blk.cell 6 (by decide)
  have f4 := H4.out.blk.free 6
  have H5 := Lib.hid (H4.out.putG (own_le ho (by omega)))
  obtain ⟨so, scap, rfl⟩ := own_shape ho
  have HF4 := Lib.hid ((FrQ.refl A Q wr).gb hg4)
  clear ha4 hg4 ho c0
  go_wp2_with fail
  refine bodyPost_end (results_none rfl _ _ _) rfl ?_
  exact RdP.ok HR.out H5.out HF4.out.set

set_option maxHeartbeats 2000000 in
set_option maxRecDepth 100000 in
theorem read3_any {A P Q : Nat} {q : Qry} {l : List Tok} {fin op : Int} {sv : Value} {w wr : World} (H : QrS A P Q q l fin op sv w wr) :
  Calls Tryz.prog 88 #[.pointer (some ⟨P, 0, none⟩), .pointer (some ⟨Q, 0, none⟩)] wr fun e w' => RdP A P Q fin w wr (readR 3 fin (l, op, q)) e w' := by
 obtain ⟨R, hR⟩ : ∃ R, readR 3 fin (l, op, q) = R := ⟨_, rfl⟩
 rw [hR]
 unfold readR at hR
 simp only at hR
 have HH := Lib.hid H
 have c0 := H.cP
 have hQb := H.blk.lt
 clear H
 go_enter Tryz.func88, Tryz.ntmps88
 have hcol := someItm_any HH.out.it.at_ HH.out.it.glob HH.out.it.hA8 HH.out.op_ HH.out.sz HH.out.ll
 cases ha : someR (itemR fin) fin (l.length + 2) [] l op with
 | bad y q' =>
  rw [ha] at hcol hR
  simp only [Res.then] at hR
  have HR := Lib.hid hR.symm
  have HCO := Lib.hid hcol
  clear hcol ha hR
  go_wp2_with (go_at_call 89; refine HCO.out.mono ?_; rintro e w4 ⟨rfl, hg⟩; refine Hid.out ?_)
  refine Lib.hid ?_
  exact ⟨rfl, RdP.bad HR.out (gb_trans HH.out.it.gb hg)⟩
 | ok s =>
  obtain ⟨l1, op1, x1⟩ := s
  rw [ha] at hcol hR
  simp only [Res.then] at hR
  have HR := Lib.hid hR
  have HCO := Lib.hid hcol
  have HA := Lib.hid (someR_ok (fun l op s h => ⟨(itemR_ok h).1, (itemR_ok h).2.2.2.1⟩) _ _ _ _ _ ha)
  clear hcol ha hR
  go_wp2_with (go_at_call 89; refine HCO.out.mono ?_; rintro e w4 ⟨⟨v, sv', rfl, ha4, ho⟩, hg4⟩; refine Hid.out ?_)
  refine Lib.hid ?_
  have H4 := Lib.hid (HH.out.step ha4 hg4 (Eq.mpr (congrArg OpOk HA.out.2) HH.out.op_) HA.out.1)
  obtain ⟨v4, c4⟩ := H4.out.blk.cell 0 (by decide)
  have f4 := H4.out.blk.free 0
  have H5 := Lib.hid (H4.out.putI (ho.le (by omega)))
  obtain ⟨so, scap, rfl⟩ := ho.shape
  have HF4 := Lib.hid ((FrQ.refl A Q wr).gb hg4)
  clear ha4 hg4 ho c0
  go_wp2_with fail
  refine bodyPost_end (results_none rfl _ _ _) rfl ?_
  exact RdP.ok HR.out H5.out HF4.out.set
end Go.Proofs.YtgjfbbmachoolaaGreatDoor.lx
