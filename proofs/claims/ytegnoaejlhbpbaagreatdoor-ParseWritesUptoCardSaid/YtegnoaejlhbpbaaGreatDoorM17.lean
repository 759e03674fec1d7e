/-
  What a call owns can be read. No condition. value.Runes: how many runes a text has. Conditions: the text is no great one. Parse, for every text. Conditions: the package-level variables are laid. The text of a step that takes nothing (parse.leaf). Conditions: the package-level variables are laid; the step's text is no great one, its number is one of 64 bits. What stands in brackets (parse.bracket). Conditions: the texts lie there; all of them together are no great ones. slices.Concat of two rows of texts. Conditions: they lie there, neither is empty, both together are no great ones.
-/
import Derived.Test.YtegnoaejlhbpbaaGreatDoorM15
import Derived.Test.YtegnoaejlhbpbaaGreatDoorM05
import Derived.Test.YtegnoaejlhbpbaaGreatDoorM16
namespace Go.Proofs.YtegnoaejlhbpbaaGreatDoor.lx
open Go.RowKit

theorem own_cells {w : World} {B n : Nat} {e : TypeId} {size : Nat} {v : Value} {xs : List Value} (h : w.ownsRow B e size v n xs) :
    ∃ ao cap, v = .slice ao n cap ∧ n ≤ cap ∧ (n = 0 ∨ ∃ g, ao = some ⟨g, 0, none⟩ ∧ B ≤ g ∧ g < w.heap.size ∧ ∀ (j : Nat) u, xs[j]? = some u → w.cell? ⟨g, j, none⟩ = some u) := by
  rcases h.2 with ⟨hv, h0⟩ | ⟨g, cap, cur, hv, hb, hg, h1, h2, h3, h4⟩
  · exact ⟨none, 0, by rw [hv, h0], by omega, .inl h0⟩
  · refine ⟨_, cap, hv, h1, .inr ⟨g, rfl, hb, (Array.getElem?_eq_some_iff.1 hg).1, fun j u hu => ?_⟩⟩
    rw [Lib.cell_of_heap hg]
    rw [← h4] at hu
    have hj : j < n * size := by
      by_cases hj : j < n * size
      · exact hj
      · rw [List.getElem?_eq_none (by rw [List.length_take]; omega)] at hu; cases hu
    rw [List.getElem?_take_of_lt hj] at hu
    simpa using hu
theorem stpCells_at : ∀ (ts : List Stp) (i : Nat) (t : Stp) (j : Nat), ts[i]? = some t → j < 3 → (stpCells ts)[i * 3 + j]? = t.cells[j]?
  | [], i, t, j, h, _ => by simp at h
  | x :: ts, 0, t, j, h, hj => by
    simp at h
    subst h
    rw [stpCells, List.flatMap_cons, List.getElem?_append_left (by simp [Stp.cells]; omega)]
    simp
  | x :: ts, i + 1, t, j, h, hj => by
    have := stpCells_at ts i t j (by simpa using h) hj
    rw [stpCells, List.flatMap_cons, List.getElem?_append_right (by simp [Stp.cells]; omega)]
    have e : (i + 1) * 3 + j - x.cells.length = i * 3 + j := by simp [Stp.cells]; omega
    rw [e]
    exact this
theorem itmCells_at : ∀ (its : List Itm) (vs : List Value) (i : Nat) (it : Itm) (v : Value), its[i]? = some it → vs[i]? = some v → (itmCells its vs)[i * 2]? = some (.int .u8 it.agg) ∧ (itmCells its vs)[i * 2 + 1]? = some v
  | [], _, i, _, _, h, _ => by simp at h
  | _ :: _, [], i, _, _, _, h => by simp at h
  | x :: its, y :: vs, 0, it, v, h, k => by
    simp at h k
    subst h
    subst k
    exact ⟨rfl, rfl⟩
  | x :: its, y :: vs, i + 1, it, v, h, k => by
    obtain ⟨a, b⟩ := itmCells_at its vs i it v (by simpa using h) (by simpa using k)
    have e1 : (i + 1) * 2 = i * 2 + 2 := by omega
    have e2 : (i + 1) * 2 + 1 = i * 2 + 1 + 2 := by omega
    rw [e2, e1]
    exact ⟨a, b⟩
theorem own_stps {w : World} {B : Nat} {v : Value} {L : List Stp} (h : w.ownsRow B 29 3 v L.length (stpCells L)) : ∃ ao cap, v = .slice ao L.length cap ∧ StpRow ao L w := by
  obtain ⟨ao, cap, hv, _, h0⟩ := own_cells h
  refine ⟨ao, cap, hv, ?_⟩
  rcases h0 with h0 | ⟨g, h1, _, _, h2⟩
  · exact .inl h0
  · refine .inr ⟨g, 0, h1, fun i t ht => ?_⟩
    have := fun j (hj : j < 3) u (hu : t.cells[j]? = some u) => h2 _ u ((stpCells_at L i t j ht hj).trans hu)
    simp only [Nat.zero_add]
    exact ⟨this 0 (by omega) _ rfl, this 1 (by omega) _ rfl, this 2 (by omega) _ rfl⟩
theorem own_txts {w : World} {B : Nat} {v : Value} {L : List ByteArray} (h : w.ownsRow B 9 1 v L.length (L.map Value.string)) : ∃ ao cap, v = .slice ao L.length cap ∧ TxtRow ao L w := by
  obtain ⟨ao, cap, hv, _, h0⟩ := own_cells h
  refine ⟨ao, cap, hv, ?_⟩
  rcases h0 with h0 | ⟨g, h1, _, _, h2⟩
  · exact .inl h0
  · refine .inr ⟨g, 0, h1, fun i s hs => ?_⟩
    rw [Nat.zero_add]
    exact h2 i _ (by rw [List.getElem?_map, hs]; rfl)
theorem IO.row {B : Nat} {w : World} {its : List Itm} {iv : Value} (h : IO B w its iv) : ∃ ao cap, iv = .slice ao its.length cap ∧ ItmRow ao its w := by
  obtain ⟨vs, hl, ho, hx⟩ := h
  obtain ⟨ao, cap, hv, _, h0⟩ := own_cells ho
  refine ⟨ao, cap, hv, ?_⟩
  rcases h0 with h0 | ⟨g, h1, _, _, h2⟩
  · exact .inl h0
  · refine .inr ⟨g, 0, h1, fun i it hi => ?_⟩
    have hil := (List.getElem?_eq_some_iff.1 hi).1
    obtain ⟨v, hvi⟩ : ∃ v, vs[i]? = some v := ⟨_, List.getElem?_eq_getElem (by omega)⟩
    obtain ⟨a, b⟩ := itmCells_at its vs i it v hi hvi
    obtain ⟨eo, ec, he, hr⟩ := own_stps (hx i it v hi hvi).1
    subst he
    simp only [Nat.zero_add]
    exact ⟨eo, ec, h2 _ _ a, h2 _ _ b, hr⟩
theorem QryV.read {B : Nat} {q : Qry} {v : Value} {w : World} (h : QryV B q v w) : ∃ io ic wo wc go gc, v = .agg #[.slice io q.items.length ic, .string q.table, .string q.join, .string q.left, .string q.right, .slice wo q.wher.length wc, .slice go q.group.length gc] ∧ QryIn q io wo go w := by
  obtain ⟨iv, wv, gv, h1, h2, h3, h4⟩ := h
  obtain ⟨io, ic, rfl, hi⟩ := h2.row
  obtain ⟨wo, wc, rfl, hw⟩ := own_stps h3
  obtain ⟨go, gc, rfl, hg⟩ := own_txts h4
  exact ⟨io, ic, wo, wc, go, gc, h1, hi, hw, hg⟩
end Go.Proofs.YtegnoaejlhbpbaaGreatDoor.lx
namespace Go.Proofs.YtegnoaejlhbpbaaGreatDoor.lx
open Go.RowKit

set_option maxHeartbeats 2000000 in
set_option maxRecDepth 100000 in
theorem runes_any (s : ByteArray) (w : World) (hs : s.size ≤ 1099511627776) :
    Calls Tryz.prog 41 #[.string s] w fun e w' => e = .returned (.int .i64 (gl (B s)).length) ∧ Below w.heap.size w w' := by
  go_enter Tryz.func41, Tryz.ntmps41
  go_wp2_with fail
  go_loopw [3] (fun v wr => ∃ (pos k : Nat), v = .int .i64 k ∧ wr.heap[w.heap.size]? = some (.stringIter s pos) ∧ Below w.heap.size w wr ∧ Hid (k + (gl (B (s.extract pos s.size))).length = (gl (B s)).length) ∧ k ≤ pos ∧ pos ≤ s.size) (fun _ wr => s.size - wr.iterPos w.heap.size)
  case atStart =>
    refine ⟨0, 0, rfl, ?_, (Below.refl _ w).alloc (Nat.le_refl _) _, Lib.hid (by rw [all_rest]; simp), Nat.le_refl _, by omega⟩
    have := World.iter_heap w s 0
    simpa using this
  case round =>
    obtain ⟨pos, k, rfl, hit, hbr, HA, hkp, hps⟩ := hrel
    by_cases hp : pos < s.size
    · have hnxt : ∀ ty, (Instr.next (.pointer (some ⟨w.heap.size, 0, none⟩)) true ty).run Tryz.prog wr = _ := fun ty => Lib.run_next_any_at wr w.heap.size s pos ty hit hp
      have hwd : 1 ≤ (Utf8.decode s pos).2 := by rw [← dn_rest s pos hp]; exact (dn_bounds _ (by rw [rest_size]; omega)).1
      have hwe : pos + (Utf8.decode s pos).2 ≤ s.size := by
        have := (dn_bounds (s.extract pos s.size) (by rw [rest_size]; omega)).2.2
        rw [dn_rest s pos hp, rest_size] at this
        omega
      have hg : (gl (B (s.extract pos s.size))).length = (gl (B (s.extract (pos + (Utf8.decode s pos).2) s.size))).length + 1 := by
        rw [glB_cons (by rw [rest_size]; omega), adv_rest s pos hp, List.length_cons]
      obtain ⟨q, hq⟩ : ∃ q, pos + (Utf8.decode s pos).2 = q := ⟨_, rfl⟩
      have hit2 := Lib.iterAt_heap wr w.heap.size s pos q hit
      have hbr2 := Lib.below_iterAt hbr (k := w.heap.size) (Nat.le_refl _) s q
      rw [hq] at hnxt hwe hg
      have HM : Hid (s.size - q < s.size - wr.iterPos w.heap.size) := Lib.hid (by simp only [World.iterPos, hit]; omega)
      have HN : Hid (k + 1 + (gl (B (s.extract q s.size))).length = (gl (B s)).length) := Lib.hid (by have := HA.out; omega)
      have hpq : pos + 1 ≤ q := by omega
      clear HA hq hwd hbr hg
      go_wp2_with fail
      exact ⟨⟨q, k + 1, by go_num, hit2, hbr2, HN, by omega, hwe⟩, by simp only [World.iterPos, hit2]; exact HM.out⟩
    · have hnxt : ∀ ty, (Instr.next (.pointer (some ⟨w.heap.size, 0, none⟩)) true ty).run Tryz.prog wr = _ := fun ty => Lib.run_next_end_at wr w.heap.size s pos ty hit hp
      have HF : Hid ((k : Int) = ((gl (B s)).length : Int)) := Lib.hid (by
        have := HA.out
        rw [glB_nil (by rw [rest_size]; omega)] at this
        simp at this
        omega)
      clear HA
      go_wp2_with fail
      go_ret
      exact ⟨ret_int HF.out, hbr⟩
end Go.Proofs.YtegnoaejlhbpbaaGreatDoor.lx
namespace Go.Proofs.YtegnoaejlhbpbaaGreatDoor.lx
open Go.RowKit

/-- what Parse computes -/
def parseR (s : ByteArray) : Qry × Int × Int :=
  if (lexR s).2.1 ≠ 0 then (Qry.none, (lexR s).2.1, (lexR s).2.2)
  else match queryR (gl (B s)).length (lexR s).1 with
    | .bad y p => (Qry.none, y, p)
    | .ok q => if checkR q ≠ 0 then (Qry.none, 13, 0) else (q, 0, 0)
/-- what it comes to -/
def ParseP (w : World) (R : Qry × Int × Int) (e : Ending) (w' : World) : Prop :=
  ∃ v, e = .returned (.tuple #[v, .int .i64 R.2.1, .int .i64 R.2.2]) ∧ QryV w.heap.size R.1 v w' ∧ Below w.heap.size w w'
theorem results3 {fn : Func} {a b c : Tmp} (hf : fn.results = #[.cell a 26, .cell b 30, .cell c 3]) {tmps : Array Value} {Q : Nat} {v : Array Value} {y p : Int} {w : World} (h : PHas Q v y p w) (hv : v.size = 7)
    (ha : tmps.getD a undef = .pointer (some ⟨Q, 0, none⟩)) (hb : tmps.getD b undef = .pointer (some ⟨Q + 1, 0, none⟩)) (hc : tmps.getD c undef = .pointer (some ⟨Q + 2, 0, none⟩)) :
    (results fn tmps).run Tryz.prog w = .ok (.tuple #[.agg v, .int .i64 y, .int .i64 p]) w := by
  have cy : w.cell? ⟨Q + 1, 0, none⟩ = some (.int .i64 y) := by rw [Lib.cell_of_heap h.y]; rfl
  have cp : w.cell? ⟨Q + 2, 0, none⟩ = some (.int .i64 p) := by rw [Lib.cell_of_heap h.p]; rfl
  have hq := run_loadVar_row (P := Tryz.prog) w Q 26 26 v (0, 0) _ h.q Tryz.underlying26 rfl (by rw [show (Tryz.prog.info? 26).map (·.size) = some 7 by kernel_rfl, hv])
  have e : (results fn tmps).run Tryz.prog w = ((asAddr (tmps.getD a undef)).run Tryz.prog w).andThen fun a w₁ => ((loadVar 26 a).run Tryz.prog w₁).andThen fun x w₂ =>
      ((asAddr (tmps.getD b undef)).run Tryz.prog w₂).andThen fun b w₃ => ((loadVar 30 b).run Tryz.prog w₃).andThen fun y w₄ => ((asAddr (tmps.getD c undef)).run Tryz.prog w₄).andThen fun c w₅ => ((loadVar 3 c).run Tryz.prog w₅).andThen fun z w₆ => .ok (.tuple #[x, y, z]) w₆ := by
    simp only [results, hf]
    simp [Sem.run_bind, Result.andThen]
  rw [e, ha, hb, hc]
  simp [asAddr, hq, Result.andThen]
  simp [go_sem, cy, cp]

theorem own_cap {w : World} {B n : Nat} {e : TypeId} {size : Nat} {ao : Option Addr} {cap : Nat} {xs : List Value} (h : w.ownsRow B e size (.slice ao n cap) n xs) : n ≤ cap ∧ cap ≤ 9223372036854775807 := by
  rcases h.2 with ⟨hv, h0⟩ | ⟨g, c, cur, hv, _, _, h1, h2, _⟩
  · injection hv with _ _ hc
    subst hc
    exact ⟨by omega, by decide⟩
  · injection hv with _ _ hc
    subst hc
    exact ⟨h1, h2⟩
theorem trow_below {A : Nat} {ao : Option Addr} {L : List Tok} {w w' : World} (h : TRow A ao L w) (hb : Below A w w') : TRow A ao L w' := h.kept fun k hk => hb.block k hk
theorem PHas.below {Q : Nat} {v : Array Value} {y p : Int} {w w' : World} (h : PHas Q v y p w) (hb : Below w.heap.size w w') : PHas Q v y p w' :=
  ⟨(hb.block _ (Array.getElem?_eq_some_iff.1 h.q).1).trans h.q, (hb.block _ (Array.getElem?_eq_some_iff.1 h.y).1).trans h.y, (hb.block _ (Array.getElem?_eq_some_iff.1 h.p).1).trans h.p⟩
theorem PHas.gb {Q A : Nat} {v : Array Value} {y p : Int} {w w' : World} (h : PHas Q v y p w) (hg : w.grownBy w' (some A)) (hA : Q + 2 < A) : PHas Q v y p w' :=
  ⟨(hg.block _ (Array.getElem?_eq_some_iff.1 h.q).1 (by intro e; injection e; omega)).trans h.q, (hg.block _ (Array.getElem?_eq_some_iff.1 h.y).1 (by intro e; injection e; omega)).trans h.y, (hg.block _ (Array.getElem?_eq_some_iff.1 h.p).1 (by intro e; injection e; omega)).trans h.p⟩
theorem PHas.res {Q : Nat} {a b c d e f g : Value} {y p : Int} {w : World} (h : PHas Q #[a, b, c, d, e, f, g] y p w) : PRes Q w := ⟨⟨_, _, _, _, _, _, _, h.q⟩, ⟨_, h.y⟩, ⟨_, h.p⟩⟩
theorem below_gbB {B A : Nat} {w w1 w2 : World} (h : Below B w w1) (hg : w1.grownBy w2 (some A)) (hA : B ≤ A) (hB : B ≤ w1.heap.size) : Below B w w2 :=
  h.trans ⟨hg.os, hg.tape, hg.output, hg.size, fun k hk => hg.block k (by omega) (by intro e; injection e; omega)⟩
theorem settle_recovered {v : Value} : settle (.panicking [{ v := v, recovered := true }]) = .returning := by simp [settle]
theorem has7 {Q : Nat} {a b c d e f g a' b' c' d' e' f' g' : Value} {y p : Int} {w : World} (h : PHas Q #[a', b', c', d', e', f', g'] y p w) : PHas Q #[a, b, c, d, e, f, g] y p (set7 Q a b c d e f g w) :=
  ⟨set7_at h.q, (set7_ne (by omega)).trans h.y, (set7_ne (by omega)).trans h.p⟩
theorem below7 {Q : Nat} {a b c d e f g : Value} {w w' : World} (h : Below Q w w') : Below Q w (set7 Q a b c d e f g w') := by
  unfold set7
  exact ((((((h.setCell (p := ⟨Q, 0, none⟩) (Nat.le_refl _) _).setCell (p := ⟨Q, 1, none⟩) (Nat.le_refl _) _).setCell (p := ⟨Q, 2, none⟩) (Nat.le_refl _) _).setCell (p := ⟨Q, 3, none⟩) (Nat.le_refl _) _).setCell (p := ⟨Q, 4, none⟩) (Nat.le_refl _) _).setCell (p := ⟨Q, 5, none⟩) (Nat.le_refl _) _).setCell (p := ⟨Q, 6, none⟩) (Nat.le_refl _) _
theorem below2 {Q : Nat} {y p : Value} {w w' : World} (h : Below Q w w') : Below Q w ((w'.setCell ⟨Q + 1, 0, none⟩ y).setCell ⟨Q + 1 + 1, 0, none⟩ p) :=
  (h.setCell (p := ⟨Q + 1, 0, none⟩) (Nat.le_succ _) _).setCell (p := ⟨Q + 1 + 1, 0, none⟩) (by show Q ≤ Q + 1 + 1; omega) _
theorem PHas.drew {Q : Nat} {v : Array Value} {y p : Int} {w : World} (h : PHas Q v y p w) : PHas Q v y p w.drew := ⟨h.q, h.y, h.p⟩
theorem ParseP.none {w : World} {y p : Int} {R : Qry × Int × Int} {w' : World} (h : (Qry.none, y, p) = R) (hb : Below w.heap.size w w') : ParseP w R (.returned (.tuple #[.agg zeroQ, .int .i64 y, .int .i64 p])) w' := by
  subst h
  exact ⟨_, rfl, ⟨_, _, _, rfl, IO.nil _ _, World.ownsRow_nil _ _ _ _, World.ownsRow_nil _ _ _ _⟩, hb⟩
theorem ParseP.some {w : World} {q : Qry} {v : Value} {R : Qry × Int × Int} {w' : World} (h : (q, (0 : Int), (0 : Int)) = R) (hv : QryV w.heap.size q v w') (hb : Below w.heap.size w w') : ParseP w R (.returned (.tuple #[v, .int .i64 0, .int .i64 0])) w' := by
  subst h
  exact ⟨_, rfl, hv, hb⟩
theorem kept9 {Q k : Nat} {a b c d e f g y p : Value} {w : World} (hk : Q + 2 < k) : (((set7 Q a b c d e f g w).setCell ⟨Q + 1, 0, none⟩ y).setCell ⟨Q + 1 + 1, 0, none⟩ p).heap[k]? = w.heap[k]? :=
  (Below.heap_setCell _ _ _ _ (by show k ≠ Q + 1 + 1; omega)).trans ((Below.heap_setCell _ _ _ _ (by show k ≠ Q + 1; omega)).trans (set7_ne (by omega)))
theorem phas_set {Q : Nat} {v : Array Value} {y p : Int} {w : World} (h : PHas Q v y p w) (y' p' : Int) : PHas Q v y' p' ((w.setCell ⟨Q + 1, 0, none⟩ (.int .i64 y')).setCell ⟨Q + 1 + 1, 0, none⟩ (.int .i64 p')) := by
  refine ⟨?_, ?_, ?_⟩
  · exact (Below.heap_setCell _ _ _ _ (by show Q ≠ Q + 1 + 1; omega)).trans ((Below.heap_setCell _ _ _ _ (by show Q ≠ Q + 1; omega)).trans h.q)
  · refine (Below.heap_setCell _ _ _ _ (by show Q + 1 ≠ Q + 1 + 1; omega)).trans ?_
    have h1 : Boxed w (Q + 1) 30 (.int .i64 y) := h.y
    exact h1.set _
  · have h1 : Boxed (w.setCell ⟨Q + 1, 0, none⟩ (.int .i64 y')) (Q + 2) 3 (.int .i64 p) := (Below.heap_setCell _ _ _ _ (by show Q + 2 ≠ Q + 1; omega)).trans h.p
    exact h1.set _
theorem row_set {B Q : Nat} {lo : Option Addr} {lcap : Nat} {L : List Tok} {w : World} {u v : Value} (h : Row lo L w) (ho : w.ownsRow B 79 4 (.slice lo L.length lcap) L.length (tokCells L)) (hB : Q + 2 < B) : Row lo L ((w.setCell ⟨Q + 1, 0, none⟩ u).setCell ⟨Q + 1 + 1, 0, none⟩ v) := by
  rcases h with h | ⟨g, h1, h2⟩
  · exact .inl h
  · subst h1
    have hg := own_base ho g rfl
    refine .inr ⟨g, rfl, fun j x hx => ?_⟩
    have e : ((w.setCell ⟨Q + 1, 0, none⟩ u).setCell ⟨Q + 1 + 1, 0, none⟩ v).heap[g]? = w.heap[g]? := (Below.heap_setCell _ _ _ _ (by show g ≠ Q + 1 + 1; omega)).trans (Below.heap_setCell _ _ _ _ (by show g ≠ Q + 1; omega))
    exact (World.cell?_of_block (a := ⟨g, j, none⟩) e).trans (h2 j x hx)

set_option maxHeartbeats 4000000 in
set_option maxRecDepth 100000 in
theorem Parse_any (s : ByteArray) (w : World) (hG : PGlob w) (hs : s.size ≤ 9223372036854775807) :
    Calls Tryz.prog 18 #[.string s] w fun e w' => ParseP w (parseR s) e w' := by
  obtain ⟨R, hR⟩ : ∃ R, parseR s = R := ⟨_, rfl⟩
  rw [hR]
  unfold parseR at hR
  have hmf : ∀ (fn : Fn) (first cap : Array Value) (w : World), (Instr.makeFunc fn first cap).run Tryz.prog w = .ok (.func fn first cap) w := fun _ _ _ _ => rfl
  go_enter_defers Tryz.func18, Tryz.ntmps18
  go_wp2_with fail
  have hb0 : Below w.heap.size w (((w.alloc (.cells zeroQ 26)).alloc (.cells #[.int .i64 0] 30)).alloc (.cells #[.int .i64 0] 3)) := (((Below.refl _ w).alloc (Nat.le_refl _) _).alloc (by simp) _).alloc (by simp; omega) _
  have hp0 : PHas w.heap.size zeroQ 0 0 (((w.alloc (.cells zeroQ 26)).alloc (.cells #[.int .i64 0] 30)).alloc (.cells #[.int .i64 0] 3)) := by
    have e1 : (w.alloc (.cells zeroQ 26)).heap.size = w.heap.size + 1 := alloc_sz _ _
    have e2 : ((w.alloc (.cells zeroQ 26)).alloc (.cells #[.int .i64 0] 30)).heap.size = w.heap.size + 2 := by rw [alloc_sz, e1]
    refine ⟨?_, ?_, ?_⟩
    · rw [heap_alloc_old _ _ (by rw [e2]; omega), heap_alloc_old _ _ (by rw [e1]; omega)]
      exact heap_alloc_new _ _
    · rw [heap_alloc_old _ _ (by rw [e2]; omega), ← e1]
      exact heap_alloc_new _ _
    · rw [← e2]
      exact heap_alloc_new _ _
  obtain ⟨W0, hW0⟩ : ∃ W0, ((w.alloc (.cells zeroQ 26)).alloc (.cells #[.int .i64 0] 30)).alloc (.cells #[.int .i64 0] 3) = W0 := ⟨_, rfl⟩
  have hW0' := hW0
  unfold zeroQ at hW0'
  rw [hW0'] 
  rw [hW0] at hb0 hp0
  have HG0 := Lib.hid (hG.self hb0)
  have hG0 := Lib.hid hG
  have HB0 := Lib.hid hb0
  have HP0 := Lib.hid hp0
  have HLX := Lib.hid (Lex_any s W0 HG0.out.glob hs)
  have hsm := lexR_small s
  clear hG hb0 hp0 hW0 hW0'
  obtain ⟨L, hL⟩ : ∃ L, (lexR s).1 = L := ⟨_, rfl⟩
  obtain ⟨wy, hwy⟩ : ∃ wy, (lexR s).2.1 = wy := ⟨_, rfl⟩
  obtain ⟨wa, hwa⟩ : ∃ wa, (lexR s).2.2 = wa := ⟨_, rfl⟩
  have hlex : lexR s = (L, wy, wa) := by rw [← hL, ← hwy, ← hwa]
  rw [hL, hwy, hwa] at hR HLX
  rw [hL] at hsm
  have HSM := Lib.hid hsm
  have HLE := Lib.hid hlex
  clear hL hwy hwa hlex hsm
  go_wp2_with (go_at_call 39; refine HLX.out.mono ?_; rintro e w1 ⟨lv, rfl, hlo, hb1⟩; refine Hid.out ?_)
  refine Lib.hid ?_
  have HP1 : Hid (PHas w.heap.size zeroQ 0 0 w1) := Lib.hid ⟨(hb1.block _ (Array.getElem?_eq_some_iff.1 HP0.out.q).1).trans HP0.out.q, (hb1.block _ (Array.getElem?_eq_some_iff.1 HP0.out.y).1).trans HP0.out.y, (hb1.block _ (Array.getElem?_eq_some_iff.1 HP0.out.p).1).trans HP0.out.p⟩
  have HB1 := Lib.hid (below_self HB0.out hb1)
  have HG1 := Lib.hid (HG0.out.self hb1)
  have HLO := Lib.hid hlo
  obtain ⟨lo, lcap, hlv, hrow⟩ := own_row hlo
  subst hlv
  have HCP : Hid (L.length ≤ lcap ∧ lcap ≤ 9223372036854775807) := Lib.hid (own_cap hlo)
  have cy : w1.cell? ⟨w.heap.size + 1, 0, none⟩ = some (.int .i64 0) := by rw [Lib.cell_of_heap HP1.out.y]; rfl
  have fy : w1.frozen? ⟨w.heap.size + 1, 0, none⟩ = false := Lib.frozen_of_heap HP1.out.y 0
  have cp : w1.cell? ⟨w.heap.size + 1 + 1, 0, none⟩ = some (.int .i64 0) := by rw [Lib.cell_of_heap HP1.out.p]; rfl
  have fp : w1.frozen? ⟨w.heap.size + 1 + 1, 0, none⟩ = false := Lib.frozen_of_heap HP1.out.p 0
  have HRW := Lib.hid hrow
  clear hb1 hlo hrow HLX
  have HP2 : Hid (PHas w.heap.size zeroQ wy wa ((w1.setCell ⟨w.heap.size + 1, 0, none⟩ (.int .i64 wy)).setCell ⟨w.heap.size + 1 + 1, 0, none⟩ (.int .i64 wa))) := Lib.hid (phas_set HP1.out wy wa)
  have HB2 : Hid (Below w.heap.size w ((w1.setCell ⟨w.heap.size + 1, 0, none⟩ (.int .i64 wy)).setCell ⟨w.heap.size + 1 + 1, 0, none⟩ (.int .i64 wa))) := Lib.hid ((HB1.out.setCell (p := ⟨w.heap.size + 1, 0, none⟩) (Nat.le_succ _) _).setCell (p := ⟨w.heap.size + 1 + 1, 0, none⟩) (by show w.heap.size ≤ w.heap.size + 1 + 1; omega) _)
  have HRW2 : Hid (Row lo L ((w1.setCell ⟨w.heap.size + 1, 0, none⟩ (.int .i64 wy)).setCell ⟨w.heap.size + 1 + 1, 0, none⟩ (.int .i64 wa))) := Lib.hid (row_set HRW.out HLO.out (by have := (Array.getElem?_eq_some_iff.1 HP0.out.p).1; omega))
  clear HP1 HB1 HRW HLO HP0
  by_cases hy : wy = 0
  · subst hy
    have hsz : s.size ≤ 2048 := by
      by_cases h : 2048 < s.size
      · have := HLE.out; rw [lexR, if_pos h] at this; cases this
      · omega
    rw [if_neg (by decide)] at hR
    have HR := Lib.hid hR
    have HRN := Lib.hid fun w => runes_any s w (by omega)
    generalize ((gl (B s)).length : Int) = fin at *
    clear hR hsz
    go_wp2_with (go_at_call 41; refine (HRN.out _).mono ?_; rintro e w3 ⟨rfl, hb3⟩; refine Hid.out ?_)
    refine Lib.hid ?_
    clear cy cp fy fp
    generalize (w1.setCell ⟨w.heap.size + 1, 0, none⟩ (.int .i64 0)).setCell ⟨w.heap.size + 1 + 1, 0, none⟩ (.int .i64 wa) = W2 at *
    have HG2 := Lib.hid (hG0.out.self HB2.out)
    have hbA := (Below.refl w3.heap.size w3).alloc (Nat.le_refl _) (.cells #[.slice lo L.length lcap, .int .i64 fin, .int .i64 0, .slice none 0 0] 70)
    have HAT : Hid (AtW w3.heap.size L fin 0 (.slice none 0 0) (w3.alloc (.cells #[.slice lo L.length lcap, .int .i64 fin, .int .i64 0, .slice none 0 0] 70))) :=
      Lib.hid ⟨lo, lcap, heap_alloc_new _ _, HCP.out.1, HCP.out.2, trow_below (trow_of (HRW2.out.below hb3) (Nat.le_refl _)) hbA⟩
    have HB3 := Lib.hid (below_self (below_self HB2.out hb3) hbA)
    have HP3 := Lib.hid (HP2.out.below (below_self hb3 hbA))
    have HQ := Lib.hid (query_any HAT.out (hG0.out.self HB3.out) (by have := (hG0.out.self HB2.out).glob.size; have := hb3.size; omega) (fun t ht => Nat.lt_of_le_of_lt (HSM.out.1 t ht).1 (by decide)) (Nat.le_trans HSM.out.2 (by decide)))
    have hA2 : w.heap.size + 2 < w3.heap.size := by have := (Array.getElem?_eq_some_iff.1 HP2.out.p).1; have := hb3.size; omega
    clear hb3 hbA
    obtain ⟨QR, hQR⟩ : ∃ QR, queryR fin L = QR := ⟨_, rfl⟩
    rw [hQR] at HQ HR
    have HQR := Lib.hid hQR
    clear hQR
    cases QR with
    | bad y p =>
      have HR2 := Lib.hid HR.out
      go_wp2_with (go_at_call 42; refine HQ.out.mono ?_; rintro e w4 ⟨rfl, hg4⟩; refine Hid.out ?_)
      refine Lib.hid ?_
      have hp4 := HP3.out.gb hg4 hA2
      refine leaves_cons (f := 40) (args := #[.pointer (some ⟨w.heap.size, 0, none⟩), .pointer (some ⟨w.heap.size + 1, 0, none⟩), .pointer (some ⟨w.heap.size + 1 + 1, 0, none⟩)]) (by simp) (by simp [go_sem]) ?_
      refine (catch_panicking (older := []) hp4.res).mono ?_
      rintro e u' w5 ⟨rfl, rfl, hp5, hb5⟩
      show Leaves _ _ _ _ [] .returning _
      exact ⟨_, results3 rfl hp5 rfl rfl rfl rfl, ParseP.none HR2.out ((below_gbB HB3.out hg4 (by omega) HB3.out.size).trans hb5)⟩
    | ok q =>
      have HR2 := Lib.hid HR.out
      have HGQ := Lib.hid (queryR_good HQR.out HSM.out.1)
      go_wp2_with (go_at_call 42; refine HQ.out.mono ?_; rintro e w4 ⟨⟨v, rfl, hv⟩, hg4⟩; refine Hid.out ?_)
      refine Lib.hid ?_
      have hBA : w.heap.size + 2 < w3.heap.size + 1 := by omega
      rw [alloc_sz] at hv
      obtain ⟨io, ic, wo, wc, go, gc, hve, _⟩ := hv.read
      subst hve
      have HP4 := Lib.hid (HP3.out.gb hg4 hA2)
      have HP5 := Lib.hid (has7 (a := .slice io q.items.length ic) (b := .string q.table) (c := .string q.join) (d := .string q.left) (e := .string q.right) (f := .slice wo q.wher.length wc) (g := .slice go q.group.length gc) HP4.out)
      have HV5 := Lib.hid (hv.kept (w' := set7 w.heap.size (.slice io q.items.length ic) (.string q.table) (.string q.join) (.string q.left) (.string q.right) (.slice wo q.wher.length wc) (.slice go q.group.length gc) w4) fun k hk _ => set7_ne (by omega))
      have HB5 : Hid (Below w.heap.size w (set7 w.heap.size (.slice io q.items.length ic) (.string q.table) (.string q.join) (.string q.left) (.string q.right) (.slice wo q.wher.length wc) (.slice go q.group.length gc) w4)) := Lib.hid (below7 (below_gbB HB3.out hg4 (by omega) HB3.out.size))
      have HG5 := Lib.hid (hG0.out.self HB5.out)
      have HCK : Hid (Calls Tryz.prog 14 #[.agg #[.slice io q.items.length ic, .string q.table, .string q.join, .string q.left, .string q.right, .slice wo q.wher.length wc, .slice go q.group.length gc]] (set7 w.heap.size (.slice io q.items.length ic) (.string q.table) (.string q.join) (.string q.left) (.string q.right) (.slice wo q.wher.length wc) (.slice go q.group.length gc) w4) fun e w' => e = .returned (.int .i64 (checkR q)) ∧ Below (set7 w.heap.size (.slice io q.items.length ic) (.string q.table) (.string q.join) (.string q.left) (.string q.right) (.slice wo q.wher.length wc) (.slice go q.group.length gc) w4).heap.size (set7 w.heap.size (.slice io q.items.length ic) (.string q.table) (.string q.join) (.string q.left) (.string q.right) (.slice wo q.wher.length wc) (.slice go q.group.length gc) w4) w') := Lib.hid (by
        obtain ⟨io', ic', wo', wc', go', gc', he, hin⟩ := HV5.out.read
        injection he with he
        simp only [Array.mk.injEq, List.cons.injEq, Value.slice.injEq, and_true, true_and] at he
        obtain ⟨⟨rfl, rfl⟩, ⟨rfl, rfl⟩, rfl, rfl⟩ := he
        exact check_any HG5.out hin HGQ.out.ok)
      have k0 : w4.cell? ⟨w.heap.size, 0, none⟩ = some (.slice none 0 0) := by rw [Lib.cell_of_heap HP4.out.q]; rfl
      have k1 : w4.cell? ⟨w.heap.size, 1, none⟩ = some (.string ⟨#[]⟩) := by rw [Lib.cell_of_heap HP4.out.q]; rfl
      have k2 : w4.cell? ⟨w.heap.size, 2, none⟩ = some (.string ⟨#[]⟩) := by rw [Lib.cell_of_heap HP4.out.q]; rfl
      have k3 : w4.cell? ⟨w.heap.size, 3, none⟩ = some (.string ⟨#[]⟩) := by rw [Lib.cell_of_heap HP4.out.q]; rfl
      have k4 : w4.cell? ⟨w.heap.size, 4, none⟩ = some (.string ⟨#[]⟩) := by rw [Lib.cell_of_heap HP4.out.q]; rfl
      have k5 : w4.cell? ⟨w.heap.size, 5, none⟩ = some (.slice none 0 0) := by rw [Lib.cell_of_heap HP4.out.q]; rfl
      have k6 : w4.cell? ⟨w.heap.size, 6, none⟩ = some (.slice none 0 0) := by rw [Lib.cell_of_heap HP4.out.q]; rfl
      have kf : ∀ j, w4.frozen? ⟨w.heap.size, j, none⟩ = false := Lib.frozen_of_heap HP4.out.q
      clear hv hg4
      by_cases hck : checkR q = 0
      · have HR3 : Hid ((q, 0, 0) = R) := Lib.hid (by have := HR2.out; rwa [if_neg (by simp [hck])] at this)
        rw [hck] at HCK
        unfold set7 at HCK
        go_wp2_with (go_at_call 14; refine HCK.out.mono ?_; rintro e w6 ⟨rfl, hb6⟩; refine Hid.out ?_)
        refine Lib.hid ?_
        have HP6 := Lib.hid (HP5.out.below hb6)
        have HB6 := Lib.hid (below_self HB5.out hb6)
        have HV6 := Lib.hid (HV5.out.kept (w' := w6) fun k hk hk2 => hb6.block k hk2)
        have m0 : w6.cell? ⟨w.heap.size, 0, none⟩ = some (.slice io q.items.length ic) := by rw [Lib.cell_of_heap HP6.out.q]; rfl
        have m1 : w6.cell? ⟨w.heap.size, 1, none⟩ = some (.string q.table) := by rw [Lib.cell_of_heap HP6.out.q]; rfl
        have m2 : w6.cell? ⟨w.heap.size, 2, none⟩ = some (.string q.join) := by rw [Lib.cell_of_heap HP6.out.q]; rfl
        have m3 : w6.cell? ⟨w.heap.size, 3, none⟩ = some (.string q.left) := by rw [Lib.cell_of_heap HP6.out.q]; rfl
        have m4 : w6.cell? ⟨w.heap.size, 4, none⟩ = some (.string q.right) := by rw [Lib.cell_of_heap HP6.out.q]; rfl
        have m5 : w6.cell? ⟨w.heap.size, 5, none⟩ = some (.slice wo q.wher.length wc) := by rw [Lib.cell_of_heap HP6.out.q]; rfl
        have m6 : w6.cell? ⟨w.heap.size, 6, none⟩ = some (.slice go q.group.length gc) := by rw [Lib.cell_of_heap HP6.out.q]; rfl
        have my : w6.cell? ⟨w.heap.size + 1, 0, none⟩ = some (.int .i64 0) := by rw [Lib.cell_of_heap HP6.out.y]; rfl
        have mp : w6.cell? ⟨w.heap.size + 1 + 1, 0, none⟩ = some (.int .i64 wa) := by rw [Lib.cell_of_heap HP6.out.p]; rfl
        have mf : ∀ j, w6.frozen? ⟨w.heap.size, j, none⟩ = false := Lib.frozen_of_heap HP6.out.q
        have mfy : w6.frozen? ⟨w.heap.size + 1, 0, none⟩ = false := Lib.frozen_of_heap HP6.out.y 0
        have mfp : w6.frozen? ⟨w.heap.size + 1 + 1, 0, none⟩ = false := Lib.frozen_of_heap HP6.out.p 0
        clear hb6
        go_wp2_with fail
        refine leaves_cons (f := 40) (args := #[.pointer (some ⟨w.heap.size, 0, none⟩), .pointer (some ⟨w.heap.size + 1, 0, none⟩), .pointer (some ⟨w.heap.size + 1 + 1, 0, none⟩)]) (by simp) (by simp [go_sem]) ?_
        refine (catch_idle _ _ _ _).mono ?_
        rintro e u' w7 ⟨rfl, rfl, rfl⟩
        show Leaves _ _ _ _ [] .returning _
        exact ⟨_, results3 rfl (phas_set (has7 HP6.out) 0 0) rfl rfl rfl rfl, ParseP.some HR3.out ((HV6.out.kept fun k hk _ => kept9 (by omega)).le (by omega)) (below2 (below7 HB6.out))⟩
      · have HR3 : Hid ((Qry.none, 13, 0) = R) := Lib.hid (by have := HR2.out; rwa [if_pos hck] at this)
        have ec : (checkR q == 0) = false := beq_eq_false_iff_ne.2 hck
        have en : (checkR q != 0) = true := by rw [bne, ec]; rfl
        generalize checkR q = CK at *
        clear hck
        unfold set7 at HCK
        go_wp2_with (go_at_call 14; refine HCK.out.mono ?_; rintro e w6 ⟨rfl, hb6⟩; refine Hid.out ?_)
        refine Lib.hid ?_
        have HP6 := Lib.hid (HP5.out.below hb6)
        have HB6 := Lib.hid (below_self HB5.out hb6)
        have HV6 := Lib.hid (HV5.out.kept (w' := w6) fun k hk hk2 => hb6.block k hk2)
        have m0 : w6.cell? ⟨w.heap.size, 0, none⟩ = some (.slice io q.items.length ic) := by rw [Lib.cell_of_heap HP6.out.q]; rfl
        have m1 : w6.cell? ⟨w.heap.size, 1, none⟩ = some (.string q.table) := by rw [Lib.cell_of_heap HP6.out.q]; rfl
        have m2 : w6.cell? ⟨w.heap.size, 2, none⟩ = some (.string q.join) := by rw [Lib.cell_of_heap HP6.out.q]; rfl
        have m3 : w6.cell? ⟨w.heap.size, 3, none⟩ = some (.string q.left) := by rw [Lib.cell_of_heap HP6.out.q]; rfl
        have m4 : w6.cell? ⟨w.heap.size, 4, none⟩ = some (.string q.right) := by rw [Lib.cell_of_heap HP6.out.q]; rfl
        have m5 : w6.cell? ⟨w.heap.size, 5, none⟩ = some (.slice wo q.wher.length wc) := by rw [Lib.cell_of_heap HP6.out.q]; rfl
        have m6 : w6.cell? ⟨w.heap.size, 6, none⟩ = some (.slice go q.group.length gc) := by rw [Lib.cell_of_heap HP6.out.q]; rfl
        have my : w6.cell? ⟨w.heap.size + 1, 0, none⟩ = some (.int .i64 0) := by rw [Lib.cell_of_heap HP6.out.y]; rfl
        have mp : w6.cell? ⟨w.heap.size + 1 + 1, 0, none⟩ = some (.int .i64 wa) := by rw [Lib.cell_of_heap HP6.out.p]; rfl
        have mf : ∀ j, w6.frozen? ⟨w.heap.size, j, none⟩ = false := Lib.frozen_of_heap HP6.out.q
        have mfy : w6.frozen? ⟨w.heap.size + 1, 0, none⟩ = false := Lib.frozen_of_heap HP6.out.y 0
        have mfp : w6.frozen? ⟨w.heap.size + 1 + 1, 0, none⟩ = false := Lib.frozen_of_heap HP6.out.p 0
        clear hb6
        go_wp2_with fail
        refine leaves_cons (f := 40) (args := #[.pointer (some ⟨w.heap.size, 0, none⟩), .pointer (some ⟨w.heap.size + 1, 0, none⟩), .pointer (some ⟨w.heap.size + 1 + 1, 0, none⟩)]) (by simp) (by simp [go_sem]) ?_
        refine (catch_idle _ _ _ _).mono ?_
        rintro e u' w7 ⟨rfl, rfl, rfl⟩
        show Leaves _ _ _ _ [] .returning _
        exact ⟨_, results3 rfl (phas_set (has7 HP6.out) 13 0) rfl rfl rfl rfl, ParseP.none HR3.out (below2 (below7 HB6.out))⟩
  · rw [if_pos hy] at hR
    have HR := Lib.hid hR
    have e0 : (wy == 0) = false := beq_eq_false_iff_ne.2 hy
    have e1 : (wy != 0) = true := by rw [bne, e0]; rfl
    clear hR hy
    go_wp2_with fail
    generalize (w1.setCell ⟨w.heap.size + 1, 0, none⟩ (.int .i64 wy)).setCell ⟨w.heap.size + 1 + 1, 0, none⟩ (.int .i64 wa) = W2 at *
    clear cy cp fy fp
    have k0 : W2.cell? ⟨w.heap.size, 0, none⟩ = some (.slice none 0 0) := by rw [Lib.cell_of_heap HP2.out.q]; rfl
    have k1 : W2.cell? ⟨w.heap.size, 1, none⟩ = some (.string ⟨#[]⟩) := by rw [Lib.cell_of_heap HP2.out.q]; rfl
    have k2 : W2.cell? ⟨w.heap.size, 2, none⟩ = some (.string ⟨#[]⟩) := by rw [Lib.cell_of_heap HP2.out.q]; rfl
    have k3 : W2.cell? ⟨w.heap.size, 3, none⟩ = some (.string ⟨#[]⟩) := by rw [Lib.cell_of_heap HP2.out.q]; rfl
    have k4 : W2.cell? ⟨w.heap.size, 4, none⟩ = some (.string ⟨#[]⟩) := by rw [Lib.cell_of_heap HP2.out.q]; rfl
    have k5 : W2.cell? ⟨w.heap.size, 5, none⟩ = some (.slice none 0 0) := by rw [Lib.cell_of_heap HP2.out.q]; rfl
    have k6 : W2.cell? ⟨w.heap.size, 6, none⟩ = some (.slice none 0 0) := by rw [Lib.cell_of_heap HP2.out.q]; rfl
    have cy : W2.cell? ⟨w.heap.size + 1, 0, none⟩ = some (.int .i64 wy) := by rw [Lib.cell_of_heap HP2.out.y]; rfl
    have cp : W2.cell? ⟨w.heap.size + 1 + 1, 0, none⟩ = some (.int .i64 wa) := by rw [Lib.cell_of_heap HP2.out.p]; rfl
    have kf : ∀ j, W2.frozen? ⟨w.heap.size, j, none⟩ = false := Lib.frozen_of_heap HP2.out.q
    have fy : W2.frozen? ⟨w.heap.size + 1, 0, none⟩ = false := Lib.frozen_of_heap HP2.out.y 0
    have fp : W2.frozen? ⟨w.heap.size + 1 + 1, 0, none⟩ = false := Lib.frozen_of_heap HP2.out.p 0
    go_region
    go_wp2_with fail
    exact ⟨_, results3 rfl (phas_set (has7 HP2.out) wy wa).drew rfl rfl rfl rfl, ParseP.none HR.out (below2 (below7 HB2.out)).drew⟩
end Go.Proofs.YtegnoaejlhbpbaaGreatDoor.lx
namespace Go.Proofs.YtegnoaejlhbpbaaGreatDoor.lx
open Go.RowKit

/-- the token that a step is shown as -/
def leafTok (s : Stp) : Tok :=
  if s.k = 1 then ⟨3, nullB, 0, 0⟩ else if s.k = 2 then ⟨3, trueB, 0, 0⟩ else if s.k = 3 then ⟨3, falseB, 0, 0⟩
  else if s.k = 4 then ⟨4, ⟨#[]⟩, s.n, 0⟩ else if s.k = 5 then ⟨5, s.s, 0, 0⟩ else ⟨3, s.s, 0, 0⟩
noncomputable def leafF (s : Stp) : ByteArray := if s.k = 6 then s.s else (showF (leafTok s)).1

theorem box2 (w : World) (cs : Array Value) (t : TypeId) (o2 : Obj) : ((w.alloc (.cells cs t)).alloc o2).heap[w.heap.size]? = some (.cells cs t (0, 0)) := by
  rw [heap_alloc_old _ _ (by rw [alloc_sz]; omega)]
  exact heap_alloc_new _ _

set_option maxHeartbeats 2000000 in
set_option maxRecDepth 100000 in
theorem leaf_txt (s : Stp) (w : World) (hG : PGlob w) (hs : s.s.size ≤ 1073741824) (hn : -9223372036854775808 ≤ s.n ∧ s.n ≤ 9223372036854775807) :
    Calls Tryz.prog 26 #[s.v] w fun e w' => e = .returned (.string (leafF s)) ∧ Below w.heap.size w w' := by
  obtain ⟨F, hF⟩ : ∃ F, leafF s = F := ⟨_, rfl⟩
  rw [hF]
  obtain ⟨T, hT⟩ : ∃ T, leafTok s = T := ⟨_, rfl⟩
  have hb : ∀ o1 o2, Below w.heap.size w ((w.alloc o1).alloc o2) := fun o1 o2 => ((Below.refl _ w).alloc (Nat.le_refl _) _).alloc (by simp) _
  have HB := Lib.hid hb
  have hTs : T.s.size ≤ 1073741824 := by
    rw [← hT]; unfold leafTok
    repeat' split
    all_goals first | exact hs | (simp only; decide)
  have hTn : -9223372036854775808 ≤ T.n ∧ T.n ≤ 9223372036854775807 := by
    rw [← hT]; unfold leafTok
    repeat' split
    all_goals first | exact hn | (simp only; decide)
  have HS := Lib.hid fun w (hG : PGlob w) => Show_any T w hG.glob hTs hTn.1 hTn.2
  unfold leafF at hF
  rw [hT] at hF
  have HG := Lib.hid fun o1 o2 => hG.self (hb o1 o2)
  obtain ⟨k, s, n⟩ := s
  unfold leafTok at hT
  unfold Stp.v
  simp only at hT hF hs ⊢
  clear hG hb hTs hTn hn
  generalize showF T = S at *
  by_cases h1 : k = 1
  · subst h1
    rw [if_pos rfl] at hT
    rw [if_neg (by decide)] at hF
    subst hT
    unfold nullB at HS
    have HF := Lib.hid hF
    unfold Tok.v at HS
    clear hF
    go_enter Tryz.func26, Tryz.ntmps26
    go_wp2_with (go_at_call 47; refine (HS.out _ (HG.out _ _)).mono ?_; rintro e w2 ⟨rfl, hb2⟩; refine Hid.out ?_)
    refine Lib.hid ?_
    have HB2 := Lib.hid (below_self (HB.out _ _) hb2)
    have c0 := keep_cellP hb2 (show World.cell? _ ⟨w.heap.size, 0, none⟩ = some (Value.int .u8 1) by rw [Lib.cell_of_heap (box2 _ _ _ _)]; rfl)
    have c1 := keep_cellP hb2 (show World.cell? _ ⟨w.heap.size, 1, none⟩ = some (Value.string s) by rw [Lib.cell_of_heap (box2 _ _ _ _)]; rfl)
    clear hb2
    go_wp2_with fail
    go_ret
    exact ⟨ret_str HF.out, HB2.out⟩
  by_cases h2 : k = 2
  · subst h2
    rw [if_neg (by decide)] at hT; rw [if_pos rfl] at hT
    rw [if_neg (by decide)] at hF
    subst hT
    unfold trueB at HS
    have HF := Lib.hid hF
    unfold Tok.v at HS
    clear hF
    go_enter Tryz.func26, Tryz.ntmps26
    go_wp2_with (go_at_call 47; refine (HS.out _ (HG.out _ _)).mono ?_; rintro e w2 ⟨rfl, hb2⟩; refine Hid.out ?_)
    refine Lib.hid ?_
    have HB2 := Lib.hid (below_self (HB.out _ _) hb2)
    have c0 := keep_cellP hb2 (show World.cell? _ ⟨w.heap.size, 0, none⟩ = some (Value.int .u8 2) by rw [Lib.cell_of_heap (box2 _ _ _ _)]; rfl)
    have c1 := keep_cellP hb2 (show World.cell? _ ⟨w.heap.size, 1, none⟩ = some (Value.string s) by rw [Lib.cell_of_heap (box2 _ _ _ _)]; rfl)
    clear hb2
    go_wp2_with fail
    go_ret
    exact ⟨ret_str HF.out, HB2.out⟩
  by_cases h3 : k = 3
  · subst h3
    rw [if_neg (by decide)] at hT; rw [if_neg (by decide)] at hT; rw [if_pos rfl] at hT
    rw [if_neg (by decide)] at hF
    subst hT
    unfold falseB at HS
    have HF := Lib.hid hF
    unfold Tok.v at HS
    clear hF
    go_enter Tryz.func26, Tryz.ntmps26
    go_wp2_with (go_at_call 47; refine (HS.out _ (HG.out _ _)).mono ?_; rintro e w2 ⟨rfl, hb2⟩; refine Hid.out ?_)
    refine Lib.hid ?_
    have HB2 := Lib.hid (below_self (HB.out _ _) hb2)
    have c0 := keep_cellP hb2 (show World.cell? _ ⟨w.heap.size, 0, none⟩ = some (Value.int .u8 3) by rw [Lib.cell_of_heap (box2 _ _ _ _)]; rfl)
    have c1 := keep_cellP hb2 (show World.cell? _ ⟨w.heap.size, 1, none⟩ = some (Value.string s) by rw [Lib.cell_of_heap (box2 _ _ _ _)]; rfl)
    clear hb2
    go_wp2_with fail
    go_ret
    exact ⟨ret_str HF.out, HB2.out⟩
  by_cases h4 : k = 4
  · subst h4
    rw [if_neg (by decide)] at hT; rw [if_neg (by decide)] at hT; rw [if_neg (by decide)] at hT; rw [if_pos rfl] at hT
    rw [if_neg (by decide)] at hF
    subst hT
    have HF := Lib.hid hF
    unfold Tok.v at HS
    clear hF
    go_enter Tryz.func26, Tryz.ntmps26
    go_wp2_with (go_at_call 47; refine (HS.out _ (HG.out _ _)).mono ?_; rintro e w2 ⟨rfl, hb2⟩; refine Hid.out ?_)
    refine Lib.hid ?_
    have HB2 := Lib.hid (below_self (HB.out _ _) hb2)
    have c0 := keep_cellP hb2 (show World.cell? _ ⟨w.heap.size, 0, none⟩ = some (Value.int .u8 4) by rw [Lib.cell_of_heap (box2 _ _ _ _)]; rfl)
    have c1 := keep_cellP hb2 (show World.cell? _ ⟨w.heap.size, 1, none⟩ = some (Value.string s) by rw [Lib.cell_of_heap (box2 _ _ _ _)]; rfl)
    clear hb2
    go_wp2_with fail
    go_ret
    exact ⟨ret_str HF.out, HB2.out⟩
  by_cases h5 : k = 5
  · subst h5
    rw [if_neg (by decide)] at hT; rw [if_neg (by decide)] at hT; rw [if_neg (by decide)] at hT; rw [if_neg (by decide)] at hT; rw [if_pos rfl] at hT
    rw [if_neg (by decide)] at hF
    subst hT
    have HF := Lib.hid hF
    unfold Tok.v at HS
    clear hF
    go_enter Tryz.func26, Tryz.ntmps26
    go_wp2_with (go_at_call 47; refine (HS.out _ (HG.out _ _)).mono ?_; rintro e w2 ⟨rfl, hb2⟩; refine Hid.out ?_)
    refine Lib.hid ?_
    have HB2 := Lib.hid (below_self (HB.out _ _) hb2)
    have c0 := keep_cellP hb2 (show World.cell? _ ⟨w.heap.size, 0, none⟩ = some (Value.int .u8 5) by rw [Lib.cell_of_heap (box2 _ _ _ _)]; rfl)
    have c1 := keep_cellP hb2 (show World.cell? _ ⟨w.heap.size, 1, none⟩ = some (Value.string s) by rw [Lib.cell_of_heap (box2 _ _ _ _)]; rfl)
    clear hb2
    go_wp2_with fail
    go_ret
    exact ⟨ret_str HF.out, HB2.out⟩
  rw [if_neg h1, if_neg h2, if_neg h3, if_neg h4, if_neg h5] at hT
  subst hT
  have e1 : (k == 1) = false := beq_eq_false_iff_ne.2 h1
  have e2 : (k == 2) = false := beq_eq_false_iff_ne.2 h2
  have e3 : (k == 3) = false := beq_eq_false_iff_ne.2 h3
  have e4 : (k == 4) = false := beq_eq_false_iff_ne.2 h4
  have e5 : (k == 5) = false := beq_eq_false_iff_ne.2 h5
  by_cases h6 : k = 6
  · subst h6
    rw [if_pos rfl] at hF
    clear h1 h2 h3 h4 h5 e1 e2 e3 e4 e5
    have HF := Lib.hid hF
    unfold Tok.v at HS
    clear hF
    go_enter Tryz.func26, Tryz.ntmps26
    go_wp2_with (go_at_call 47; refine (HS.out _ (HG.out _ _)).mono ?_; rintro e w2 ⟨rfl, hb2⟩; refine Hid.out ?_)
    refine Lib.hid ?_
    have HB2 := Lib.hid (below_self (HB.out _ _) hb2)
    have c0 := keep_cellP hb2 (show World.cell? _ ⟨w.heap.size, 0, none⟩ = some (Value.int .u8 6) by rw [Lib.cell_of_heap (box2 _ _ _ _)]; rfl)
    have c1 := keep_cellP hb2 (show World.cell? _ ⟨w.heap.size, 1, none⟩ = some (Value.string s) by rw [Lib.cell_of_heap (box2 _ _ _ _)]; rfl)
    clear hb2
    go_wp2_with fail
    go_ret
    exact ⟨ret_str HF.out, HB2.out⟩
  · rw [if_neg h6] at hF
    have e6 : (k == 6) = false := beq_eq_false_iff_ne.2 h6
    clear h1 h2 h3 h4 h5 h6
    have HF := Lib.hid hF
    unfold Tok.v at HS
    clear hF
    go_enter Tryz.func26, Tryz.ntmps26
    go_wp2_with (go_at_call 47; refine (HS.out _ (HG.out _ _)).mono ?_; rintro e w2 ⟨rfl, hb2⟩; refine Hid.out ?_)
    refine Lib.hid ?_
    have HB2 := Lib.hid (below_self (HB.out _ _) hb2)
    have c0 := keep_cellP hb2 (show World.cell? _ ⟨w.heap.size, 0, none⟩ = some (Value.int .u8 k) by rw [Lib.cell_of_heap (box2 _ _ _ _)]; rfl)
    have c1 := keep_cellP hb2 (show World.cell? _ ⟨w.heap.size, 1, none⟩ = some (Value.string s) by rw [Lib.cell_of_heap (box2 _ _ _ _)]; rfl)
    clear hb2
    go_wp2_with fail
    go_ret
    exact ⟨ret_str HF.out, HB2.out⟩
end Go.Proofs.YtegnoaejlhbpbaaGreatDoor.lx
namespace Go.Proofs.YtegnoaejlhbpbaaGreatDoor.lx
open Go.RowKit

def joinT (l : List ByteArray) : List UInt8 := Lib.join (l.map (·.data.toList)) [32]
def bracketT (l : List ByteArray) : ByteArray := ⟨(40 :: (joinT l ++ [41])).toArray⟩

set_option maxHeartbeats 2000000 in
set_option maxRecDepth 100000 in
theorem bracket_any {ao : Option Addr} {cap : Nat} {L : List ByteArray} {w : World} (h : TxtRow ao L w) (h0 : L.length ≠ 0) (hcap : L.length ≤ cap) (hN : L.length ≤ 140737488355328) (hlen : (joinT L).length ≤ 140737488355328) :
    Calls Tryz.prog 21 #[.slice ao L.length cap] w fun e w' => e = .returned (.string (bracketT L)) ∧ Below w.heap.size w w' := by
  obtain ⟨b, o, rfl, hc⟩ := h.resolve_left h0
  have hb : b < w.heap.size := by
    have hl : 0 < L.length := by omega
    have := hc 0 _ (List.getElem?_eq_getElem hl)
    exact World.block_lt_of_cell? w _ this
  have HJ := Lib.hid (Tryz.strings_Join b o cap L ⟨#[32]⟩ w hc hb hN hcap hlen)
  rw [show Lib.join (L.map (·.data.toList)) (ByteArray.mk #[32]).data.toList = joinT L from rfl] at HJ
  have HT : Hid (bracketT L = ⟨(40 :: (joinT L ++ [41])).toArray⟩) := Lib.hid rfl
  have hl63 : (joinT L).length ≤ 140737488355328 := hlen
  generalize joinT L = J at *
  clear hc hlen
  go_enter Tryz.func21, Tryz.ntmps21
  go_wp2_with (go_at_call 45; refine HJ.out.mono ?_; rintro e w2 ⟨rfl, hb2⟩; refine Hid.out ?_)
  refine Lib.hid ?_
  go_wp2_with fail
  go_ret
  refine ⟨ret_str ?_, hb2⟩
  rw [HT.out]
  apply ByteArray.ext
  apply Array.toList_inj.1
  simp
end Go.Proofs.YtegnoaejlhbpbaaGreatDoor.lx
namespace Go.Proofs.YtegnoaejlhbpbaaGreatDoor.lx
open Go.RowKit

theorem grow_nil {n : Nat} {w : World} (h0 : 0 < n) (hn : n ≤ 1099511627776) :
    Calls Tryz.prog 46 #[.slice none 0 0, .int .i64 n] w fun e w' => ∃ v, e = .returned v ∧ w'.ownsRow w.heap.size 9 1 v 0 [] ∧ Below w.heap.size w w' := by
  obtain ⟨i0, hi, hz0, hz1, hz2⟩ := info_parts infoStr
  refine (Any8.slices_Grow_grow Tryz.growS i0 _ hi hz0 (by omega) none 0 0 n [] w (Nat.le_refl _) (by omega) (by rw [hz2]; omega) (by omega) (by simp) (fun _ => rfl) (fun a h => by cases h)).mono ?_
  rintro e w' ⟨rfl, rfl⟩
  refine ⟨_, rfl, ⟨rfl, .inr ⟨w.heap.size, _, _, rfl, Nat.le_refl _, heap_alloc_new w.drew _, Nat.zero_le _, ?_, ?_, ?_⟩⟩, ?_⟩
  · exact grownCap_le_maxLen _ _ _ _ (by unfold maxLen; omega)
  · have hg := grownCap_ge w (0 + n) 0 9
    have hg2 : 0 + n ≤ grownCap w (0 + n) 0 (Tryz.growS_ren.t 25) := hg
    rw [Array.size_append, Array.size_append, size_zeroCells, size_zeroCells]
    show 0 + (0 + n - 0) * 1 + (grownCap w (0 + n) 0 (Tryz.growS_ren.t 25) - (0 + n)) * 1 = _
    omega
  · simp
  · exact (Below.refl _ _).drew.alloc (Nat.le_refl _) _

theorem txt_at {L : List ByteArray} {b o : Nat} {w wr : World} (hc : ∀ (i : Nat) s, L[i]? = some s → w.cell? ⟨b, o + i, none⟩ = some (.string s)) (hb : Below w.heap.size w wr) (j : Nat) (u : Value) (hu : (L.map Value.string)[j]? = some u) : wr.cell? ((⟨b, o, none⟩ : Addr).add j) = some u := by
  rw [List.getElem?_map] at hu
  obtain ⟨s, hs, rfl⟩ := Option.map_eq_some_iff.1 hu
  rw [show (⟨b, o, none⟩ : Addr).add j = ⟨b, o + j, none⟩ by unfold Addr.add; split <;> simp_all]
  exact keep_cellP hb (hc j s hs)
theorem below_own {B : Nat} {w w1 w2 : World} {v : Value} (h : Below B w w1) (hg : w1.grownBy w2 v.ownBlock) (hv : ∀ k, v.ownBlock = some k → B ≤ k) (hB : B ≤ w1.heap.size) : Below B w w2 :=
  h.trans ⟨hg.os, hg.tape, hg.output, hg.size, fun k hk => hg.block k (by omega) (fun e => by have := hv k e.symm; omega)⟩

set_option maxHeartbeats 2000000 in
set_option maxRecDepth 100000 in
theorem concat_any {A C : List ByteArray} {D : Nat} {ao co : Option Addr} {acap ccap : Nat} {w : World} (h0 : w.cell? ⟨D, 0, none⟩ = some (.slice ao A.length acap)) (h1 : w.cell? ⟨D, 1, none⟩ = some (.slice co C.length ccap))
    (hA : TxtRow ao A w) (hC : TxtRow co C w) (hA0 : A.length ≠ 0) (hC0 : C.length ≠ 0) (hA9 : A.length ≤ 1048576) (hC9 : C.length ≤ 1048576) :
    Calls Tryz.prog 22 #[.slice (some ⟨D, 0, none⟩) 2 2] w fun e w' => ∃ v, e = .returned v ∧ w'.ownsRow w.heap.size 9 1 v (A.length + C.length) ((A ++ C).map Value.string) ∧ Below w.heap.size w w' := by
  obtain ⟨ab, ap, rfl, hAc⟩ := hA.resolve_left hA0
  obtain ⟨cb, cp, rfl, hCc⟩ := hC.resolve_left hC0
  have HAc := Lib.hid hAc
  have HCc := Lib.hid hCc
  have hDl := World.block_lt_of_cell? w _ h0
  have HGR := Lib.hid fun n w (h0 : 0 < n) (hn : n ≤ 1099511627776) => grow_nil (n := n) (w := w) h0 hn
  clear hA hC hAc hCc
  go_enter Tryz.func22, Tryz.ntmps22
  go_wp2_with fail
  go_loop [3, 11] (fun s i => (i = .int .i64 0 ∧ s = .int .i64 0) ∨ (i = .int .i64 1 ∧ s = .int .i64 A.length) ∨ (i = .int .i64 2 ∧ s = .int .i64 ((A.length : Int) + C.length))) (fun _ i => 2 - (intOf i).toNat)
  case atStart => exact .inl ⟨rfl, rfl⟩
  case round =>
    rcases hrel with ⟨rfl, rfl⟩ | ⟨rfl, rfl⟩ | ⟨rfl, rfl⟩
    · go_wp2_with fail
      go_round
      case rel => exact .inr (.inl ⟨rfl, rfl⟩)
      case measure => simp [intOf]
    · go_wp2_with fail
      go_round
      case rel => exact .inr (.inr ⟨rfl, rfl⟩)
      case measure => simp [intOf]
    · have hg := HGR.out (A.length + C.length) w (by omega) (by omega)
      have e : (((A.length + C.length : Nat)) : Int) = (A.length : Int) + C.length := by omega
      rw [e] at hg
      have HG := Lib.hid hg
      clear hg e
      go_wp2_with (go_at_call 46; refine HG.out.mono ?_; rintro e w2 ⟨v, rfl, hv, hb2⟩; refine Hid.out ?_)
      refine Lib.hid ?_
      have HBW := Lib.hid hb2
      clear hb2
      go_wp2_with fail
      go_loopw [6, 27] (fun v i wr => Below w.heap.size w wr ∧ ((i = .int .i64 0 ∧ wr.ownsRow w.heap.size 9 1 v 0 []) ∨ (i = .int .i64 1 ∧ wr.ownsRow w.heap.size 9 1 v A.length (A.map Value.string)) ∨
        (i = .int .i64 2 ∧ wr.ownsRow w.heap.size 9 1 v (A.length + C.length) (A.map Value.string ++ C.map Value.string)))) (fun _ i _ => 2 - (intOf i).toNat)
      case atStart => exact ⟨HBW.out, .inl ⟨rfl, hv⟩⟩
      case round =>
        clear hv
        obtain ⟨hbr, hr⟩ := hrel
        rcases hr with ⟨rfl, hv⟩ | ⟨rfl, hv⟩ | ⟨rfl, hv⟩
        · have hbase := Lib.hid (own_base hv)
          obtain ⟨so, scap, rfl⟩ := own_shape hv
          have hnew : ∀ (j : Nat) u, (A.map Value.string)[j]? = some u → wr.cell? ((⟨ab, ap, none⟩ : Addr).add j) = some u := fun j u hu => txt_at (HAc.out) hbr j u hu
          have hone : ∀ u ∈ A.map Value.string, u.oneCell' = true := fun u hu => by obtain ⟨s, _, rfl⟩ := List.mem_map.1 hu; rfl
          have hws := hbr.size
          obtain ⟨i0, hi0, hz0, hz1, hz2⟩ := info_parts infoStr
          have c0 := keep_cellP hbr h0
          have c1 := keep_cellP hbr h1
          go_wp2_with (at_builtin; refine wpList_append_own_at _ rfl _ _ 24 rfl w.heap.size 9 i0 _ 1 16 Tryz.underlying24 hi0 hz0 hz1 hz2 rfl (by decide) (.slice so 0 scap) 0 ([]) rfl hv ⟨ab, ap, none⟩ A.length acap (A.map Value.string) rfl (by simp) hnew hone ?c3 ?c4 hws ?_)
          case c3 => unfold maxLen; omega
          case c4 => omega
          intro v' w5 hown5 hg5 _ _
          have HB5 := Lib.hid (below_own hbr hg5 hbase.out hws)
          have HV5 := Lib.hid hown5
          clear hown5 hg5 hnew hone hi0 hz0 hz1 hz2 hv
          go_wp2_with fail
          go_roundw
          case rel => exact ⟨HB5.out, .inr (.inl ⟨rfl, by simpa using HV5.out⟩)⟩
          case measure => simp [intOf]
        · have hbase := Lib.hid (own_base hv)
          obtain ⟨so, scap, rfl⟩ := own_shape hv
          have hnew : ∀ (j : Nat) u, (C.map Value.string)[j]? = some u → wr.cell? ((⟨cb, cp, none⟩ : Addr).add j) = some u := fun j u hu => txt_at (HCc.out) hbr j u hu
          have hone : ∀ u ∈ C.map Value.string, u.oneCell' = true := fun u hu => by obtain ⟨s, _, rfl⟩ := List.mem_map.1 hu; rfl
          have hws := hbr.size
          obtain ⟨i0, hi0, hz0, hz1, hz2⟩ := info_parts infoStr
          have c0 := keep_cellP hbr h0
          have c1 := keep_cellP hbr h1
          go_wp2_with (at_builtin; refine wpList_append_own_at _ rfl _ _ 24 rfl w.heap.size 9 i0 _ 1 16 Tryz.underlying24 hi0 hz0 hz1 hz2 rfl (by decide) (.slice so A.length scap) A.length (A.map Value.string) rfl hv ⟨cb, cp, none⟩ C.length ccap (C.map Value.string) rfl (by simp) hnew hone ?c3 ?c4 hws ?_)
          case c3 => unfold maxLen; omega
          case c4 => omega
          intro v' w5 hown5 hg5 _ _
          have HB5 := Lib.hid (below_own hbr hg5 hbase.out hws)
          have HV5 := Lib.hid hown5
          clear hown5 hg5 hnew hone hi0 hz0 hz1 hz2 hv
          go_wp2_with fail
          go_roundw
          case rel => exact ⟨HB5.out, .inr (.inr ⟨rfl, HV5.out⟩)⟩
          case measure => simp [intOf]
        · obtain ⟨so, scap, rfl⟩ := own_shape hv
          have HV := Lib.hid hv
          clear hv
          go_wp2_with fail
          go_ret
          exact ⟨_, rfl, by rw [List.map_append]; exact HV.out, hbr⟩
end Go.Proofs.YtegnoaejlhbpbaaGreatDoor.lx
