/-
  Rows of tokens whose places are written. No condition.
-/
import Derived.Test.YtchilianbbkebaaDoorSame
namespace Go.Proofs.YtchilianbbkebaaDoor.lx
open Go.RowKit

theorem tokCells_get : ∀ (L : List Tok) (j : Nat), (tokCells L)[j]? = (L[j / 4]?).bind fun t => t.cells[j % 4]?
  | [], j => by simp [tokCells]
  | x :: L, j => by
    have ih := tokCells_get L
    rw [tokCells, List.flatMap_cons]
    by_cases h : j < 4
    · rw [List.getElem?_append_left (by simpa [Tok.cells] using h), Nat.div_eq_of_lt h, Nat.mod_eq_of_lt h]
      rfl
    · rw [List.getElem?_append_right (by simp [Tok.cells]; omega)]
      have e : j - x.cells.length = j - 4 := rfl
      have h1 : j / 4 = (j - 4) / 4 + 1 := by omega
      have h2 : j % 4 = (j - 4) % 4 := by omega
      rw [e, h1, h2, List.getElem?_cons_succ]
      exact ih (j - 4)

/-- a row that the call owns -/
def RowF (B : Nat) (ao : Option Addr) (L : List Tok) (w : World) : Prop :=
  L.length = 0 ∨ ∃ g, ao = some ⟨g, 0, none⟩ ∧ B ≤ g ∧ g < w.heap.size ∧ (∀ o, w.frozen? ⟨g, o, none⟩ = false) ∧ ∀ (j : Nat) u, (tokCells L)[j]? = some u → w.cell? ⟨g, j, none⟩ = some u
theorem RowF.row {B : Nat} {ao : Option Addr} {L : List Tok} {w : World} (h : RowF B ao L w) : Row ao L w := by
  rcases h with h | ⟨g, h1, _, _, _, h2⟩
  · exact .inl h
  · exact .inr ⟨g, h1, h2⟩
theorem own_rowF {w : World} {B : Nat} {v : Value} {ts : List Tok} (h : w.ownsRow B 24 4 v ts.length (tokCells ts)) : ∃ ao cap, v = .slice ao ts.length cap ∧ RowF B ao ts w := by
  obtain ⟨ao, cap, h1, h2⟩ := own_slice h
  refine ⟨ao, cap, h1, ?_⟩
  rcases h2 with h2 | ⟨g, h3, h4, h5, h6⟩
  · exact .inl h2
  · refine .inr ⟨g, h3, h4, h5, fun o => ?_, h6⟩
    rcases h.2 with ⟨hv, h0⟩ | ⟨g', cap', cur, hv, hb, hg, rest⟩
    · rw [h1, h3] at hv; cases hv
    · rw [h1, h3] at hv
      injection hv with e1 _ _
      injection e1 with e1; injection e1 with e1
      subst e1
      exact Lib.frozen_of_heap hg o
theorem RowF.below {B : Nat} {ao : Option Addr} {L : List Tok} {w w' : World} (h : RowF B ao L w) (hb : Below w.heap.size w w') : RowF B ao L w' := by
  rcases h with h | ⟨g, h1, h2, h3, h4, h5⟩
  · exact .inl h
  · exact .inr ⟨g, h1, h2, Nat.lt_of_lt_of_le h3 hb.size, fun o => (hb.frozen (p := ⟨g, o, none⟩) h3).trans (h4 o), fun j u hu => (hb.cell (p := ⟨g, j, none⟩) h3).trans (h5 j u hu)⟩
/-- a token's place is written -/
theorem RowF.set {B g : Nat} {L : List Tok} {w : World} (h : RowF B (some ⟨g, 0, none⟩) L w) {i : Nat} {t : Tok} (ht : L[i]? = some t) (a : Int) :
    RowF B (some ⟨g, 0, none⟩) (L.set i ⟨t.k, t.s, t.n, a⟩) (w.setCell ⟨g, i * 4 + 3, none⟩ (.int .i64 a)) := by
  have hlt := (List.getElem?_eq_some_iff.1 ht).1
  rcases h with h | ⟨g', h1, h2, h3, h4, h5⟩
  · omega
  · injection h1 with h1; injection h1 with h1; subst h1
    have h3c : w.cell? ⟨g, i * 4 + 3, none⟩ = some (.int .i64 t.a) := h5 _ _ (by rw [tokCells_get, show (i * 4 + 3) / 4 = i by omega, show (i * 4 + 3) % 4 = 3 by omega, ht]; rfl)
    refine .inr ⟨g, rfl, h2, by simpa [World.setCell] using h3, fun o => ?_, fun j u hu => ?_⟩
    · rw [← h4 o]
      have := (Below.refl (g + 1) (w.setCell ⟨g, i * 4 + 3, none⟩ (.int .i64 a)))
      simp [go_sem]
    · by_cases hj : j = i * 4 + 3
      · subst hj
        rw [tokCells_get, show (i * 4 + 3) / 4 = i by omega, show (i * 4 + 3) % 4 = 3 by omega, List.getElem?_set_self hlt] at hu
        simp only [Option.bind_some, Tok.cells] at hu
        injection hu with hu
        rw [← hu]
        exact World.cell?_setCell_same w _ _ h3c
      · rw [World.cell?_setCell_other w _ _ _ (by intro e; injection e with _ e _; exact hj e.symm)]
        apply h5
        rw [← hu, tokCells_get, tokCells_get]
        by_cases hi : j / 4 = i
        · have hm : j % 4 < 3 := by omega
          rw [hi, ht, List.getElem?_set_self hlt]
          simp only [Option.bind_some, Tok.cells]
          match j % 4, hm with
          | 0, _ => rfl
          | 1, _ => rfl
          | 2, _ => rfl
        · rw [List.getElem?_set_ne (fun e => hi e.symm)]
theorem below_set {B g : Nat} {w w' : World} (h : Below B w w') (hg : B ≤ g) (o : Nat) (v : Value) : Below B w (w'.setCell ⟨g, o, none⟩ v) := h.setCell (p := ⟨g, o, none⟩) hg v
end Go.Proofs.YtchilianbbkebaaDoor.lx
