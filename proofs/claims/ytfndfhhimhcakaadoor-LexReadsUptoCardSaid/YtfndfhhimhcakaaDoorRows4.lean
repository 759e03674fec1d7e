/-
  Rows of tokens in later worlds. No condition.
-/
import Derived.Test.YtfndfhhimhcakaaDoorShow
import Derived.Test.YtfndfhhimhcakaaDoorPlacesLaw
namespace Go.Proofs.YtfndfhhimhcakaaDoor.lx
open Go.RowKit

theorem tokCells_at : ∀ (ts : List Tok) (i : Nat) (t : Tok) (j : Nat), ts[i]? = some t → j < 4 → (tokCells ts)[i * 4 + j]? = t.cells[j]?
  | [], i, t, j, h, _ => by simp at h
  | x :: ts, 0, t, j, h, hj => by
    simp at h
    subst h
    rw [tokCells, List.flatMap_cons, List.getElem?_append_left (by simp [Tok.cells]; omega)]
    simp
  | x :: ts, i + 1, t, j, h, hj => by
    have := tokCells_at ts i t j (by simpa using h) hj
    rw [tokCells, List.flatMap_cons, List.getElem?_append_right (by simp [Tok.cells]; omega)]
    have e : (i + 1) * 4 + j - x.cells.length = i * 4 + j := by simp [Tok.cells]; omega
    rw [e]
    exact this

/-- the row of tokens that Lex gave, in a later world -/
def Row (ao : Option Addr) (L : List Tok) (w : World) : Prop := L.length = 0 ∨ ∃ g, ao = some ⟨g, 0, none⟩ ∧ ∀ (j : Nat) u, (tokCells L)[j]? = some u → w.cell? ⟨g, j, none⟩ = some u
theorem Row.below {ao : Option Addr} {L : List Tok} {w w' : World} (h : Row ao L w) (hb : Below w.heap.size w w') : Row ao L w' := by
  rcases h with h | ⟨g, h1, h2⟩
  · exact .inl h
  · refine .inr ⟨g, h1, fun j u hu => ?_⟩
    have hc := h2 j u hu
    exact (World.cell?_of_block (a := ⟨g, j, none⟩) (hb.block g (World.block_lt_of_cell? w _ hc))).trans hc
theorem Row.at {ao : Option Addr} {L : List Tok} {w : World} (h : Row ao L w) {i : Nat} {t : Tok} (ht : L[i]? = some t) :
    ∃ g, ao = some ⟨g, 0, none⟩ ∧ w.cell? ⟨g, i * 4, none⟩ = some (.int .u8 t.k) ∧ w.cell? ⟨g, i * 4 + 1, none⟩ = some (.string t.s) ∧ w.cell? ⟨g, i * 4 + 2, none⟩ = some (.int .i64 t.n) ∧ w.cell? ⟨g, i * 4 + 3, none⟩ = some (.int .i64 t.a) := by
  have hlt := (List.getElem?_eq_some_iff.1 ht).1
  obtain ⟨g, h1, h2⟩ := h.resolve_left (by omega)
  exact ⟨g, h1, h2 _ _ (tokCells_at L i t 0 ht (by omega)), h2 _ _ (tokCells_at L i t 1 ht (by omega)), h2 _ _ (tokCells_at L i t 2 ht (by omega)), h2 _ _ (tokCells_at L i t 3 ht (by omega))⟩
theorem own_row {w : World} {B : Nat} {v : Value} {ts : List Tok} (h : w.ownsRow B 24 4 v ts.length (tokCells ts)) : ∃ ao cap, v = .slice ao ts.length cap ∧ Row ao ts w := by
  obtain ⟨ao, cap, h1, h2⟩ := own_slice h
  refine ⟨ao, cap, h1, ?_⟩
  rcases h2 with h2 | ⟨g, h3, _, _, h4⟩
  · exact .inl h2
  · exact .inr ⟨g, h3, h4⟩

theorem lexR_at {s : ByteArray} {L : List Tok} {p : Int} (h : lexR s = (L, 0, p)) {i : Nat} {t : Tok} (ht : L[i]? = some t) : 0 ≤ t.a ∧ t.a ≤ 2048 := by
  obtain ⟨h1, h2, h3⟩ := lexR_ok h
  rw [h3, List.getElem?_map] at ht
  obtain ⟨x, hx, rfl⟩ := Option.map_eq_some_iff.1 ht
  have := gl_len _ (B s) rfl
  rw [B_length] at this
  show 0 ≤ (((gl (B s)).length - x.2 : Nat) : Int) ∧ (((gl (B s)).length - x.2 : Nat) : Int) ≤ 2048
  omega
end Go.Proofs.YtfndfhhimhcakaaDoor.lx
