/-
  The reference's Lex as a law on glyphs: where its loop stands. No condition.
-/
import Derived.Test.YtfndfhhimhcakaaDoorRNext
import Derived.Test.YtfndfhhimhcakaaDoorPlacesLaw
namespace Go.Proofs.YtfndfhhimhcakaaDoor.lx
open Go.RowKit

theorem tokG_suf (l : List G) : (tokG l).2 <:+ l := by
  cases l with
  | nil => exact List.suffix_refl _
  | cons g gs =>
    rw [tokG_cons]
    split
    · exact List.suffix_cons _ _
    split
    · exact List.suffix_cons _ _
    split
    · exact (textG_suffix _ _ _ gs rfl).trans (List.suffix_cons _ _)
    · exact List.dropWhile_suffix _
theorem drop_blank (gs : List G) : gs.drop (blankN gs) = skipG false gs := (List.suffix_iff_eq_drop.1 (skipG_suffix gs false)).symm
theorem blankN_le (gs : List G) : blankN gs ≤ gs.length := Nat.sub_le _ _

/-- where Lex's loop stands, with the tokens that it has and its place: what it comes to -/
def lexAt (L : List G) (out : List Tok) (k : Nat) : List Tok × Int × Int :=
  if (lexK (L.drop k)).2.1 = 0 then (out ++ (lexK (L.drop k)).1.map fun x => x.1.at (L.length - x.2), 0, 0)
  else ([], (lexK (L.drop k)).2.1, ((L.length - (lexK (L.drop k)).2.2 : Nat) : Int))
theorem lexAt_start (L : List G) : lexAt L [] (blankN L) = lexG L := by
  unfold lexAt lexG
  rw [drop_blank]
  rfl
theorem lexAt_end {L : List G} {out : List Tok} {k : Nat} (h : L.length ≤ k) : lexAt L out k = (out, 0, 0) := by
  unfold lexAt
  rw [List.drop_of_length_le h, lexK_nil]
  simp
theorem drop_cons {L : List G} {k : Nat} (h : k < L.length) : ∃ g gs, L.drop k = g :: gs ∧ (g :: gs).length = L.length - k :=
  ⟨L[k], L.drop (k + 1), List.drop_eq_getElem_cons h, by rw [← List.drop_eq_getElem_cons h, List.length_drop]⟩
theorem lexAt_bad {L : List G} {out : List Tok} {k : Nat} (h : k < L.length) (hw : (tokG (L.drop k)).1.2 ≠ 0) : lexAt L out k = ([], (tokG (L.drop k)).1.2, (k : Int)) := by
  obtain ⟨g, gs, hd, hl⟩ := drop_cons h
  unfold lexAt
  rw [hd] at hw ⊢
  rw [lexK_bad hw, if_neg hw, hl]
  simp only
  rw [show L.length - (L.length - k) = k by omega]
/-- how many glyphs a token has -/
def tokN (l : List G) : Nat := l.length - (tokG l).2.length
theorem tokN_pos {L : List G} {k : Nat} (h : k < L.length) (hf : firm (L.drop k)) : 1 ≤ tokN (L.drop k) ∧ k + tokN (L.drop k) ≤ L.length := by
  obtain ⟨g, gs, hd, hl⟩ := drop_cons h
  unfold tokN
  rw [hd] at hf ⊢
  have := tokG_length hf
  rw [hl]
  simp only [List.length_cons] at hl
  omega
theorem drop_tok (L : List G) (k : Nat) : L.drop (k + tokN (L.drop k)) = (tokG (L.drop k)).2 := by
  rw [← List.drop_drop]
  exact (List.suffix_iff_eq_drop.1 (tokG_suf (L.drop k))).symm
theorem drop_next (L : List G) (k : Nat) : L.drop (k + blankN (L.drop k)) = skipG false (L.drop k) := by
  rw [← List.drop_drop, drop_blank]
theorem lexAt_go {L : List G} {out : List Tok} {k : Nat} (h : k < L.length) (hf : firm (L.drop k)) (hw : (tokG (L.drop k)).1.2 = 0) :
    lexAt L out k = lexAt L (out ++ [(tokG (L.drop k)).1.1.at k]) (k + tokN (L.drop k) + blankN (L.drop (k + tokN (L.drop k)))) := by
  have hn := drop_next L (k + tokN (L.drop k))
  rw [drop_tok] at hn
  unfold lexAt
  rw [drop_tok, hn]
  obtain ⟨g, gs, hd, hl⟩ := drop_cons h
  rw [hd] at hw hf ⊢
  rw [lexK_step hf hw]
  simp only
  by_cases h0 : (lexK (skipG false (tokG (g :: gs)).2)).2.1 = 0
  · rw [if_pos h0, if_pos h0, List.map_cons, hl, show L.length - (L.length - k) = k by omega, List.append_assoc]
    rfl
  · rw [if_neg h0, if_neg h0]
theorem firm_next (L : List G) (k : Nat) : firm (L.drop (k + blankN (L.drop k))) := by rw [drop_next]; exact skipG_firm _ _
theorem firm_start (L : List G) : firm (L.drop (blankN L)) := by rw [drop_blank]; exact skipG_firm _ _
theorem cntG_tok {l : List G} (h : (tokG l).1.2 = 0) : cntG l (tokG l) = (tokN l : Int) := by rw [cntG, if_pos h]; rfl
theorem okR_gl (n : Nat) : ∀ l : List UInt8, l.length = n → okR (gl l) := by
  intro l hn g hg
  refine ⟨gl_validR n l hn g hg, ?_⟩
  revert hg hn
  revert n l
  intro n
  induction n using Nat.strongRecOn with
  | _ n ih =>
    intro l hn hg
    by_cases h : l = []
    · subst h; rw [gl_nil] at hg; cases hg
    · rw [gl_cons h] at hg
      rcases List.mem_cons.1 hg with rfl | hg
      · intro h2
        simp only [Bool.not_eq_false', decide_eq_true_eq] at h2
        show (((Lib.decodeL l).1 : Nat) : Int) = 65533
        omega
      · have h1 := dec_width l
        have h2 : 0 < l.length := List.length_pos_iff.2 h
        exact ih (l.drop (Lib.decodeL l).2).length (by rw [List.length_drop]; omega) _ rfl hg
end Go.Proofs.YtfndfhhimhcakaaDoor.lx
