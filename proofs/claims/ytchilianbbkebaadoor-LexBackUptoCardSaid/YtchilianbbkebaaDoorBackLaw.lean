/-
  LexBack: the plain laws: shown tokens with blanks or notes between are read as they were. No program in sight.
-/
import Derived.Test.YtchilianbbkebaaDoorQuotLaw
import Derived.Test.YtchilianbbkebaaDoorRowSet
namespace Go.Proofs.YtchilianbbkebaaDoor.lx
open Go.RowKit

theorem showF_yes {t : Tok} (h : showOk t) : showF t = (showS t, 0) := by rw [showF, if_pos h]
theorem showF_no {t : Tok} (h : ¬ showOk t) : showF t = (⟨#[]⟩, 13) := by rw [showF, if_neg h]
/-- what may stand between -/
def betw (i : Nat) : ByteArray := match i with | 0 => ⟨#[32]⟩ | 1 => ⟨#[9, 13, 10]⟩ | 2 => ⟨#[59, 195, 169, 41, 10]⟩ | _ => ⟨#[32, 59, 32, 34, 10, 32]⟩

theorem betw_skip (i : Nat) (hi : i < 4) (rest : List UInt8) : ∃ (c : UInt8) (bt : List UInt8), B (betw i) = c :: bt ∧ c.toNat < 128 ∧ stops (((c.toNat : Nat) : Int), true) ∧
    skipG false (gl (B (betw i) ++ rest)) = skipG false (gl rest) := by
  have e169 : ∀ r : List UInt8, gl (195 :: 169 :: r) = (233, true) :: gl r := by
    intro r
    have := gl_enc 233 (by unfold validR; omega) r
    have e : Lib.encodeRune 233 = [195, 169] := by decide +kernel
    rw [e] at this
    exact this
  match i, hi with
  | 0, _ =>
    refine ⟨32, [], rfl, by decide, ⟨by decide, by decide, by decide⟩, ?_⟩
    show skipG false (gl (32 :: rest)) = _
    rw [gl_ascii _ (by decide), skipG, if_pos (by decide)]
    rfl
  | 1, _ =>
    refine ⟨9, [13, 10], rfl, by decide, ⟨by decide, by decide, by decide⟩, ?_⟩
    show skipG false (gl (9 :: 13 :: 10 :: rest)) = _
    rw [gl_ascii _ (by decide), gl_ascii _ (by decide), gl_ascii _ (by decide), skipG, if_pos (by decide)]
    show skipG false _ = _
    rw [skipG, if_pos (by decide)]
    show skipG false _ = _
    rw [skipG, if_pos (by decide)]
    rfl
  | 2, _ =>
    refine ⟨59, [195, 169, 41, 10], rfl, by decide, ⟨by decide, by decide, by decide⟩, ?_⟩
    show skipG false (gl (59 :: 195 :: 169 :: 41 :: 10 :: rest)) = _
    rw [gl_ascii _ (by decide), e169, gl_ascii _ (by decide), gl_ascii _ (by decide), skipG, if_pos (by decide)]
    show skipG true _ = _
    rw [skipG, if_pos (by decide)]
    show skipG true _ = _
    rw [skipG, if_pos (by decide)]
    show skipG true _ = _
    rw [skipG, if_pos (by decide)]
    rfl
  | 3, _ =>
    refine ⟨32, [59, 32, 34, 10, 32], rfl, by decide, ⟨by decide, by decide, by decide⟩, ?_⟩
    show skipG false (gl (32 :: 59 :: 32 :: 34 :: 10 :: 32 :: rest)) = _
    rw [gl_ascii _ (by decide), gl_ascii _ (by decide), gl_ascii _ (by decide), gl_ascii _ (by decide), gl_ascii _ (by decide), gl_ascii _ (by decide), skipG, if_pos (by decide)]
    show skipG false _ = _
    rw [skipG, if_pos (by decide)]
    show skipG true _ = _
    rw [skipG, if_pos (by decide)]
    show skipG true _ = _
    rw [skipG, if_pos (by decide)]
    show skipG true _ = _
    rw [skipG, if_pos (by decide)]
    show skipG false _ = _
    rw [skipG, if_pos (by decide)]
    rfl

/-- what has been written so far is read as what was shown, whatever comes behind -/
def BackInv (text : List UInt8) (want : List Tok) : Prop :=
  ∀ rest : List UInt8, (lexK (skipG false (gl (text ++ rest)))).1.map Prod.fst = want ++ (lexK (skipG false (gl rest))).1.map Prod.fst ∧
    (lexK (skipG false (gl (text ++ rest)))).2.1 = (lexK (skipG false (gl rest))).2.1
theorem BackInv.start : BackInv [] [] := fun _ => ⟨rfl, rfl⟩
theorem BackInv.step {text : List UInt8} {want : List Tok} (h : BackInv text want) (t : Tok) (ht : showOk t) (i : Nat) (hi : i < 4) :
    BackInv (text ++ (B (showS t) ++ B (betw i))) (want ++ [t.at 0]) := by
  intro rest
  obtain ⟨_, g, gs, hgl, hf, htk⟩ := show_alone t ht
  obtain ⟨c, bt, hb, hc, hst, hsk⟩ := betw_skip i hi rest
  have hh := h (B (showS t) ++ B (betw i) ++ rest)
  rw [← List.append_assoc, ← List.append_assoc] at hh
  rw [← List.append_assoc]
  have hX : gl (B (showS t) ++ B (betw i) ++ rest) = (g :: gs) ++ (((c.toNat : Nat) : Int), true) :: gl (bt ++ rest) := by
    rw [List.append_assoc, hb, List.cons_append, gl_app _ _ _ _ rfl hc, hgl, gl_ascii _ hc]
  have hY : gl (B (betw i) ++ rest) = (((c.toNat : Nat) : Int), true) :: gl (bt ++ rest) := by rw [hb, List.cons_append, gl_ascii _ hc]
  rw [hY] at hsk
  have happ := tokG_app (((c.toNat : Nat) : Int), true) (gl (bt ++ rest)) hst g gs (by rw [htk])
  rw [htk] at happ
  have hfa : firm (g :: gs ++ (((c.toNat : Nat) : Int), true) :: gl (bt ++ rest)) := hf
  rw [hX, skipG_of_firm hfa] at hh
  rw [List.cons_append] at happ hfa hh
  rw [lexK_step hfa (by rw [happ]), happ] at hh
  simp only [List.nil_append, hsk, List.map_cons] at hh
  exact ⟨by rw [hh.1]; simp, hh.2⟩

theorem BackInv.done {text : ByteArray} {want : List Tok} (h : BackInv (B text) want) (hs : text.size ≤ 2048) :
    (lexR text).2.1 = 0 ∧ (lexR text).1.map (·.at 0) = want.map (·.at 0) := by
  have hh := h []
  rw [List.append_nil] at hh
  have e0 : lexK (skipG false (gl [])) = ([], 0, 0) := by rw [gl_nil]; show lexK (skipG false []) = _; rw [show skipG false [] = [] from rfl, lexK_nil]
  rw [e0] at hh
  obtain ⟨h1, h2⟩ := hh
  rw [lexR_gl text hs, lexG, if_pos h2]
  refine ⟨rfl, ?_⟩
  simp only [List.map_nil, List.append_nil] at h1
  simp only [List.map_map]
  rw [← h1, List.map_map]
  rfl
theorem at_at (t : Tok) (p q : Nat) : (t.at p).at q = t.at q := rfl
end Go.Proofs.YtchilianbbkebaaDoor.lx
