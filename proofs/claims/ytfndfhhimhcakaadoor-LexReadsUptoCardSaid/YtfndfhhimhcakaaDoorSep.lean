/-
  LexBrackets: the plain laws: a text with a line's end and more behind it. No program in sight.
-/
import Derived.Test.YtfndfhhimhcakaaDoorGApp
namespace Go.Proofs.YtfndfhhimhcakaaDoor.lx
open Go.RowKit

theorem skipG_nl (b : Bool) (tl : List G) : ∀ (gs : List G) (note : Bool), skipG note (gs ++ (10, b) :: tl) = if skipG note gs = [] then skipG false tl else skipG note gs ++ (10, b) :: tl
  | [], note => by
    have h1 : skipG note ((10, b) :: tl) = skipG false tl := by
      rw [skipG, if_pos (by cases note <;> rfl)]
      cases note <;> rfl
    rw [List.nil_append, h1, skipG, if_pos rfl]
  | g :: gs, note => by
    rw [List.cons_append, skipG, skipG]
    cases hc : noted note g.1 || blankR g.1 with
    | true => rw [if_pos rfl, if_pos rfl]; exact skipG_nl b tl gs _
    | false => simp

theorem stops_nl (b : Bool) : stops (10, b) := ⟨by show endR 10 = true; decide, by show (10 : Int) ≠ 34; decide, by show isHexR 10 = false; decide⟩

/-- tokens ahead of a line's end are read as they were -/
theorem lexK_nl (b : Bool) (tl : List G) (n : Nat) : ∀ gs : List G, gs.length = n → (lexK (skipG false gs)).2.1 = 0 →
    lexK (skipG false (gs ++ (10, b) :: tl)) = ((lexK (skipG false gs)).1.map (fun x => (x.1, x.2 + (tl.length + 1))) ++ (lexK (skipG false tl)).1, (lexK (skipG false tl)).2) := by
  induction n using Nat.strongRecOn with
  | _ n ih =>
    intro gs hn h
    have hf := skipG_firm gs false
    have hle := skipG_length gs false
    rw [skipG_nl]
    revert h hf hle
    cases skipG false gs with
    | nil => intro h hf hle; rw [if_pos rfl, lexK_nil]; rfl
    | cons g xs =>
      intro h hf hle
      rw [if_neg (by simp)]
      have ht : (tokG (g :: xs)).1.2 = 0 := by
        refine Decidable.byContradiction fun hh => ?_
        rw [lexK_bad hh] at h
        exact hh h
      have happ := tokG_app (10, b) tl (stops_nl b) g xs ht
      have hfa : firm (g :: xs ++ (10, b) :: tl) := hf
      have hl := tokG_length hf
      rw [lexK_step hf ht] at h ⊢
      rw [List.cons_append] at happ hfa ⊢
      rw [lexK_step hfa (by rw [happ]; exact ht), happ]
      simp only [List.length_cons] at hle
      rw [ih (tokG (g :: xs)).2.length (by omega) _ rfl h]
      simp
      omega

theorem escG_bad (c : G) (tl : List G) (hc : stops c) (h117 : c.1 ≠ 117) (he : escR c.1 = none) (gs : List G) (h : (escG gs).1.isSome = false) : (escG (gs ++ c :: tl)).1.isSome = false := by
  cases gs with
  | nil => rw [List.nil_append, escG_cons, if_neg h117, he]; rfl
  | cons g gs =>
    rw [List.cons_append, escG_cons]
    rw [escG_cons] at h
    by_cases hg : g.1 = 117
    · rw [if_pos hg] at h ⊢
      rw [codeG_app c tl hc]
      cases hcg : codeG gs with
      | none => rfl
      | some x => rw [hcg] at h; cases h
    · rw [if_neg hg] at h ⊢
      exact h

/-- what is no text is none with a line's end and a bracket behind it -/
theorem textG_bad (b b' : Bool) (n : Nat) : ∀ (fine : Bool) (acc : List UInt8) (gs : List G), gs.length = n → (textG fine acc gs).1.2 ≠ 0 → (textG fine acc (gs ++ [(10, b), (41, b')])).1.2 ≠ 0 := by
  induction n using Nat.strongRecOn with
  | _ n ih =>
    intro fine acc gs hn h
    cases gs with
    | nil =>
      rw [List.nil_append, textG]
      simp only
      rw [if_neg (by decide), if_neg (by decide), textG]
      simp only
      rw [if_neg (by decide), if_neg (by decide), textG]
      simp
    | cons g gs =>
      have he := escG_length gs
      simp at hn
      rw [List.cons_append]
      rw [textG] at h ⊢
      by_cases h34 : g.1 = 34
      · rw [if_pos h34] at h ⊢
        exact h
      · rw [if_neg h34] at h ⊢
        by_cases h92 : g.1 = 92
        · rw [if_pos h92] at h ⊢
          cases hs : (escG gs).1.isSome with
          | true =>
            rw [if_pos hs] at h
            rw [escG_app (10, b) [(41, b')] (stops_nl b) gs hs, if_pos hs]
            exact ih (escG gs).2.length (by omega) fine _ _ rfl h
          | false =>
            rw [escG_bad (10, b) [(41, b')] (stops_nl b) (by show (10 : Int) ≠ 117; decide) (by show escR 10 = none; decide) gs hs, if_neg (by simp)]
            simp
        · rw [if_neg h92] at h ⊢
          exact ih gs.length (by omega) _ _ _ rfl h

theorem tokG_bad (b b' : Bool) (g : G) (gs : List G) (h : (tokG (g :: gs)).1.2 ≠ 0) : (tokG (g :: gs ++ [(10, b), (41, b')])).1.2 ≠ 0 := by
  rw [List.cons_append, tokG_cons]
  rw [tokG_cons] at h
  by_cases h40 : g.1 = 40
  · rw [if_pos h40] at h; exact absurd rfl h
  rw [if_neg h40] at h ⊢
  by_cases h41 : g.1 = 41
  · rw [if_pos h41] at h; exact absurd rfl h
  rw [if_neg h41] at h ⊢
  by_cases h34 : g.1 = 34
  · rw [if_pos h34] at h ⊢
    exact textG_bad b b' _ _ _ _ rfl h
  · rw [if_neg h34] at h ⊢
    obtain ⟨a, _⟩ := while_app (fun g => !endR g.1) (10, b) [(41, b')] (by show (!endR 10) = false; decide) (g :: gs)
    rw [List.cons_append] at a
    simp only [bareG, a]
    exact h

theorem lexK_nl_bad (b b' : Bool) (n : Nat) : ∀ gs : List G, gs.length = n → (lexK (skipG false gs)).2.1 ≠ 0 →
    (lexK (skipG false (gs ++ [(10, b), (41, b')]))).2.1 ≠ 0 ∧ (lexK (skipG false (gs ++ [(10, b), (41, b')]))).2.2 = (lexK (skipG false gs)).2.2 + 2 := by
  induction n using Nat.strongRecOn with
  | _ n ih =>
    intro gs hn h
    have hf := skipG_firm gs false
    have hle := skipG_length gs false
    rw [skipG_nl]
    revert h hf hle
    cases skipG false gs with
    | nil => intro h hf hle; rw [lexK_nil] at h; exact absurd rfl h
    | cons g xs =>
      intro h hf hle
      rw [if_neg (by simp)]
      by_cases ht : (tokG (g :: xs)).1.2 = 0
      · have happ := tokG_app (10, b) [(41, b')] (stops_nl b) g xs ht
        have hfa : firm (g :: xs ++ [(10, b), (41, b')]) := hf
        have hl := tokG_length hf
        rw [lexK_step hf ht] at h ⊢
        rw [List.cons_append] at happ hfa ⊢
        rw [lexK_step hfa (by rw [happ]; exact ht), happ]
        simp only [List.length_cons] at hle
        exact ih (tokG (g :: xs)).2.length (by omega) _ rfl h
      · have hb := tokG_bad b b' g xs ht
        rw [List.cons_append] at hb ⊢
        rw [lexK_bad ht, lexK_bad hb]
        refine ⟨hb, ?_⟩
        simp

theorem gl_brackets (l : List UInt8) : gl (40 :: (l ++ [10, 41])) = (40, true) :: (gl l ++ [(10, true), (41, true)]) := by
  rw [gl_ascii _ (by decide), gl_app _ _ _ _ rfl (by decide), gl_ascii _ (by decide), gl_ascii _ (by decide), gl_nil]
  rfl

theorem lexK_left' (gs : List G) : ∀ x ∈ (lexK (skipG false gs)).1, x.2 ≤ gs.length := fun x hx =>
  Nat.le_trans (lexK_left _ _ rfl (skipG_firm gs false) x hx) (skipG_length gs false)
theorem lexK_left2 (n : Nat) : ∀ gs : List G, gs.length = n → firm gs → (lexK gs).2.2 ≤ gs.length := by
  induction n using Nat.strongRecOn with
  | _ n ih =>
    intro gs hn hf
    cases gs with
    | nil => rw [lexK_nil]; exact Nat.le_refl _
    | cons g gs =>
      by_cases h : (tokG (g :: gs)).1.2 = 0
      · rw [lexK_step hf h]
        have h1 := skipG_length (tokG (g :: gs)).2 false
        have h2 := tokG_length hf
        simp at hn
        have := ih (skipG false (tokG (g :: gs)).2).length (by omega) _ rfl (skipG_firm _ _)
        simp; omega
      · rw [lexK_bad h]; exact Nat.le_refl _

def tokO : Tok := ⟨1, ⟨#[]⟩, 0, 0⟩
def tokC (p : Nat) : Tok := ⟨2, ⟨#[]⟩, 0, p⟩
def Tok.up (t : Tok) (k : Nat) : Tok := ⟨t.k, t.s, t.n, t.a + k⟩

/-- a text in brackets -/
theorem lexR_brackets (s t : ByteArray) (ht : B t = 40 :: (B s ++ [10, 41])) (hs : t.size ≤ 2048) :
    if (lexR s).2.1 = 0 then ∃ p, lexR t = (tokO :: ((lexR s).1.map (·.up 1) ++ [tokC p]), 0, 0)
    else (lexR t).2.1 ≠ 0 ∧ (lexR t).2.2 = (lexR s).2.2 + 1 := by
  have hsz : s.size ≤ 2048 := by
    have := congrArg List.length ht
    simp only [List.length_cons, List.length_append, B_length, List.length_nil] at this
    omega
  rw [lexR_gl s hsz, lexR_gl t hs, ht, gl_brackets]
  generalize gl (B s) = gs
  have hf : firm ((40, true) :: (gs ++ [(10, true), (41, true)])) := by show (noted false 40 || blankR 40) = false; decide
  have htk : tokG ((40, true) :: (gs ++ [(10, true), (41, true)])) = ((tokO, 0), gs ++ [(10, true), (41, true)]) := by rw [tokG_cons, if_pos rfl]; rfl
  unfold lexG
  rw [skipG_of_firm hf, lexK_step hf (by rw [htk]), htk]
  simp only
  by_cases h0 : (lexK (skipG false gs)).2.1 = 0
  · have hE : (lexK (skipG false [((41 : Int), true)])) = ([(tokC 0, 1)], 0, 0) := by
      have hf2 : firm [((41 : Int), true)] := by show (noted false 41 || blankR 41) = false; decide
      have ht2 : tokG [((41 : Int), true)] = ((tokC 0, 0), []) := by rw [tokG_cons, if_neg (by decide), if_pos rfl]; rfl
      rw [skipG_of_firm hf2, lexK_step hf2 (by rw [ht2]), ht2]
      simp [skipG, lexK_nil]
    rw [lexK_nl true [(41, true)] _ gs rfl h0, hE]
    rw [if_pos h0]
    simp only [if_true]
    refine ⟨gs.length + 2, ?_⟩
    simp only [List.map_cons, List.map_append, List.map_map, List.map_nil, List.length_cons, List.length_append, List.length_nil]
    refine Prod.ext ?_ rfl
    simp only
    have e1 : tokO.at (gs.length + (0 + 1 + 1) + 1 - (gs.length + (0 + 1 + 1) + 1)) = tokO := by rw [Nat.sub_self]; rfl
    have e2 : (tokC 0).at (gs.length + (0 + 1 + 1) + 1 - 1) = tokC (gs.length + 2) := rfl
    rw [e1, e2]
    congr 2
    apply List.map_congr_left
    intro x hx
    have := lexK_left' gs x hx
    simp only [Function.comp, Tok.at, Tok.up]
    congr 1
    omega
  · obtain ⟨e1, e2⟩ := lexK_nl_bad true true _ gs rfl h0
    have hl := lexK_left2 _ _ rfl (skipG_firm gs false)
    have hl2 := skipG_length gs false
    rw [if_neg h0, if_neg e1]
    simp only
    rw [if_neg h0]
    refine ⟨e1, ?_⟩
    rw [e2]
    simp only [List.length_cons, List.length_append, List.length_nil]
    omega
end Go.Proofs.YtfndfhhimhcakaaDoor.lx
