/-
  The lexer's laws on glyphs under a tail: a text with more behind it. Plain laws, no program in sight.
-/
import Derived.Test.YtfndfhhimhcakaaDoorPlacesLaw
namespace Go.Proofs.YtfndfhhimhcakaaDoor.lx
open Go.RowKit

theorem takeWhile_all {α : Type} {p : α → Bool} : ∀ {l : List α}, (∀ b ∈ l, p b = true) → l.takeWhile p = l
  | [], _ => rfl
  | x :: l, h => by rw [List.takeWhile_cons, if_pos (h x (by simp)), takeWhile_all fun b hb => h b (by simp [hb])]
theorem getD_app (l r : List UInt8) (i : Nat) : (l ++ r).getD i 0 = if i < l.length then l.getD i 0 else r.getD (i - l.length) 0 := by
  simp only [List.getD_eq_getElem?_getD, List.getElem?_append]
  split <;> rfl

/-- behind an ASCII byte nothing is read on -/
theorem dec_app (l : List UInt8) (c : UInt8) (r : List UInt8) (hc : c.toNat < 128) (hl : l ≠ []) : Lib.decodeL (l ++ c :: r) = Lib.decodeL l := by
  have h0 : 0 < l.length := List.length_pos_iff.2 hl
  rw [Lib.decodeL_N, Lib.decodeL_N]
  simp only [getD_app, List.length_append, List.length_cons]
  have e0 : (if 0 < l.length then l.getD 0 0 else (c :: r).getD (0 - l.length) 0) = l.getD 0 0 := if_pos h0
  rw [e0]
  by_cases h1 : l.length = 1
  · have e1 : (if 1 < l.length then l.getD 1 0 else (c :: r).getD (1 - l.length) 0) = c := by rw [if_neg (by omega), h1]; rfl
    rw [e1]
    unfold Lib.decodeN
    have hc2 : ¬ c.toNat / 64 = 2 := by omega
    have hn1 : ¬ 1 < l.length := by omega
    simp [hc2, hn1]
  · have e1 : (if 1 < l.length then l.getD 1 0 else (c :: r).getD (1 - l.length) 0) = l.getD 1 0 := if_pos (by omega)
    rw [e1]
    by_cases h2 : l.length = 2
    · have e2 : (if 2 < l.length then l.getD 2 0 else (c :: r).getD (2 - l.length) 0) = c := by rw [if_neg (by omega), h2]; rfl
      rw [e2]
      unfold Lib.decodeN
      have hc2 : ¬ c.toNat / 64 = 2 := by omega
      have hn1 : 1 < l.length := by omega
      have hn2 : ¬ 2 < l.length := by omega
      have hn3 : 1 < l.length + (r.length + 1) := by omega
      simp [hc2, hn1, hn2, hn3]
    · have e2 : (if 2 < l.length then l.getD 2 0 else (c :: r).getD (2 - l.length) 0) = l.getD 2 0 := if_pos (by omega)
      rw [e2]
      by_cases h3 : l.length = 3
      · have e3 : (if 3 < l.length then l.getD 3 0 else (c :: r).getD (3 - l.length) 0) = c := by rw [if_neg (by omega), h3]; rfl
        rw [e3]
        unfold Lib.decodeN
        have hc2 : ¬ c.toNat / 64 = 2 := by omega
        have hn1 : 1 < l.length := by omega
        have hn2 : 2 < l.length := by omega
        have hn3 : ¬ 3 < l.length := by omega
        have hm1 : 1 < l.length + (r.length + 1) := by omega
        have hm2 : 2 < l.length + (r.length + 1) := by omega
        simp [hc2, hn1, hn2, hn3, hm1, hm2]
      · have e3 : (if 3 < l.length then l.getD 3 0 else (c :: r).getD (3 - l.length) 0) = l.getD 3 0 := if_pos (by omega)
        rw [e3]
        unfold Lib.decodeN
        have hn1 : 1 < l.length := by omega
        have hn2 : 2 < l.length := by omega
        have hn3 : 3 < l.length := by omega
        have hm1 : 1 < l.length + (r.length + 1) := by omega
        have hm2 : 2 < l.length + (r.length + 1) := by omega
        have hm3 : 3 < l.length + (r.length + 1) := by omega
        simp [hn1, hn2, hn3, hm1, hm2, hm3]

theorem gl_app (n : Nat) : ∀ (l : List UInt8) (c : UInt8) (r : List UInt8), l.length = n → c.toNat < 128 → gl (l ++ c :: r) = gl l ++ gl (c :: r) := by
  induction n using Nat.strongRecOn with
  | _ n ih =>
    intro l c r hn hc
    by_cases h : l = []
    · subst h; rw [gl_nil]; rfl
    · have h1 := dec_width l
      have h2 := Lib.decodeL_le l h
      have h3 : 0 < l.length := List.length_pos_iff.2 h
      rw [gl_cons (l := l ++ c :: r) (by simp), gl_cons h, dec_app l c r hc h, List.drop_append_of_le_length h2, ih (l.drop (Lib.decodeL l).2).length (by rw [List.length_drop]; omega) _ _ _ rfl hc]
      rfl

/-- a glyph at which a token ends, and no part of an escape -/
def stops (c : G) : Prop := endR c.1 = true ∧ c.1 ≠ 34 ∧ isHexR c.1 = false

theorem while_app (p : G → Bool) (c : G) (tl : List G) (hc : p c = false) : ∀ gs : List G, (gs ++ c :: tl).takeWhile p = gs.takeWhile p ∧ (gs ++ c :: tl).dropWhile p = gs.dropWhile p ++ c :: tl
  | [] => by simp [hc]
  | g :: gs => by
    obtain ⟨a, b⟩ := while_app p c tl hc gs
    cases hg : p g <;> simp [hg, a, b]

theorem codeG_app (c : G) (tl : List G) (hc : stops c) (gs : List G) : codeG (gs ++ c :: tl) = (codeG gs).map fun x => (x.1, x.2 ++ c :: tl) := by
  have h125 : c.1 ≠ 125 := by intro e; have := hc.1; rw [e] at this; revert this; decide
  have h123 : c.1 ≠ 123 := by intro e; have := hc.1; rw [e] at this; revert this; decide
  cases gs with
  | nil => simp [codeG, h123]
  | cons g gs =>
    obtain ⟨a, b⟩ := while_app (fun g => isHexR g.1) c tl hc.2.2 gs
    rw [List.cons_append]
    unfold codeG
    simp only
    by_cases hg : g.1 = 123
    · rw [if_pos hg, if_pos hg, a, b]
      cases hd : gs.dropWhile fun g => isHexR g.1 with
      | nil => simp [h125]
      | cons e rest =>
        simp only [List.cons_append]
        split <;> rfl
    · rw [if_neg hg, if_neg hg]; rfl

theorem escG_app (c : G) (tl : List G) (hc : stops c) (gs : List G) (h : (escG gs).1.isSome = true) : escG (gs ++ c :: tl) = ((escG gs).1, (escG gs).2 ++ c :: tl) := by
  cases gs with
  | nil => simp [escG] at h
  | cons g gs =>
    rw [List.cons_append, escG_cons, escG_cons]
    rw [escG_cons] at h
    by_cases h117 : g.1 = 117
    · rw [if_pos h117] at h ⊢
      rw [if_pos h117, codeG_app c tl hc]
      cases hcg : codeG gs with
      | none => rw [hcg] at h; simp at h
      | some x => rfl
    · rw [if_neg h117, if_neg h117]

theorem textG_app (c : G) (tl : List G) (hc : stops c) (n : Nat) : ∀ (fine : Bool) (acc : List UInt8) (gs : List G), gs.length = n → (textG fine acc gs).1.2 = 0 →
    textG fine acc (gs ++ c :: tl) = ((textG fine acc gs).1, (textG fine acc gs).2 ++ c :: tl) := by
  induction n using Nat.strongRecOn with
  | _ n ih =>
    intro fine acc gs hn h
    cases gs with
    | nil => rw [textG] at h; cases h
    | cons g gs =>
      have he := escG_length gs
      simp at hn
      rw [List.cons_append]
      rw [textG] at h ⊢
      rw [textG]
      by_cases h34 : g.1 = 34
      · rw [if_pos h34, if_pos h34]
      · rw [if_neg h34] at h ⊢
        rw [if_neg h34]
        by_cases h92 : g.1 = 92
        · rw [if_pos h92] at h ⊢
          rw [if_pos h92]
          by_cases hs : (escG gs).1.isSome = true
          · rw [if_pos hs] at h
            rw [escG_app c tl hc gs hs, if_pos hs, if_pos hs]
            exact ih (escG gs).2.length (by omega) fine _ _ rfl h
          · rw [if_neg hs] at h; cases h
        · rw [if_neg h92] at h ⊢
          rw [if_neg h92]
          exact ih gs.length (by omega) _ _ _ rfl h

/-- a token that is read is read the same, whatever is behind an end -/
theorem tokG_app (c : G) (tl : List G) (hc : stops c) (g : G) (gs : List G) (h : (tokG (g :: gs)).1.2 = 0) : tokG (g :: gs ++ c :: tl) = ((tokG (g :: gs)).1, (tokG (g :: gs)).2 ++ c :: tl) := by
  rw [List.cons_append, tokG_cons, tokG_cons]
  rw [tokG_cons] at h
  by_cases h40 : g.1 = 40
  · rw [if_pos h40, if_pos h40]
  rw [if_neg h40] at h ⊢
  rw [if_neg h40]
  by_cases h41 : g.1 = 41
  · rw [if_pos h41, if_pos h41]
  rw [if_neg h41] at h ⊢
  rw [if_neg h41]
  by_cases h34 : g.1 = 34
  · rw [if_pos h34] at h ⊢
    rw [if_pos h34]
    exact textG_app c tl hc _ _ _ _ rfl h
  · rw [if_neg h34, if_neg h34]
    obtain ⟨a, b⟩ := while_app (fun g => !endR g.1) c tl (by simp [hc.1]) (g :: gs)
    rw [List.cons_append] at a b
    simp only [bareG, bareR, a, b]
end Go.Proofs.YtfndfhhimhcakaaDoor.lx
