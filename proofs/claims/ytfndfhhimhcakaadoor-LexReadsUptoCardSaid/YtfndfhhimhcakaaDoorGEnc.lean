/-
  Runes written and read back: glyphs of a text that was put together out of runes. Plain laws, no program in sight.
-/
import Derived.Test.YtfndfhhimhcakaaDoorGApp
import Derived.Lib.MapLaws
import Derived.Lib.RuneBytes
namespace Go.Proofs.YtfndfhhimhcakaaDoor.lx
open Go.RowKit

theorem toB (x : Int) (h0 : 0 ≤ x) (h1 : x < 256) : ((x.toNat.toUInt8).toNat : Int) = x := by
  simp; omega
def validR (r : Int) : Prop := 0 ≤ r ∧ (r < 55296 ∨ 57343 < r ∧ r ≤ 1114111)
theorem dec_enc (r : Int) (h : validR r) (l : List UInt8) : Lib.decodeL (Lib.encodeRune r ++ l) = (r.toNat, (Lib.encodeRune r).length) := by
  obtain ⟨h0, h1⟩ := h
  rw [Lib.decodeL_N]
  unfold Lib.encodeRune
  by_cases c1 : r ≤ 127
  · rw [Lib.encodeRuneZ_one h0 c1]
    have t0 := toB r h0 (by omega)
    simp only [List.map_cons, List.map_nil, List.cons_append, List.nil_append, List.getD_cons_zero, List.length_cons, List.length_nil]
    unfold Lib.decodeN
    rw [if_pos (by omega)]
    simp; omega
  by_cases c2 : r ≤ 2047
  · rw [Lib.encodeRuneZ_two (by omega) c2]
    have t0 := toB (192 + r / 64) (by omega) (by omega)
    have t1 := toB (128 + r % 64) (by omega) (by omega)
    simp only [List.map_cons, List.map_nil, List.cons_append, List.nil_append, List.getD_cons_zero, List.getD_cons_succ, List.length_cons, List.length_nil]
    generalize ((192 + r / 64).toNat.toUInt8).toNat = x0 at *
    generalize ((128 + r % 64).toNat.toUInt8).toNat = x1 at *
    unfold Lib.decodeN
    rw [if_neg (by omega), if_pos (by omega), if_pos (by omega)]
    simp; omega
  by_cases c3 : r ≤ 65535
  · rw [Lib.encodeRuneZ_three (by omega)]
    have t0 := toB (224 + r / 4096) (by omega) (by omega)
    have t1 := toB (128 + r / 64 % 64) (by omega) (by omega)
    have t2 := toB (128 + r % 64) (by omega) (by omega)
    simp only [List.map_cons, List.map_nil, List.cons_append, List.nil_append, List.getD_cons_zero, List.getD_cons_succ, List.length_cons, List.length_nil]
    generalize ((224 + r / 4096).toNat.toUInt8).toNat = x0 at *
    generalize ((128 + r / 64 % 64).toNat.toUInt8).toNat = x1 at *
    generalize ((128 + r % 64).toNat.toUInt8).toNat = x2 at *
    unfold Lib.decodeN
    rw [if_neg (by omega), if_neg (by omega), if_pos (by omega), if_pos (by omega)]
    simp; omega
  · rw [Lib.encodeRuneZ_four (by omega) (by omega)]
    have t0 := toB (240 + r / 262144) (by omega) (by omega)
    have t1 := toB (128 + r / 4096 % 64) (by omega) (by omega)
    have t2 := toB (128 + r / 64 % 64) (by omega) (by omega)
    have t3 := toB (128 + r % 64) (by omega) (by omega)
    simp only [List.map_cons, List.map_nil, List.cons_append, List.nil_append, List.getD_cons_zero, List.getD_cons_succ, List.length_cons, List.length_nil]
    generalize ((240 + r / 262144).toNat.toUInt8).toNat = x0 at *
    generalize ((128 + r / 4096 % 64).toNat.toUInt8).toNat = x1 at *
    generalize ((128 + r / 64 % 64).toNat.toUInt8).toNat = x2 at *
    generalize ((128 + r % 64).toNat.toUInt8).toNat = x3 at *
    unfold Lib.decodeN
    rw [if_neg (by omega), if_neg (by omega), if_neg (by omega), if_pos (by omega), if_pos (by omega)]
    simp; omega
theorem dec_valid (l : List UInt8) : validR ((Lib.decodeL l).1 : Int) := by
  rw [Lib.decodeL_N]
  have := Lib.decodeN_shape l.length (l.getD 0 0).toNat (l.getD 1 0).toNat (l.getD 2 0).toNat (l.getD 3 0).toNat
  unfold validR
  rcases this with ⟨c, e⟩ | ⟨c1, c2, c3, cv, e⟩ | ⟨c1, c2, c3, c4, cv, cs, e⟩ | ⟨c1, c2, c3, c4, c5, cv, cw, e⟩ | e <;> rw [e] <;> simp only <;> omega

theorem enc_ne (r : Int) (l : List UInt8) : Lib.encodeRune r ++ l ≠ [] := by
  have := (Lib.encodeRuneZ_length r).1
  intro h
  have h2 := congrArg List.length h
  simp only [List.length_append, List.length_nil, Lib.encodeRune, List.length_map] at h2
  omega
theorem gl_enc (r : Int) (h : validR r) (l : List UInt8) : gl (Lib.encodeRune r ++ l) = (r, true) :: gl l := by
  rw [gl_cons (enc_ne r l), dec_enc r h l]
  have h0 := h.1
  have e : ((r.toNat : Nat) : Int) = r := by omega
  have hl : ¬ (r.toNat = 65533 ∧ (Lib.encodeRune r).length = 1) := by
    rintro ⟨a, b⟩
    have : r = 65533 := by omega
    subst this
    revert b
    decide
  simp only [e, List.drop_left]
  rw [decide_eq_false hl]
  rfl
theorem gl_validR (n : Nat) : ∀ l : List UInt8, l.length = n → ∀ g ∈ gl l, validR g.1 := by
  induction n using Nat.strongRecOn with
  | _ n ih =>
    intro l hn g hg
    by_cases h : l = []
    · subst h; rw [gl_nil] at hg; cases hg
    · rw [gl_cons h] at hg
      rcases List.mem_cons.1 hg with rfl | hg
      · exact dec_valid l
      · have h1 := dec_width l
        have h2 : 0 < l.length := List.length_pos_iff.2 h
        exact ih (l.drop (Lib.decodeL l).2).length (by rw [List.length_drop]; omega) _ rfl g hg
def okG (gs : List G) : List G := gs.map fun g => (g.1, true)
theorem gl_runeB : ∀ (gs : List G) (l : List UInt8), (∀ g ∈ gs, validR g.1) → gl (runeB gs ++ l) = okG gs ++ gl l
  | [], _, _ => rfl
  | g :: gs, l, h => by
    show gl (Lib.encodeRune g.1 ++ runeB gs ++ l) = _
    rw [List.append_assoc, gl_enc g.1 (h g (by simp)), gl_runeB gs l (fun x hx => h x (by simp [hx]))]
    rfl
theorem okG_of {gs : List G} (h : gs.all (·.2) = true) : okG gs = gs := by
  induction gs with
  | nil => rfl
  | cons g gs ih =>
    simp only [List.all_cons, Bool.and_eq_true] at h
    show (g.1, true) :: okG gs = g :: gs
    rw [ih h.2, ← h.1]
/-- a text without a bad rune is its runes -/
theorem runeB_gl (n : Nat) : ∀ l : List UInt8, l.length = n → (gl l).all (·.2) = true → runeB (gl l) = l := by
  induction n using Nat.strongRecOn with
  | _ n ih =>
    intro l hn hall
    by_cases h : l = []
    · subst h; rw [gl_nil]; rfl
    · rw [gl_cons h] at hall ⊢
      simp only [List.all_cons, Bool.and_eq_true, Bool.not_eq_true', decide_eq_false_iff_not] at hall
      have h1 := dec_width l
      have h2 : 0 < l.length := List.length_pos_iff.2 h
      show Lib.encodeRune ((Lib.decodeL l).1 : Int) ++ runeB (gl (l.drop (Lib.decodeL l).2)) = l
      rw [ih (l.drop (Lib.decodeL l).2).length (by rw [List.length_drop]; omega) _ rfl hall.2, Lib.encode_decode l h hall.1, List.take_append_drop]
end Go.Proofs.YtfndfhhimhcakaaDoor.lx
