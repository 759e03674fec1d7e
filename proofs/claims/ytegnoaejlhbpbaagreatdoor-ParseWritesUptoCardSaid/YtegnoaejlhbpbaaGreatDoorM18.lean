/-
  The lexer's laws on glyphs under a tail: a text with more behind it. Plain laws, no program in sight. Runes written and read back: glyphs of a text that was put together out of runes. Plain laws, no program in sight. A number's text is read as itself. Plain laws, no program in sight. LexNumbers: the plain laws. No program in sight. A text between quotes is read as itself. Plain laws, no program in sight. The text of a step that takes nothing is one token, that step's. Plain law; no condition.
-/
import Derived.Test.YtegnoaejlhbpbaaGreatDoorM15
import Derived.Lib.MapLaws
import Derived.Lib.RuneBytes
import Derived.Lib.ItoaNum
import Derived.Lib.ParseIntBCases
import Derived.Test.YtegnoaejlhbpbaaGreatDoorM14
import Derived.Test.YtegnoaejlhbpbaaGreatDoorM17
namespace Go.Proofs.YtegnoaejlhbpbaaGreatDoor.lx
open Go.RowKit

theorem takeWhile_all {α : Type} {p : α → Bool} : ∀ {l : List α}, (∀ b ∈ l, p b = true) → l.takeWhile p = l
  | [], _ => rfl
  | x :: l, h => by rw [List.takeWhile_cons, if_pos (h x (by simp)), takeWhile_all fun b hb => h b (by simp [hb])]
theorem getD_app (l r : List UInt8) (i : Nat) : (l ++ r).getD i 0 = if i < l.length then l.getD i 0 else r.getD (i - l.length) 0 := by
  simp only [List.getD_eq_getElem?_getD, List.getElem?_append]
  split <;> rfl

/-- behind an ASCII byte nothing is read on -/
theorem dec_app (l : List UInt8) (c : UInt8) (r : List UInt8) (hc : c.toNat < 128) (hl : l ≠ []) : Lib.decodeL (l ++ c :: r) = Lib.decodeL l := by
  have h0 : 0 < l.length := List.length_pos_iff.2 hl
  rw [Lib.decodeL_N, Lib.decodeL_N]
  simp only [getD_app, List.length_append, List.length_cons]
  have e0 : (if 0 < l.length then l.getD 0 0 else (c :: r).getD (0 - l.length) 0) = l.getD 0 0 := if_pos h0
  rw [e0]
  by_cases h1 : l.length = 1
  · have e1 : (if 1 < l.length then l.getD 1 0 else (c :: r).getD (1 - l.length) 0) = c := by rw [if_neg (by omega), h1]; rfl
    rw [e1]
    unfold Lib.decodeN
    have hc2 : ¬ c.toNat / 64 = 2 := by omega
    have hn1 : ¬ 1 < l.length := by omega
    simp [hc2, hn1]
  · have e1 : (if 1 < l.length then l.getD 1 0 else (c :: r).getD (1 - l.length) 0) = l.getD 1 0 := if_pos (by omega)
    rw [e1]
    by_cases h2 : l.length = 2
    · have e2 : (if 2 < l.length then l.getD 2 0 else (c :: r).getD (2 - l.length) 0) = c := by rw [if_neg (by omega), h2]; rfl
      rw [e2]
      unfold Lib.decodeN
      have hc2 : ¬ c.toNat / 64 = 2 := by omega
      have hn1 : 1 < l.length := by omega
      have hn2 : ¬ 2 < l.length := by omega
      have hn3 : 1 < l.length + (r.length + 1) := by omega
      simp [hc2, hn1, hn2, hn3]
    · have e2 : (if 2 < l.length then l.getD 2 0 else (c :: r).getD (2 - l.length) 0) = l.getD 2 0 := if_pos (by omega)
      rw [e2]
      by_cases h3 : l.length = 3
      · have e3 : (if 3 < l.length then l.getD 3 0 else (c :: r).getD (3 - l.length) 0) = c := by rw [if_neg (by omega), h3]; rfl
        rw [e3]
        unfold Lib.decodeN
        have hc2 : ¬ c.toNat / 64 = 2 := by omega
        have hn1 : 1 < l.length := by omega
        have hn2 : 2 < l.length := by omega
        have hn3 : ¬ 3 < l.length := by omega
        have hm1 : 1 < l.length + (r.length + 1) := by omega
        have hm2 : 2 < l.length + (r.length + 1) := by omega
        simp [hc2, hn1, hn2, hn3, hm1, hm2]
      · have e3 : (if 3 < l.length then l.getD 3 0 else (c :: r).getD (3 - l.length) 0) = l.getD 3 0 := if_pos (by omega)
        rw [e3]
        unfold Lib.decodeN
        have hn1 : 1 < l.length := by omega
        have hn2 : 2 < l.length := by omega
        have hn3 : 3 < l.length := by omega
        have hm1 : 1 < l.length + (r.length + 1) := by omega
        have hm2 : 2 < l.length + (r.length + 1) := by omega
        have hm3 : 3 < l.length + (r.length + 1) := by omega
        simp [hn1, hn2, hn3, hm1, hm2, hm3]

theorem gl_app (n : Nat) : ∀ (l : List UInt8) (c : UInt8) (r : List UInt8), l.length = n → c.toNat < 128 → gl (l ++ c :: r) = gl l ++ gl (c :: r) := by
  induction n using Nat.strongRecOn with
  | _ n ih =>
    intro l c r hn hc
    by_cases h : l = []
    · subst h; rw [gl_nil]; rfl
    · have h1 := dec_width l
      have h2 := Lib.decodeL_le l h
      have h3 : 0 < l.length := List.length_pos_iff.2 h
      rw [gl_cons (l := l ++ c :: r) (by simp), gl_cons h, dec_app l c r hc h, List.drop_append_of_le_length h2, ih (l.drop (Lib.decodeL l).2).length (by rw [List.length_drop]; omega) _ _ _ rfl hc]
      rfl

/-- a glyph at which a token ends, and no part of an escape -/
def stops (c : G) : Prop := endR c.1 = true ∧ c.1 ≠ 34 ∧ isHexR c.1 = false

theorem while_app (p : G → Bool) (c : G) (tl : List G) (hc : p c = false) : ∀ gs : List G, (gs ++ c :: tl).takeWhile p = gs.takeWhile p ∧ (gs ++ c :: tl).dropWhile p = gs.dropWhile p ++ c :: tl
  | [] => by simp [hc]
  | g :: gs => by
    obtain ⟨a, b⟩ := while_app p c tl hc gs
    cases hg : p g <;> simp [hg, a, b]

theorem codeG_app (c : G) (tl : List G) (hc : stops c) (gs : List G) : codeG (gs ++ c :: tl) = (codeG gs).map fun x => (x.1, x.2 ++ c :: tl) := by
  have h125 : c.1 ≠ 125 := by intro e; have := hc.1; rw [e] at this; revert this; decide
  have h123 : c.1 ≠ 123 := by intro e; have := hc.1; rw [e] at this; revert this; decide
  cases gs with
  | nil => simp [codeG, h123]
  | cons g gs =>
    obtain ⟨a, b⟩ := while_app (fun g => isHexR g.1) c tl hc.2.2 gs
    rw [List.cons_append]
    unfold codeG
    simp only
    by_cases hg : g.1 = 123
    · rw [if_pos hg, if_pos hg, a, b]
      cases hd : gs.dropWhile fun g => isHexR g.1 with
      | nil => simp [h125]
      | cons e rest =>
        simp only [List.cons_append]
        split <;> rfl
    · rw [if_neg hg, if_neg hg]; rfl

theorem escG_app (c : G) (tl : List G) (hc : stops c) (gs : List G) (h : (escG gs).1.isSome = true) : escG (gs ++ c :: tl) = ((escG gs).1, (escG gs).2 ++ c :: tl) := by
  cases gs with
  | nil => simp [escG] at h
  | cons g gs =>
    rw [List.cons_append, escG_cons, escG_cons]
    rw [escG_cons] at h
    by_cases h117 : g.1 = 117
    · rw [if_pos h117] at h ⊢
      rw [if_pos h117, codeG_app c tl hc]
      cases hcg : codeG gs with
      | none => rw [hcg] at h; simp at h
      | some x => rfl
    · rw [if_neg h117, if_neg h117]

theorem textG_app (c : G) (tl : List G) (hc : stops c) (n : Nat) : ∀ (fine : Bool) (acc : List UInt8) (gs : List G), gs.length = n → (textG fine acc gs).1.2 = 0 →
    textG fine acc (gs ++ c :: tl) = ((textG fine acc gs).1, (textG fine acc gs).2 ++ c :: tl) := by
  induction n using Nat.strongRecOn with
  | _ n ih =>
    intro fine acc gs hn h
    cases gs with
    | nil => rw [textG] at h; cases h
    | cons g gs =>
      have he := escG_length gs
      simp at hn
      rw [List.cons_append]
      rw [textG] at h ⊢
      rw [textG]
      by_cases h34 : g.1 = 34
      · rw [if_pos h34, if_pos h34]
      · rw [if_neg h34] at h ⊢
        rw [if_neg h34]
        by_cases h92 : g.1 = 92
        · rw [if_pos h92] at h ⊢
          rw [if_pos h92]
          by_cases hs : (escG gs).1.isSome = true
          · rw [if_pos hs] at h
            rw [escG_app c tl hc gs hs, if_pos hs, if_pos hs]
            exact ih (escG gs).2.length (by omega) fine _ _ rfl h
          · rw [if_neg hs] at h; cases h
        · rw [if_neg h92] at h ⊢
          rw [if_neg h92]
          exact ih gs.length (by omega) _ _ _ rfl h

/-- a token that is read is read the same, whatever is behind an end -/
theorem tokG_app (c : G) (tl : List G) (hc : stops c) (g : G) (gs : List G) (h : (tokG (g :: gs)).1.2 = 0) : tokG (g :: gs ++ c :: tl) = ((tokG (g :: gs)).1, (tokG (g :: gs)).2 ++ c :: tl) := by
  rw [List.cons_append, tokG_cons, tokG_cons]
  rw [tokG_cons] at h
  by_cases h40 : g.1 = 40
  · rw [if_pos h40, if_pos h40]
  rw [if_neg h40] at h ⊢
  rw [if_neg h40]
  by_cases h41 : g.1 = 41
  · rw [if_pos h41, if_pos h41]
  rw [if_neg h41] at h ⊢
  rw [if_neg h41]
  by_cases h34 : g.1 = 34
  · rw [if_pos h34] at h ⊢
    rw [if_pos h34]
    exact textG_app c tl hc _ _ _ _ rfl h
  · rw [if_neg h34, if_neg h34]
    obtain ⟨a, b⟩ := while_app (fun g => !endR g.1) c tl (by simp [hc.1]) (g :: gs)
    rw [List.cons_append] at a b
    simp only [bareG, bareR, a, b]
end Go.Proofs.YtegnoaejlhbpbaaGreatDoor.lx
namespace Go.Proofs.YtegnoaejlhbpbaaGreatDoor.lx
open Go.RowKit

theorem toB (x : Int) (h0 : 0 ≤ x) (h1 : x < 256) : ((x.toNat.toUInt8).toNat : Int) = x := by
  simp; omega
def validR (r : Int) : Prop := 0 ≤ r ∧ (r < 55296 ∨ 57343 < r ∧ r ≤ 1114111)
theorem dec_enc (r : Int) (h : validR r) (l : List UInt8) : Lib.decodeL (Lib.encodeRune r ++ l) = (r.toNat, (Lib.encodeRune r).length) := by
  obtain ⟨h0, h1⟩ := h
  rw [Lib.decodeL_N]
  unfold Lib.encodeRune
  by_cases c1 : r ≤ 127
  · rw [Lib.encodeRuneZ_one h0 c1]
    have t0 := toB r h0 (by omega)
    simp only [List.map_cons, List.map_nil, List.cons_append, List.nil_append, List.getD_cons_zero, List.length_cons, List.length_nil]
    unfold Lib.decodeN
    rw [if_pos (by omega)]
    simp; omega
  by_cases c2 : r ≤ 2047
  · rw [Lib.encodeRuneZ_two (by omega) c2]
    have t0 := toB (192 + r / 64) (by omega) (by omega)
    have t1 := toB (128 + r % 64) (by omega) (by omega)
    simp only [List.map_cons, List.map_nil, List.cons_append, List.nil_append, List.getD_cons_zero, List.getD_cons_succ, List.length_cons, List.length_nil]
    generalize ((192 + r / 64).toNat.toUInt8).toNat = x0 at *
    generalize ((128 + r % 64).toNat.toUInt8).toNat = x1 at *
    unfold Lib.decodeN
    rw [if_neg (by omega), if_pos (by omega), if_pos (by omega)]
    simp; omega
  by_cases c3 : r ≤ 65535
  · rw [Lib.encodeRuneZ_three (by omega)]
    have t0 := toB (224 + r / 4096) (by omega) (by omega)
    have t1 := toB (128 + r / 64 % 64) (by omega) (by omega)
    have t2 := toB (128 + r % 64) (by omega) (by omega)
    simp only [List.map_cons, List.map_nil, List.cons_append, List.nil_append, List.getD_cons_zero, List.getD_cons_succ, List.length_cons, List.length_nil]
    generalize ((224 + r / 4096).toNat.toUInt8).toNat = x0 at *
    generalize ((128 + r / 64 % 64).toNat.toUInt8).toNat = x1 at *
    generalize ((128 + r % 64).toNat.toUInt8).toNat = x2 at *
    unfold Lib.decodeN
    rw [if_neg (by omega), if_neg (by omega), if_pos (by omega), if_pos (by omega)]
    simp; omega
  · rw [Lib.encodeRuneZ_four (by omega) (by omega)]
    have t0 := toB (240 + r / 262144) (by omega) (by omega)
    have t1 := toB (128 + r / 4096 % 64) (by omega) (by omega)
    have t2 := toB (128 + r / 64 % 64) (by omega) (by omega)
    have t3 := toB (128 + r % 64) (by omega) (by omega)
    simp only [List.map_cons, List.map_nil, List.cons_append, List.nil_append, List.getD_cons_zero, List.getD_cons_succ, List.length_cons, List.length_nil]
    generalize ((240 + r / 262144).toNat.toUInt8).toNat = x0 at *
    generalize ((128 + r / 4096 % 64).toNat.toUInt8).toNat = x1 at *
    generalize ((128 + r / 64 % 64).toNat.toUInt8).toNat = x2 at *
    generalize ((128 + r % 64).toNat.toUInt8).toNat = x3 at *
    unfold Lib.decodeN
    rw [if_neg (by omega), if_neg (by omega), if_neg (by omega), if_pos (by omega), if_pos (by omega)]
    simp; omega
theorem dec_valid (l : List UInt8) : validR ((Lib.decodeL l).1 : Int) := by
  rw [Lib.decodeL_N]
  have := Lib.decodeN_shape l.length (l.getD 0 0).toNat (l.getD 1 0).toNat (l.getD 2 0).toNat (l.getD 3 0).toNat
  unfold validR
  rcases this with ⟨c, e⟩ | ⟨c1, c2, c3, cv, e⟩ | ⟨c1, c2, c3, c4, cv, cs, e⟩ | ⟨c1, c2, c3, c4, c5, cv, cw, e⟩ | e <;> rw [e] <;> simp only <;> omega

theorem enc_ne (r : Int) (l : List UInt8) : Lib.encodeRune r ++ l ≠ [] := by
  have := (Lib.encodeRuneZ_length r).1
  intro h
  have h2 := congrArg List.length h
  simp only [List.length_append, List.length_nil, Lib.encodeRune, List.length_map] at h2
  omega
theorem gl_enc (r : Int) (h : validR r) (l : List UInt8) : gl (Lib.encodeRune r ++ l) = (r, true) :: gl l := by
  rw [gl_cons (enc_ne r l), dec_enc r h l]
  have h0 := h.1
  have e : ((r.toNat : Nat) : Int) = r := by omega
  have hl : ¬ (r.toNat = 65533 ∧ (Lib.encodeRune r).length = 1) := by
    rintro ⟨a, b⟩
    have : r = 65533 := by omega
    subst this
    revert b
    decide
  simp only [e, List.drop_left]
  rw [decide_eq_false hl]
  rfl
theorem gl_validR (n : Nat) : ∀ l : List UInt8, l.length = n → ∀ g ∈ gl l, validR g.1 := by
  induction n using Nat.strongRecOn with
  | _ n ih =>
    intro l hn g hg
    by_cases h : l = []
    · subst h; rw [gl_nil] at hg; cases hg
    · rw [gl_cons h] at hg
      rcases List.mem_cons.1 hg with rfl | hg
      · exact dec_valid l
      · have h1 := dec_width l
        have h2 : 0 < l.length := List.length_pos_iff.2 h
        exact ih (l.drop (Lib.decodeL l).2).length (by rw [List.length_drop]; omega) _ rfl g hg
def okG (gs : List G) : List G := gs.map fun g => (g.1, true)
theorem gl_runeB : ∀ (gs : List G) (l : List UInt8), (∀ g ∈ gs, validR g.1) → gl (runeB gs ++ l) = okG gs ++ gl l
  | [], _, _ => rfl
  | g :: gs, l, h => by
    show gl (Lib.encodeRune g.1 ++ runeB gs ++ l) = _
    rw [List.append_assoc, gl_enc g.1 (h g (by simp)), gl_runeB gs l (fun x hx => h x (by simp [hx]))]
    rfl
theorem okG_of {gs : List G} (h : gs.all (·.2) = true) : okG gs = gs := by
  induction gs with
  | nil => rfl
  | cons g gs ih =>
    simp only [List.all_cons, Bool.and_eq_true] at h
    show (g.1, true) :: okG gs = g :: gs
    rw [ih h.2, ← h.1]
/-- a text without a bad rune is its runes -/
theorem runeB_gl (n : Nat) : ∀ l : List UInt8, l.length = n → (gl l).all (·.2) = true → runeB (gl l) = l := by
  induction n using Nat.strongRecOn with
  | _ n ih =>
    intro l hn hall
    by_cases h : l = []
    · subst h; rw [gl_nil]; rfl
    · rw [gl_cons h] at hall ⊢
      simp only [List.all_cons, Bool.and_eq_true, Bool.not_eq_true', decide_eq_false_iff_not] at hall
      have h1 := dec_width l
      have h2 : 0 < l.length := List.length_pos_iff.2 h
      show Lib.encodeRune ((Lib.decodeL l).1 : Int) ++ runeB (gl (l.drop (Lib.decodeL l).2)) = l
      rw [ih (l.drop (Lib.decodeL l).2).length (by rw [List.length_drop]; omega) _ rfl hall.2, Lib.encode_decode l h hall.1, List.take_append_drop]
end Go.Proofs.YtegnoaejlhbpbaaGreatDoor.lx
namespace Go.Proofs.YtegnoaejlhbpbaaGreatDoor.lx

theorem parseM_app (M : Nat) : ∀ (l1 l2 : List UInt8) (acc v : Nat), Lib.parseUintM M acc l1 = .ok v → Lib.parseUintM M acc (l1 ++ l2) = Lib.parseUintM M v l2
  | [], l2, acc, v, h => by rw [Lib.parseUintM] at h; injection h with h; subst h; rfl
  | c :: l1, l2, acc, v, h => by
    rw [List.cons_append]
    rw [Lib.parseUintM] at h ⊢
    by_cases h1 : 48 ≤ c.toNat ∧ c.toNat ≤ 57
    · rw [if_pos h1] at h ⊢
      by_cases h2 : 1844674407370955162 ≤ acc
      · rw [if_pos h2] at h; cases h
      · rw [if_neg h2] at h ⊢
        by_cases h3 : M < acc * 10 + (c.toNat - 48)
        · rw [if_pos h3] at h; cases h
        · rw [if_neg h3] at h ⊢
          exact parseM_app M l1 l2 _ v h
    · rw [if_neg h1] at h; cases h
theorem digit_toNat (d : Nat) (h : d < 10) : (UInt8.ofNat (48 + d)).toNat = 48 + d := by
  have : ∀ k : Fin 10, (UInt8.ofNat (48 + k.val)).toNat = 48 + k.val := by decide +kernel
  exact this ⟨d, h⟩
theorem parseM_digit (M acc d : Nat) (h : d < 10) (ha : acc < 1844674407370955162) (hM : acc * 10 + d ≤ M) : Lib.parseUintM M acc [UInt8.ofNat (48 + d)] = .ok (acc * 10 + d) := by
  rw [Lib.parseUintM, digit_toNat d h, if_pos (by omega), if_neg (by omega), if_neg (by omega), Lib.parseUintM]
  have : 48 + d - 48 = d := by omega
  rw [this]
theorem parseM_dec (M : Nat) (hM : M < 18446744073709551616) (n : Nat) : ∀ u : Nat, u = n → u ≤ M → Lib.parseUintM M 0 (Lib.decDigits u) = .ok u := by
  induction n using Nat.strongRecOn with
  | _ n ih =>
    intro u hu hm
    rw [Lib.decDigits]
    by_cases h : u < 10
    · rw [dif_pos h]
      have := parseM_digit M 0 u h (by omega) (by omega)
      simpa using this
    · rw [dif_neg h, parseM_app M _ _ 0 (u / 10) (ih (u / 10) (by omega) (u / 10) rfl (by omega)), parseM_digit M (u / 10) (u % 10) (by omega) (by omega) (by omega)]
      have : u / 10 * 10 + u % 10 = u := by omega
      rw [this]
theorem dec_digits (n : Nat) : ∀ u : Nat, u = n → Lib.decDigits u ≠ [] ∧ ∀ b ∈ Lib.decDigits u, 48 ≤ b.toNat ∧ b.toNat ≤ 57 := by
  induction n using Nat.strongRecOn with
  | _ n ih =>
    intro u hu
    rw [Lib.decDigits]
    by_cases h : u < 10
    · rw [dif_pos h]
      refine ⟨by simp, fun b hb => ?_⟩
      rw [List.mem_singleton.1 hb, digit_toNat u h]
      omega
    · rw [dif_neg h]
      refine ⟨by simp, fun b hb => ?_⟩
      rcases List.mem_append.1 hb with hb | hb
      · exact (ih (u / 10) (by omega) (u / 10) rfl).2 b hb
      · rw [List.mem_singleton.1 hb, digit_toNat _ (Nat.mod_lt _ (by decide))]
        omega
theorem parseB_dec (u : Nat) (h : u < 18446744073709551616) : Lib.parseUintB 64 (Lib.decDigits u) = .ok u := by
  rw [Lib.parseUintB, if_neg (dec_digits u u rfl).1]
  exact parseM_dec _ (by decide) u u rfl (by omega)
theorem parse_itoa (n : Int) (h0 : -9223372036854775808 ≤ n) (h1 : n ≤ 9223372036854775807) : Lib.parseIntB 64 (Lib.itoa n) = .ok n := by
  unfold Lib.itoa
  by_cases h : n < 0
  · rw [if_pos h, Lib.parseIntB_minus, parseB_dec n.natAbs (by omega)]
    show (if (2 ^ (64 - 1)) < n.natAbs then _ else Lib.NumEnd.ok (-(n.natAbs : Int))) = _
    rw [if_neg (by simp; omega)]
    congr 1
    omega
  · rw [if_neg h]
    obtain ⟨hne, hd⟩ := dec_digits n.toNat n.toNat rfl
    obtain ⟨c, r, hc⟩ : ∃ c r, Lib.decDigits n.toNat = c :: r := by
      cases hx : Lib.decDigits n.toNat with
      | nil => exact absurd hx hne
      | cons c r => exact ⟨c, r, rfl⟩
    have hcd := hd c (by rw [hc]; simp)
    rw [hc, Lib.parseIntB_plain 64 c r (by omega) (by omega), ← hc, parseB_dec n.toNat (by omega)]
    show (if (2 ^ (64 - 1)) ≤ n.toNat then _ else Lib.NumEnd.ok (n.toNat : Int)) = _
    rw [if_neg (by simp; omega)]
    congr 1
    omega
theorem itoa_inj {a b : Int} (ha0 : -9223372036854775808 ≤ a) (ha1 : a ≤ 9223372036854775807) (hb0 : -9223372036854775808 ≤ b) (hb1 : b ≤ 9223372036854775807) (h : Lib.itoa a = Lib.itoa b) : a = b := by
  have h1 := parse_itoa a ha0 ha1
  rw [h, parse_itoa b hb0 hb1] at h1
  injection h1 with h1
  exact h1.symm
end Go.Proofs.YtegnoaejlhbpbaaGreatDoor.lx
namespace Go.Proofs.YtegnoaejlhbpbaaGreatDoor.lx
open Go.RowKit

def asc (D : List UInt8) : List G := D.map fun b => ((((b.toNat : Nat) : Int), true) : G)
theorem gl_asc {D : List UInt8} (h : ∀ b ∈ D, b.toNat < 128) : gl D = asc D := by
  have := gl_asciis D [] h
  rw [List.append_nil, gl_nil, List.append_nil] at this
  exact this
theorem enc_ascii (b : UInt8) (h : b.toNat < 128) : Lib.encodeRune ((b.toNat : Nat) : Int) = [b] := by
  unfold Lib.encodeRune
  rw [Lib.encodeRuneZ_one (by omega) (by omega)]
  simp only [List.map_cons, List.map_nil]
  rw [Lib.toByte _ b rfl]
theorem runeB_asc : ∀ D : List UInt8, (∀ b ∈ D, b.toNat < 128) → runeB (asc D) = D
  | [], _ => rfl
  | b :: D, h => by
    have := runeB_asc D (fun x hx => h x (by simp [hx]))
    show Lib.encodeRune ((b.toNat : Nat) : Int) ++ runeB (asc D) = _
    rw [this, enc_ascii b (h b (by simp))]
    rfl
/-- bytes of a number -/
def numB (b : UInt8) : Prop := b.toNat = 45 ∨ 48 ≤ b.toNat ∧ b.toNat ≤ 57
theorem itoa_bytes (n : Int) : Lib.itoa n ≠ [] ∧ ∀ b ∈ Lib.itoa n, numB b := by
  unfold Lib.itoa
  split
  · refine ⟨by simp, fun b hb => ?_⟩
    rcases List.mem_cons.1 hb with rfl | hb
    · exact .inl (by decide)
    · exact .inr ((dec_digits n.natAbs n.natAbs rfl).2 b hb)
  · exact ⟨(dec_digits n.toNat n.toNat rfl).1, fun b hb => .inr ((dec_digits n.toNat n.toNat rfl).2 b hb)⟩
theorem itoa_start (n : Int) : numStart (Lib.itoa n) = true := by
  have hdig : ∀ b : UInt8, 48 ≤ b.toNat ∧ b.toNat ≤ 57 → digB b = true := fun b h => by simp [digB]; omega
  unfold Lib.itoa
  split
  · obtain ⟨hne, hd⟩ := dec_digits n.natAbs n.natAbs rfl
    cases hx : Lib.decDigits n.natAbs with
    | nil => exact absurd hx hne
    | cons d r => simp [numStart, hdig d (hd d (by rw [hx]; simp))]
  · obtain ⟨hne, hd⟩ := dec_digits n.toNat n.toNat rfl
    cases hx : Lib.decDigits n.toNat with
    | nil => exact absurd hx hne
    | cons d r => simp [numStart, hdig d (hd d (by rw [hx]; simp))]
theorem numB_lt {b : UInt8} (h : numB b) : b.toNat < 128 := by rcases h with h | h <;> omega
theorem numB_end {b : UInt8} (h : numB b) : endR ((b.toNat : Nat) : Int) = false := by
  cases hc : endR ((b.toNat : Nat) : Int) with
  | false => rfl
  | true => rw [endR_iff] at hc; rcases h with h | h <;> omega

def numT (n : Int) (p : Nat) : Tok := ⟨4, ⟨#[]⟩, n, p⟩
theorem tok_num (n : Int) (h0 : -9223372036854775808 ≤ n) (h1 : n ≤ 9223372036854775807) :
    ∃ g gs, asc (Lib.itoa n) = g :: gs ∧ tokG (g :: gs) = ((numT n 0, 0), []) ∧ firm (g :: gs) := by
  obtain ⟨hne, hb⟩ := itoa_bytes n
  have hend : ∀ g ∈ asc (Lib.itoa n), (!endR g.1) = true := by
    intro g hg
    obtain ⟨b, hb', rfl⟩ := List.mem_map.1 hg
    simp [numB_end (hb b hb')]
  have hok : (asc (Lib.itoa n)).all (·.2) = true := by simp [asc]
  have hrune := runeB_asc (Lib.itoa n) (fun b h => numB_lt (hb b h))
  have htake : bareG (asc (Lib.itoa n)) = asc (Lib.itoa n) := by
    unfold bareG
    exact takeWhile_all hend
  have hdrop : bareR (asc (Lib.itoa n)) = [] := dropWhile_all hend
  have hw : wordG (asc (Lib.itoa n)) = (numT n 0, 0) := by
    rw [wordG, if_pos hok, hrune, wordTok, if_neg (by simp), if_pos (itoa_start n), numTok]
    show (match Lib.parseIntB 64 (Lib.itoa n) with
      | .ok m => if Lib.itoa m = Lib.itoa n then _ else _
      | _ => _) = _
    rw [parse_itoa n h0 h1]
    simp only [if_true]
    rfl
  cases hx : asc (Lib.itoa n) with
  | nil => exact absurd (List.map_eq_nil_iff.1 hx) hne
  | cons g gs =>
    have hg : ∃ b, numB b ∧ g.1 = ((b.toNat : Nat) : Int) := by
      have : g ∈ asc (Lib.itoa n) := by rw [hx]; simp
      obtain ⟨b, hb', rfl⟩ := List.mem_map.1 this
      exact ⟨b, hb b hb', rfl⟩
    obtain ⟨b, hnb, hgb⟩ := hg
    refine ⟨g, gs, rfl, ?_, ?_⟩
    · rw [tokG_cons, if_neg (by rcases hnb with h | h <;> omega), if_neg (by rcases hnb with h | h <;> omega), if_neg (by rcases hnb with h | h <;> omega), ← hx, htake, hw, hdrop]
    · show (noted false g.1 || blankR g.1) = false
      rw [hgb]
      rcases hnb with h | h <;> simp [noted, blankR] <;> omega

theorem lexR_num (n : Int) (h0 : -9223372036854775808 ≤ n) (h1 : n ≤ 9223372036854775807) : lexR ⟨(Lib.itoa n).toArray⟩ = ([numT n 0], 0, 0) := by
  obtain ⟨g, gs, hx, ht, hf⟩ := tok_num n h0 h1
  have hlen := itoa_len n h0 h1
  obtain ⟨hne, hb⟩ := itoa_bytes n
  rw [lexR_gl _ (by simp [ByteArray.size]; omega)]
  show lexG (gl (Lib.itoa n)) = _
  rw [gl_asc (fun b h => numB_lt (hb b h)), hx, lexG, skipG_of_firm hf, lexK_step hf (by rw [ht]), ht]
  simp [skipG, lexK_nil, numT, Tok.at]

theorem show_num (n : Int) (h0 : -9223372036854775808 ≤ n) (h1 : n ≤ 9223372036854775807) : showF ⟨4, ⟨#[]⟩, n, 0⟩ = (⟨(Lib.itoa n).toArray⟩, 0) := by
  have hS : showS ⟨4, ⟨#[]⟩, n, 0⟩ = ⟨(Lib.itoa n).toArray⟩ := rfl
  rw [showF, if_pos (by rw [showOk, hS, lexR_num n h0 h1]; exact ⟨rfl, rfl⟩), hS]

theorem lexR_two (a b : Int) (ha0 : -9223372036854775808 ≤ a) (ha1 : a ≤ 9223372036854775807) (hb0 : -9223372036854775808 ≤ b) (hb1 : b ≤ 9223372036854775807) :
    lexR ⟨(Lib.itoa a ++ 32 :: Lib.itoa b).toArray⟩ = ([numT a 0, numT b ((Lib.itoa a).length + 1)], 0, 0) := by
  obtain ⟨g, gs, hx, ht, hf⟩ := tok_num a ha0 ha1
  obtain ⟨g', gs', hx', ht', hf'⟩ := tok_num b hb0 hb1
  have hlen := itoa_len a ha0 ha1
  have hlen' := itoa_len b hb0 hb1
  obtain ⟨hne, hb⟩ := itoa_bytes a
  obtain ⟨hne', hb'⟩ := itoa_bytes b
  rw [lexR_gl _ (by simp [ByteArray.size]; omega)]
  show lexG (gl (Lib.itoa a ++ 32 :: Lib.itoa b)) = _
  have hgl : gl (Lib.itoa a ++ 32 :: Lib.itoa b) = (g :: gs) ++ (32, true) :: (g' :: gs') := by
    rw [gl_app _ _ _ _ rfl (by decide), gl_asc (fun b h => numB_lt (hb b h)), hx, gl_ascii _ (by decide), gl_asc (fun b h => numB_lt (hb' b h)), hx']
    rfl
  have hst : stops ((32, true) : G) := by refine ⟨by decide, by decide, by decide⟩
  have happ := tokG_app (32, true) (g' :: gs') hst g gs (by rw [ht])
  rw [ht] at happ
  have hfa : firm (g :: gs ++ (32, true) :: (g' :: gs')) := hf
  have hsk : skipG false ((32, true) :: (g' :: gs')) = g' :: gs' := by
    rw [skipG, if_pos (by decide)]
    exact skipG_of_firm hf'
  have hl1 : (g :: gs).length = (Lib.itoa a).length := by rw [← hx]; simp [asc]
  rw [hgl, lexG, skipG_of_firm hfa]
  rw [List.cons_append] at happ hfa ⊢
  rw [lexK_step hfa (by rw [happ]), happ]
  simp only [List.nil_append]
  rw [hsk, lexK_step hf' (by rw [ht']), ht']
  simp only [skipG, lexK_nil]
  simp [numT, Tok.at] at hl1 ⊢
  omega
end Go.Proofs.YtegnoaejlhbpbaaGreatDoor.lx
namespace Go.Proofs.YtegnoaejlhbpbaaGreatDoor.lx
open Go.RowKit

theorem quotL_gl (n : Nat) : ∀ l : ByteArray, l.size = n → quotL l = (gl (B l)).flatMap fun g => quotR g.1 := by
  induction n using Nat.strongRecOn with
  | _ n ih =>
    intro l hn
    by_cases h0 : l.size = 0
    · rw [quotL_end h0, glB_nil h0]; rfl
    · have := adv_lt l h0
      rw [quotL_go h0, glB_cons h0, ih (adv l).size (by omega) _ rfl]
      rfl

theorem asc_append (a b : List UInt8) : asc (a ++ b) = asc a ++ asc b := by simp [asc]
theorem codeG_asc (D : List UInt8) (tl : List G) (hD : ∀ b ∈ D, isHexB b = true) (h1 : 1 ≤ D.length) (h6 : D.length ≤ 6) (hv : Lib.validRune (hexG (asc D)) = true) :
    codeG ((123, true) :: (asc D ++ (125, true) :: tl)) = some (hexG (asc D), tl) := by
  have hall : ∀ g ∈ asc D, isHexR g.1 = true := by
    intro g hg
    obtain ⟨b, hb, rfl⟩ := List.mem_map.1 hg
    rw [← isHexB_iff]; exact hD b hb
  obtain ⟨a, b⟩ := while_app (fun g => isHexR g.1) (125, true) tl (by show isHexR 125 = false; decide) (asc D)
  have ta : (asc D).takeWhile (fun g => isHexR g.1) = asc D := takeWhile_all hall
  have tb : (asc D).dropWhile (fun g => isHexR g.1) = [] := dropWhile_all hall
  rw [ta] at a
  rw [tb] at b
  unfold codeG
  simp only [if_true, b, a, List.nil_append, true_and]
  have hl : (asc D).length = D.length := by simp [asc]
  rw [if_pos ⟨by omega, by omega, hv⟩]

theorem hexN2_spec : ∀ k : Fin 256, (∀ b ∈ hexN2 k.val, isHexB b = true) ∧ 1 ≤ (hexN2 k.val).length ∧ hexG (asc (hexN2 k.val)) = k.val ∧ Lib.validRune (k.val : Int) = true := by decide +kernel

theorem textG_quot (tl : List UInt8) : ∀ (gs : List G) (acc : List UInt8), (∀ g ∈ gs, validR g.1) →
    textG true acc (gl ((gs.flatMap fun g => quotR g.1) ++ 34 :: tl)) = ((if 256 < (acc ++ runeB gs).length then (Tok.no, 4) else (⟨5, ⟨(acc ++ runeB gs).toArray⟩, 0, 0⟩, 0)), gl tl)
  | [], acc, _ => by
    rw [List.flatMap_nil, List.nil_append, gl_ascii _ (by decide), textG]
    simp only
    rw [if_pos (by decide), if_neg (by simp)]
    simp [runeB]
  | g :: gs, acc, hv => by
    have hg := hv g (by simp)
    have ih := fun acc => textG_quot tl gs acc (fun x hx => hv x (by simp [hx]))
    have hacc : ∀ acc : List UInt8, acc ++ runeB (g :: gs) = (acc ++ Lib.encodeRune g.1) ++ runeB gs := by intro acc; simp [runeB]
    rw [List.flatMap_cons, List.append_assoc, hacc]
    generalize (gs.flatMap fun g => quotR g.1) ++ 34 :: tl = R at ih ⊢
    obtain ⟨r, o⟩ := g
    simp only at hg ⊢
    unfold quotR
    by_cases h1 : r = 34 ∨ r = 92
    · rw [if_pos h1, List.cons_append, gl_ascii _ (by decide), gl_enc r hg, textG]
      have he : escG ((r, true) :: gl R) = (some r, gl R) := by
        rw [escG_cons, if_neg (by show ¬ r = 117; omega)]
        rcases h1 with rfl | rfl <;> rfl
      simp only
      rw [if_neg (by decide), if_pos (by decide), he, if_pos (by rfl)]
      exact ih _
    · rw [if_neg h1]
      by_cases h2 : r < 32 ∨ r = 127
      · rw [if_pos h2]
        have h0 := hg.1
        obtain ⟨k1, k2, k3, k4⟩ := hexN2_spec ⟨r.toNat, by omega⟩
        simp only at k1 k2 k3 k4
        have k5 := hexN2_len r.toNat
        have hgl : gl ([92, 117, 123] ++ hexN2 r.toNat ++ [125] ++ R) = (92, true) :: (117, true) :: (123, true) :: (asc (hexN2 r.toNat) ++ (125, true) :: gl R) := by
          have : [92, 117, 123] ++ hexN2 r.toNat ++ [125] ++ R = 92 :: 117 :: 123 :: (hexN2 r.toNat ++ 125 :: R) := by simp
          rw [this, gl_ascii _ (by decide), gl_ascii _ (by decide), gl_ascii _ (by decide), gl_asciis _ _ (fun b hb => isHexB_lt (k1 b hb)), gl_ascii _ (by decide)]
          rfl
        have hc := codeG_asc (hexN2 r.toNat) (gl R) k1 k2 (by omega) (by rw [k3]; exact k4)
        have he : escG ((117, true) :: (123, true) :: (asc (hexN2 r.toNat) ++ (125, true) :: gl R)) = (some r, gl R) := by
          rw [escG_cons, if_pos rfl, hc, k3]
          simp only
          rw [show ((r.toNat : Nat) : Int) = r by omega]
        rw [hgl, textG]
        simp only
        rw [if_neg (by decide), if_pos (by decide), he, if_pos (by rfl)]
        exact ih _
      · rw [if_neg h2, gl_enc r hg, textG]
        simp only
        rw [if_neg (by omega), if_neg (by omega)]
        exact ih _

theorem wordTok_kind {s : ByteArray} (h : (wordTok true s).2 = 0) : ((wordTok true s).1.k = 3 ∧ (wordTok true s).1.s = s) ∨ ((wordTok true s).1.k = 4 ∧ (wordTok true s).1.s = ⟨#[]⟩) := by
  unfold wordTok at h ⊢
  rw [if_neg (by simp)] at h ⊢
  split at h
  · rename_i h1
    rw [if_pos h1]
    unfold numTok at h ⊢
    split at h
    · split at h
      · rename_i h2
        rw [if_pos h2]
        exact .inr ⟨rfl, rfl⟩
      · cases h
    · cases h
  · rename_i h1
    rw [if_neg h1]
    split at h
    · cases h
    · rename_i h2
      rw [if_neg h2]
      exact .inl ⟨rfl, rfl⟩
theorem wordTok_a (fine : Bool) (s : ByteArray) : (wordTok fine s).1.a = 0 := by
  unfold wordTok numTok
  split
  · rfl
  · split
    · split
      · split <;> rfl
      · rfl
    · split <;> rfl
theorem textG_kind (n : Nat) : ∀ (fine : Bool) (acc : List UInt8) (gs : List G), gs.length = n → (textG fine acc gs).1.2 = 0 → (textG fine acc gs).1.1.k = 5 := by
  induction n using Nat.strongRecOn with
  | _ n ih =>
    intro fine acc gs hn h
    cases gs with
    | nil => rw [textG] at h; cases h
    | cons g gs =>
      have he := escG_length gs
      simp at hn
      rw [textG] at h ⊢
      split at h
      · rename_i h1
        rw [if_pos h1]
        simp only at h ⊢
        split at h
        · cases h
        · rename_i h2
          rw [if_neg h2]
          split at h
          · cases h
          · rename_i h3
            rw [if_neg h3]
      · rename_i h1
        rw [if_neg h1]
        split at h
        · rename_i h2
          rw [if_pos h2]
          split at h
          · rename_i h3
            rw [if_pos h3]
            exact ih (escG gs).2.length (by omega) _ _ _ rfl h
          · cases h
        · rename_i h2
          rw [if_neg h2]
          exact ih gs.length (by omega) _ _ _ rfl h
theorem textG_a (n : Nat) : ∀ (fine : Bool) (acc : List UInt8) (gs : List G), gs.length = n → (textG fine acc gs).1.1.a = 0 := by
  induction n using Nat.strongRecOn with
  | _ n ih =>
    intro fine acc gs hn
    cases gs with
    | nil => rw [textG]; rfl
    | cons g gs =>
      have he := escG_length gs
      simp at hn
      rw [textG]
      split
      · simp only
        split
        · rfl
        · split <;> rfl
      · split
        · split
          · exact ih (escG gs).2.length (by omega) _ _ _ rfl
          · rfl
        · exact ih gs.length (by omega) _ _ _ rfl
theorem tokG_a (g : G) (gs : List G) : (tokG (g :: gs)).1.1.at 0 = (tokG (g :: gs)).1.1 := by
  have h : (tokG (g :: gs)).1.1.a = 0 := by
    rw [tokG_cons]
    split
    · rfl
    split
    · rfl
    split
    · exact textG_a _ _ _ _ rfl
    · simp only
      unfold wordG
      split
      · exact wordTok_a _ _
      · rfl
  generalize (tokG (g :: gs)).1.1 = t at h
  obtain ⟨k, s, n, a⟩ := t
  simp only at h
  subst h
  rfl

/-- what a shown text is read as -/
theorem tokG_quot (s : ByteArray) : ∃ gs, gl (B (quotF s)) = (34, true) :: gs ∧
    tokG ((34, true) :: gs) = ((if 256 < (runeB (gl (B s))).length then (Tok.no, 4) else (⟨5, ⟨(runeB (gl (B s))).toArray⟩, 0, 0⟩, 0)), []) := by
  refine ⟨gl (quotL s ++ [34]), ?_, ?_⟩
  · show gl (34 :: (quotL s ++ [34])) = _
    rw [gl_ascii _ (by decide)]
    rfl
  · have := textG_quot [] (gl (B s)) [] (gl_validR _ _ rfl)
    rw [gl_nil, List.nil_append] at this
    rw [tokG_cons, if_neg (by decide), if_neg (by decide), if_pos rfl, quotL_gl _ s rfl]
    exact this

/-- a token whose text is read as itself: its glyphs are that token's, all of them -/
theorem show_alone (t : Tok) (h : showOk t) : (showS t).size ≤ 2048 ∧ ∃ g gs, gl (B (showS t)) = g :: gs ∧ firm (g :: gs) ∧ tokG (g :: gs) = ((t.at 0, 0), []) := by
  obtain ⟨h1, h2⟩ := h
  have hsz : (showS t).size ≤ 2048 := by
    refine Decidable.byContradiction fun hh => ?_
    rw [lexR_long (by omega)] at h1
    cases h1
  refine ⟨hsz, ?_⟩
  rw [lexR_gl _ hsz, lexG] at h1 h2
  by_cases h0 : (lexK (skipG false (gl (B (showS t))))).2.1 = 0
  · rw [if_pos h0] at h2
    have hf := skipG_firm (gl (B (showS t))) false
    have hsuf := skipG_suffix (gl (B (showS t))) false
    obtain ⟨X, hX⟩ : ∃ X, skipG false (gl (B (showS t))) = X := ⟨_, rfl⟩
    rw [hX] at h0 h2 hf hsuf
    cases X with
    | nil => rw [lexK_nil] at h2; cases h2
    | cons g xs =>
      have ht : (tokG (g :: xs)).1.2 = 0 := by
        refine Decidable.byContradiction fun hh => ?_
        rw [lexK_bad hh] at h0
        exact hh h0
      have hst := lexK_step hf ht
      rw [hst] at h2
      simp only [List.map_cons, List.cons.injEq, List.map_eq_nil_iff] at h2
      obtain ⟨h3, h4⟩ := h2
      have hlen : (gl (B (showS t))).length - (g :: xs).length = 0 := by
        have h5 : ((((gl (B (showS t))).length - (g :: xs).length : Nat) : Int)) = ((0 : Nat) : Int) := congrArg Tok.a h3
        omega
      have hX' : gl (B (showS t)) = g :: xs := (hsuf.eq_of_length (by have := hsuf.length_le; omega)).symm
      rw [hlen] at h3
      refine ⟨g, xs, hX', hf, ?_⟩
      have htok : (tokG (g :: xs)).1.1 = t.at 0 := by
        rw [← h3]
        exact (tokG_a g xs).symm
      have hrest : (tokG (g :: xs)).2 = [] := by
        rw [tokG_cons] at htok ht ⊢
        by_cases h40 : g.1 = 40
        · rw [if_pos h40] at htok ⊢
          have hk : t.k = 1 := (congrArg Tok.k htok).symm
          have : showS t = ⟨#[40]⟩ := by rw [showS, if_pos hk]
          rw [this] at hX'
          have e : gl (B ⟨#[40]⟩) = [((40 : Int), true)] := by decide +kernel
          rw [e] at hX'
          simp only
          exact (List.cons.inj hX').2.symm
        rw [if_neg h40] at htok ht ⊢
        by_cases h41 : g.1 = 41
        · rw [if_pos h41] at htok ⊢
          have hk : t.k = 2 := (congrArg Tok.k htok).symm
          have : showS t = ⟨#[41]⟩ := by rw [showS, if_neg (by omega), if_pos hk]
          rw [this] at hX'
          have e : gl (B ⟨#[41]⟩) = [((41 : Int), true)] := by decide +kernel
          rw [e] at hX'
          simp only
          exact (List.cons.inj hX').2.symm
        rw [if_neg h41] at htok ht ⊢
        by_cases h34 : g.1 = 34
        · rw [if_pos h34] at htok ht ⊢
          have hk : t.k = 5 := by
            rw [← textG_kind _ g.2 [] xs rfl ht]
            exact (congrArg Tok.k htok).symm
          have : showS t = quotF t.s := by rw [showS, if_neg (by omega), if_neg (by omega), if_neg (by omega), if_pos hk]
          rw [this] at hX'
          obtain ⟨gs, e1, e2⟩ := tokG_quot t.s
          rw [e1] at hX'
          obtain ⟨e3, e4⟩ := List.cons.inj hX'
          subst e4
          rw [tokG_cons, if_neg (by decide), if_neg (by decide), if_pos rfl] at e2
          rw [← e3, e2]
        · rw [if_neg h34] at htok ht ⊢
          simp only at htok ht ⊢
          have hall : (bareG (g :: xs)).all (·.2) = true := by
            cases hc : (bareG (g :: xs)).all (·.2) with
            | true => rfl
            | false => rw [wordG, if_neg (by simp [hc])] at ht; cases ht
          rw [wordG, if_pos hall] at htok ht
          have hfull : bareG (g :: xs) ++ bareR (g :: xs) = g :: xs := List.takeWhile_append_dropWhile
          rcases wordTok_kind ht with ⟨hk, hs⟩ | ⟨hk, hs⟩
          · have hkt : t.k = 3 := by rw [← hk, htok]; rfl
            have hst : t.s = ⟨(runeB (bareG (g :: xs))).toArray⟩ := by rw [← hs, htok]; rfl
            have hsh : showS t = t.s := by rw [showS, if_neg (by omega), if_neg (by omega), if_neg (by omega), if_neg (by omega)]
            rw [hsh, hst] at hX'
            have hB : B ⟨(runeB (bareG (g :: xs))).toArray⟩ = runeB (bareG (g :: xs)) ++ [] := by simp [B]
            have hval : ∀ y ∈ bareG (g :: xs), validR y.1 := by
              intro y hy
              have hm : y ∈ g :: xs := (List.takeWhile_sublist _).subset hy
              rw [← hX'] at hm
              exact gl_validR _ _ rfl y hm
            rw [hB, gl_runeB _ _ hval, gl_nil, List.append_nil, okG_of hall] at hX'
            have := congrArg List.length hfull
            rw [List.length_append, hX'] at this
            exact List.eq_nil_of_length_eq_zero (by omega)
          · have hkt : t.k = 4 := by rw [← hk, htok]; rfl
            have hsh : showS t = ⟨(Lib.itoa t.n).toArray⟩ := by rw [showS, if_neg (by omega), if_neg (by omega), if_pos hkt]
            rw [hsh] at hX'
            obtain ⟨hne, hb⟩ := itoa_bytes t.n
            have hB : B ⟨(Lib.itoa t.n).toArray⟩ = Lib.itoa t.n := by simp [B]
            rw [hB, gl_asc (fun b h => numB_lt (hb b h))] at hX'
            rw [← hX']
            refine dropWhile_all ?_
            intro y hy
            obtain ⟨b, hb', rfl⟩ := List.mem_map.1 hy
            simp [numB_end (hb b hb')]
      exact Prod.ext (Prod.ext htok ht) hrest
  · rw [if_neg h0] at h1
    exact absurd h1 h0
end Go.Proofs.YtegnoaejlhbpbaaGreatDoor.lx
namespace Go.Proofs.YtegnoaejlhbpbaaGreatDoor.lx
open Go.RowKit

theorem gl_valid (n : Nat) : ∀ l : List UInt8, l.length = n → Lib.validD l = true → runeB (gl l) = l := by
  induction n using Nat.strongRecOn with
  | _ n ih =>
    intro l hl hv
    by_cases h0 : l = []
    · subst h0; rw [gl_nil]; rfl
    · rw [Lib.validD_step l h0] at hv
      split at hv
      · cases hv
      · rename_i hb
        have hw := dec_width l
        have hp : 0 < l.length := List.length_pos_iff.2 h0
        have he := Lib.encode_decode l h0 hb
        rw [gl_cons h0]
        show Lib.encodeRune _ ++ runeB (gl (l.drop _)) = l
        rw [ih _ (by rw [List.length_drop]; omega) _ rfl hv, he, List.take_append_drop]
/-- the text of a leaf -/
def leafT (s : Stp) : ByteArray := if s.k = 6 then s.s else showS (leafTok s)
theorem lexR_quot {s : ByteArray} (hv : validS s = true) (hs : s.size ≤ 256) (hq : (quotF s).size ≤ 2048) : lexR (quotF s) = ([⟨5, s, 0, 0⟩], 0, 0) := by
  obtain ⟨gs, hg, ht⟩ := tokG_quot s
  have hr : runeB (gl (B s)) = B s := gl_valid _ _ rfl hv
  rw [hr, if_neg (by rw [B_length]; omega)] at ht
  have hb : (ByteArray.mk (B s).toArray) = s := by apply ByteArray.ext; simp [B]
  rw [hb] at ht
  have hf : firm ((34, true) :: gs) := show (noted false 34 || blankR 34) = false by decide
  rw [lexR_gl _ hq, hg, lexG, skipG_of_firm hf, lexK_step hf (by rw [ht]), ht]
  simp [skipG, lexK_nil, Tok.at]
theorem showOk_quot {s : ByteArray} (hv : validS s = true) (hs : s.size ≤ 256) (hq : (quotF s).size ≤ 2048) : showOk ⟨5, s, 0, 0⟩ := by
  have e : showS ⟨5, s, 0, 0⟩ = quotF s := rfl
  rw [showOk, e, lexR_quot hv hs hq]
  exact ⟨rfl, rfl⟩
theorem quotF_six (s : ByteArray) : (quotF s).size ≤ 6 * s.size + 2 := by
  have := quotL_size _ s rfl
  show (ByteArray.mk (34 :: (quotL s ++ [34])).toArray).size ≤ _
  rw [Lib.size_eq]
  simp
  omega
theorem takes_leaf {s : Stp} (h : takesR s = (0, true)) :
    (s.k = 1 ∨ s.k = 2 ∨ s.k = 3) ∧ s.s.size = 0 ∧ s.n = 0 ∨ s.k = 4 ∧ s.s.size = 0 ∨ s.k = 5 ∧ s.n = 0 ∧ s.s.size ≤ 256 ∧ validS s.s = true ∨ s.k = 6 ∧ s.n = 0 ∧ columnR s.s = true := by
  have he : ∀ x : ByteArray, emptyS x = true → x.size = 0 := by
    intro x hx
    unfold emptyS at hx
    rw [Lib.toList_data] at hx
    rw [Lib.size_eq, List.isEmpty_iff.1 hx]
    rfl
  unfold takesR at h
  split at h
  · rename_i hk
    injection h with _ h
    rw [Bool.and_eq_true] at h
    exact .inl ⟨hk, he _ h.1, beq_iff_eq.1 h.2⟩
  split at h
  · rename_i hk
    injection h with _ h
    exact .inr (.inl ⟨hk, he _ h⟩)
  split at h
  · rename_i hk
    injection h with _ h
    rw [Bool.and_eq_true, Bool.and_eq_true, decide_eq_true_eq] at h
    exact .inr (.inr (.inl ⟨hk, beq_iff_eq.1 h.1.1, by omega, h.2⟩))
  split at h
  · rename_i hk
    injection h with _ h
    rw [Bool.and_eq_true] at h
    exact .inr (.inr (.inr ⟨hk, beq_iff_eq.1 h.1, h.2⟩))
  split at h
  · injection h with _ h; cases h
  split at h
  · injection h with h _; cases h
  · injection h with h _; cases h
theorem name_size {s : ByteArray} (h : nameR s = true) : s.size ≠ 0 ∧ s.size ≤ 64 := by
  unfold nameR at h
  simp only [Bool.and_eq_true, decide_eq_true_eq] at h
  exact ⟨h.1.1.1.1, h.1.1.1.2⟩
theorem column_size {s : ByteArray} (h : columnR s = true) : s.size ≠ 0 ∧ s.size ≤ 129 := by
  have hall : ∀ x ∈ cutD s, nameR x = true := by
    unfold columnR at h
    intro x hx
    have h2 : (cutD s).any (fun x => !nameR x) = false := by simpa using h
    rw [List.any_eq_false] at h2
    simpa using h2 x hx
  by_cases h0 : s.size = 0
  · have := hall s (by unfold cutD; rw [h0]; exact List.mem_cons_self)
    exact absurd h0 (name_size this).1
  refine ⟨h0, ?_⟩
  unfold cutD at hall
  rw [show min 2 (s.size + 1) - 1 = 0 + 1 by omega] at hall
  by_cases hi : (Lib.indexB s ⟨#[46]⟩ == -1) = true
  · have := hall s (by rw [Lib.splitB, if_pos hi]; exact List.mem_cons_self)
    have := (name_size this).2
    omega
  · have e : Lib.splitB ⟨#[46]⟩ 0 (0 + 1) s = [s.extract 0 ((Lib.indexB s ⟨#[46]⟩).toNat + 0), s.extract ((Lib.indexB s ⟨#[46]⟩).toNat + 1) s.size] := by rw [Lib.splitB, if_neg hi]; rfl
    have h1 := (name_size (hall (s.extract 0 ((Lib.indexB s ⟨#[46]⟩).toNat + 0)) (by rw [e]; exact List.mem_cons_self))).2
    have h2 := (name_size (hall (s.extract ((Lib.indexB s ⟨#[46]⟩).toNat + 1) s.size) (by rw [e]; simp))).2
    rw [ByteArray.size_extract] at h1 h2
    omega
set_option maxRecDepth 100000 in
theorem live_atoms : showOk ⟨3, nullB, 0, 0⟩ ∧ showOk ⟨3, trueB, 0, 0⟩ ∧ showOk ⟨3, falseB, 0, 0⟩ := by
  refine ⟨⟨?_, ?_⟩, ⟨?_, ?_⟩, ⟨?_, ?_⟩⟩ <;> kernel_rfl
theorem leafF_eq {s : Stp} (h : takesR s = (0, true)) (hn : -9223372036854775808 ≤ s.n ∧ s.n ≤ 9223372036854775807) : leafF s = leafT s := by
  unfold leafF leafT
  split
  · rfl
  · rename_i h6
    obtain ⟨k, t, n⟩ := s
    simp only at h6 hn
    have ok : showOk (leafTok ⟨k, t, n⟩) := by
      rcases takes_leaf h with ⟨hk, h1, h2⟩ | ⟨hk, h1⟩ | ⟨hk, h1, h2, h3⟩ | ⟨hk, _⟩
      · simp only at hk
        rcases hk with rfl | rfl | rfl
        · exact live_atoms.1
        · exact live_atoms.2.1
        · exact live_atoms.2.2
      · simp only at hk
        subst hk
        have := show_num n hn.1 hn.2
        refine Classical.byContradiction fun hh => ?_
        rw [showF, if_neg (show ¬ showOk ⟨4, ⟨#[]⟩, n, 0⟩ from hh)] at this
        exact absurd (congrArg Prod.snd this) (show ¬ ((13 : Int) = 0) by decide)
      · simp only at hk
        subst hk
        exact showOk_quot h3 h2 (by have := quotF_six t; have h2' : t.size ≤ 256 := h2; show (quotF t).size ≤ 2048; omega)
      · exact absurd hk h6
    rw [showF, if_pos ok]
end Go.Proofs.YtegnoaejlhbpbaaGreatDoor.lx
