/-
  A text between quotes is read as itself. Plain laws, no program in sight.
-/
import Derived.Test.YtchilianbbkebaaDoorGEnc
import Derived.Test.YtchilianbbkebaaDoorNumbersLaw
namespace Go.Proofs.YtchilianbbkebaaDoor.lx
open Go.RowKit

theorem quotL_gl (n : Nat) : ∀ l : ByteArray, l.size = n → quotL l = (gl (B l)).flatMap fun g => quotR g.1 := by
  induction n using Nat.strongRecOn with
  | _ n ih =>
    intro l hn
    by_cases h0 : l.size = 0
    · rw [quotL_end h0, glB_nil h0]; rfl
    · have := adv_lt l h0
      rw [quotL_go h0, glB_cons h0, ih (adv l).size (by omega) _ rfl]
      rfl

theorem asc_append (a b : List UInt8) : asc (a ++ b) = asc a ++ asc b := by simp [asc]
theorem codeG_asc (D : List UInt8) (tl : List G) (hD : ∀ b ∈ D, isHexB b = true) (h1 : 1 ≤ D.length) (h6 : D.length ≤ 6) (hv : Lib.validRune (hexG (asc D)) = true) :
    codeG ((123, true) :: (asc D ++ (125, true) :: tl)) = some (hexG (asc D), tl) := by
  have hall : ∀ g ∈ asc D, isHexR g.1 = true := by
    intro g hg
    obtain ⟨b, hb, rfl⟩ := List.mem_map.1 hg
    rw [← isHexB_iff]; exact hD b hb
  obtain ⟨a, b⟩ := while_app (fun g => isHexR g.1) (125, true) tl (by show isHexR 125 = false; decide) (asc D)
  have ta : (asc D).takeWhile (fun g => isHexR g.1) = asc D := takeWhile_all hall
  have tb : (asc D).dropWhile (fun g => isHexR g.1) = [] := dropWhile_all hall
  rw [ta] at a
  rw [tb] at b
  unfold codeG
  simp only [if_true, b, a, List.nil_append, true_and]
  have hl : (asc D).length = D.length := by simp [asc]
  rw [if_pos ⟨by omega, by omega, hv⟩]

theorem hexN2_spec : ∀ k : Fin 256, (∀ b ∈ hexN2 k.val, isHexB b = true) ∧ 1 ≤ (hexN2 k.val).length ∧ hexG (asc (hexN2 k.val)) = k.val ∧ Lib.validRune (k.val : Int) = true := by decide +kernel

theorem textG_quot (tl : List UInt8) : ∀ (gs : List G) (acc : List UInt8), (∀ g ∈ gs, validR g.1) →
    textG true acc (gl ((gs.flatMap fun g => quotR g.1) ++ 34 :: tl)) = ((if 256 < (acc ++ runeB gs).length then (Tok.no, 4) else (⟨5, ⟨(acc ++ runeB gs).toArray⟩, 0, 0⟩, 0)), gl tl)
  | [], acc, _ => by
    rw [List.flatMap_nil, List.nil_append, gl_ascii _ (by decide), textG]
    simp only
    rw [if_pos (by decide), if_neg (by simp)]
    simp [runeB]
  | g :: gs, acc, hv => by
    have hg := hv g (by simp)
    have ih := fun acc => textG_quot tl gs acc (fun x hx => hv x (by simp [hx]))
    have hacc : ∀ acc : List UInt8, acc ++ runeB (g :: gs) = (acc ++ Lib.encodeRune g.1) ++ runeB gs := by intro acc; simp [runeB]
    rw [List.flatMap_cons, List.append_assoc, hacc]
    generalize (gs.flatMap fun g => quotR g.1) ++ 34 :: tl = R at ih ⊢
    obtain ⟨r, o⟩ := g
    simp only at hg ⊢
    unfold quotR
    by_cases h1 : r = 34 ∨ r = 92
    · rw [if_pos h1, List.cons_append, gl_ascii _ (by decide), gl_enc r hg, textG]
      have he : escG ((r, true) :: gl R) = (some r, gl R) := by
        rw [escG_cons, if_neg (by show ¬ r = 117; omega)]
        rcases h1 with rfl | rfl <;> rfl
      simp only
      rw [if_neg (by decide), if_pos (by decide), he, if_pos (by rfl)]
      exact ih _
    · rw [if_neg h1]
      by_cases h2 : r < 32 ∨ r = 127
      · rw [if_pos h2]
        have h0 := hg.1
        obtain ⟨k1, k2, k3, k4⟩ := hexN2_spec ⟨r.toNat, by omega⟩
        simp only at k1 k2 k3 k4
        have k5 := hexN2_len r.toNat
        have hgl : gl ([92, 117, 123] ++ hexN2 r.toNat ++ [125] ++ R) = (92, true) :: (117, true) :: (123, true) :: (asc (hexN2 r.toNat) ++ (125, true) :: gl R) := by
          have : [92, 117, 123] ++ hexN2 r.toNat ++ [125] ++ R = 92 :: 117 :: 123 :: (hexN2 r.toNat ++ 125 :: R) := by simp
          rw [this, gl_ascii _ (by decide), gl_ascii _ (by decide), gl_ascii _ (by decide), gl_asciis _ _ (fun b hb => isHexB_lt (k1 b hb)), gl_ascii _ (by decide)]
          rfl
        have hc := codeG_asc (hexN2 r.toNat) (gl R) k1 k2 (by omega) (by rw [k3]; exact k4)
        have he : escG ((117, true) :: (123, true) :: (asc (hexN2 r.toNat) ++ (125, true) :: gl R)) = (some r, gl R) := by
          rw [escG_cons, if_pos rfl, hc, k3]
          simp only
          rw [show ((r.toNat : Nat) : Int) = r by omega]
        rw [hgl, textG]
        simp only
        rw [if_neg (by decide), if_pos (by decide), he, if_pos (by rfl)]
        exact ih _
      · rw [if_neg h2, gl_enc r hg, textG]
        simp only
        rw [if_neg (by omega), if_neg (by omega)]
        exact ih _

theorem wordTok_kind {s : ByteArray} (h : (wordTok true s).2 = 0) : ((wordTok true s).1.k = 3 ∧ (wordTok true s).1.s = s) ∨ ((wordTok true s).1.k = 4 ∧ (wordTok true s).1.s = ⟨#[]⟩) := by
  unfold wordTok at h ⊢
  rw [if_neg (by simp)] at h ⊢
  split at h
  · rename_i h1
    rw [if_pos h1]
    unfold numTok at h ⊢
    split at h
    · split at h
      · rename_i h2
        rw [if_pos h2]
        exact .inr ⟨rfl, rfl⟩
      · cases h
    · cases h
  · rename_i h1
    rw [if_neg h1]
    split at h
    · cases h
    · rename_i h2
      rw [if_neg h2]
      exact .inl ⟨rfl, rfl⟩
theorem wordTok_a (fine : Bool) (s : ByteArray) : (wordTok fine s).1.a = 0 := by
  unfold wordTok numTok
  split
  · rfl
  · split
    · split
      · split <;> rfl
      · rfl
    · split <;> rfl
theorem textG_kind (n : Nat) : ∀ (fine : Bool) (acc : List UInt8) (gs : List G), gs.length = n → (textG fine acc gs).1.2 = 0 → (textG fine acc gs).1.1.k = 5 := by
  induction n using Nat.strongRecOn with
  | _ n ih =>
    intro fine acc gs hn h
    cases gs with
    | nil => rw [textG] at h; cases h
    | cons g gs =>
      have he := escG_length gs
      simp at hn
      rw [textG] at h ⊢
      split at h
      · rename_i h1
        rw [if_pos h1]
        simp only at h ⊢
        split at h
        · cases h
        · rename_i h2
          rw [if_neg h2]
          split at h
          · cases h
          · rename_i h3
            rw [if_neg h3]
      · rename_i h1
        rw [if_neg h1]
        split at h
        · rename_i h2
          rw [if_pos h2]
          split at h
          · rename_i h3
            rw [if_pos h3]
            exact ih (escG gs).2.length (by omega) _ _ _ rfl h
          · cases h
        · rename_i h2
          rw [if_neg h2]
          exact ih gs.length (by omega) _ _ _ rfl h
theorem textG_a (n : Nat) : ∀ (fine : Bool) (acc : List UInt8) (gs : List G), gs.length = n → (textG fine acc gs).1.1.a = 0 := by
  induction n using Nat.strongRecOn with
  | _ n ih =>
    intro fine acc gs hn
    cases gs with
    | nil => rw [textG]; rfl
    | cons g gs =>
      have he := escG_length gs
      simp at hn
      rw [textG]
      split
      · simp only
        split
        · rfl
        · split <;> rfl
      · split
        · split
          · exact ih (escG gs).2.length (by omega) _ _ _ rfl
          · rfl
        · exact ih gs.length (by omega) _ _ _ rfl
theorem tokG_a (g : G) (gs : List G) : (tokG (g :: gs)).1.1.at 0 = (tokG (g :: gs)).1.1 := by
  have h : (tokG (g :: gs)).1.1.a = 0 := by
    rw [tokG_cons]
    split
    · rfl
    split
    · rfl
    split
    · exact textG_a _ _ _ _ rfl
    · simp only
      unfold wordG
      split
      · exact wordTok_a _ _
      · rfl
  generalize (tokG (g :: gs)).1.1 = t at h
  obtain ⟨k, s, n, a⟩ := t
  simp only at h
  subst h
  rfl

/-- what a shown text is read as -/
theorem tokG_quot (s : ByteArray) : ∃ gs, gl (B (quotF s)) = (34, true) :: gs ∧
    tokG ((34, true) :: gs) = ((if 256 < (runeB (gl (B s))).length then (Tok.no, 4) else (⟨5, ⟨(runeB (gl (B s))).toArray⟩, 0, 0⟩, 0)), []) := by
  refine ⟨gl (quotL s ++ [34]), ?_, ?_⟩
  · show gl (34 :: (quotL s ++ [34])) = _
    rw [gl_ascii _ (by decide)]
    rfl
  · have := textG_quot [] (gl (B s)) [] (gl_validR _ _ rfl)
    rw [gl_nil, List.nil_append] at this
    rw [tokG_cons, if_neg (by decide), if_neg (by decide), if_pos rfl, quotL_gl _ s rfl]
    exact this

/-- a token whose text is read as itself: its glyphs are that token's, all of them -/
theorem show_alone (t : Tok) (h : showOk t) : (showS t).size ≤ 2048 ∧ ∃ g gs, gl (B (showS t)) = g :: gs ∧ firm (g :: gs) ∧ tokG (g :: gs) = ((t.at 0, 0), []) := by
  obtain ⟨h1, h2⟩ := h
  have hsz : (showS t).size ≤ 2048 := by
    refine Decidable.byContradiction fun hh => ?_
    rw [lexR_long (by omega)] at h1
    cases h1
  refine ⟨hsz, ?_⟩
  rw [lexR_gl _ hsz, lexG] at h1 h2
  by_cases h0 : (lexK (skipG false (gl (B (showS t))))).2.1 = 0
  · rw [if_pos h0] at h2
    have hf := skipG_firm (gl (B (showS t))) false
    have hsuf := skipG_suffix (gl (B (showS t))) false
    obtain ⟨X, hX⟩ : ∃ X, skipG false (gl (B (showS t))) = X := ⟨_, rfl⟩
    rw [hX] at h0 h2 hf hsuf
    cases X with
    | nil => rw [lexK_nil] at h2; cases h2
    | cons g xs =>
      have ht : (tokG (g :: xs)).1.2 = 0 := by
        refine Decidable.byContradiction fun hh => ?_
        rw [lexK_bad hh] at h0
        exact hh h0
      have hst := lexK_step hf ht
      rw [hst] at h2
      simp only [List.map_cons, List.cons.injEq, List.map_eq_nil_iff] at h2
      obtain ⟨h3, h4⟩ := h2
      have hlen : (gl (B (showS t))).length - (g :: xs).length = 0 := by
        have h5 : ((((gl (B (showS t))).length - (g :: xs).length : Nat) : Int)) = ((0 : Nat) : Int) := congrArg Tok.a h3
        omega
      have hX' : gl (B (showS t)) = g :: xs := (hsuf.eq_of_length (by have := hsuf.length_le; omega)).symm
      rw [hlen] at h3
      refine ⟨g, xs, hX', hf, ?_⟩
      have htok : (tokG (g :: xs)).1.1 = t.at 0 := by
        rw [← h3]
        exact (tokG_a g xs).symm
      have hrest : (tokG (g :: xs)).2 = [] := by
        rw [tokG_cons] at htok ht ⊢
        by_cases h40 : g.1 = 40
        · rw [if_pos h40] at htok ⊢
          have hk : t.k = 1 := (congrArg Tok.k htok).symm
          have : showS t = ⟨#[40]⟩ := by rw [showS, if_pos hk]
          rw [this] at hX'
          have e : gl (B ⟨#[40]⟩) = [((40 : Int), true)] := by decide +kernel
          rw [e] at hX'
          simp only
          exact (List.cons.inj hX').2.symm
        rw [if_neg h40] at htok ht ⊢
        by_cases h41 : g.1 = 41
        · rw [if_pos h41] at htok ⊢
          have hk : t.k = 2 := (congrArg Tok.k htok).symm
          have : showS t = ⟨#[41]⟩ := by rw [showS, if_neg (by omega), if_pos hk]
          rw [this] at hX'
          have e : gl (B ⟨#[41]⟩) = [((41 : Int), true)] := by decide +kernel
          rw [e] at hX'
          simp only
          exact (List.cons.inj hX').2.symm
        rw [if_neg h41] at htok ht ⊢
        by_cases h34 : g.1 = 34
        · rw [if_pos h34] at htok ht ⊢
          have hk : t.k = 5 := by
            rw [← textG_kind _ g.2 [] xs rfl ht]
            exact (congrArg Tok.k htok).symm
          have : showS t = quotF t.s := by rw [showS, if_neg (by omega), if_neg (by omega), if_neg (by omega), if_pos hk]
          rw [this] at hX'
          obtain ⟨gs, e1, e2⟩ := tokG_quot t.s
          rw [e1] at hX'
          obtain ⟨e3, e4⟩ := List.cons.inj hX'
          subst e4
          rw [tokG_cons, if_neg (by decide), if_neg (by decide), if_pos rfl] at e2
          rw [← e3, e2]
        · rw [if_neg h34] at htok ht ⊢
          simp only at htok ht ⊢
          have hall : (bareG (g :: xs)).all (·.2) = true := by
            cases hc : (bareG (g :: xs)).all (·.2) with
            | true => rfl
            | false => rw [wordG, if_neg (by simp [hc])] at ht; cases ht
          rw [wordG, if_pos hall] at htok ht
          have hfull : bareG (g :: xs) ++ bareR (g :: xs) = g :: xs := List.takeWhile_append_dropWhile
          rcases wordTok_kind ht with ⟨hk, hs⟩ | ⟨hk, hs⟩
          · have hkt : t.k = 3 := by rw [← hk, htok]; rfl
            have hst : t.s = ⟨(runeB (bareG (g :: xs))).toArray⟩ := by rw [← hs, htok]; rfl
            have hsh : showS t = t.s := by rw [showS, if_neg (by omega), if_neg (by omega), if_neg (by omega), if_neg (by omega)]
            rw [hsh, hst] at hX'
            have hB : B ⟨(runeB (bareG (g :: xs))).toArray⟩ = runeB (bareG (g :: xs)) ++ [] := by simp [B]
            have hval : ∀ y ∈ bareG (g :: xs), validR y.1 := by
              intro y hy
              have hm : y ∈ g :: xs := (List.takeWhile_sublist _).subset hy
              rw [← hX'] at hm
              exact gl_validR _ _ rfl y hm
            rw [hB, gl_runeB _ _ hval, gl_nil, List.append_nil, okG_of hall] at hX'
            have := congrArg List.length hfull
            rw [List.length_append, hX'] at this
            exact List.eq_nil_of_length_eq_zero (by omega)
          · have hkt : t.k = 4 := by rw [← hk, htok]; rfl
            have hsh : showS t = ⟨(Lib.itoa t.n).toArray⟩ := by rw [showS, if_neg (by omega), if_neg (by omega), if_pos hkt]
            rw [hsh] at hX'
            obtain ⟨hne, hb⟩ := itoa_bytes t.n
            have hB : B ⟨(Lib.itoa t.n).toArray⟩ = Lib.itoa t.n := by simp [B]
            rw [hB, gl_asc (fun b h => numB_lt (hb b h))] at hX'
            rw [← hX']
            refine dropWhile_all ?_
            intro y hy
            obtain ⟨b, hb', rfl⟩ := List.mem_map.1 hy
            simp [numB_end (hb b hb')]
      exact Prod.ext (Prod.ext htok ht) hrest
  · rw [if_neg h0] at h1
    exact absurd h1 h0
end Go.Proofs.YtchilianbbkebaaDoor.lx
