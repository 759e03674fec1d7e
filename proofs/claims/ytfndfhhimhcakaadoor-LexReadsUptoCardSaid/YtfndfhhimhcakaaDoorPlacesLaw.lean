/-
  LexPlaces: the plain laws. No program in sight.
-/
import Derived.Test.YtfndfhhimhcakaaDoorGLex
namespace Go.Proofs.YtfndfhhimhcakaaDoor.lx
open Go.RowKit

theorem rest_size' (s : ByteArray) (pos : Nat) : (s.extract pos s.size).size = s.size - pos := by simp [ByteArray.size_extract]
theorem gl_len (n : Nat) : ∀ l : List UInt8, l.length = n → (gl l).length ≤ l.length := by
  induction n using Nat.strongRecOn with
  | _ n ih =>
    intro l hn
    by_cases h : l = []
    · subst h; rw [gl_nil]; exact Nat.le_refl _
    · have h1 := dec_width l
      have h2 : 0 < l.length := List.length_pos_iff.2 h
      rw [gl_cons h]
      have := ih (l.drop (Lib.decodeL l).2).length (by rw [List.length_drop]; omega) _ rfl
      rw [List.length_drop] at this
      simp; omega

theorem lexR_err {s : ByteArray} {L : List Tok} {y p : Int} (h : lexR s = (L, y, p)) (hy : y ≠ 0) : L = [] ∧ 0 ≤ p ∧ p ≤ s.size := by
  by_cases hs : 2048 < s.size
  · rw [lexR, if_pos hs] at h
    injection h with h1 h2; injection h2 with h2 h3
    exact ⟨h1.symm, by omega, by omega⟩
  · rw [lexR_gl s (by omega), lexG] at h
    split at h
    · injection h with h1 h2; injection h2 with h2 h3
      exact absurd h2.symm hy
    · injection h with h1 h2; injection h2 with h2 h3
      have := gl_len _ (B s) rfl
      rw [B_length] at this
      exact ⟨h1.symm, by omega, by omega⟩

theorem lexR_ok {s : ByteArray} {L : List Tok} {p : Int} (h : lexR s = (L, 0, p)) : s.size ≤ 2048 ∧ (lexK (skipG false (gl (B s)))).2.1 = 0 ∧
    L = (lexK (skipG false (gl (B s)))).1.map (fun x => x.1.at ((gl (B s)).length - x.2)) := by
  by_cases hs : 2048 < s.size
  · rw [lexR, if_pos hs] at h
    injection h with h1 h2; injection h2 with h2 h3
    cases h2
  · rw [lexR_gl s (by omega), lexG] at h
    split at h
    · rename_i h0
      injection h with h1 h2
      exact ⟨by omega, h0, h1.symm⟩
    · rename_i h0
      injection h with h1 h2; injection h2 with h2 h3
      exact absurd h2 h0

theorem skipG_suffix : ∀ (gs : List G) (note : Bool), skipG note gs <:+ gs
  | [], _ => by simp [skipG]
  | g :: gs, note => by
    rw [skipG]
    split
    · exact (skipG_suffix gs _).trans (List.suffix_cons _ _)
    · exact List.suffix_refl _
theorem codeG_suffix {gs r : List G} {n : Nat} (h : codeG gs = some (n, r)) : r <:+ gs := by
  unfold codeG at h
  cases gs with
  | nil => cases h
  | cons g gs =>
    simp only at h
    split at h
    · have hl : (gs.dropWhile fun g => isHexR g.1) <:+ gs := List.dropWhile_suffix _
      revert h
      cases hd : gs.dropWhile fun g => isHexR g.1 with
      | nil => intro h; cases h
      | cons e rest =>
        rw [hd] at hl
        simp only
        intro h
        split at h
        · injection h with h; injection h with h1 h2
          subst h2
          exact ((List.suffix_cons e rest).trans hl).trans (List.suffix_cons _ _)
        · cases h
    · cases h
theorem escG_suffix (gs : List G) : (escG gs).2 <:+ gs := by
  cases gs with
  | nil => exact List.suffix_refl _
  | cons g gs =>
    rw [escG_cons]
    by_cases h : g.1 = 117
    · rw [if_pos h]
      cases hc : codeG gs with
      | none => exact List.suffix_cons _ _
      | some x => obtain ⟨n, r⟩ := x; exact (codeG_suffix hc).trans (List.suffix_cons _ _)
    · rw [if_neg h]; exact List.suffix_cons _ _
theorem textG_suffix (n : Nat) : ∀ (fine : Bool) (acc : List UInt8) (gs : List G), gs.length = n → (textG fine acc gs).2 <:+ gs := by
  induction n using Nat.strongRecOn with
  | _ n ih =>
    intro fine acc gs hn
    cases gs with
    | nil => rw [textG]; exact List.suffix_refl _
    | cons g gs =>
      simp at hn
      have he := escG_length gs
      have hs := escG_suffix gs
      rw [textG]
      split
      · exact List.suffix_cons _ _
      · split
        · split
          · exact ((ih (escG gs).2.length (by omega) fine (acc ++ Lib.encodeRune ((escG gs).1.getD 0)) (escG gs).2 rfl).trans hs).trans (List.suffix_cons _ _)
          · exact hs.trans (List.suffix_cons _ _)
        · exact (ih gs.length (by omega) (fine && g.2) (acc ++ Lib.encodeRune g.1) gs rfl).trans (List.suffix_cons _ _)
theorem tokG_suffix {g : G} {gs : List G} (h : firm (g :: gs)) : (tokG (g :: gs)).2 <:+ gs := by
  rw [tokG_cons]
  split
  · exact List.suffix_refl _
  rename_i h40
  split
  · exact List.suffix_refl _
  rename_i h41
  split
  · exact textG_suffix _ _ _ _ rfl
  rename_i h34
  have he := firm_end h h40 h41 h34
  show (bareR (g :: gs)) <:+ gs
  unfold bareR
  rw [List.dropWhile_cons, if_pos (by simp [he])]
  exact List.dropWhile_suffix _

/-- the tokens of a rest; the places rise -/
theorem lexK_left (n : Nat) : ∀ gs : List G, gs.length = n → firm gs → ∀ x ∈ (lexK gs).1, x.2 ≤ gs.length := by
  induction n using Nat.strongRecOn with
  | _ n ih =>
    intro gs hn hf x hx
    cases gs with
    | nil => rw [lexK_nil] at hx; cases hx
    | cons g gs =>
      by_cases h : (tokG (g :: gs)).1.2 = 0
      · rw [lexK_step hf h] at hx
        rcases List.mem_cons.1 hx with rfl | hx
        · exact Nat.le_refl _
        · have h1 := skipG_length (tokG (g :: gs)).2 false
          have h2 := tokG_length hf
          simp at hn
          have := ih (skipG false (tokG (g :: gs)).2).length (by omega) _ rfl (skipG_firm _ _) x hx
          simp; omega
      · rw [lexK_bad h] at hx; cases hx

theorem lexK_count (n : Nat) : ∀ gs : List G, gs.length = n → firm gs → (lexK gs).1.length ≤ gs.length := by
  induction n using Nat.strongRecOn with
  | _ n ih =>
    intro gs hn hf
    cases gs with
    | nil => rw [lexK_nil]; exact Nat.le_refl _
    | cons g gs =>
      by_cases h : (tokG (g :: gs)).1.2 = 0
      · rw [lexK_step hf h]
        have h1 := skipG_length (tokG (g :: gs)).2 false
        have h2 := tokG_length hf
        simp at hn
        have := ih (skipG false (tokG (g :: gs)).2).length (by omega) _ rfl (skipG_firm _ _)
        simp; omega
      · rw [lexK_bad h]; simp

abbrev KL := List (Tok × Nat)
/-- where the range loop stands: tokens seen, runes seen, the byte -/
def PInv (s : ByteArray) (K : KL) (nx pl pos : Nat) : Prop :=
  nx ≤ K.length ∧ pl + (gl ((B s).drop pos)).length = (gl (B s)).length ∧
    ∃ X, X <:+ gl ((B s).drop pos) ∧ firm X ∧ (lexK X).1 = K.drop nx ∧ (lexK X).2.1 = 0

theorem P_start {s : ByteArray} (h : (lexK (skipG false (gl (B s)))).2.1 = 0) : PInv s (lexK (skipG false (gl (B s)))).1 0 0 0 := by
  refine ⟨Nat.zero_le _, by simp, skipG false (gl (B s)), by simpa using skipG_suffix _ _, skipG_firm _ _, by simp, h⟩

theorem P_end {s : ByteArray} {K : KL} {nx pl pos : Nat} (h : PInv s K nx pl pos) (hp : ¬ pos < s.size) : nx = K.length := by
  obtain ⟨h1, h2, X, h3, h4, h5, h6⟩ := h
  have : (B s).drop pos = [] := by rw [List.drop_eq_nil_iff, B_length]; omega
  rw [this, gl_nil] at h3
  have hX : X = [] := List.suffix_nil.1 h3
  rw [hX, lexK_nil] at h5
  have := congrArg List.length h5
  rw [List.length_drop] at this
  simp at this
  omega

theorem P_step {s : ByteArray} {K : KL} {nx pl pos q : Nat} (h : PInv s K nx pl pos) (hs : s.size ≤ 2048) (hp : pos < s.size) (hq : q = pos + (Utf8.decode s pos).2) :
    (∃ t, K[nx]? = some (t, (gl (B s)).length - pl) ∧ pl ≤ (gl (B s)).length ∧ PInv s K (nx + 1) (pl + 1) q ∧
      lexR (s.extract pos s.size) = ((K.drop nx).map (fun x => x.1.at ((gl (B s)).length - pl - x.2)), 0, 0)) ∨
    ((nx = K.length ∨ ∃ t m, K[nx]? = some (t, m) ∧ pl < (gl (B s)).length - m) ∧ PInv s K nx (pl + 1) q) := by
  obtain ⟨h1, h2, X, h3, h4, h5, h6⟩ := h
  have hne : (s.extract pos s.size).size ≠ 0 := by rw [rest_size']; omega
  have hg : gl ((B s).drop pos) = (dr (s.extract pos s.size), stepOk (s.extract pos s.size)) :: gl ((B s).drop q) := by
    rw [← B_drop, glB_cons hne, B_adv, B_drop, List.drop_drop, hq]
    have : dn (s.extract pos s.size) = (Utf8.decode s pos).2 := by
      unfold dn
      rw [← dec_B _ hne, B_drop, Lib.decodeL_drop]
    rw [this]
  generalize (dr (s.extract pos s.size), stepOk (s.extract pos s.size)) = g at hg
  rw [hg] at h2 h3
  simp only [List.length_cons] at h2
  rcases List.suffix_cons_iff.1 h3 with rfl | h3'
  · left
    have ht : (tokG (g :: gl ((B s).drop q))).1.2 = 0 := by
      refine Decidable.byContradiction fun hh => ?_
      rw [lexK_bad hh] at h6
      exact hh h6
    have hst := lexK_step h4 ht
    have hlex : lexR (s.extract pos s.size) = ((K.drop nx).map (fun x => x.1.at ((gl (B s)).length - pl - x.2)), 0, 0) := by
      have hz : (s.extract pos s.size).size ≤ 2048 := by rw [rest_size']; omega
      rw [lexR_gl _ hz, lexG, B_drop, hg, skipG_of_firm h4, if_pos h6, h5]
      have : (gl (B s)).length - pl = (g :: gl ((B s).drop q)).length := by simp; omega
      rw [this]
    rw [hst] at h5 h6
    have hd : K[nx]? = some ((tokG (g :: gl ((B s).drop q))).1.1, (gl (B s)).length - pl) := by
      have := congrArg List.head? h5
      rw [List.head?_drop] at this
      rw [← this]
      simp
      omega
    have hlt : nx < K.length := (List.getElem?_eq_some_iff.1 hd).1
    refine ⟨_, hd, by omega, ⟨by omega, by omega, skipG false (tokG (g :: gl ((B s).drop q))).2, (skipG_suffix _ _).trans (tokG_suffix h4), skipG_firm _ _, ?_, h6⟩, hlex⟩
    have := congrArg List.tail h5
    rw [List.tail_drop] at this
    exact this
  · right
    refine ⟨?_, h1, by omega, X, h3', h4, h5, h6⟩
    by_cases hk : nx = K.length
    · exact .inl hk
    · right
      obtain ⟨x, hx⟩ : ∃ x, K[nx]? = some x := ⟨K[nx]'(by omega), List.getElem?_eq_getElem _⟩
      refine ⟨x.1, x.2, hx, ?_⟩
      have hmem : x ∈ (lexK X).1 := by
        rw [h5]
        refine List.mem_of_getElem? (i := 0) ?_
        rw [List.getElem?_drop]
        exact hx
      have := lexK_left _ X rfl h4 x hmem
      have := h3'.length_le
      omega
end Go.Proofs.YtfndfhhimhcakaaDoor.lx
