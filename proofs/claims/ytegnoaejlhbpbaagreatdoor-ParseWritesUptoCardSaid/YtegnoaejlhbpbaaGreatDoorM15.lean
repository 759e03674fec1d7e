/-
  The lexer as a law on glyphs: plain laws, no program in sight. LexPlaces: the plain laws. No program in sight. Rows of tokens in later worlds. No condition. Tokens are small: their texts, and how many there are. Plain law; no condition. What is read is small: its texts, its kinds, how much there is. Plain law; no condition.
-/
import Derived.Test.YtegnoaejlhbpbaaGreatDoorM14
import Derived.Lib.ParseIntBTie
namespace Go.Proofs.YtegnoaejlhbpbaaGreatDoor.lx
open Go.RowKit

def escG : List G → Option Int × List G
  | [] => (none, [])
  | g :: gs => if g.1 = 117 then (match codeG gs with | none => (none, gs) | some (n, r) => (some (n : Int), r)) else (escR g.1, gs)

theorem escG_cons (g : G) (gs : List G) : escG (g :: gs) = if g.1 = 117 then (match codeG gs with | none => (none, gs) | some (n, r) => (some (n : Int), r)) else (escR g.1, gs) := rfl

theorem codeG_length {gs r : List G} {n : Nat} (h : codeG gs = some (n, r)) : r.length < gs.length := by
  unfold codeG at h
  cases gs with
  | nil => cases h
  | cons g gs =>
    simp only at h
    split at h
    · have hl : (gs.dropWhile fun g => isHexR g.1).length ≤ gs.length := (List.dropWhile_sublist _).length_le
      revert h
      cases hd : gs.dropWhile fun g => isHexR g.1 with
      | nil => intro h; cases h
      | cons e rest =>
        rw [hd] at hl
        simp only
        intro h
        split at h
        · injection h with h; injection h with h1 h2
          subst h2
          simp at hl ⊢
          omega
        · cases h
    · cases h
theorem escG_length (gs : List G) : (escG gs).2.length ≤ gs.length := by
  cases gs with
  | nil => exact Nat.le_refl _
  | cons g gs =>
    rw [escG_cons]
    by_cases h : g.1 = 117
    · rw [if_pos h]
      cases hc : codeG gs with
      | none => simp
      | some x => obtain ⟨n, r⟩ := x; have := codeG_length hc; simp; omega
    · rw [if_neg h]; simp

theorem escF_gl (l : ByteArray) (p : Nat) : (escF l p).1 = (escG (gl (B l))).1 ∧ gl (B (escF l p).2.1) = (escG (gl (B l))).2 ∧
    (escF l p).2.2 + (gl (B (escF l p).2.1)).length = p + (gl (B l)).length := by
  unfold escF
  by_cases h0 : l.size = 0
  · obtain ⟨h1, h2⟩ := dn_zero l h0
    have ha : (adv l).size = 0 := by rw [adv_size]; omega
    rw [if_neg (by omega), glB_nil h0, glB_nil ha]
    have hs : stepP l p = p := by rw [stepP, if_neg (by omega)]
    rw [h2, hs]
    exact ⟨rfl, rfl, rfl⟩
  · rw [glB_cons h0, stepP_pos p h0]
    by_cases h117 : dr l = 117
    · rw [if_pos h117]
      have hc := codeF_gl (adv l)
      cases hcf : codeF (adv l) with
      | none =>
        rw [hcf] at hc
        simp only at hc ⊢
        rw [escG_cons, if_pos h117, hc]
        refine ⟨rfl, rfl, ?_⟩
        simp; omega
      | some x =>
        obtain ⟨n, m⟩ := x
        rw [hcf] at hc
        simp only at hc ⊢
        rw [escG_cons, if_pos h117, hc.1]
        refine ⟨rfl, rfl, ?_⟩
        have := hc.2
        simp
        omega
    · rw [if_neg h117]
      rw [escG_cons, if_neg h117]
      refine ⟨rfl, rfl, ?_⟩
      simp; omega

def textG (fine : Bool) (acc : List UInt8) (gs : List G) : (Tok × Int) × List G :=
  match gs with
  | [] => ((Tok.no, 13), [])
  | g :: gs =>
    if g.1 = 34 then ((if fine = false then (Tok.no, 9) else if 256 < acc.length then (Tok.no, 4) else (⟨5, ⟨acc.toArray⟩, 0, 0⟩, 0)), gs)
    else if g.1 = 92 then
      if (escG gs).1.isSome then textG fine (acc ++ Lib.encodeRune ((escG gs).1.getD 0)) (escG gs).2 else ((Tok.no, 13), (escG gs).2)
    else textG (fine && g.2) (acc ++ Lib.encodeRune g.1) gs
termination_by gs.length
decreasing_by
  · have := escG_length gs; simp; omega
  · simp

theorem textF_gl (n : Nat) : ∀ (fine : Bool) (acc : List UInt8) (l : ByteArray) (p : Nat), l.size = n →
    (textF fine acc l p).1 = (textG fine acc (gl (B l))).1 ∧ gl (B (textF fine acc l p).2.1) = (textG fine acc (gl (B l))).2 ∧
      (textF fine acc l p).2.2 + (gl (B (textF fine acc l p).2.1)).length = p + (gl (B l)).length := by
  induction n using Nat.strongRecOn with
  | _ n ih =>
    intro fine acc l p hn
    by_cases h0 : l.size = 0
    · rw [textF_end h0, glB_nil h0, textG]
      exact ⟨rfl, rfl, rfl⟩
    · have hlt := adv_lt l h0
      rw [glB_cons h0]
      by_cases h34 : dr l = 34
      · rw [textF_close h0 h34, textG]
        simp only
        rw [if_pos h34]
        refine ⟨rfl, rfl, ?_⟩
        simp; omega
      · by_cases h92 : dr l = 92
        · obtain ⟨e1, e2, e3⟩ := escF_gl (adv l) (p + 1)
          have hes := escF_size (adv l) (p + 1)
          cases hs : (escF (adv l) (p + 1)).1.isSome with
          | false =>
            rw [textF_bad h0 h92 hs, textG]
            simp only
            rw [if_neg h34, if_pos h92, if_neg (by rw [← e1, hs]; simp)]
            refine ⟨rfl, e2, ?_⟩
            rw [e3]; simp; omega
          | true =>
            rw [textF_esc h0 h92 hs, textG]
            simp only
            rw [if_neg h34, if_pos h92, if_pos (by rw [← e1, hs])]
            obtain ⟨a, b, c⟩ := ih (escF (adv l) (p + 1)).2.1.size (by omega) fine (acc ++ Lib.encodeRune ((escF (adv l) (p + 1)).1.getD 0)) (escF (adv l) (p + 1)).2.1 (escF (adv l) (p + 1)).2.2 rfl
            rw [a, b, ← e1, ← e2]
            rw [b] at c
            refine ⟨rfl, rfl, ?_⟩
            rw [c, e3]; simp; omega
        · rw [textF_rune h0 h34 h92, textG]
          simp only
          rw [if_neg h34, if_neg h92]
          obtain ⟨a, b, c⟩ := ih (adv l).size (by omega) (fine && stepOk l) (acc ++ Lib.encodeRune (dr l)) (adv l) (p + 1) rfl
          rw [a, b]
          rw [b] at c
          refine ⟨rfl, rfl, ?_⟩
          rw [c]; simp; omega

/-- a word's token, of its glyphs -/
def wordG (ds : List G) : Tok × Int := if ds.all (·.2) then wordTok true ⟨(runeB ds).toArray⟩ else (Tok.no, 9)
def tokG : List G → (Tok × Int) × List G
  | [] => ((Tok.no, 13), [])
  | g :: gs => if g.1 = 40 then ((⟨1, ⟨#[]⟩, 0, 0⟩, 0), gs) else if g.1 = 41 then ((⟨2, ⟨#[]⟩, 0, 0⟩, 0), gs) else if g.1 = 34 then textG g.2 [] gs
    else (wordG (bareG (g :: gs)), bareR (g :: gs))

theorem tokG_cons (g : G) (gs : List G) : tokG (g :: gs) = if g.1 = 40 then ((⟨1, ⟨#[]⟩, 0, 0⟩, 0), gs) else if g.1 = 41 then ((⟨2, ⟨#[]⟩, 0, 0⟩, 0), gs) else if g.1 = 34 then textG g.2 [] gs
    else (wordG (bareG (g :: gs)), bareR (g :: gs)) := rfl

theorem wordF_gl (l : ByteArray) (p : Nat) : (wordF l p).1 = wordG (bareG (gl (B l))) ∧ gl (B (wordF l p).2.1) = bareR (gl (B l)) ∧
    (wordF l p).2.2 + (gl (B (wordF l p).2.1)).length = p + (gl (B l)).length := by
  obtain ⟨a, b, c, d, e⟩ := bareF_gl l.size true l p rfl
  unfold wordF wordG
  refine ⟨?_, b, c⟩
  simp only
  rw [Bool.true_and] at a
  cases hall : (bareG (gl (B l))).all (·.2) with
  | false =>
    rw [a, hall]
    simp [wordTok]
  | true =>
    rw [hall] at a
    have hb := e a
    rw [a]
    simp only [if_true]
    congr 1
    apply ByteArray.ext
    apply Array.toList_inj.1
    rw [← hb]
    show (l.extract 0 _).data.toList = _
    rw [ByteArray.data_extract, Array.toList_extract, List.extract_eq_take_drop]
    simp [B]

theorem tokF_gl (l : ByteArray) (p : Nat) (h0 : l.size ≠ 0) : (tokF l p).1 = (tokG (gl (B l))).1 ∧ gl (B (tokF l p).2.1) = (tokG (gl (B l))).2 ∧
    (tokF l p).2.2 + (gl (B (tokF l p).2.1)).length = p + (gl (B l)).length := by
  obtain ⟨wa, wb, wc⟩ := wordF_gl l p
  rw [glB_cons h0] at wa wb wc ⊢
  rw [tokG_cons]
  unfold tokF
  by_cases h40 : dr l = 40
  · rw [if_pos h40, if_pos h40]
    refine ⟨rfl, rfl, ?_⟩
    simp; omega
  rw [if_neg h40, if_neg h40]
  by_cases h41 : dr l = 41
  · rw [if_pos h41, if_pos h41]
    refine ⟨rfl, rfl, ?_⟩
    simp; omega
  rw [if_neg h41, if_neg h41]
  by_cases h34 : dr l = 34
  · rw [if_pos h34, if_pos h34]
    obtain ⟨a, b, c⟩ := textF_gl _ (stepOk l) [] (adv l) (p + 1) rfl
    refine ⟨a, b, ?_⟩
    rw [c]; simp; omega
  · rw [if_neg h34, if_neg h34]
    exact ⟨wa, wb, wc⟩

/-- a text's tokens with how many glyphs are left where each begins; the error, and how many are left there -/
def lexK (gs : List G) : List (Tok × Nat) × Int × Nat :=
  match gs with
  | [] => ([], 0, 0)
  | g :: gs =>
    if (tokG (g :: gs)).1.2 ≠ 0 then ([], (tokG (g :: gs)).1.2, (g :: gs).length)
    else if _h : (skipG false (tokG (g :: gs)).2).length < (g :: gs).length then
      (((tokG (g :: gs)).1.1, (g :: gs).length) :: (lexK (skipG false (tokG (g :: gs)).2)).1, (lexK (skipG false (tokG (g :: gs)).2)).2)
    else ([], 0, 0)
termination_by gs.length
def lexG (gs : List G) : List Tok × Int × Int :=
  if (lexK (skipG false gs)).2.1 = 0 then ((lexK (skipG false gs)).1.map fun x => x.1.at (gs.length - x.2), 0, 0)
  else ([], (lexK (skipG false gs)).2.1, ((gs.length - (lexK (skipG false gs)).2.2 : Nat) : Int))


theorem lexK_nil : lexK [] = ([], 0, 0) := by rw [lexK]
theorem lexK_bad {g : G} {gs : List G} (h : (tokG (g :: gs)).1.2 ≠ 0) : lexK (g :: gs) = ([], (tokG (g :: gs)).1.2, (g :: gs).length) := by rw [lexK, if_pos h]
theorem lexK_go {g : G} {gs : List G} (h : (tokG (g :: gs)).1.2 = 0) (hlt : (skipG false (tokG (g :: gs)).2).length < (g :: gs).length) :
    lexK (g :: gs) = (((tokG (g :: gs)).1.1, (g :: gs).length) :: (lexK (skipG false (tokG (g :: gs)).2)).1, (lexK (skipG false (tokG (g :: gs)).2)).2) := by
  rw [lexK, if_neg (by simp [h]), dif_pos hlt]

theorem skipG_length : ∀ (gs : List G) (note : Bool), (skipG note gs).length ≤ gs.length
  | [], _ => by simp [skipG]
  | g :: gs, note => by
    rw [skipG]
    split
    · have := skipG_length gs (noted note g.1); simp; omega
    · exact Nat.le_refl _
theorem textG_length (n : Nat) : ∀ (fine : Bool) (acc : List UInt8) (gs : List G), gs.length = n → (textG fine acc gs).2.length ≤ gs.length := by
  induction n using Nat.strongRecOn with
  | _ n ih =>
    intro fine acc gs hn
    cases gs with
    | nil => rw [textG]; exact Nat.le_refl _
    | cons g gs =>
      simp at hn
      have he := escG_length gs
      rw [textG]
      split
      · simp
      · split
        · split
          · have := ih (escG gs).2.length (by omega) fine (acc ++ Lib.encodeRune ((escG gs).1.getD 0)) (escG gs).2 rfl
            simp; omega
          · simp; omega
        · have := ih gs.length (by omega) (fine && g.2) (acc ++ Lib.encodeRune g.1) gs rfl
          simp; omega
/-- the first glyph is no blank -/
def firm : List G → Prop
  | [] => True
  | g :: _ => (noted false g.1 || blankR g.1) = false
theorem skipG_firm : ∀ (gs : List G) (note : Bool), firm (skipG note gs)
  | [], _ => by simp [skipG, firm]
  | g :: gs, note => by
    rw [skipG]
    cases hc : noted note g.1 || blankR g.1 with
    | true => rw [if_pos rfl]; exact skipG_firm gs _
    | false =>
      rw [if_neg (by simp)]
      show (noted false g.1 || blankR g.1) = false
      revert hc
      cases note
      · exact id
      · simp [noted, blankR]; omega
theorem skipG_of_firm {gs : List G} (h : firm gs) : skipG false gs = gs := by
  cases gs with
  | nil => rfl
  | cons g gs => rw [skipG, if_neg (by rw [show (noted false g.1 || blankR g.1) = false from h]; simp)]
theorem firm_end {g : G} (h : (noted false g.1 || blankR g.1) = false) (h40 : g.1 ≠ 40) (h41 : g.1 ≠ 41) (h34 : g.1 ≠ 34) : endR g.1 = false := by
  have hnb' : ¬ (g.1 = 59 ∨ g.1 = 32 ∨ g.1 = 9 ∨ g.1 = 13 ∨ g.1 = 10) := by
    intro hh
    simp [noted, blankR] at h
    omega
  cases hc : endR g.1 with
  | false => rfl
  | true => rw [endR_iff] at hc; omega
theorem tokG_length {g : G} {gs : List G} (h : firm (g :: gs)) : (tokG (g :: gs)).2.length ≤ gs.length := by
  rw [tokG_cons]
  split
  · exact Nat.le_refl _
  rename_i h40
  split
  · exact Nat.le_refl _
  rename_i h41
  split
  · exact textG_length _ _ _ _ rfl
  rename_i h34
  have he := firm_end h h40 h41 h34
  show (bareR (g :: gs)).length ≤ gs.length
  unfold bareR
  rw [List.dropWhile_cons, if_pos (by simp [he])]
  exact (List.dropWhile_sublist _).length_le
theorem lexK_step {g : G} {gs : List G} (hf : firm (g :: gs)) (h : (tokG (g :: gs)).1.2 = 0) :
    lexK (g :: gs) = (((tokG (g :: gs)).1.1, (g :: gs).length) :: (lexK (skipG false (tokG (g :: gs)).2)).1, (lexK (skipG false (tokG (g :: gs)).2)).2) := by
  refine lexK_go h ?_
  have h1 := skipG_length (tokG (g :: gs)).2 false
  have h2 := tokG_length hf
  simp; omega

theorem lexF_gl (n : Nat) : ∀ (out : List Tok) (l : ByteArray) (p : Nat), l.size = n → firm (gl (B l)) →
    lexF out l p = if (lexK (gl (B l))).2.1 = 0 then (out ++ (lexK (gl (B l))).1.map fun x => x.1.at (p + (gl (B l)).length - x.2), 0, 0)
      else ([], (lexK (gl (B l))).2.1, ((p + (gl (B l)).length - (lexK (gl (B l))).2.2 : Nat) : Int)) := by
  induction n using Nat.strongRecOn with
  | _ n ih =>
    intro out l p hn hf
    by_cases h0 : l.size = 0
    · rw [lexF_end h0, glB_nil h0, lexK_nil]; simp
    · obtain ⟨a, b, c⟩ := tokF_gl l p h0
      rw [glB_cons h0] at a b c hf ⊢
      have hnb : (noted false (dr l) || blankR (dr l)) = false := hf
      by_cases hw : (tokF l p).1.2 = 0
      · have hw' : (tokG ((dr l, stepOk l) :: gl (B (adv l)))).1.2 = 0 := by rw [← a]; exact hw
        obtain ⟨s1, s2⟩ := skipF_gl _ false (tokF l p).2.1 (tokF l p).2.2 rfl
        have hsz := tokF_size l p h0 hnb
        have hss := skipF_spec _ false (tokF l p).2.1 (tokF l p).2.2 rfl
        rw [lexF_go h0 hnb hw, ih (skipF false (tokF l p).2.1 (tokF l p).2.2).1.size (by omega) _ _ _ rfl (by rw [s1]; exact skipG_firm _ _), lexK_step hf hw', s1, b]
        have hN : (skipF false (tokF l p).2.1 (tokF l p).2.2).2 + (skipG false (tokG ((dr l, stepOk l) :: gl (B (adv l)))).2).length = p + ((dr l, stepOk l) :: gl (B (adv l))).length := by
          rw [← b, ← s1, s2, c]
        rw [hN]
        simp only
        by_cases hk : (lexK (skipG false (tokG ((dr l, stepOk l) :: gl (B (adv l)))).2)).2.1 = 0
        · rw [if_pos hk, if_pos hk, a]
          simp
        · rw [if_neg hk, if_neg hk]
      · have hw' : (tokG ((dr l, stepOk l) :: gl (B (adv l)))).1.2 ≠ 0 := by rw [← a]; exact hw
        rw [lexF_bad h0 hw, lexK_bad hw', if_neg hw', a]
        simp

/-- the lexer, on glyphs -/
theorem lexR_gl (s : ByteArray) (h : s.size ≤ 2048) : lexR s = lexG (gl (B s)) := by
  unfold lexR lexG
  rw [if_neg (by omega)]
  obtain ⟨s1, s2⟩ := skipF_gl _ false s 0 rfl
  rw [lexF_gl _ _ _ _ rfl (by rw [s1]; exact skipG_firm _ _), s2, s1]
  simp
end Go.Proofs.YtegnoaejlhbpbaaGreatDoor.lx
namespace Go.Proofs.YtegnoaejlhbpbaaGreatDoor.lx
open Go.RowKit

theorem rest_size' (s : ByteArray) (pos : Nat) : (s.extract pos s.size).size = s.size - pos := by simp [ByteArray.size_extract]
theorem gl_len (n : Nat) : ∀ l : List UInt8, l.length = n → (gl l).length ≤ l.length := by
  induction n using Nat.strongRecOn with
  | _ n ih =>
    intro l hn
    by_cases h : l = []
    · subst h; rw [gl_nil]; exact Nat.le_refl _
    · have h1 := dec_width l
      have h2 : 0 < l.length := List.length_pos_iff.2 h
      rw [gl_cons h]
      have := ih (l.drop (Lib.decodeL l).2).length (by rw [List.length_drop]; omega) _ rfl
      rw [List.length_drop] at this
      simp; omega

theorem lexR_err {s : ByteArray} {L : List Tok} {y p : Int} (h : lexR s = (L, y, p)) (hy : y ≠ 0) : L = [] ∧ 0 ≤ p ∧ p ≤ s.size := by
  by_cases hs : 2048 < s.size
  · rw [lexR, if_pos hs] at h
    injection h with h1 h2; injection h2 with h2 h3
    exact ⟨h1.symm, by omega, by omega⟩
  · rw [lexR_gl s (by omega), lexG] at h
    split at h
    · injection h with h1 h2; injection h2 with h2 h3
      exact absurd h2.symm hy
    · injection h with h1 h2; injection h2 with h2 h3
      have := gl_len _ (B s) rfl
      rw [B_length] at this
      exact ⟨h1.symm, by omega, by omega⟩

theorem lexR_ok {s : ByteArray} {L : List Tok} {p : Int} (h : lexR s = (L, 0, p)) : s.size ≤ 2048 ∧ (lexK (skipG false (gl (B s)))).2.1 = 0 ∧
    L = (lexK (skipG false (gl (B s)))).1.map (fun x => x.1.at ((gl (B s)).length - x.2)) := by
  by_cases hs : 2048 < s.size
  · rw [lexR, if_pos hs] at h
    injection h with h1 h2; injection h2 with h2 h3
    cases h2
  · rw [lexR_gl s (by omega), lexG] at h
    split at h
    · rename_i h0
      injection h with h1 h2
      exact ⟨by omega, h0, h1.symm⟩
    · rename_i h0
      injection h with h1 h2; injection h2 with h2 h3
      exact absurd h2 h0

theorem skipG_suffix : ∀ (gs : List G) (note : Bool), skipG note gs <:+ gs
  | [], _ => by simp [skipG]
  | g :: gs, note => by
    rw [skipG]
    split
    · exact (skipG_suffix gs _).trans (List.suffix_cons _ _)
    · exact List.suffix_refl _
theorem codeG_suffix {gs r : List G} {n : Nat} (h : codeG gs = some (n, r)) : r <:+ gs := by
  unfold codeG at h
  cases gs with
  | nil => cases h
  | cons g gs =>
    simp only at h
    split at h
    · have hl : (gs.dropWhile fun g => isHexR g.1) <:+ gs := List.dropWhile_suffix _
      revert h
      cases hd : gs.dropWhile fun g => isHexR g.1 with
      | nil => intro h; cases h
      | cons e rest =>
        rw [hd] at hl
        simp only
        intro h
        split at h
        · injection h with h; injection h with h1 h2
          subst h2
          exact ((List.suffix_cons e rest).trans hl).trans (List.suffix_cons _ _)
        · cases h
    · cases h
theorem escG_suffix (gs : List G) : (escG gs).2 <:+ gs := by
  cases gs with
  | nil => exact List.suffix_refl _
  | cons g gs =>
    rw [escG_cons]
    by_cases h : g.1 = 117
    · rw [if_pos h]
      cases hc : codeG gs with
      | none => exact List.suffix_cons _ _
      | some x => obtain ⟨n, r⟩ := x; exact (codeG_suffix hc).trans (List.suffix_cons _ _)
    · rw [if_neg h]; exact List.suffix_cons _ _
theorem textG_suffix (n : Nat) : ∀ (fine : Bool) (acc : List UInt8) (gs : List G), gs.length = n → (textG fine acc gs).2 <:+ gs := by
  induction n using Nat.strongRecOn with
  | _ n ih =>
    intro fine acc gs hn
    cases gs with
    | nil => rw [textG]; exact List.suffix_refl _
    | cons g gs =>
      simp at hn
      have he := escG_length gs
      have hs := escG_suffix gs
      rw [textG]
      split
      · exact List.suffix_cons _ _
      · split
        · split
          · exact ((ih (escG gs).2.length (by omega) fine (acc ++ Lib.encodeRune ((escG gs).1.getD 0)) (escG gs).2 rfl).trans hs).trans (List.suffix_cons _ _)
          · exact hs.trans (List.suffix_cons _ _)
        · exact (ih gs.length (by omega) (fine && g.2) (acc ++ Lib.encodeRune g.1) gs rfl).trans (List.suffix_cons _ _)
theorem tokG_suffix {g : G} {gs : List G} (h : firm (g :: gs)) : (tokG (g :: gs)).2 <:+ gs := by
  rw [tokG_cons]
  split
  · exact List.suffix_refl _
  rename_i h40
  split
  · exact List.suffix_refl _
  rename_i h41
  split
  · exact textG_suffix _ _ _ _ rfl
  rename_i h34
  have he := firm_end h h40 h41 h34
  show (bareR (g :: gs)) <:+ gs
  unfold bareR
  rw [List.dropWhile_cons, if_pos (by simp [he])]
  exact List.dropWhile_suffix _

/-- the tokens of a rest; the places rise -/
theorem lexK_left (n : Nat) : ∀ gs : List G, gs.length = n → firm gs → ∀ x ∈ (lexK gs).1, x.2 ≤ gs.length := by
  induction n using Nat.strongRecOn with
  | _ n ih =>
    intro gs hn hf x hx
    cases gs with
    | nil => rw [lexK_nil] at hx; cases hx
    | cons g gs =>
      by_cases h : (tokG (g :: gs)).1.2 = 0
      · rw [lexK_step hf h] at hx
        rcases List.mem_cons.1 hx with rfl | hx
        · exact Nat.le_refl _
        · have h1 := skipG_length (tokG (g :: gs)).2 false
          have h2 := tokG_length hf
          simp at hn
          have := ih (skipG false (tokG (g :: gs)).2).length (by omega) _ rfl (skipG_firm _ _) x hx
          simp; omega
      · rw [lexK_bad h] at hx; cases hx

theorem lexK_count (n : Nat) : ∀ gs : List G, gs.length = n → firm gs → (lexK gs).1.length ≤ gs.length := by
  induction n using Nat.strongRecOn with
  | _ n ih =>
    intro gs hn hf
    cases gs with
    | nil => rw [lexK_nil]; exact Nat.le_refl _
    | cons g gs =>
      by_cases h : (tokG (g :: gs)).1.2 = 0
      · rw [lexK_step hf h]
        have h1 := skipG_length (tokG (g :: gs)).2 false
        have h2 := tokG_length hf
        simp at hn
        have := ih (skipG false (tokG (g :: gs)).2).length (by omega) _ rfl (skipG_firm _ _)
        simp; omega
      · rw [lexK_bad h]; simp

abbrev KL := List (Tok × Nat)
/-- where the range loop stands: tokens seen, runes seen, the byte -/
def PInv (s : ByteArray) (K : KL) (nx pl pos : Nat) : Prop :=
  nx ≤ K.length ∧ pl + (gl ((B s).drop pos)).length = (gl (B s)).length ∧
    ∃ X, X <:+ gl ((B s).drop pos) ∧ firm X ∧ (lexK X).1 = K.drop nx ∧ (lexK X).2.1 = 0

theorem P_start {s : ByteArray} (h : (lexK (skipG false (gl (B s)))).2.1 = 0) : PInv s (lexK (skipG false (gl (B s)))).1 0 0 0 := by
  refine ⟨Nat.zero_le _, by simp, skipG false (gl (B s)), by simpa using skipG_suffix _ _, skipG_firm _ _, by simp, h⟩

theorem P_end {s : ByteArray} {K : KL} {nx pl pos : Nat} (h : PInv s K nx pl pos) (hp : ¬ pos < s.size) : nx = K.length := by
  obtain ⟨h1, h2, X, h3, h4, h5, h6⟩ := h
  have : (B s).drop pos = [] := by rw [List.drop_eq_nil_iff, B_length]; omega
  rw [this, gl_nil] at h3
  have hX : X = [] := List.suffix_nil.1 h3
  rw [hX, lexK_nil] at h5
  have := congrArg List.length h5
  rw [List.length_drop] at this
  simp at this
  omega

theorem P_step {s : ByteArray} {K : KL} {nx pl pos q : Nat} (h : PInv s K nx pl pos) (hs : s.size ≤ 2048) (hp : pos < s.size) (hq : q = pos + (Utf8.decode s pos).2) :
    (∃ t, K[nx]? = some (t, (gl (B s)).length - pl) ∧ pl ≤ (gl (B s)).length ∧ PInv s K (nx + 1) (pl + 1) q ∧
      lexR (s.extract pos s.size) = ((K.drop nx).map (fun x => x.1.at ((gl (B s)).length - pl - x.2)), 0, 0)) ∨
    ((nx = K.length ∨ ∃ t m, K[nx]? = some (t, m) ∧ pl < (gl (B s)).length - m) ∧ PInv s K nx (pl + 1) q) := by
  obtain ⟨h1, h2, X, h3, h4, h5, h6⟩ := h
  have hne : (s.extract pos s.size).size ≠ 0 := by rw [rest_size']; omega
  have hg : gl ((B s).drop pos) = (dr (s.extract pos s.size), stepOk (s.extract pos s.size)) :: gl ((B s).drop q) := by
    rw [← B_drop, glB_cons hne, B_adv, B_drop, List.drop_drop, hq]
    have : dn (s.extract pos s.size) = (Utf8.decode s pos).2 := by
      unfold dn
      rw [← dec_B _ hne, B_drop, Lib.decodeL_drop]
    rw [this]
  generalize (dr (s.extract pos s.size), stepOk (s.extract pos s.size)) = g at hg
  rw [hg] at h2 h3
  simp only [List.length_cons] at h2
  rcases List.suffix_cons_iff.1 h3 with rfl | h3'
  · left
    have ht : (tokG (g :: gl ((B s).drop q))).1.2 = 0 := by
      refine Decidable.byContradiction fun hh => ?_
      rw [lexK_bad hh] at h6
      exact hh h6
    have hst := lexK_step h4 ht
    have hlex : lexR (s.extract pos s.size) = ((K.drop nx).map (fun x => x.1.at ((gl (B s)).length - pl - x.2)), 0, 0) := by
      have hz : (s.extract pos s.size).size ≤ 2048 := by rw [rest_size']; omega
      rw [lexR_gl _ hz, lexG, B_drop, hg, skipG_of_firm h4, if_pos h6, h5]
      have : (gl (B s)).length - pl = (g :: gl ((B s).drop q)).length := by simp; omega
      rw [this]
    rw [hst] at h5 h6
    have hd : K[nx]? = some ((tokG (g :: gl ((B s).drop q))).1.1, (gl (B s)).length - pl) := by
      have := congrArg List.head? h5
      rw [List.head?_drop] at this
      rw [← this]
      simp
      omega
    have hlt : nx < K.length := (List.getElem?_eq_some_iff.1 hd).1
    refine ⟨_, hd, by omega, ⟨by omega, by omega, skipG false (tokG (g :: gl ((B s).drop q))).2, (skipG_suffix _ _).trans (tokG_suffix h4), skipG_firm _ _, ?_, h6⟩, hlex⟩
    have := congrArg List.tail h5
    rw [List.tail_drop] at this
    exact this
  · right
    refine ⟨?_, h1, by omega, X, h3', h4, h5, h6⟩
    by_cases hk : nx = K.length
    · exact .inl hk
    · right
      obtain ⟨x, hx⟩ : ∃ x, K[nx]? = some x := ⟨K[nx]'(by omega), List.getElem?_eq_getElem _⟩
      refine ⟨x.1, x.2, hx, ?_⟩
      have hmem : x ∈ (lexK X).1 := by
        rw [h5]
        refine List.mem_of_getElem? (i := 0) ?_
        rw [List.getElem?_drop]
        exact hx
      have := lexK_left _ X rfl h4 x hmem
      have := h3'.length_le
      omega
end Go.Proofs.YtegnoaejlhbpbaaGreatDoor.lx
namespace Go.Proofs.YtegnoaejlhbpbaaGreatDoor.lx
open Go.RowKit

theorem tokCells_at : ∀ (ts : List Tok) (i : Nat) (t : Tok) (j : Nat), ts[i]? = some t → j < 4 → (tokCells ts)[i * 4 + j]? = t.cells[j]?
  | [], i, t, j, h, _ => by simp at h
  | x :: ts, 0, t, j, h, hj => by
    simp at h
    subst h
    rw [tokCells, List.flatMap_cons, List.getElem?_append_left (by simp [Tok.cells]; omega)]
    simp
  | x :: ts, i + 1, t, j, h, hj => by
    have := tokCells_at ts i t j (by simpa using h) hj
    rw [tokCells, List.flatMap_cons, List.getElem?_append_right (by simp [Tok.cells]; omega)]
    have e : (i + 1) * 4 + j - x.cells.length = i * 4 + j := by simp [Tok.cells]; omega
    rw [e]
    exact this

/-- the row of tokens that Lex gave, in a later world -/
def Row (ao : Option Addr) (L : List Tok) (w : World) : Prop := L.length = 0 ∨ ∃ g, ao = some ⟨g, 0, none⟩ ∧ ∀ (j : Nat) u, (tokCells L)[j]? = some u → w.cell? ⟨g, j, none⟩ = some u
theorem Row.below {ao : Option Addr} {L : List Tok} {w w' : World} (h : Row ao L w) (hb : Below w.heap.size w w') : Row ao L w' := by
  rcases h with h | ⟨g, h1, h2⟩
  · exact .inl h
  · refine .inr ⟨g, h1, fun j u hu => ?_⟩
    have hc := h2 j u hu
    exact (World.cell?_of_block (a := ⟨g, j, none⟩) (hb.block g (World.block_lt_of_cell? w _ hc))).trans hc
theorem Row.at {ao : Option Addr} {L : List Tok} {w : World} (h : Row ao L w) {i : Nat} {t : Tok} (ht : L[i]? = some t) :
    ∃ g, ao = some ⟨g, 0, none⟩ ∧ w.cell? ⟨g, i * 4, none⟩ = some (.int .u8 t.k) ∧ w.cell? ⟨g, i * 4 + 1, none⟩ = some (.string t.s) ∧ w.cell? ⟨g, i * 4 + 2, none⟩ = some (.int .i64 t.n) ∧ w.cell? ⟨g, i * 4 + 3, none⟩ = some (.int .i64 t.a) := by
  have hlt := (List.getElem?_eq_some_iff.1 ht).1
  obtain ⟨g, h1, h2⟩ := h.resolve_left (by omega)
  exact ⟨g, h1, h2 _ _ (tokCells_at L i t 0 ht (by omega)), h2 _ _ (tokCells_at L i t 1 ht (by omega)), h2 _ _ (tokCells_at L i t 2 ht (by omega)), h2 _ _ (tokCells_at L i t 3 ht (by omega))⟩
theorem own_row {w : World} {B : Nat} {v : Value} {ts : List Tok} (h : w.ownsRow B 79 4 v ts.length (tokCells ts)) : ∃ ao cap, v = .slice ao ts.length cap ∧ Row ao ts w := by
  obtain ⟨ao, cap, h1, h2⟩ := own_slice h
  refine ⟨ao, cap, h1, ?_⟩
  rcases h2 with h2 | ⟨g, h3, _, _, h4⟩
  · exact .inl h2
  · exact .inr ⟨g, h3, h4⟩

theorem lexR_at {s : ByteArray} {L : List Tok} {p : Int} (h : lexR s = (L, 0, p)) {i : Nat} {t : Tok} (ht : L[i]? = some t) : 0 ≤ t.a ∧ t.a ≤ 2048 := by
  obtain ⟨h1, h2, h3⟩ := lexR_ok h
  rw [h3, List.getElem?_map] at ht
  obtain ⟨x, hx, rfl⟩ := Option.map_eq_some_iff.1 ht
  have := gl_len _ (B s) rfl
  rw [B_length] at this
  show 0 ≤ (((gl (B s)).length - x.2 : Nat) : Int) ∧ (((gl (B s)).length - x.2 : Nat) : Int) ≤ 2048
  omega
end Go.Proofs.YtegnoaejlhbpbaaGreatDoor.lx
namespace Go.Proofs.YtegnoaejlhbpbaaGreatDoor.lx
open Go.RowKit

/-- a token that is small -/
def Tiny (t : Tok) : Prop := t.s.size ≤ 256 ∧ -9223372036854775808 ≤ t.n ∧ t.n ≤ 9223372036854775807
theorem tiny_zero {k a : Int} {s : ByteArray} (h : s.size ≤ 256) : Tiny ⟨k, s, 0, a⟩ := ⟨h, (by decide : (-9223372036854775808 : Int) ≤ 0), (by decide : (0 : Int) ≤ 9223372036854775807)⟩
theorem tiny_no : Tiny Tok.no := tiny_zero (Nat.zero_le _)
theorem textF_small (n : Nat) : ∀ (fine : Bool) (acc : List UInt8) (l : ByteArray) (p : Nat), l.size = n → Tiny (textF fine acc l p).1.1 := by
  induction n using Nat.strongRecOn with
  | _ n ih =>
    intro fine acc l p hl
    by_cases h0 : l.size = 0
    · rw [textF_end h0]; exact tiny_no
    · have hlt := adv_lt l h0
      by_cases h34 : dr l = 34
      · rw [textF_close h0 h34]
        by_cases hf : fine = false
        · rw [if_pos hf]; exact tiny_no
        · rw [if_neg hf]
          by_cases h256 : 256 < acc.length
          · rw [if_pos h256]; exact tiny_no
          · rw [if_neg h256]
            refine tiny_zero ?_
            rw [show (ByteArray.mk acc.toArray).size = acc.length from by simp [ByteArray.size]]
            omega
      · by_cases h92 : dr l = 92
        · have hes := escF_size (adv l) (p + 1)
          cases he : (escF (adv l) (p + 1)).1.isSome with
          | true => rw [textF_esc h0 h92 he]; exact ih _ (by omega) _ _ _ _ rfl
          | false => rw [textF_bad h0 h92 he]; exact tiny_no
        · rw [textF_rune h0 h34 h92]
          exact ih _ (by omega) _ _ _ _ rfl
theorem numTok_small (s : ByteArray) : Tiny (numTok s).1 := by
  unfold numTok
  split
  · rename_i n hn
    have hb := Lib.parseIntB_bounds hn
    split
    · exact ⟨Nat.zero_le _, by simp at hb; exact hb.1, by simp at hb; show n ≤ _; omega⟩
    · exact tiny_no
  · exact tiny_no
theorem wordTok_small (fine : Bool) (s : ByteArray) : Tiny (wordTok fine s).1 := by
  unfold wordTok
  split
  · exact tiny_no
  · split
    · exact numTok_small s
    · split
      · exact tiny_no
      · exact tiny_zero (by omega)
theorem tokF_small (l : ByteArray) (p : Nat) : Tiny (tokF l p).1.1 := by
  unfold tokF
  split
  · exact tiny_zero (Nat.zero_le _)
  · split
    · exact tiny_zero (Nat.zero_le _)
    · split
      · exact textF_small _ _ _ _ _ rfl
      · exact wordTok_small _ _
theorem lexF_small (n : Nat) : ∀ (out : List Tok) (l : ByteArray) (p : Nat), l.size = n → (∀ t ∈ out, Tiny t) → (∀ t ∈ (lexF out l p).1, Tiny t) ∧ (lexF out l p).1.length ≤ out.length + l.size := by
  induction n using Nat.strongRecOn with
  | _ n ih =>
    intro out l p hl ho
    rw [lexF]
    split
    · exact ⟨ho, Nat.le_add_right _ _⟩
    · split
      · exact ⟨fun t ht => by (cases ht), Nat.zero_le _⟩
      · split
        · rename_i hlt
          obtain ⟨h1, h2⟩ := ih _ (by rw [← hl]; exact hlt) (out ++ [(tokF l p).1.1.at p]) _ (skipF false (tokF l p).2.1 (tokF l p).2.2).2 rfl (by
            intro t ht
            rcases List.mem_append.1 ht with h | h
            · exact ho t h
            · rw [List.mem_singleton.1 h]
              exact tokF_small l p)
          refine ⟨h1, ?_⟩
          rw [List.length_append] at h2
          simp only [List.length_cons, List.length_nil] at h2
          omega
        · exact ⟨fun t ht => by (cases ht), Nat.zero_le _⟩
theorem skipF_le (n : Nat) : ∀ (note : Bool) (l : ByteArray) (p : Nat), l.size = n → (skipF note l p).1.size ≤ l.size := by
  induction n using Nat.strongRecOn with
  | _ n ih =>
    intro note l p hl
    by_cases h0 : l.size = 0
    · rw [skipF_end h0]; exact Nat.le_refl _
    · have hlt := adv_lt l h0
      cases hr : (noted note (dr l) || blankR (dr l)) with
      | true => rw [skipF_go h0 hr]; exact Nat.le_trans (ih _ (by omega) _ _ _ rfl) (by omega)
      | false => rw [skipF_stop h0 hr]; exact Nat.le_refl _
theorem lexR_small (s : ByteArray) : (∀ t ∈ (lexR s).1, Tiny t) ∧ (lexR s).1.length ≤ 2048 := by
  unfold lexR
  split
  · exact ⟨fun t ht => by (cases ht), Nat.zero_le _⟩
  · obtain ⟨h1, h2⟩ := lexF_small _ [] (skipF false s 0).1 (skipF false s 0).2 rfl (fun t ht => by (cases ht))
    have := skipF_le _ false s 0 rfl
    simp only [List.length_nil] at h2
    exact ⟨h1, by omega⟩
theorem trow_of {A : Nat} {ao : Option Addr} {L : List Tok} {w : World} (h : Row ao L w) (hA : w.heap.size ≤ A) : TRow A ao L w := by
  rcases h with h | ⟨g, h1, h2⟩
  · exact .inl h
  · by_cases h0 : L.length = 0
    · exact .inl h0
    refine .inr ⟨g, 0, h1, ?_, fun i t ht => ?_⟩
    · obtain ⟨t, ht⟩ : ∃ t, L[0]? = some t := ⟨_, List.getElem?_eq_getElem (by omega)⟩
      have := World.block_lt_of_cell? w _ (h2 0 _ (tokCells_at L 0 t 0 ht (by omega)))
      have : g < w.heap.size := this
      omega
    · have := fun j (hj : j < 4) u (hu : t.cells[j]? = some u) => h2 _ u ((tokCells_at L i t j ht hj).trans hu)
      simp only [Nat.zero_add]
      exact ⟨this 0 (by omega) _ rfl, this 1 (by omega) _ rfl, this 2 (by omega) _ rfl, this 3 (by omega) _ rfl⟩
end Go.Proofs.YtegnoaejlhbpbaaGreatDoor.lx
namespace Go.Proofs.YtegnoaejlhbpbaaGreatDoor.lx
open Go.RowKit

def Good (t : Stp) : Prop := t.s.size ≤ 256 ∧ (0 ≤ t.k ∧ t.k ≤ 255) ∧ -9223372036854775808 ≤ t.n ∧ t.n ≤ 9223372036854775807
def Small (l : List Tok) : Prop := ∀ t ∈ l, Tiny t
theorem Small.suf {l l' : List Tok} (h : Small l) (hs : l' <:+ l) : Small l' := fun t ht => h t (hs.subset ht)
theorem Small.tiny {l : List Tok} (h : Small l) (fin : Int) : Tiny (tokAt l fin) := by
  cases l with
  | nil => exact tiny_zero (Nat.zero_le _)
  | cons t r => exact h t List.mem_cons_self
theorem Small.at {l : List Tok} (h : Small l) (fin : Int) : (tokAt l fin).s.size ≤ 256 := (h.tiny fin).1
theorem putR_eq {fin : Int} {l : List Tok} {st new st' : List Stp} (h : putR fin l st new = .ok st') : st' = st ++ new := by
  unfold putR at h
  split at h
  · injection h with h; exact h.symm
  · cases h
theorem good_app {a b : List Stp} (ha : ∀ t ∈ a, Good t) (hb : ∀ t ∈ b, Good t) : ∀ t ∈ a ++ b, Good t := fun t ht => (List.mem_append.1 ht).elim (ha t) (hb t)
theorem leafS_good {t : Tok} {x : Stp} (h : leafS t = some x) (hT : Tiny t) : Good x := by
  obtain ⟨ht, hn0, hn1⟩ := hT
  have z : (-9223372036854775808 : Int) ≤ 0 ∧ (0 : Int) ≤ 9223372036854775807 := by decide
  unfold leafS at h
  have e : (⟨#[]⟩ : ByteArray).size ≤ 256 := Nat.zero_le _
  repeat' split at h
  all_goals first
    | (injection h with h; subst h; exact ⟨ht, (by decide : (0 : Int) ≤ 6 ∧ (6 : Int) ≤ 255), z⟩)
    | (injection h with h; subst h; exact ⟨ht, (by decide : (0 : Int) ≤ 5 ∧ (5 : Int) ≤ 255), z⟩)
    | (injection h with h; subst h; exact ⟨e, (by decide : (0 : Int) ≤ 4 ∧ (4 : Int) ≤ 255), hn0, hn1⟩)
    | (injection h with h; subst h; exact ⟨e, (by decide : (0 : Int) ≤ 3 ∧ (3 : Int) ≤ 255), z⟩)
    | (injection h with h; subst h; exact ⟨e, (by decide : (0 : Int) ≤ 2 ∧ (2 : Int) ≤ 255), z⟩)
    | (injection h with h; subst h; exact ⟨e, (by decide : (0 : Int) ≤ 1 ∧ (1 : Int) ≤ 255), z⟩)
    | cases h
theorem leafR_good {fin : Int} {l : List Tok} {op : Int} {st : List Stp} {s : PS} (h : leafR fin l op st = .ok s) (hl : Small l) (hst : ∀ t ∈ st, Good t) : ∀ t ∈ s.2.2, Good t := by
  unfold leafR at h
  cases hx : leafS (tokAt l fin) with
  | none => rw [hx] at h; cases h
  | some x =>
    rw [hx] at h
    simp only at h
    cases hp : putR fin l st [x] with
    | bad y p => rw [hp] at h; cases h
    | ok st' =>
      rw [hp] at h
      injection h with h
      subst h
      rw [putR_eq hp]
      exact good_app hst fun t ht => by rw [List.mem_singleton.1 ht]; exact leafS_good hx (hl.tiny fin)
theorem partsR_good {f : List Tok → Int → List Stp → Res PS} {fin k : Int} (hok : ∀ l op st s, f l op st = .ok s → Leaves' l op s) (hf : ∀ l op st s, f l op st = .ok s → Small l → (∀ t ∈ st, Good t) → ∀ t ∈ s.2.2, Good t) :
    ∀ (m parts : Nat) (l : List Tok) (op : Int) (st : List Stp) (z : Nat × PS), partsR f fin k m parts l op st = .ok z → Small l → (∀ t ∈ st, Good t) → ∀ t ∈ z.2.2.2, Good t := by
  intro m
  induction m with
  | zero => intro parts l op st z h; cases h
  | succ m ih =>
    intro parts l op st z h hl hst
    unfold partsR at h
    split at h
    · cases hfl : f l op st with
      | bad y p => rw [hfl] at h; cases h
      | ok s =>
        rw [hfl] at h
        exact ih _ _ _ _ _ h (hl.suf (hok _ _ _ _ hfl).1) (hf _ _ _ _ hfl hl hst)
    · injection h with h
      subst h
      exact hst
theorem endR_good {fin k : Int} {parts : Nat} {l : List Tok} {op : Int} {st : List Stp} {s : PS} (h : endR' fin k parts l op st = .ok s) (hk : 0 ≤ k ∧ k ≤ 255) (hst : ∀ t ∈ st, Good t) : ∀ t ∈ s.2.2, Good t := by
  unfold endR' at h
  split at h
  · cases h
  · cases hp : putR fin l st (List.replicate (if 20 ≤ k then parts - 1 else 1) ⟨k, ⟨#[]⟩, 0⟩) with
    | bad y p => rw [hp] at h; cases h
    | ok st' =>
      rw [hp] at h
      simp only [Res.then] at h
      cases ht : takeR fin 2 (fun _ => true) l op with
      | bad y p => rw [ht] at h; cases h
      | ok x =>
        rw [ht] at h
        injection h with h
        subst h
        rw [putR_eq hp]
        exact good_app hst fun t ht => by rw [(List.mem_replicate.1 ht).2]; exact ⟨Nat.zero_le _, hk, (by decide : (-9223372036854775808 : Int) ≤ 0), (by decide : (0 : Int) ≤ 9223372036854775807)⟩
theorem exprR_good (fin : Int) : ∀ (n : Nat) (l : List Tok) (op : Int) (st : List Stp) (s : PS), exprR fin n l op st = .ok s → Small l → (∀ t ∈ st, Good t) → ∀ t ∈ s.2.2, Good t := by
  intro n
  induction n with
  | zero => intro l op st s h; cases h
  | succ n ih =>
    intro l op st s h hl hst
    unfold exprR at h
    split at h
    · exact leafR_good h hl hst
    · cases h1 : takeR fin 1 (fun _ => true) l op with
      | bad y p => rw [h1] at h; cases h
      | ok x =>
        rw [h1] at h
        simp only [Res.then] at h
        cases h2 : takeR fin 3 isOp x.1 x.2 with
        | bad y p => rw [h2] at h; cases h
        | ok y =>
          rw [h2] at h
          simp only at h
          cases h3 : partsR (exprR fin n) fin (opK (tokAt x.1 fin).s) (y.1.length + 2) 0 y.1 y.2 st with
          | bad q p => rw [h3] at h; cases h
          | ok z =>
            rw [h3] at h
            simp only at h
            obtain ⟨_, _, c, _⟩ := takeR_ok h2 (by decide)
            have hk := opK_range c
            exact endR_good h ⟨by omega, by omega⟩ (partsR_good (exprR_ok fin n) ih _ _ _ _ _ _ h3 ((hl.suf (take_suf h1 (by decide)).1).suf (take_suf h2 (by decide)).1) hst)
theorem wholeR_good {fin : Int} {l : List Tok} {op : Int} {s : PS} (h : wholeR fin l op = .ok s) (hl : Small l) : ∀ t ∈ s.2.2, Good t := exprR_good fin _ _ _ _ _ h hl fun t ht => by cases ht
structure GoodI (it : Itm) : Prop where
  e : ∀ t ∈ it.e, Good t
  len : it.e.length ≤ 64
  lo : 0 ≤ it.agg
  hi : it.agg ≤ 4
theorem itemR_good {fin : Int} {l : List Tok} {op : Int} {s : List Tok × Int × Itm} (h : itemR fin l op = .ok s) (hl : Small l) : GoodI s.2.2 := by
  obtain ⟨_, _, hk1, _, hk2, hk3⟩ := itemR_ok h
  refine ⟨?_, hk1, hk2, hk3⟩
  clear hk1 hk2 hk3
  unfold itemR at h
  by_cases hi : Lib.idxOfS wordsL (headR l) < 1
  · rw [if_pos hi] at h
    cases hw : wholeR fin l op with
    | bad y q => rw [hw] at h; cases h
    | ok x =>
      rw [hw] at h
      injection h with h
      subst h
      exact wholeR_good hw hl
  rw [if_neg hi] at h
  cases h1 : takeR fin 1 (fun _ => true) l op with
  | bad y q => rw [h1] at h; cases h
  | ok x =>
    obtain ⟨l1, op1⟩ := x
    rw [h1] at h
    simp only [Res.then] at h
    cases h2 : takeR fin 3 (fun _ => true) l1 op1 with
    | bad y q => rw [h2] at h; cases h
    | ok x =>
      obtain ⟨l2, op2⟩ := x
      rw [h2] at h
      simp only at h
      have hs2 := (hl.suf (take_suf h1 (by decide)).1).suf (take_suf h2 (by decide)).1
      by_cases hX1 : Lib.idxOfS wordsL (headR l) = 1
      · rw [if_pos hX1] at h
        simp only at h
        cases h4 : takeR fin 2 (fun _ => true) l2 op2 with
        | bad y q => rw [h4] at h; cases h
        | ok x =>
          rw [h4] at h
          injection h with h
          subst h
          exact fun t ht => by cases ht
      · rw [if_neg hX1] at h
        cases h3 : wholeR fin l2 op2 with
        | bad y q => rw [h3] at h; cases h
        | ok x =>
          rw [h3] at h
          simp only at h
          cases h4 : takeR fin 2 (fun _ => true) x.1 x.2.1 with
          | bad y q => rw [h4] at h; cases h
          | ok x' =>
            rw [h4] at h
            injection h with h
            subst h
            exact wholeR_good h3 hs2
theorem someR_all {α : Type} {P : α → Prop} {one : List Tok → Int → Res (List Tok × Int × α)} {fin : Int} (hone : ∀ l op s, one l op = .ok s → Small l → s.1 <:+ l ∧ P s.2.2) :
    ∀ (m : Nat) (out : List α) (l : List Tok) (op : Int) (s : List Tok × Int × List α), someR one fin m out l op = .ok s → Small l → (∀ x ∈ out, P x) → out.length ≤ 8 → (∀ x ∈ s.2.2, P x) ∧ s.2.2.length ≤ 8
  | 0, _, _, _, _, h, _, _, _ => by cases h
  | m + 1, out, l, op, s, h, hl, ho, h8 => by
    rw [someR] at h
    split at h
    · split at h
      · cases ho1 : one l op with
        | bad y q => rw [ho1] at h; cases h
        | ok x =>
          rw [ho1] at h
          obtain ⟨a, b⟩ := hone _ _ _ ho1 hl
          exact someR_all hone m _ _ _ s h (hl.suf a) (fun y hy => (List.mem_append.1 hy).elim (ho y) (fun h => by rw [List.mem_singleton.1 h]; exact b)) (by rw [List.length_append]; simp only [List.length_cons, List.length_nil]; omega)
      · cases h
    · injection h with h
      subst h
      exact ⟨ho, h8⟩
/-- a query whose parts are small -/
structure GoodQ (q : Qry) : Prop where
  items : ∀ it ∈ q.items, GoodI it
  ilen : q.items.length ≤ 8
  wher : ∀ t ∈ q.wher, Good t
  wlen : q.wher.length ≤ 64
  group : ∀ s ∈ q.group, s.size ≤ 256
  glen : q.group.length ≤ 8
  table : q.table.size ≤ 256
  join : q.join.size ≤ 256
  left : q.left.size ≤ 256
  right : q.right.size ≤ 256
theorem atomR_val {fin : Int} {p : ByteArray → Bool} {l : List Tok} {op : Int} {s : List Tok × Int × ByteArray} (h : atomR p fin l op = .ok s) : s.2.2 = (tokAt l fin).s := by
  unfold atomR at h
  cases ht : takeR fin 3 p l op with
  | bad y q => rw [ht] at h; cases h
  | ok x => rw [ht] at h; injection h with h; subst h; rfl
theorem readR_good {k : Nat} (hk : k < 4) {fin : Int} {l : List Tok} {op : Int} {q : Qry} {s : QS} (h : readR k fin (l, op, q) = .ok s) (hl : Small l) (hq : GoodQ q) : GoodQ s.2.2 := by
  match k, hk with
  | 0, _ =>
    unfold readR at h
    simp only at h
    cases ha : atomR nameR fin l op with
    | bad y p => rw [ha] at h; cases h
    | ok a =>
      rw [ha] at h
      simp only [Res.then] at h
      have hl1 := hl.suf (atomR_ok ha).1
      cases hb : atomR columnR fin a.1 a.2.1 with
      | bad y p => rw [hb] at h; cases h
      | ok b =>
        rw [hb] at h
        simp only at h
        have hl2 := hl1.suf (atomR_ok hb).1
        cases hc : atomR columnR fin b.1 b.2.1 with
        | bad y p => rw [hc] at h; cases h
        | ok c =>
          rw [hc] at h
          injection h with h
          subst h
          exact { hq with join := by rw [atomR_val ha]; exact hl.at fin, left := by rw [atomR_val hb]; exact hl1.at fin, right := by rw [atomR_val hc]; exact hl2.at fin }
  | 1, _ =>
    unfold readR at h
    simp only at h
    cases ha : wholeR fin l op with
    | bad y p => rw [ha] at h; cases h
    | ok a =>
      rw [ha] at h
      injection h with h
      subst h
      exact { hq with wher := wholeR_good ha hl, wlen := (exprR_ok fin _ _ _ _ _ ha).2.2.1 }
  | 2, _ =>
    unfold readR at h
    simp only at h
    cases ha : someR (atomR columnR fin) fin (l.length + 2) [] l op with
    | bad y p => rw [ha] at h; cases h
    | ok a =>
      rw [ha] at h
      injection h with h
      subst h
      obtain ⟨h1, h2⟩ := someR_all (P := fun s : ByteArray => s.size ≤ 256) (fun l op s h hl => ⟨(atomR_ok h).1, by rw [atomR_val h]; exact hl.at fin⟩) _ _ _ _ _ ha hl (fun x hx => by cases hx) (Nat.zero_le _)
      exact { hq with group := h1, glen := h2 }
  | 3, _ =>
    unfold readR at h
    simp only at h
    cases ha : someR (itemR fin) fin (l.length + 2) [] l op with
    | bad y p => rw [ha] at h; cases h
    | ok a =>
      rw [ha] at h
      injection h with h
      subst h
      obtain ⟨h1, h2⟩ := someR_all (P := GoodI) (fun l op s h hl => ⟨(itemR_ok h).1, itemR_good h hl⟩) _ _ _ _ _ ha hl (fun x hx => by cases hx) (Nat.zero_le _)
      exact { hq with items := h1, ilen := h2 }
theorem clauseR_good {k : Nat} (hk : k < 4) {w : ByteArray} {fin : Int} {s s' : QS} (h : clauseR k w fin s = .ok s') (hl : Small s.1) (hq : GoodQ s.2.2) : Small s'.1 ∧ GoodQ s'.2.2 := by
  obtain ⟨l, op, q⟩ := s
  unfold clauseR at h
  split at h
  · simp only at h
    cases h1 : takeR fin 1 (fun _ => true) l op with
    | bad y q => rw [h1] at h; cases h
    | ok x =>
      rw [h1] at h
      simp only [Res.then] at h
      cases h2 : takeR fin 3 (fun _ => true) x.1 x.2 with
      | bad y q => rw [h2] at h; cases h
      | ok y =>
        rw [h2] at h
        simp only at h
        have hs2 := (hl.suf (take_suf h1 (by decide)).1).suf (take_suf h2 (by decide)).1
        cases h3 : readR k fin (y.1, y.2, q) with
        | bad y q => rw [h3] at h; cases h
        | ok z =>
          rw [h3] at h
          simp only at h
          have hs3 := hs2.suf (readR_ok hk h3).1
          cases h4 : takeR fin 2 (fun _ => true) z.1 z.2.1 with
          | bad y q => rw [h4] at h; cases h
          | ok u =>
            rw [h4] at h
            injection h with h
            subst h
            exact ⟨hs3.suf (take_suf h4 (by decide)).1, readR_good (fin := fin) (op := y.2) (s := z) hk h3 hs2 hq⟩
  · injection h with h
    subst h
    exact ⟨hl, hq⟩
theorem clausesR_good {fin : Int} : ∀ (ws : List ByteArray) (k : Nat) (s s' : QS), k + ws.length ≤ 4 → clausesR fin k ws s = .ok s' → Small s.1 → GoodQ s.2.2 → Small s'.1 ∧ GoodQ s'.2.2
  | [], _, s, s', _, h, hl, hq => by injection h with h; subst h; exact ⟨hl, hq⟩
  | w :: ws, k, s, s', hk, h, hl, hq => by
    rw [clausesR] at h
    simp only [List.length_cons] at hk
    cases h1 : clauseR k w fin s with
    | bad y q => rw [h1] at h; cases h
    | ok s1 =>
      rw [h1] at h
      obtain ⟨a, b⟩ := clauseR_good (by omega) h1 hl hq
      exact clausesR_good ws (k + 1) s1 s' (by omega) h a b
theorem GoodQ.none : GoodQ Qry.none where
  items := fun _ h => by cases h
  ilen := Nat.zero_le _
  wher := fun _ h => by cases h
  wlen := Nat.zero_le _
  group := fun _ h => by cases h
  glen := Nat.zero_le _
  table := Nat.zero_le _
  join := Nat.zero_le _
  left := Nat.zero_le _
  right := Nat.zero_le _
theorem queryR_good {fin : Int} {l : List Tok} {q : Qry} (h : queryR fin l = .ok q) (hl : Small l) : GoodQ q := by
  unfold queryR at h
  cases h1 : takeR fin 1 (fun _ => true) l 0 with
  | bad y q => rw [h1] at h; cases h
  | ok x =>
    rw [h1] at h
    simp only [Res.then] at h
    cases h2 : takeR fin 3 (fun s => decide (s = fromB)) x.1 x.2 with
    | bad y q => rw [h2] at h; cases h
    | ok y =>
      rw [h2] at h
      simp only at h
      have hs2 := (hl.suf (take_suf h1 (by decide)).1).suf (take_suf h2 (by decide)).1
      cases h3 : atomR nameR fin y.1 y.2 with
      | bad y q => rw [h3] at h; cases h
      | ok n =>
        rw [h3] at h
        simp only at h
        cases h4 : clausesR fin 0 clausesL (n.1, n.2.1, { Qry.none with table := n.2.2 }) with
        | bad y q => rw [h4] at h; cases h
        | ok s =>
          rw [h4] at h
          simp only at h
          obtain ⟨_, hg⟩ := clausesR_good _ _ _ _ (by decide) h4 (hs2.suf (atomR_ok h3).1) { GoodQ.none with table := by rw [atomR_val h3]; exact hs2.at fin }
          cases h5 : takeR fin 2 (fun _ => true) s.1 s.2.1 with
          | bad y q => rw [h5] at h; cases h
          | ok u =>
            rw [h5] at h
            simp only at h
            split at h
            · injection h with h; subst h; exact hg
            · cases h
theorem Good.ok {L : List Stp} (h : ∀ t ∈ L, Good t) : StpsOk L := fun t ht => ⟨Nat.lt_of_le_of_lt (h t ht).1 (by decide), (h t ht).2.1⟩
theorem GoodI.ok {it : Itm} (h : GoodI it) : ItmOk it := ⟨Good.ok h.e, by have := h.len; omega, h.lo, by have := h.hi; omega⟩
theorem GoodQ.ok {q : Qry} (h : GoodQ q) : QryOk q :=
  ⟨fun it hi => (h.items it hi).ok, by have := h.ilen; omega, Good.ok h.wher, by have := h.wlen; omega, fun s hs => Nat.lt_of_le_of_lt (h.group s hs) (by decide), by have := h.glen; omega, Nat.lt_of_le_of_lt h.table (by decide), Nat.lt_of_le_of_lt h.join (by decide), Nat.lt_of_le_of_lt h.left (by decide), Nat.lt_of_le_of_lt h.right (by decide)⟩
end Go.Proofs.YtegnoaejlhbpbaaGreatDoor.lx
