/-
  The lexer as a law on glyphs: plain laws, no program in sight.
-/
import Derived.Test.YtfndfhhimhcakaaDoorGCode
namespace Go.Proofs.YtfndfhhimhcakaaDoor.lx
open Go.RowKit

def escG : List G → Option Int × List G
  | [] => (none, [])
  | g :: gs => if g.1 = 117 then (match codeG gs with | none => (none, gs) | some (n, r) => (some (n : Int), r)) else (escR g.1, gs)

theorem escG_cons (g : G) (gs : List G) : escG (g :: gs) = if g.1 = 117 then (match codeG gs with | none => (none, gs) | some (n, r) => (some (n : Int), r)) else (escR g.1, gs) := rfl

theorem codeG_length {gs r : List G} {n : Nat} (h : codeG gs = some (n, r)) : r.length < gs.length := by
  unfold codeG at h
  cases gs with
  | nil => cases h
  | cons g gs =>
    simp only at h
    split at h
    · have hl : (gs.dropWhile fun g => isHexR g.1).length ≤ gs.length := (List.dropWhile_sublist _).length_le
      revert h
      cases hd : gs.dropWhile fun g => isHexR g.1 with
      | nil => intro h; cases h
      | cons e rest =>
        rw [hd] at hl
        simp only
        intro h
        split at h
        · injection h with h; injection h with h1 h2
          subst h2
          simp at hl ⊢
          omega
        · cases h
    · cases h
theorem escG_length (gs : List G) : (escG gs).2.length ≤ gs.length := by
  cases gs with
  | nil => exact Nat.le_refl _
  | cons g gs =>
    rw [escG_cons]
    by_cases h : g.1 = 117
    · rw [if_pos h]
      cases hc : codeG gs with
      | none => simp
      | some x => obtain ⟨n, r⟩ := x; have := codeG_length hc; simp; omega
    · rw [if_neg h]; simp

theorem escF_gl (l : ByteArray) (p : Nat) : (escF l p).1 = (escG (gl (B l))).1 ∧ gl (B (escF l p).2.1) = (escG (gl (B l))).2 ∧
    (escF l p).2.2 + (gl (B (escF l p).2.1)).length = p + (gl (B l)).length := by
  unfold escF
  by_cases h0 : l.size = 0
  · obtain ⟨h1, h2⟩ := dn_zero l h0
    have ha : (adv l).size = 0 := by rw [adv_size]; omega
    rw [if_neg (by omega), glB_nil h0, glB_nil ha]
    have hs : stepP l p = p := by rw [stepP, if_neg (by omega)]
    rw [h2, hs]
    exact ⟨rfl, rfl, rfl⟩
  · rw [glB_cons h0, stepP_pos p h0]
    by_cases h117 : dr l = 117
    · rw [if_pos h117]
      have hc := codeF_gl (adv l)
      cases hcf : codeF (adv l) with
      | none =>
        rw [hcf] at hc
        simp only at hc ⊢
        rw [escG_cons, if_pos h117, hc]
        refine ⟨rfl, rfl, ?_⟩
        simp; omega
      | some x =>
        obtain ⟨n, m⟩ := x
        rw [hcf] at hc
        simp only at hc ⊢
        rw [escG_cons, if_pos h117, hc.1]
        refine ⟨rfl, rfl, ?_⟩
        have := hc.2
        simp
        omega
    · rw [if_neg h117]
      rw [escG_cons, if_neg h117]
      refine ⟨rfl, rfl, ?_⟩
      simp; omega

def textG (fine : Bool) (acc : List UInt8) (gs : List G) : (Tok × Int) × List G :=
  match gs with
  | [] => ((Tok.no, 13), [])
  | g :: gs =>
    if g.1 = 34 then ((if fine = false then (Tok.no, 9) else if 256 < acc.length then (Tok.no, 4) else (⟨5, ⟨acc.toArray⟩, 0, 0⟩, 0)), gs)
    else if g.1 = 92 then
      if (escG gs).1.isSome then textG fine (acc ++ Lib.encodeRune ((escG gs).1.getD 0)) (escG gs).2 else ((Tok.no, 13), (escG gs).2)
    else textG (fine && g.2) (acc ++ Lib.encodeRune g.1) gs
termination_by gs.length
decreasing_by
  · have := escG_length gs; simp; omega
  · simp

theorem textF_gl (n : Nat) : ∀ (fine : Bool) (acc : List UInt8) (l : ByteArray) (p : Nat), l.size = n →
    (textF fine acc l p).1 = (textG fine acc (gl (B l))).1 ∧ gl (B (textF fine acc l p).2.1) = (textG fine acc (gl (B l))).2 ∧
      (textF fine acc l p).2.2 + (gl (B (textF fine acc l p).2.1)).length = p + (gl (B l)).length := by
  induction n using Nat.strongRecOn with
  | _ n ih =>
    intro fine acc l p hn
    by_cases h0 : l.size = 0
    · rw [textF_end h0, glB_nil h0, textG]
      exact ⟨rfl, rfl, rfl⟩
    · have hlt := adv_lt l h0
      rw [glB_cons h0]
      by_cases h34 : dr l = 34
      · rw [textF_close h0 h34, textG]
        simp only
        rw [if_pos h34]
        refine ⟨rfl, rfl, ?_⟩
        simp; omega
      · by_cases h92 : dr l = 92
        · obtain ⟨e1, e2, e3⟩ := escF_gl (adv l) (p + 1)
          have hes := escF_size (adv l) (p + 1)
          cases hs : (escF (adv l) (p + 1)).1.isSome with
          | false =>
            rw [textF_bad h0 h92 hs, textG]
            simp only
            rw [if_neg h34, if_pos h92, if_neg (by rw [← e1, hs]; simp)]
            refine ⟨rfl, e2, ?_⟩
            rw [e3]; simp; omega
          | true =>
            rw [textF_esc h0 h92 hs, textG]
            simp only
            rw [if_neg h34, if_pos h92, if_pos (by rw [← e1, hs])]
            obtain ⟨a, b, c⟩ := ih (escF (adv l) (p + 1)).2.1.size (by omega) fine (acc ++ Lib.encodeRune ((escF (adv l) (p + 1)).1.getD 0)) (escF (adv l) (p + 1)).2.1 (escF (adv l) (p + 1)).2.2 rfl
            rw [a, b, ← e1, ← e2]
            rw [b] at c
            refine ⟨rfl, rfl, ?_⟩
            rw [c, e3]; simp; omega
        · rw [textF_rune h0 h34 h92, textG]
          simp only
          rw [if_neg h34, if_neg h92]
          obtain ⟨a, b, c⟩ := ih (adv l).size (by omega) (fine && stepOk l) (acc ++ Lib.encodeRune (dr l)) (adv l) (p + 1) rfl
          rw [a, b]
          rw [b] at c
          refine ⟨rfl, rfl, ?_⟩
          rw [c]; simp; omega

/-- a word's token, of its glyphs -/
def wordG (ds : List G) : Tok × Int := if ds.all (·.2) then wordTok true ⟨(runeB ds).toArray⟩ else (Tok.no, 9)
def tokG : List G → (Tok × Int) × List G
  | [] => ((Tok.no, 13), [])
  | g :: gs => if g.1 = 40 then ((⟨1, ⟨#[]⟩, 0, 0⟩, 0), gs) else if g.1 = 41 then ((⟨2, ⟨#[]⟩, 0, 0⟩, 0), gs) else if g.1 = 34 then textG g.2 [] gs
    else (wordG (bareG (g :: gs)), bareR (g :: gs))

theorem tokG_cons (g : G) (gs : List G) : tokG (g :: gs) = if g.1 = 40 then ((⟨1, ⟨#[]⟩, 0, 0⟩, 0), gs) else if g.1 = 41 then ((⟨2, ⟨#[]⟩, 0, 0⟩, 0), gs) else if g.1 = 34 then textG g.2 [] gs
    else (wordG (bareG (g :: gs)), bareR (g :: gs)) := rfl

theorem wordF_gl (l : ByteArray) (p : Nat) : (wordF l p).1 = wordG (bareG (gl (B l))) ∧ gl (B (wordF l p).2.1) = bareR (gl (B l)) ∧
    (wordF l p).2.2 + (gl (B (wordF l p).2.1)).length = p + (gl (B l)).length := by
  obtain ⟨a, b, c, d, e⟩ := bareF_gl l.size true l p rfl
  unfold wordF wordG
  refine ⟨?_, b, c⟩
  simp only
  rw [Bool.true_and] at a
  cases hall : (bareG (gl (B l))).all (·.2) with
  | false =>
    rw [a, hall]
    simp [wordTok]
  | true =>
    rw [hall] at a
    have hb := e a
    rw [a]
    simp only [if_true]
    congr 1
    apply ByteArray.ext
    apply Array.toList_inj.1
    rw [← hb]
    show (l.extract 0 _).data.toList = _
    rw [ByteArray.data_extract, Array.toList_extract, List.extract_eq_take_drop]
    simp [B]

theorem tokF_gl (l : ByteArray) (p : Nat) (h0 : l.size ≠ 0) : (tokF l p).1 = (tokG (gl (B l))).1 ∧ gl (B (tokF l p).2.1) = (tokG (gl (B l))).2 ∧
    (tokF l p).2.2 + (gl (B (tokF l p).2.1)).length = p + (gl (B l)).length := by
  obtain ⟨wa, wb, wc⟩ := wordF_gl l p
  rw [glB_cons h0] at wa wb wc ⊢
  rw [tokG_cons]
  unfold tokF
  by_cases h40 : dr l = 40
  · rw [if_pos h40, if_pos h40]
    refine ⟨rfl, rfl, ?_⟩
    simp; omega
  rw [if_neg h40, if_neg h40]
  by_cases h41 : dr l = 41
  · rw [if_pos h41, if_pos h41]
    refine ⟨rfl, rfl, ?_⟩
    simp; omega
  rw [if_neg h41, if_neg h41]
  by_cases h34 : dr l = 34
  · rw [if_pos h34, if_pos h34]
    obtain ⟨a, b, c⟩ := textF_gl _ (stepOk l) [] (adv l) (p + 1) rfl
    refine ⟨a, b, ?_⟩
    rw [c]; simp; omega
  · rw [if_neg h34, if_neg h34]
    exact ⟨wa, wb, wc⟩

/-- a text's tokens with how many glyphs are left where each begins; the error, and how many are left there -/
def lexK (gs : List G) : List (Tok × Nat) × Int × Nat :=
  match gs with
  | [] => ([], 0, 0)
  | g :: gs =>
    if (tokG (g :: gs)).1.2 ≠ 0 then ([], (tokG (g :: gs)).1.2, (g :: gs).length)
    else if _h : (skipG false (tokG (g :: gs)).2).length < (g :: gs).length then
      (((tokG (g :: gs)).1.1, (g :: gs).length) :: (lexK (skipG false (tokG (g :: gs)).2)).1, (lexK (skipG false (tokG (g :: gs)).2)).2)
    else ([], 0, 0)
termination_by gs.length
def lexG (gs : List G) : List Tok × Int × Int :=
  if (lexK (skipG false gs)).2.1 = 0 then ((lexK (skipG false gs)).1.map fun x => x.1.at (gs.length - x.2), 0, 0)
  else ([], (lexK (skipG false gs)).2.1, ((gs.length - (lexK (skipG false gs)).2.2 : Nat) : Int))


theorem lexK_nil : lexK [] = ([], 0, 0) := by rw [lexK]
theorem lexK_bad {g : G} {gs : List G} (h : (tokG (g :: gs)).1.2 ≠ 0) : lexK (g :: gs) = ([], (tokG (g :: gs)).1.2, (g :: gs).length) := by rw [lexK, if_pos h]
theorem lexK_go {g : G} {gs : List G} (h : (tokG (g :: gs)).1.2 = 0) (hlt : (skipG false (tokG (g :: gs)).2).length < (g :: gs).length) :
    lexK (g :: gs) = (((tokG (g :: gs)).1.1, (g :: gs).length) :: (lexK (skipG false (tokG (g :: gs)).2)).1, (lexK (skipG false (tokG (g :: gs)).2)).2) := by
  rw [lexK, if_neg (by simp [h]), dif_pos hlt]

theorem skipG_length : ∀ (gs : List G) (note : Bool), (skipG note gs).length ≤ gs.length
  | [], _ => by simp [skipG]
  | g :: gs, note => by
    rw [skipG]
    split
    · have := skipG_length gs (noted note g.1); simp; omega
    · exact Nat.le_refl _
theorem textG_length (n : Nat) : ∀ (fine : Bool) (acc : List UInt8) (gs : List G), gs.length = n → (textG fine acc gs).2.length ≤ gs.length := by
  induction n using Nat.strongRecOn with
  | _ n ih =>
    intro fine acc gs hn
    cases gs with
    | nil => rw [textG]; exact Nat.le_refl _
    | cons g gs =>
      simp at hn
      have he := escG_length gs
      rw [textG]
      split
      · simp
      · split
        · split
          · have := ih (escG gs).2.length (by omega) fine (acc ++ Lib.encodeRune ((escG gs).1.getD 0)) (escG gs).2 rfl
            simp; omega
          · simp; omega
        · have := ih gs.length (by omega) (fine && g.2) (acc ++ Lib.encodeRune g.1) gs rfl
          simp; omega
/-- the first glyph is no blank -/
def firm : List G → Prop
  | [] => True
  | g :: _ => (noted false g.1 || blankR g.1) = false
theorem skipG_firm : ∀ (gs : List G) (note : Bool), firm (skipG note gs)
  | [], _ => by simp [skipG, firm]
  | g :: gs, note => by
    rw [skipG]
    cases hc : noted note g.1 || blankR g.1 with
    | true => rw [if_pos rfl]; exact skipG_firm gs _
    | false =>
      rw [if_neg (by simp)]
      show (noted false g.1 || blankR g.1) = false
      revert hc
      cases note
      · exact id
      · simp [noted, blankR]; omega
theorem skipG_of_firm {gs : List G} (h : firm gs) : skipG false gs = gs := by
  cases gs with
  | nil => rfl
  | cons g gs => rw [skipG, if_neg (by rw [show (noted false g.1 || blankR g.1) = false from h]; simp)]
theorem firm_end {g : G} (h : (noted false g.1 || blankR g.1) = false) (h40 : g.1 ≠ 40) (h41 : g.1 ≠ 41) (h34 : g.1 ≠ 34) : endR g.1 = false := by
  have hnb' : ¬ (g.1 = 59 ∨ g.1 = 32 ∨ g.1 = 9 ∨ g.1 = 13 ∨ g.1 = 10) := by
    intro hh
    simp [noted, blankR] at h
    omega
  cases hc : endR g.1 with
  | false => rfl
  | true => rw [endR_iff] at hc; omega
theorem tokG_length {g : G} {gs : List G} (h : firm (g :: gs)) : (tokG (g :: gs)).2.length ≤ gs.length := by
  rw [tokG_cons]
  split
  · exact Nat.le_refl _
  rename_i h40
  split
  · exact Nat.le_refl _
  rename_i h41
  split
  · exact textG_length _ _ _ _ rfl
  rename_i h34
  have he := firm_end h h40 h41 h34
  show (bareR (g :: gs)).length ≤ gs.length
  unfold bareR
  rw [List.dropWhile_cons, if_pos (by simp [he])]
  exact (List.dropWhile_sublist _).length_le
theorem lexK_step {g : G} {gs : List G} (hf : firm (g :: gs)) (h : (tokG (g :: gs)).1.2 = 0) :
    lexK (g :: gs) = (((tokG (g :: gs)).1.1, (g :: gs).length) :: (lexK (skipG false (tokG (g :: gs)).2)).1, (lexK (skipG false (tokG (g :: gs)).2)).2) := by
  refine lexK_go h ?_
  have h1 := skipG_length (tokG (g :: gs)).2 false
  have h2 := tokG_length hf
  simp; omega

theorem lexF_gl (n : Nat) : ∀ (out : List Tok) (l : ByteArray) (p : Nat), l.size = n → firm (gl (B l)) →
    lexF out l p = if (lexK (gl (B l))).2.1 = 0 then (out ++ (lexK (gl (B l))).1.map fun x => x.1.at (p + (gl (B l)).length - x.2), 0, 0)
      else ([], (lexK (gl (B l))).2.1, ((p + (gl (B l)).length - (lexK (gl (B l))).2.2 : Nat) : Int)) := by
  induction n using Nat.strongRecOn with
  | _ n ih =>
    intro out l p hn hf
    by_cases h0 : l.size = 0
    · rw [lexF_end h0, glB_nil h0, lexK_nil]; simp
    · obtain ⟨a, b, c⟩ := tokF_gl l p h0
      rw [glB_cons h0] at a b c hf ⊢
      have hnb : (noted false (dr l) || blankR (dr l)) = false := hf
      by_cases hw : (tokF l p).1.2 = 0
      · have hw' : (tokG ((dr l, stepOk l) :: gl (B (adv l)))).1.2 = 0 := by rw [← a]; exact hw
        obtain ⟨s1, s2⟩ := skipF_gl _ false (tokF l p).2.1 (tokF l p).2.2 rfl
        have hsz := tokF_size l p h0 hnb
        have hss := skipF_spec _ false (tokF l p).2.1 (tokF l p).2.2 rfl
        rw [lexF_go h0 hnb hw, ih (skipF false (tokF l p).2.1 (tokF l p).2.2).1.size (by omega) _ _ _ rfl (by rw [s1]; exact skipG_firm _ _), lexK_step hf hw', s1, b]
        have hN : (skipF false (tokF l p).2.1 (tokF l p).2.2).2 + (skipG false (tokG ((dr l, stepOk l) :: gl (B (adv l)))).2).length = p + ((dr l, stepOk l) :: gl (B (adv l))).length := by
          rw [← b, ← s1, s2, c]
        rw [hN]
        simp only
        by_cases hk : (lexK (skipG false (tokG ((dr l, stepOk l) :: gl (B (adv l)))).2)).2.1 = 0
        · rw [if_pos hk, if_pos hk, a]
          simp
        · rw [if_neg hk, if_neg hk]
      · have hw' : (tokG ((dr l, stepOk l) :: gl (B (adv l)))).1.2 ≠ 0 := by rw [← a]; exact hw
        rw [lexF_bad h0 hw, lexK_bad hw', if_neg hw', a]
        simp

/-- the lexer, on glyphs -/
theorem lexR_gl (s : ByteArray) (h : s.size ≤ 2048) : lexR s = lexG (gl (B s)) := by
  unfold lexR lexG
  rw [if_neg (by omega)]
  obtain ⟨s1, s2⟩ := skipF_gl _ false s 0 rfl
  rw [lexF_gl _ _ _ _ rfl (by rw [s1]; exact skipG_firm _ _), s2, s1]
  simp
end Go.Proofs.YtfndfhhimhcakaaDoor.lx
