/-
  What is printed is read as its tokens: pieces with blanks between. Plain law; no condition. A column's text is one token, or too long for one. Plain law; no condition. An expression's text: its tokens, and what they are read as. Plain law; no condition. potsherdref03.SameSteps, Texts: whether two rows are one. No condition but that the rows lie there. potsherdref03.Texts: whether two rows of texts are one. No condition but that the rows lie there.
-/
import Derived.Test.YtegnoaejlhbpbaaGreatDoorM18
import Derived.Test.YtegnoaejlhbpbaaGreatDoorM20
import Derived.Lib.Split
import Derived.Lib.IndexBytes
import Derived.Lib.IndexLaws
import Derived.Test.YtegnoaejlhbpbaaGreatDoorM13
import Derived.Test.YtegnoaejlhbpbaaGreatDoorM14
namespace Go.Proofs.YtegnoaejlhbpbaaGreatDoor.lx
open Go.RowKit

def toksB (l : List UInt8) : List Tok := (lexK (skipG false (gl l))).1.map Prod.fst
def errB (l : List UInt8) : Int := (lexK (skipG false (gl l))).2.1
/-- what may come behind a piece: a blank, a closing bracket -/
def sep8 (c : UInt8) : Prop := c = 32 ∨ c = 41
theorem sep8_stop {c : UInt8} (h : sep8 c) : c.toNat < 128 ∧ stops (((c.toNat : Nat) : Int), true) := by
  rcases h with rfl | rfl
  · exact ⟨by decide, ⟨by decide, by decide, by decide⟩⟩
  · exact ⟨by decide, ⟨by decide, by decide, by decide⟩⟩
abbrev TO := Option (List Tok)
def andO : TO → TO → TO
  | some a, some b => some (a ++ b)
  | _, _ => none
def optT : List TO → TO
  | [] => some []
  | o :: os => andO o (optT os)
theorem andO_nil (o : TO) : andO o (some []) = o := by cases o <;> simp [andO]
theorem nil_andO (o : TO) : andO (some []) o = o := by cases o <;> simp [andO]
theorem andO_assoc (a b c : TO) : andO (andO a b) c = andO a (andO b c) := by cases a <;> cases b <;> cases c <;> simp [andO]
/-- what a text's tokens are, if anything stands behind it; none: it has an error -/
def Lx (l rest : List UInt8) (o : TO) : Prop :=
  match o with
  | some T => toksB l = T ++ toksB rest ∧ errB l = errB rest
  | none => errB l ≠ 0
theorem Lx.trans {l m r : List UInt8} {a b : TO} (h : Lx l m a) (k : Lx m r b) : Lx l r (andO a b) := by
  cases a with
  | none => exact h
  | some A =>
    obtain ⟨h1, h2⟩ := h
    cases b with
    | none => show errB l ≠ 0; rw [h2]; exact k
    | some B =>
      obtain ⟨k1, k2⟩ := k
      exact ⟨by rw [h1, k1, List.append_assoc], h2.trans k2⟩
/-- a text's tokens, whatever comes behind -/
def LexV (t : List UInt8) (o : TO) : Prop := ∀ (c : UInt8) (r : List UInt8), sep8 c → Lx (t ++ c :: r) (c :: r) o
theorem Lx.blank {l rest : List UInt8} {o : TO} (h : Lx l rest o) : Lx (32 :: l) rest o := by
  have e : skipG false (gl (32 :: l)) = skipG false (gl l) := by
    rw [gl_ascii _ (by decide), skipG, if_pos (by decide)]
    rfl
  have e1 : toksB (32 :: l) = toksB l := by unfold toksB; rw [e]
  have e2 : errB (32 :: l) = errB l := by unfold errB; rw [e]
  cases o with
  | none => show errB _ ≠ 0; rw [e2]; exact h
  | some T => exact ⟨by rw [e1]; exact h.1, by rw [e2]; exact h.2⟩
theorem LexV.blank {t : List UInt8} {o : TO} (h : LexV t o) : LexV (32 :: t) o := fun c r hc => (h c r hc).blank
def tokO0 : Tok := ⟨1, ⟨#[]⟩, 0, 0⟩
def tokC0 : Tok := ⟨2, ⟨#[]⟩, 0, 0⟩
theorem lx_open (r : List UInt8) : Lx (40 :: r) r (some [tokO0]) := by
  have hf : firm (gl (40 :: r)) := by rw [gl_ascii _ (by decide)]; show (noted false 40 || blankR 40) = false; decide
  have ht : tokG ((40, true) :: gl r) = ((tokO0, 0), gl r) := by rw [tokG_cons, if_pos rfl]; rfl
  unfold Lx toksB errB
  rw [skipG_of_firm hf]
  rw [gl_ascii _ (by decide)] at hf ⊢
  have := lexK_step (g := (40, true)) (gs := gl r) hf (by rw [ht])
  rw [ht] at this
  show List.map Prod.fst (lexK ((40, true) :: gl r)).1 = _ ∧ (lexK ((40, true) :: gl r)).2.1 = _
  rw [this]
  exact ⟨rfl, rfl⟩
theorem lx_close (r : List UInt8) : Lx (41 :: r) r (some [tokC0]) := by
  have hf : firm (gl (41 :: r)) := by rw [gl_ascii _ (by decide)]; show (noted false 41 || blankR 41) = false; decide
  have ht : tokG ((41, true) :: gl r) = ((tokC0, 0), gl r) := by rw [tokG_cons, if_neg (by decide), if_pos rfl]; rfl
  unfold Lx toksB errB
  rw [skipG_of_firm hf]
  rw [gl_ascii _ (by decide)] at hf ⊢
  have := lexK_step (g := (41, true)) (gs := gl r) hf (by rw [ht])
  rw [ht] at this
  show List.map Prod.fst (lexK ((41, true) :: gl r)).1 = _ ∧ (lexK ((41, true) :: gl r)).2.1 = _
  rw [this]
  exact ⟨rfl, rfl⟩
/-- a piece that is one token -/
theorem LexV.piece {t : List UInt8} {g : G} {gs : List G} {T : Tok} {e : Int} (hg : gl t = g :: gs) (hf : firm (g :: gs))
    (ht : ∀ c tl, stops c → tokG (g :: (gs ++ c :: tl)) = ((T, e), c :: tl)) : LexV t (if e = 0 then some [T] else none) := by
  intro c r hc
  obtain ⟨h128, hst⟩ := sep8_stop hc
  have hX : gl (t ++ c :: r) = g :: (gs ++ (((c.toNat : Nat) : Int), true) :: gl r) := by
    rw [gl_app _ _ _ _ rfl h128, hg, gl_ascii _ h128]
    rfl
  have hY : gl (c :: r) = (((c.toNat : Nat) : Int), true) :: gl r := gl_ascii _ h128
  have hf2 : firm (g :: (gs ++ (((c.toNat : Nat) : Int), true) :: gl r)) := hf
  have htk := ht _ (gl r) hst
  unfold Lx toksB errB
  rw [hX, skipG_of_firm hf2]
  by_cases he : e = 0
  · rw [if_pos he]
    have hs := lexK_step hf2 (by rw [htk]; exact he)
    rw [htk] at hs
    simp only at hs ⊢
    rw [hs, hY]
    exact ⟨rfl, rfl⟩
  · rw [if_neg he]
    simp only
    rw [lexK_bad (by rw [htk]; exact he), htk]
    exact he
/-- a token that is shown, is read as itself -/
theorem LexV.shown {t : Tok} (h : showOk t) : LexV (B (showS t)) (some [t.at 0]) := by
  obtain ⟨_, g, gs, hgl, hf, htk⟩ := show_alone t h
  have := LexV.piece (T := t.at 0) (e := 0) hgl hf fun c tl hc => by
    have := tokG_app c tl hc g gs (by rw [htk])
    rw [htk] at this
    exact this
  rw [if_pos rfl] at this
  exact this
theorem LexV.append {a b : List UInt8} {oa ob : TO} {c : UInt8} (ha : LexV a oa) (hc : sep8 c) (hb : LexV (c :: b) ob) : LexV (a ++ c :: b) (andO oa ob) := fun d r hd => by
  have h1 := ha c (b ++ d :: r) hc
  have h2 := hb d r hd
  rw [List.append_assoc]
  exact h1.trans h2
theorem LexV.open {b : List UInt8} {ob : TO} (hb : LexV b ob) : LexV (40 :: b) (andO (some [tokO0]) ob) := fun d r hd => (lx_open _).trans (hb d r hd)
theorem LexV.close {a : List UInt8} {oa : TO} (ha : LexV a oa) : LexV (a ++ [41]) (andO oa (some [tokC0])) := fun d r hd => by
  have h1 := ha 41 (d :: r) (.inr rfl)
  rw [List.append_assoc]
  exact h1.trans (lx_close _)
theorem joinT_cons (x y : ByteArray) (L : List ByteArray) : joinT (x :: y :: L) = B x ++ 32 :: joinT (y :: L) := by
  unfold joinT
  simp [Lib.join]
abbrev Pc := ByteArray × TO
theorem LexV.join : ∀ P : List Pc, P ≠ [] → (∀ x ∈ P, LexV (B x.1) x.2) → LexV (joinT (P.map (·.1))) (optT (P.map (·.2)))
  | [], h, _ => absurd rfl h
  | [x], _, h => by
    have e : joinT [x.1] = B x.1 := by unfold joinT; simp [Lib.join]
    show LexV (joinT [x.1]) (andO x.2 (some []))
    rw [e, andO_nil]
    exact h x List.mem_cons_self
  | x :: y :: P, _, h => by
    have ih := LexV.join (y :: P) (List.cons_ne_nil _ _) fun z hz => h z (List.mem_cons_of_mem _ hz)
    show LexV (joinT (x.1 :: y.1 :: P.map (·.1))) (andO x.2 (optT ((y :: P).map (·.2))))
    rw [joinT_cons]
    exact (h x List.mem_cons_self).append (.inl rfl) ih.blank
def brO (o : TO) : TO := andO (some [tokO0]) (andO o (some [tokC0]))
theorem B_bracket (L : List ByteArray) : B (bracketT L) = 40 :: (joinT L ++ [41]) := rfl
theorem LexV.bracket {P : List Pc} (h0 : P ≠ []) (h : ∀ x ∈ P, LexV (B x.1) x.2) : LexV (B (bracketT (P.map (·.1)))) (brO (optT (P.map (·.2)))) := by
  rw [B_bracket]
  exact (LexV.join P h0 h).close.open
theorem brO_some (T : List Tok) : brO (some T) = some (tokO0 :: (T ++ [tokC0])) := rfl
theorem brO_none : brO none = none := rfl
/-- a text that is told whole -/
theorem lx_done {s : ByteArray} {t : List UInt8} {o : TO} (h : LexV t o) (e : B s = 40 :: (t ++ [41])) (hs : s.size ≤ 2048) :
    match o with
    | some T => (lexR s).2.1 = 0 ∧ (lexR s).1.map (·.at 0) = (tokO0 :: (T ++ [tokC0])).map (·.at 0)
    | none => (lexR s).2.1 ≠ 0 := by
  have h1 : Lx (B s) [] (brO o) := by
    rw [e]
    exact (lx_open _).trans ((h 41 [] (.inr rfl)).trans (lx_close _))
  have e0 : lexK (skipG false (gl [])) = ([], 0, 0) := by rw [gl_nil]; show lexK (skipG false []) = _; rw [show skipG false [] = [] from rfl, lexK_nil]
  cases o with
  | none =>
    have h2 : errB (B s) ≠ 0 := h1
    unfold errB at h2
    show (lexR s).2.1 ≠ 0
    rw [lexR_gl s hs, lexG, if_neg h2]
    exact h2
  | some T =>
    obtain ⟨a, b⟩ := h1
    unfold toksB at a
    unfold errB at b
    rw [e0] at a b
    simp only
    rw [lexR_gl s hs, lexG, if_pos b]
    refine ⟨rfl, ?_⟩
    simp only [List.map_nil, List.append_nil] at a
    show List.map _ (List.map _ (lexK (skipG false (gl (B s)))).1) = _
    rw [List.map_map, show ((tokO0 :: (T ++ [tokC0])) : List Tok) = [tokO0] ++ (T ++ [tokC0]) from rfl, ← a, List.map_map]
    rfl
end Go.Proofs.YtegnoaejlhbpbaaGreatDoor.lx
namespace Go.Proofs.YtegnoaejlhbpbaaGreatDoor.lx
open Go.RowKit

/-- whether a rune may begin a name -/
def begR (r : Int) : Prop := (97 ≤ r ∧ r ≤ 122) ∨ (65 ≤ r ∧ r ≤ 90) ∨ r = 95 ∨ 128 ≤ r
def inR (r : Int) : Prop := begR r ∨ (48 ≤ r ∧ r ≤ 57) ∨ r = 46
theorem inR_end {r : Int} (h : inR r) : endR r = false := by
  cases he : endR r with
  | false => rfl
  | true =>
    rw [endR_iff] at he
    unfold inR begR at h
    omega
theorem nameG_in : ∀ (gs : List G) (b : Bool), nameG b gs = true → ∀ g ∈ gs, inR g.1
  | [], _, _ => fun _ h => by cases h
  | g :: gs, b, h => by
    rw [nameG, Bool.and_eq_true] at h
    obtain ⟨h1, h2⟩ := h
    intro x hx
    rcases List.mem_cons.1 hx with rfl | hx
    · simp only [Bool.or_eq_true, Bool.and_eq_true, decide_eq_true_eq, beq_iff_eq] at h1
      unfold inR begR
      omega
    · exact nameG_in gs false h2 x hx
theorem nameG_first {g : G} {gs : List G} (h : nameG true (g :: gs) = true) : begR g.1 := by
  rw [nameG, Bool.and_eq_true] at h
  have h1 := h.1
  simp only [Bool.or_eq_true, Bool.and_eq_true, decide_eq_true_eq, beq_iff_eq, Bool.not_true, Bool.false_and, Bool.false_eq_true, or_false] at h1
  unfold begR
  omega
theorem valid_gl (n : Nat) : ∀ l : List UInt8, l.length = n → Lib.validD l = true → ∀ g ∈ gl l, g.2 = true := by
  induction n using Nat.strongRecOn with
  | _ n ih =>
    intro l hl hv
    by_cases h0 : l = []
    · subst h0; rw [gl_nil]; exact fun _ h => by cases h
    · rw [Lib.validD_step l h0] at hv
      split at hv
      · cases hv
      · rename_i hb
        have hw := dec_width l
        have hp : 0 < l.length := List.length_pos_iff.2 h0
        rw [gl_cons h0]
        intro g hg
        rcases List.mem_cons.1 hg with rfl | hg
        · simp only [Bool.not_eq_true', decide_eq_false_iff_not]
          exact hb
        · exact ih _ (by rw [List.length_drop]; omega) _ rfl hv g hg
/-- a text that is a word: its glyphs are well formed, none of them ends it, the first is no number's -/
structure WordT (l : List UInt8) : Prop where
  ne : l ≠ []
  all : ∀ g ∈ gl l, g.2 = true ∧ inR g.1
  fst : ∀ g gs, gl l = g :: gs → begR g.1
  enc : runeB (gl l) = l
theorem numStart_beg {l : List UInt8} (h : ∀ g gs, gl l = g :: gs → begR g.1) : numStart l = false := by
  cases l with
  | nil => rfl
  | cons c r =>
    have hc : ((c.toNat : Int) < 48 ∨ 57 < (c.toNat : Int)) ∧ (c.toNat : Int) ≠ 45 := by
      by_cases h128 : c.toNat < 128
      · have := h _ _ (gl_ascii r h128)
        unfold begR at this
        simp only at this
        omega
      · omega
    have hd : digB c = false := by
      unfold digB
      simp only [Bool.and_eq_false_iff, decide_eq_false_iff_not]
      omega
    have h45 : (c == 45) = false := by
      rw [beq_eq_false_iff_ne]
      rintro rfl
      exact hc.2 (by decide)
    show (digB c || (c == 45 && _)) = false
    rw [hd, h45]
    rfl
theorem WordT.lex {l : List UInt8} (h : WordT l) : LexV l (if l.length ≤ 64 then some [⟨3, ⟨l.toArray⟩, 0, 0⟩] else none) := by
  obtain ⟨g, gs, hg⟩ : ∃ g gs, gl l = g :: gs := by rw [gl_cons h.ne]; exact ⟨_, _, rfl⟩
  have hall := h.all
  rw [hg] at hall
  have hb := h.fst g gs hg
  have hin := (hall g List.mem_cons_self).2
  have hend := inR_end hin
  have hf : firm (g :: gs) := by
    show (noted false g.1 || blankR g.1) = false
    cases hnb : noted false g.1 || blankR g.1 with
    | false => rfl
    | true =>
      exfalso
      simp [noted, blankR] at hnb
      unfold begR at hb
      omega
  have hw : wordG (g :: gs) = if l.length ≤ 64 then (⟨3, ⟨l.toArray⟩, 0, 0⟩, 0) else (Tok.no, 13) := by
    unfold wordG
    rw [if_pos (List.all_eq_true.2 fun x hx => (hall x hx).1), ← hg, h.enc]
    have hs : (ByteArray.mk l.toArray).size = l.length := by rw [Lib.size_eq]
    have hn : numStart (ByteArray.mk l.toArray).data.toList = false := numStart_beg h.fst
    unfold wordTok
    rw [if_neg (by decide), if_neg (by rw [hn]; decide), hs]
    by_cases h64 : l.length ≤ 64
    · rw [if_neg (by omega), if_pos h64]
    · rw [if_pos (by omega), if_neg h64]
  have hne : ∀ x ∈ g :: gs, (fun g : G => !endR g.1) x = true := fun x hx => by
    show (!endR x.1) = true
    rw [inR_end (hall x hx).2]
    rfl
  have hp := LexV.piece (T := (wordG (g :: gs)).1) (e := (wordG (g :: gs)).2) hg hf fun c tl hc => by
    have hcc : (fun g : G => !endR g.1) c = false := by show (!endR c.1) = false; rw [hc.1]; rfl
    obtain ⟨w1, w2⟩ := while_app (fun g : G => !endR g.1) c tl hcc (g :: gs)
    have w1' : bareG (g :: (gs ++ c :: tl)) = g :: gs := by
      show List.takeWhile _ (g :: gs ++ c :: tl) = _
      rw [w1, takeWhile_all hne]
    have w2' : bareR (g :: (gs ++ c :: tl)) = c :: tl := by
      show List.dropWhile _ (g :: gs ++ c :: tl) = _
      rw [w2, dropWhile_all hne]
      rfl
    unfold begR at hb
    rw [tokG_cons, if_neg (by omega), if_neg (by omega), if_neg (by omega), w1', w2']
  rw [hw] at hp
  by_cases h64 : l.length ≤ 64
  · rw [if_pos h64] at hp ⊢
    exact hp
  · rw [if_neg h64] at hp ⊢
    exact hp
theorem name_word {s : ByteArray} (h : nameR s = true) : WordT (B s) := by
  unfold nameR at h
  simp only [Bool.and_eq_true, decide_eq_true_eq] at h
  obtain ⟨⟨⟨⟨h0, _⟩, hv⟩, _⟩, hn⟩ := h
  exact ⟨B_ne h0, fun g hg => ⟨valid_gl _ _ rfl hv g hg, nameG_in _ _ hn g hg⟩, fun g gs e => by rw [e] at hn; exact nameG_first hn, gl_valid _ _ rfl hv⟩
theorem WordT.dot {a b : List UInt8} (ha : WordT a) (hb : WordT b) : WordT (a ++ 46 :: b) := by
  have e : gl (a ++ 46 :: b) = gl a ++ (46, true) :: gl b := by
    rw [gl_app _ _ _ _ rfl (by decide), gl_ascii _ (by decide)]
    rfl
  refine ⟨by simp, fun g hg => ?_, fun g gs he => ?_, ?_⟩
  · rw [e] at hg
    rcases List.mem_append.1 hg with hg | hg
    · exact ha.all g hg
    · rcases List.mem_cons.1 hg with rfl | hg
      · exact ⟨rfl, .inr (.inr rfl)⟩
      · exact hb.all g hg
  · rw [e] at he
    cases hga : gl a with
    | nil => rw [gl_cons ha.ne] at hga; cases hga
    | cons x xs =>
      rw [hga] at he
      injection he with he _
      rw [← he]
      exact ha.fst x xs hga
  · rw [e]
    unfold runeB
    rw [List.flatMap_append, List.flatMap_cons]
    have h1 := ha.enc
    have h2 := hb.enc
    unfold runeB at h1 h2
    rw [h1, h2]
    have : Lib.encodeRune 46 = [46] := by decide +kernel
    rw [this]
    rfl
theorem B_extract (s : ByteArray) (i j : Nat) : B (s.extract i j) = ((B s).drop i).take (j - i) := by
  simp [B, ByteArray.data_extract]
theorem column_all {s : ByteArray} (h : columnR s = true) : ∀ x ∈ cutD s, nameR x = true := by
  unfold columnR at h
  intro x hx
  have h2 : (cutD s).any (fun x => !nameR x) = false := by simpa using h
  rw [List.any_eq_false] at h2
  simpa using h2 x hx
theorem column_word {s : ByteArray} (h : columnR s = true) : WordT (B s) := by
  have hall := column_all h
  have h0 := (column_size h).1
  unfold cutD at hall
  rw [show min 2 (s.size + 1) - 1 = 0 + 1 by omega] at hall
  have hix : Lib.indexB s ⟨#[46]⟩ = Lib.indexByte (B s) 46 := Lib.index_one _ _
  have hge := Lib.indexByte_ge (B s) 46
  by_cases hi : Lib.indexB s ⟨#[46]⟩ = -1
  · rw [Lib.splitB_miss _ _ _ _ hi] at hall
    exact name_word (hall s List.mem_cons_self)
  · obtain ⟨i, hi2⟩ : ∃ i : Nat, Lib.indexB s ⟨#[46]⟩ = i := ⟨(Lib.indexB s ⟨#[46]⟩).toNat, by omega⟩
    rw [Lib.splitB_hit _ _ _ _ i hi2] at hall
    have h1 := name_word (hall (s.extract 0 (i + 0)) List.mem_cons_self)
    have h2 := name_word (hall (s.extract (i + 1) s.size) (List.mem_cons_of_mem _ (by show _ ∈ Lib.splitB _ _ 0 (s.extract (i + (ByteArray.mk #[46]).size) s.size); exact List.mem_cons_self)))
    rw [hix] at hi2
    obtain ⟨hat, _⟩ := Lib.indexByte_some hi2
    rw [B_extract] at h1 h2
    have hlt : i < (B s).length := (List.getElem?_eq_some_iff.1 hat).1
    have hg : (B s)[i] = 46 := (List.getElem?_eq_some_iff.1 hat).2
    have e : B s = (B s).take i ++ 46 :: (B s).drop (i + 1) := by
      rw [← hg, ← List.drop_eq_getElem_cons hlt, List.take_append_drop]
    rw [e]
    rw [List.drop_zero, Nat.add_zero, Nat.sub_zero] at h1
    rw [List.take_of_length_le (by rw [List.length_drop, B_length]; omega)] at h2
    exact h1.dot h2
theorem mkB (s : ByteArray) : (⟨(B s).toArray⟩ : ByteArray) = s := by apply ByteArray.ext; simp [B]
/-- the token of a word -/
def wordO (s : ByteArray) : TO := if s.size ≤ 64 then some [⟨3, s, 0, 0⟩] else none
theorem column_lex {s : ByteArray} (h : columnR s = true) : LexV (B s) (wordO s) := by
  have := (column_word h).lex
  rw [B_length, mkB] at this
  exact this
theorem name_lex {s : ByteArray} (h : nameR s = true) : LexV (B s) (some [⟨3, s, 0, 0⟩]) := by
  have := (name_word h).lex
  rw [B_length, mkB, if_pos (name_size h).2] at this
  exact this
end Go.Proofs.YtegnoaejlhbpbaaGreatDoor.lx
namespace Go.Proofs.YtegnoaejlhbpbaaGreatDoor.lx
open Go.RowKit

abbrev flat (l : List Tok) : List Tok := l.map fun t => t.at 0
theorem flat_cons {l : List Tok} {x : Tok} {xs : List Tok} (h : flat l = x :: xs) : ∃ y ys, l = y :: ys ∧ y.at 0 = x ∧ flat ys = xs := by
  cases l with
  | nil => cases h
  | cons y ys =>
    injection h with h1 h2
    exact ⟨y, ys, rfl, h1, h2⟩
theorem at_k {y : Tok} {k : Int} {s : ByteArray} {n : Int} (h : y.at 0 = ⟨k, s, n, 0⟩) : y.k = k ∧ y.s = s ∧ y.n = n := by
  injection h with h1 h2 h3
  exact ⟨h1, h2, h3⟩
theorem tokAt_cons (y : Tok) (ys : List Tok) (fin : Int) : tokAt (y :: ys) fin = y := rfl
theorem then_ok {α β : Type} (x : α) (f : α → Res β) : (Res.ok x).then f = f x := rfl
theorem then_bad {α β : Type} (y p : Int) (f : α → Res β) : (Res.bad y p : Res α).then f = .bad y p := rfl
/-- as it should be, or nested too deep -/
def Deep {α : Type} (r : Res α) (x : α) : Prop := r = .ok x ∨ ∃ p, r = .bad 10 p
theorem Deep.ok {α : Type} {x : α} : Deep (.ok x) x := .inl rfl
theorem Deep.then {α β : Type} {r : Res α} {x : α} {f : α → Res β} {y : β} (h : Deep r x) (k : Deep (f x) y) : Deep (r.then f) y := by
  rcases h with rfl | ⟨p, rfl⟩
  · exact k
  · exact .inr ⟨p, rfl⟩
theorem take_any {fin k : Int} {p : ByteArray → Bool} {y : Tok} {ys : List Tok} {op : Int} (hk : y.k = k) (hp : p y.s = true) (h1 : k ≠ 1) : takeR fin k p (y :: ys) op = .ok (ys, if k = 2 then op - 1 else op) := by
  unfold takeR
  rw [tokAt_cons, hk, hp, if_neg (fun h => h1 h.1), if_neg (fun h => h rfl), if_neg (by decide), if_neg h1]
  rfl
theorem takeD_open {fin : Int} {y : Tok} {ys : List Tok} {op : Int} (hk : y.k = 1) : Deep (takeR fin 1 (fun _ => true) (y :: ys) op) (ys, op + 1) := by
  unfold takeR
  rw [tokAt_cons, hk]
  by_cases h8 : op < 8
  · rw [if_neg (fun h => h.2 h8), if_neg (fun h => h rfl), if_neg (show ¬ true = false by decide), if_pos rfl]
    exact .inl rfl
  · rw [if_pos ⟨rfl, h8⟩]
    exact .inr ⟨_, rfl⟩
/-- how an expression's tokens begin -/
def Hd (T : List Tok) : Prop := ∃ t T', T = t :: T' ∧ t.k ≠ 2 ∧ (t.k = 1 → ∃ u T'', T' = u :: T'' ∧ u.k = 3 ∧ isOp u.s = true)
/-- tokens that are read as steps -/
structure Prs (T : List Tok) (S : List Stp) : Prop where
  hd : Hd T
  run : ∀ (fin : Int) (n : Nat) (l : List Tok) (op : Int) (st : List Stp) (rest : List Tok), flat l = T ++ rest → l.length < n → st.length + S.length ≤ 64 → Deep (exprR fin n l op st) (l.drop T.length, op, st ++ S)
theorem opT_ok (n : Nat) (h : n < 15) : isOp (opT (7 + n)) = true ∧ opK (opT (7 + n)) = 7 + n := by
  have hall : ∀ m : Fin 15, isOp (opT (7 + m.val)) = true ∧ opK (opT (7 + m.val)) = 7 + m.val := by decide +kernel
  exact hall ⟨n, h⟩
theorem opT_is {k : Int} (h : 7 ≤ k) (h2 : k < 22) : isOp (opT k) = true ∧ opK (opT k) = k := by
  have := opT_ok (k - 7).toNat (by omega)
  have e : (7 : Int) + ((k - 7).toNat : Int) = k := by omega
  rw [e] at this
  exact this
set_option maxRecDepth 100000 in
theorem ops_show : ∀ x ∈ opsL, showOk ⟨3, x, 0, 0⟩ := by
  intro x hx
  simp only [opsL, List.mem_cons, List.not_mem_nil, or_false] at hx
  rcases hx with rfl | rfl | rfl | rfl | rfl | rfl | rfl | rfl | rfl | rfl | rfl | rfl | rfl | rfl | rfl <;> exact ⟨by kernel_rfl, by kernel_rfl⟩
theorem opT_mem {k : Int} (h : 7 ≤ k) (h2 : k < 22) : opT k ∈ opsL := by
  unfold opT
  rw [List.getD_eq_getElem?_getD]
  have hl : (k - 7).toNat < opsL.length := by show _ < 15; omega
  rw [List.getElem?_eq_getElem hl]
  exact List.getElem_mem _
def atomO (s : ByteArray) : TO := some [⟨3, s, 0, 0⟩]
theorem opT_lex {k : Int} (h : 7 ≤ k) (h2 : k < 22) : LexV (B (opT k)) (atomO (opT k)) := LexV.shown (ops_show _ (opT_mem h h2))
theorem takes_one {s : Stp} (h : takesR s = (1, true)) (hk : 0 ≤ s.k) : s = ⟨s.k, ⟨#[]⟩, 0⟩ ∧ 7 ≤ s.k ∧ s.k ≤ 10 := by
  have he : ∀ x : ByteArray, emptyS x = true → x = ⟨#[]⟩ := by
    intro x hx
    unfold emptyS at hx
    rw [Lib.toList_data] at hx
    apply ByteArray.ext
    exact Array.toList_inj.1 (List.isEmpty_iff.1 hx)
  unfold takesR at h
  split at h
  · injection h with h _; cases h
  split at h
  · injection h with h _; cases h
  split at h
  · injection h with h _; cases h
  split at h
  · injection h with h _; cases h
  split at h
  · injection h with h _; cases h
  split at h
  · rename_i h1 h2 h3 h4 h5 h6
    refine ⟨?_, by omega, h6⟩
    have h7 : (emptyS s.s && s.n == 0) = true := by
      cases e : (emptyS s.s && s.n == 0) with
      | true => rfl
      | false => exact absurd (.inr (.inr e)) h5
    rw [Bool.and_eq_true] at h7
    obtain ⟨k, t, n⟩ := s
    simp only at h7 ⊢
    rw [he t h7.1, beq_iff_eq.1 h7.2]
  · injection h with h _; cases h
theorem takes_two {s : Stp} (h : takesR s = (2, true)) : s = ⟨s.k, ⟨#[]⟩, 0⟩ ∧ 11 ≤ s.k ∧ s.k < 22 := by
  have he : ∀ x : ByteArray, emptyS x = true → x = ⟨#[]⟩ := by
    intro x hx
    unfold emptyS at hx
    rw [Lib.toList_data] at hx
    apply ByteArray.ext
    exact Array.toList_inj.1 (List.isEmpty_iff.1 hx)
  unfold takesR at h
  split at h
  · injection h with h _; cases h
  split at h
  · injection h with h _; cases h
  split at h
  · injection h with h _; cases h
  split at h
  · injection h with h _; cases h
  split at h
  · injection h with h _; cases h
  split at h
  · injection h with h _; cases h
  · rename_i h1 h2 h3 h4 h5 h6
    have h7 : (emptyS s.s && s.n == 0) = true := by
      cases e : (emptyS s.s && s.n == 0) with
      | true => rfl
      | false => exact absurd (.inr (.inr e)) h5
    rw [Bool.and_eq_true] at h7
    refine ⟨?_, by omega, by omega⟩
    obtain ⟨k, t, n⟩ := s
    simp only at h7 ⊢
    rw [he t h7.1, beq_iff_eq.1 h7.2]
theorem leaf_ok {s : Stp} (h : takesR s = (0, true)) (hn : -9223372036854775808 ≤ s.n ∧ s.n ≤ 9223372036854775807) (h6 : s.k ≠ 6) : showOk (leafTok s) := by
  obtain ⟨k, t, n⟩ := s
  simp only at h6 hn
  rcases takes_leaf h with ⟨hk, h1, h2⟩ | ⟨hk, h1⟩ | ⟨hk, h1, h2, h3⟩ | ⟨hk, _⟩
  · simp only at hk
    rcases hk with rfl | rfl | rfl
    · exact live_atoms.1
    · exact live_atoms.2.1
    · exact live_atoms.2.2
  · simp only at hk
    subst hk
    have := show_num n hn.1 hn.2
    refine Classical.byContradiction fun hh => ?_
    rw [showF, if_neg (show ¬ showOk ⟨4, ⟨#[]⟩, n, 0⟩ from hh)] at this
    exact absurd (congrArg Prod.snd this) (show ¬ ((13 : Int) = 0) by decide)
  · simp only at hk
    subst hk
    exact showOk_quot h3 h2 (by have := quotF_six t; have h2' : t.size ≤ 256 := h2; show (quotF t).size ≤ 2048; omega)
  · exact absurd hk h6
def leafO (s : Stp) : TO := if s.k = 6 then wordO s.s else some [leafTok s]
theorem leaf_lex {s : Stp} (h : takesR s = (0, true)) (hn : -9223372036854775808 ≤ s.n ∧ s.n ≤ 9223372036854775807) : LexV (B (leafT s)) (leafO s) := by
  unfold leafT leafO
  by_cases h6 : s.k = 6
  · rw [if_pos h6, if_pos h6]
    rcases takes_leaf h with ⟨hk, _⟩ | ⟨hk, _⟩ | ⟨hk, _⟩ | ⟨_, _, hc⟩
    · omega
    · omega
    · omega
    · exact column_lex hc
  · rw [if_neg h6, if_neg h6]
    have := LexV.shown (leaf_ok h hn h6)
    have e : (leafTok s).at 0 = leafTok s := by
      unfold leafTok Tok.at
      repeat (first | rfl | split)
    rw [e] at this
    exact this
theorem size_empty {x : ByteArray} (h : x.size = 0) : x = ⟨#[]⟩ := by
  apply ByteArray.ext
  exact Array.eq_empty_of_size_eq_zero h
set_option maxRecDepth 100000 in
theorem no_consts : columnR nullB = false ∧ columnR trueB = false ∧ columnR falseB = false := ⟨by kernel_rfl, by kernel_rfl, by kernel_rfl⟩
theorem leafS_of {s : Stp} (h : takesR s = (0, true)) : leafS (leafTok s) = some s ∧ (leafTok s).k ≠ 1 ∧ (leafTok s).k ≠ 2 := by
  obtain ⟨k, t, n⟩ := s
  rcases takes_leaf h with ⟨hk, h1, h2⟩ | ⟨hk, h1⟩ | ⟨hk, h1, h2, h3⟩ | ⟨hk, h1, h2⟩
  · simp only at hk h1 h2
    subst h2
    rw [size_empty h1]
    rcases hk with rfl | rfl | rfl
    · exact ⟨rfl, by decide, by decide⟩
    · exact ⟨rfl, by decide, by decide⟩
    · exact ⟨rfl, by decide, by decide⟩
  · simp only at hk h1
    subst hk
    rw [size_empty h1]
    exact ⟨rfl, show (4 : Int) ≠ 1 by decide, show (4 : Int) ≠ 2 by decide⟩
  · simp only at hk h1
    subst hk
    subst h1
    exact ⟨rfl, show (5 : Int) ≠ 1 by decide, show (5 : Int) ≠ 2 by decide⟩
  · simp only at hk h1 h2
    subst hk
    subst h1
    have n1 : t ≠ nullB := fun e => by rw [e, no_consts.1] at h2; cases h2
    have n2 : t ≠ trueB := fun e => by rw [e, no_consts.2.1] at h2; cases h2
    have n3 : t ≠ falseB := fun e => by rw [e, no_consts.2.2] at h2; cases h2
    refine ⟨?_, show (3 : Int) ≠ 1 by decide, show (3 : Int) ≠ 2 by decide⟩
    show leafS ⟨3, t, 0, 0⟩ = some ⟨6, t, 0⟩
    unfold leafS
    simp only
    rw [if_neg (by decide), if_neg (by decide), if_pos trivial, if_neg n1, if_neg n2, if_neg n3, if_pos h2]
theorem leafS_at (y : Tok) : leafS y = leafS (y.at 0) := rfl
theorem prs_leaf {s : Stp} (h : takesR s = (0, true)) : Prs [leafTok s] [s] := by
  obtain ⟨h1, h2, h3⟩ := leafS_of h
  refine ⟨⟨_, _, rfl, h3, fun e => absurd e h2⟩, fun fin n l op st rest hl hn h64 => ?_⟩
  obtain ⟨y, ys, rfl, hy, hys⟩ := flat_cons hl
  cases n with
  | zero => exact absurd hn (Nat.not_lt_zero _)
  | succ n =>
    have hk : y.k = (leafTok s).k := by rw [← hy]; rfl
    rw [exprR, tokAt_cons, if_pos (by rw [hk]; exact h2)]
    unfold leafR
    rw [tokAt_cons, leafS_at, hy, h1]
    simp only
    unfold putR
    rw [if_pos (by simpa using h64), then_ok]
    exact .inl rfl
theorem flat_drop (l : List Tok) (n : Nat) : flat (l.drop n) = (flat l).drop n := List.map_drop.symm ▸ rfl
theorem parts_go {f : List Tok → Int → List Stp → Res PS} {fin k : Int} {m parts : Nat} {l : List Tok} {op : Int} {st : List Stp} (h : parts < 1 ∨ parts < 2 ∧ 10 < k) :
    partsR f fin k (m + 1) parts l op st = (f l op st).then fun s => partsR f fin k m (parts + 1) s.1 s.2.1 s.2.2 := by
  rw [partsR, if_pos (by rcases h with h | h; exact .inl h; exact .inr (.inl h))]
theorem parts_end {f : List Tok → Int → List Stp → Res PS} {fin k : Int} {m parts : Nat} {l : List Tok} {op : Int} {st : List Stp} (h : ¬ parts < 1) (h2 : ¬ (parts < 2 ∧ 10 < k)) (h3 : 20 ≤ k → closesR l fin = true) :
    partsR f fin k (m + 1) parts l op st = .ok (parts, l, op, st) := by
  rw [partsR, if_neg]
  rintro (a | a | ⟨a, b⟩)
  · exact h a
  · exact h2 a
  · rw [h3 a] at b; cases b
theorem end_ok {fin k : Int} {parts : Nat} {c : Tok} {l : List Tok} {op : Int} {st : List Stp} (hc : c.k = 2) (hp : (if 20 ≤ k then parts - 1 else 1) = 1) (h64 : st.length + 1 ≤ 64) :
    endR' fin k parts (c :: l) op st = .ok (l, op - 1, st ++ [⟨k, ⟨#[]⟩, 0⟩]) := by
  unfold endR'
  have h1 : closesR (c :: l) fin = true := by unfold closesR; rw [tokAt_cons, hc]; rfl
  rw [h1, if_neg (by decide), hp]
  unfold putR
  rw [if_pos (by simpa using h64), then_ok, take_any hc rfl (by decide), then_ok]
  rfl
theorem drop_next {l m : List Tok} {c : Tok} {n : Nat} (h : l.drop n = c :: m) : m = l.drop (n + 1) := by
  rw [← List.drop_drop, h]
  rfl
theorem expr_open {fin : Int} {n : Nat} {y z : Tok} {l : List Tok} {op : Int} {st : List Stp} {k : Int} (hy : y.k = 1) (hz : z.k = 3) (hs : z.s = opT k) (hk : 7 ≤ k ∧ k < 22) {X : PS}
    (hX : Deep ((partsR (exprR fin n) fin k (l.length + 2) 0 l (op + 1) st).then fun z => endR' fin k z.1 z.2.1 z.2.2.1 z.2.2.2) X) : Deep (exprR fin (n + 1) (y :: z :: l) op st) X := by
  rw [exprR, tokAt_cons, if_neg (fun h => h hy)]
  refine (takeD_open hy).then ?_
  rw [take_any hz (by rw [hs]; exact (opT_is hk.1 hk.2).1) (by decide), then_ok, tokAt_cons, hs, (opT_is hk.1 hk.2).2, if_neg (by decide)]
  exact hX
theorem prs_one {T : List Tok} {S : List Stp} {k : Int} (h : Prs T S) (h7 : 7 ≤ k) (h10 : k ≤ 10) : Prs (tokO0 :: ⟨3, opT k, 0, 0⟩ :: (T ++ [tokC0])) (S ++ [⟨k, ⟨#[]⟩, 0⟩]) := by
  refine ⟨⟨_, _, rfl, show (1 : Int) ≠ 2 by decide, fun _ => ⟨_, _, rfl, rfl, (opT_is h7 (by omega)).1⟩⟩, fun fin n l op st rest hl hn h64 => ?_⟩
  obtain ⟨y, ys, rfl, hy, hys⟩ := flat_cons hl
  obtain ⟨z, l, rfl, hz, hl⟩ := flat_cons hys
  have hl : flat l = T ++ (tokC0 :: rest) := by rw [hl]; show (T ++ [tokC0]) ++ rest = _; simp
  cases n with
  | zero => exact absurd hn (Nat.not_lt_zero _)
  | succ n =>
    simp only [List.length_append, List.length_cons, List.length_nil] at h64 hn
    refine expr_open (at_k hy).1 (at_k hz).1 (at_k hz).2.1 ⟨h7, by omega⟩ ?_
    rw [parts_go (.inl (by omega))]
    have hd : flat (l.drop T.length) = tokC0 :: rest := by rw [flat_drop, hl, List.drop_left]
    obtain ⟨c, m, hm, hc, hmr⟩ := flat_cons hd
    have hcl : closesR (c :: m) fin = true := by unfold closesR; rw [tokAt_cons, (at_k hc).1]; rfl
    have hr := h.run fin n l (op + 1) st _ hl (by omega) (by omega)
    rw [hm] at hr
    refine Deep.then (x := (1, c :: m, op + 1, st ++ S)) (hr.then ?_) ?_
    · simp only
      rw [parts_end (by omega) (by omega) (fun _ => hcl)]
      exact .ok
    · simp only
      rw [end_ok (at_k hc).1 (by rw [if_neg (by omega)]) (by rw [List.length_append]; omega), drop_next hm]
      refine .inl ?_
      congr 2
      · simp
      · congr 1
        · omega
        · simp
theorem prs_two {T U : List Tok} {S R : List Stp} {k : Int} (h : Prs T S) (h' : Prs U R) (h7 : 11 ≤ k) (h10 : k < 22) : Prs (tokO0 :: ⟨3, opT k, 0, 0⟩ :: (T ++ (U ++ [tokC0]))) (S ++ R ++ [⟨k, ⟨#[]⟩, 0⟩]) := by
  refine ⟨⟨_, _, rfl, show (1 : Int) ≠ 2 by decide, fun _ => ⟨_, _, rfl, rfl, (opT_is (by omega) (by omega)).1⟩⟩, fun fin n l op st rest hl hn h64 => ?_⟩
  obtain ⟨y, ys, rfl, hy, hys⟩ := flat_cons hl
  obtain ⟨z, l, rfl, hz, hl⟩ := flat_cons hys
  have hl : flat l = T ++ (U ++ (tokC0 :: rest)) := by rw [hl]; show (T ++ (U ++ [tokC0])) ++ rest = _; simp
  cases n with
  | zero => exact absurd hn (Nat.not_lt_zero _)
  | succ n =>
    simp only [List.length_append, List.length_cons, List.length_nil] at h64 hn
    refine expr_open (at_k hy).1 (at_k hz).1 (at_k hz).2.1 ⟨by omega, by omega⟩ ?_
    rw [parts_go (.inl (by omega))]
    have hd : flat (l.drop T.length) = U ++ (tokC0 :: rest) := by rw [flat_drop, hl, List.drop_left]
    have hd2 : flat ((l.drop T.length).drop U.length) = tokC0 :: rest := by rw [flat_drop, hd, List.drop_left]
    obtain ⟨c, m, hm, hc, hmr⟩ := flat_cons hd2
    have hcl : closesR (c :: m) fin = true := by unfold closesR; rw [tokAt_cons, (at_k hc).1]; rfl
    have hlen : (l.drop T.length).length ≤ l.length := by rw [List.length_drop]; omega
    have hlen2 : 1 ≤ l.length := by
      have : (l.drop T.length).length ≠ 0 := fun e => by rw [List.eq_nil_of_length_eq_zero e] at hm; simp at hm
      omega
    obtain ⟨L1, hL1⟩ : ∃ x, l.length = x + 1 := ⟨l.length - 1, by omega⟩
    have hr := h.run fin n l (op + 1) st _ hl (by omega) (by omega)
    have hr2 := h'.run fin n (l.drop T.length) (op + 1) (st ++ S) _ hd (by omega) (by rw [List.length_append]; omega)
    rw [hm] at hr2
    refine Deep.then (x := (2, c :: m, op + 1, st ++ S ++ R)) (hr.then ?_) ?_
    · simp only
      rw [parts_go (.inr ⟨by omega, by omega⟩)]
      refine hr2.then ?_
      simp only
      rw [hL1, parts_end (by omega) (by omega) (fun _ => hcl)]
      exact .ok
    · simp only
      rw [end_ok (at_k hc).1 (by split <;> omega) (by rw [List.length_append, List.length_append]; omega), drop_next hm, List.drop_drop]
      refine .inl ?_
      congr 2
      · simp only [List.length_cons, List.length_append, List.length_nil]
        rw [show T.length + (U.length + (0 + 1)) + 1 + 1 = (T.length + (U.length + 1)) + 2 by omega]
        rfl
      · congr 1
        · omega
        · simp
theorem seg_snoc {L : List Stp} {a e : Nat} (ha : a ≤ e) (he : e < L.length) : (L.take (e + 1)).drop a = (L.take e).drop a ++ [stpAt L e] := by
  have hs : L[e] = stpAt L e := by
    have := stpAt_some he
    rw [List.getElem?_eq_getElem he] at this
    injection this
  rw [List.take_succ_eq_append_getElem he, hs, List.drop_append_of_le_length (by rw [List.length_take]; omega)]
theorem seg_app {L : List Stp} {a b e : Nat} (ha : a ≤ b) (hb : b ≤ e) : (L.take e).drop a = (L.take b).drop a ++ (L.take e).drop b := by
  by_cases hbl : b ≤ L.length
  · have h1 := (List.take_append_drop b (L.take e)).symm
    rw [List.take_take, Nat.min_eq_left hb] at h1
    conv => lhs; rw [h1]
    rw [List.drop_append_of_le_length (by rw [List.length_take]; omega)]
  · rw [List.take_of_length_le (by omega), List.take_of_length_le (by omega), List.drop_of_length_le (l := L) (i := b) (by omega), List.append_nil]
def NarrowS (L : List Stp) : Prop := ∀ s ∈ L, s.k = 6 → s.s.size ≤ 64
theorem stpAt_mem {L : List Stp} {e : Nat} (h : e < L.length) : stpAt L e ∈ L := List.mem_of_getElem? (stpAt_some h)
/-- an expression's text: its tokens, that are read as the expression; or it has none -/
theorem shw_prs {L : List Stp} (hn : NumOk L) (hok : StpsOk L) {a e : Nat} {t : ByteArray} (h : Shw L a e t) :
    ∃ o, LexV (B t) o ∧ (∀ T, o = some T → Prs T ((L.take e).drop a)) ∧ (NarrowS L → o ≠ none) := by
  induction h with
  | @leaf e he ht =>
    refine ⟨leafO (stpAt L e), leaf_lex ht (hn.at e), fun T hT => ?_, fun hN => ?_⟩
    · rw [seg_snoc (Nat.le_refl _) he, List.drop_of_length_le (by rw [List.length_take]; omega), List.nil_append]
      unfold leafO wordO at hT
      split at hT
      · rename_i h6
        split at hT
        · injection hT with hT
          rw [← hT]
          have := prs_leaf ht
          have e6 : leafTok (stpAt L e) = ⟨3, (stpAt L e).s, 0, 0⟩ := by
            unfold leafTok
            rw [h6]
            rfl
          rw [e6] at this
          exact this
        · cases hT
      · injection hT with hT
        rw [← hT]
        exact prs_leaf ht
    · unfold leafO wordO
      split
      · rename_i h6
        rw [if_pos (hN _ (stpAt_mem he) h6)]
        exact fun h => by cases h
      · exact fun h => by cases h
  | @one a e t he ht hs ih =>
    obtain ⟨o, h1, h2, h3⟩ := ih
    obtain ⟨hlt, _⟩ := hs.size hn
    obtain ⟨hs1, hs2, hs3⟩ := takes_one ht (hok _ (stpAt_mem he)).2.1
    have hb := LexV.bracket (P := [(opT (stpAt L e).k, atomO (opT (stpAt L e).k)), (t, o)]) (List.cons_ne_nil _ _) (by
      intro x hx
      simp only [List.mem_cons, List.not_mem_nil, or_false] at hx
      rcases hx with rfl | rfl
      · exact opT_lex hs2 (by omega)
      · exact h1)
    refine ⟨_, hb, ?_, ?_⟩
    · cases o with
      | none => intro T hT; cases hT
      | some U =>
        intro T hT
        have : T = tokO0 :: ⟨3, opT (stpAt L e).k, 0, 0⟩ :: (U ++ [tokC0]) := by
          have hT2 : some (tokO0 :: (([⟨3, opT (stpAt L e).k, 0, 0⟩] ++ (U ++ [])) ++ [tokC0])) = some T := hT
          injection hT2 with hT2
          rw [← hT2]
          simp
        rw [this, seg_snoc (Nat.le_of_lt hlt) he, hs1]
        exact prs_one (h2 U rfl) hs2 hs3
    · intro hN
      have := h3 hN
      cases o with
      | none => exact absurd rfl this
      | some U => exact fun h => by cases h
  | @two a b e t u he ht hs hs' ih ih' =>
    obtain ⟨o, h1, h2, h3⟩ := ih
    obtain ⟨o', h1', h2', h3'⟩ := ih'
    obtain ⟨hlt, _⟩ := hs.size hn
    obtain ⟨hlt', _⟩ := hs'.size hn
    obtain ⟨hs1, hs2, hs3⟩ := takes_two ht
    have hb := LexV.bracket (P := [(opT (stpAt L e).k, atomO (opT (stpAt L e).k)), (t, o'), (u, o)]) (List.cons_ne_nil _ _) (by
      intro x hx
      simp only [List.mem_cons, List.not_mem_nil, or_false] at hx
      rcases hx with rfl | rfl | rfl
      · exact opT_lex (by omega) hs3
      · exact h1'
      · exact h1)
    refine ⟨_, hb, ?_, ?_⟩
    · cases o with
      | none => cases o' <;> (intro T hT; cases hT)
      | some U =>
        cases o' with
        | none => intro T hT; cases hT
        | some V =>
          intro T hT
          have : T = tokO0 :: ⟨3, opT (stpAt L e).k, 0, 0⟩ :: (V ++ (U ++ [tokC0])) := by
            have hT2 : some (tokO0 :: (([⟨3, opT (stpAt L e).k, 0, 0⟩] ++ (V ++ (U ++ []))) ++ [tokC0])) = some T := hT
            injection hT2 with hT2
            rw [← hT2]
            simp
          rw [this, seg_snoc (by omega) he, seg_app (Nat.le_of_lt hlt') (Nat.le_of_lt hlt), hs1]
          exact prs_two (h2' V rfl) (h2 U rfl) hs2 hs3
    · intro hN
      have a1 := h3 hN
      have a2 := h3' hN
      cases o with
      | none => exact absurd rfl a1
      | some U =>
        cases o' with
        | none => exact absurd rfl a2
        | some V => exact fun h => by cases h
end Go.Proofs.YtegnoaejlhbpbaaGreatDoor.lx
namespace Go.Proofs.YtegnoaejlhbpbaaGreatDoor.lx
open Go.RowKit
instance : DecidableEq Stp := fun a b =>
  if h : a.k = b.k ∧ a.s = b.s ∧ a.n = b.n then isTrue (by cases a; cases b; simp only at h; obtain ⟨rfl, rfl, rfl⟩ := h; rfl)
  else isFalse (by intro e; subst e; exact h ⟨rfl, rfl, rfl⟩)
theorem stp_eqIn (x y : Stp) (w : World) : (Op.equalIn 10000 29 x.v y.v).run Tryz.prog w = .ok (decide (x = y)) w := by
  obtain ⟨k, s, n⟩ := x
  obtain ⟨k', s', n'⟩ := y
  unfold Stp.v
  have hs : (s.toList = s'.toList) ↔ s = s' := ⟨fun h => ByteArray.ext (Array.toList_inj.1 (by simpa [Lib.toList_data] using h)), fun h => by rw [h]⟩
  simp [go_sem, hs]
  by_cases h1 : k = k' <;> by_cases h2 : s = s' <;> by_cases h3 : n = n' <;> simp [h1, h2, h3]
theorem stp_neq (x y : Stp) (w : World) : (binOp .neq 29 x.v y.v).run Tryz.prog w = .ok (.bool (decide (x ≠ y))) w := by
  rw [Stp.v, Stp.v, run_neq_struct, ← Stp.v, ← Stp.v, stp_eqIn]
  by_cases h : x = y <;> simp [Result.andThen, h]
theorem take_stepL {α : Type} {A C : List α} {k : Nat} {x : α} (h : A.take k = C.take k) (hx : A[k]? = some x) (hy : C[k]? = some x) : A.take (k + 1) = C.take (k + 1) := by
  rw [List.take_add_one, List.take_add_one, h, hx, hy]
theorem StpRow.at {ao : Option Addr} {L : List Stp} {w : World} (h : StpRow ao L w) {k : Nat} {x : Stp} (hx : L[k]? = some x) : ∃ b o, ao = some ⟨b, o, none⟩ ∧ w.cell? ⟨b, o + k * 3, none⟩ = some (.int .u8 x.k) ∧ w.cell? ⟨b, o + k * 3 + 1, none⟩ = some (.string x.s) ∧ w.cell? ⟨b, o + k * 3 + 2, none⟩ = some (.int .i64 x.n) := by
  rcases h with h | ⟨b, o, h1, h2⟩
  · rw [List.getElem?_eq_none (by omega)] at hx; cases hx
  · exact ⟨b, o, h1, h2 k x hx⟩

set_option maxHeartbeats 4000000 in
set_option maxRecDepth 100000 in
theorem SameSteps_any (A C : List Stp) (ao co : Option Addr) (ca cc : Nat) (w : World) (hA : StpRow ao A w) (hC : StpRow co C w) (h1 : A.length ≤ 1099511627776) :
    Calls Tryz.prog 43 #[.slice ao A.length ca, .slice co C.length cc] w fun e w' => e = .returned (.bool (decide (A = C))) ∧ ∃ n, w' = w.drewN n := by
  by_cases hl : A.length = C.length
  · have hlb : ((A.length : Int) != (C.length : Int)) = false := by simp [hl]
    have hl1 : A.length ≤ C.length := by omega
    have hl2 : C.length ≤ A.length := by omega
    clear hl
    go_enter Tryz.func43, Tryz.ntmps43
    go_wp2_with fail
    go_loopw [13] (fun v wr => ∃ k n : Nat, v = .int .i64 k ∧ k ≤ A.length ∧ wr = w.drewN n ∧ Hid (A.take k = C.take k)) (fun v _ => A.length - (intOf v).toNat)
    case atStart => exact ⟨0, 0, rfl, Nat.zero_le _, rfl, Lib.hid rfl⟩
    case round =>
      obtain ⟨k, n, rfl, hk, rfl, HT⟩ := hrel
      by_cases hlt : k < A.length
      · obtain ⟨x, hx⟩ : ∃ x, A[k]? = some x := ⟨_, List.getElem?_eq_getElem hlt⟩
        obtain ⟨y, hy⟩ : ∃ y, C[k]? = some y := ⟨_, List.getElem?_eq_getElem (by omega)⟩
        obtain ⟨b, o, rfl, a0, a1, a2⟩ := hA.at hx
        obtain ⟨b', o', rfl, b0, b1, b2⟩ := hC.at hy
        have hlt2 : k < C.length := by omega
        by_cases hxy : x = y
        · subst hxy
          have hcmp : ∀ W, (binOp .neq 29 (.agg #[.int .u8 x.k, .string x.s, .int .i64 x.n]) (.agg #[.int .u8 x.k, .string x.s, .int .i64 x.n])).run Tryz.prog W = .ok (.bool false) W := fun W => by
            have := stp_neq x x W
            simpa [Stp.v] using this
          have HN := Lib.hid (take_stepL HT.out hx hy)
          clear hx hy
          go_wp2_with fail
          go_quiet (fail)
          go_wp2_with fail
          go_roundw
          case rel => exact ⟨k + 1, _, by go_num, by omega, rfl, HN⟩
          case measure => simp [intOf]; omega
        · have hcmp : ∀ W, (binOp .neq 29 (.agg #[.int .u8 x.k, .string x.s, .int .i64 x.n]) (.agg #[.int .u8 y.k, .string y.s, .int .i64 y.n])).run Tryz.prog W = .ok (.bool true) W := fun W => by
            have := stp_neq x y W
            simpa [Stp.v, hxy] using this
          have hne : decide (A = C) = false := by
            rw [decide_eq_false_iff_not]
            intro e
            rw [e, hy] at hx
            exact hxy (Option.some.inj hx).symm
          have HNE := Lib.hid hne
          clear hx hy hne hxy
          go_wp2_with fail
          go_quiet (fail)
          go_wp2_with fail
          go_ret
          exact ⟨ret_bool HNE.out.symm, _, World.drewN_drewN _ _ _⟩
      · have he : decide (A = C) = true := by
          rw [decide_eq_true_iff]
          have := HT.out
          rwa [List.take_of_length_le (by omega), List.take_of_length_le (by omega)] at this
        have HE := Lib.hid he
        clear he
        go_wp2_with fail
        go_ret
        exact ⟨ret_bool HE.out.symm, n, rfl⟩
  · have hlb : ((A.length : Int) != (C.length : Int)) = true := by simp; omega
    have hne : decide (A = C) = false := by
      rw [decide_eq_false_iff_not]
      intro e
      exact hl (congrArg List.length e)
    have HNE := Lib.hid hne
    clear hne hl
    go_enter Tryz.func43, Tryz.ntmps43
    go_wp2_with fail
    go_ret
    exact ⟨ret_bool HNE.out.symm, 0, rfl⟩
end Go.Proofs.YtegnoaejlhbpbaaGreatDoor.lx
namespace Go.Proofs.YtegnoaejlhbpbaaGreatDoor.lx
open Go.RowKit
theorem TxtRow.at {ao : Option Addr} {L : List ByteArray} {w : World} (h : TxtRow ao L w) {k : Nat} {x : ByteArray} (hx : L[k]? = some x) : ∃ b o, ao = some ⟨b, o, none⟩ ∧ w.cell? ⟨b, o + k, none⟩ = some (.string x) := by
  rcases h with h | ⟨b, o, h1, h2⟩
  · rw [List.getElem?_eq_none (by omega)] at hx; cases hx
  · exact ⟨b, o, h1, h2 k x hx⟩

set_option maxHeartbeats 4000000 in
set_option maxRecDepth 100000 in
theorem Texts_any (A C : List ByteArray) (ao co : Option Addr) (ca cc : Nat) (w : World) (hA : TxtRow ao A w) (hC : TxtRow co C w) (h1 : A.length ≤ 1099511627776) :
    Calls Tryz.prog 44 #[.slice ao A.length ca, .slice co C.length cc] w fun e w' => e = .returned (.bool (decide (A = C))) ∧ ∃ n, w' = w.drewN n := by
  by_cases hl : A.length = C.length
  · have hlb : ((A.length : Int) != (C.length : Int)) = false := by simp [hl]
    have hl1 : A.length ≤ C.length := by omega
    have hl2 : C.length ≤ A.length := by omega
    clear hl
    go_enter Tryz.func44, Tryz.ntmps44
    go_wp2_with fail
    go_loopw [13] (fun v wr => ∃ k n : Nat, v = .int .i64 k ∧ k ≤ A.length ∧ wr = w.drewN n ∧ Hid (A.take k = C.take k)) (fun v _ => A.length - (intOf v).toNat)
    case atStart => exact ⟨0, 0, rfl, Nat.zero_le _, rfl, Lib.hid rfl⟩
    case round =>
      obtain ⟨k, n, rfl, hk, rfl, HT⟩ := hrel
      by_cases hlt : k < A.length
      · obtain ⟨x, hx⟩ : ∃ x, A[k]? = some x := ⟨_, List.getElem?_eq_getElem hlt⟩
        obtain ⟨y, hy⟩ : ∃ y, C[k]? = some y := ⟨_, List.getElem?_eq_getElem (by omega)⟩
        obtain ⟨b, o, rfl, a0⟩ := hA.at hx
        obtain ⟨b', o', rfl, b0⟩ := hC.at hy
        have hlt2 : k < C.length := by omega
        by_cases hxy : x = y
        · subst hxy
          have hcmp : (x.toList == x.toList) = true := beq_self_eq_true _
          have HN := Lib.hid (take_stepL HT.out hx hy)
          clear hx hy
          go_wp2_with fail
          go_quiet (fail)
          go_wp2_with fail
          go_roundw
          case rel => exact ⟨k + 1, _, by go_num, by omega, rfl, HN⟩
          case measure => simp [intOf]; omega
        · have hcmp : (x.toList == y.toList) = false := beq_eq_false_iff_ne.2 fun e => hxy (ByteArray.ext (Array.toList_inj.1 (by simpa [Lib.toList_data] using e)))
          have hne : decide (A = C) = false := by
            rw [decide_eq_false_iff_not]
            intro e
            rw [e, hy] at hx
            exact hxy (Option.some.inj hx).symm
          have HNE := Lib.hid hne
          clear hx hy hne hxy
          go_wp2_with fail
          go_quiet (fail)
          go_wp2_with fail
          go_ret
          exact ⟨ret_bool HNE.out.symm, _, World.drewN_drewN _ _ _⟩
      · have he : decide (A = C) = true := by
          rw [decide_eq_true_iff]
          have := HT.out
          rwa [List.take_of_length_le (by omega), List.take_of_length_le (by omega)] at this
        have HE := Lib.hid he
        clear he
        go_wp2_with fail
        go_ret
        exact ⟨ret_bool HE.out.symm, n, rfl⟩
  · have hlb : ((A.length : Int) != (C.length : Int)) = true := by simp; omega
    have hne : decide (A = C) = false := by
      rw [decide_eq_false_iff_not]
      intro e
      exact hl (congrArg List.length e)
    have HNE := Lib.hid hne
    clear hne hl
    go_enter Tryz.func44, Tryz.ntmps44
    go_wp2_with fail
    go_ret
    exact ⟨ret_bool HNE.out.symm, 0, rfl⟩
end Go.Proofs.YtegnoaejlhbpbaaGreatDoor.lx
