/-
  Texts as lists of glyphs (a rune, and whether it stands there well): plain laws of the decoder, no program in sight.
-/
import Derived.Test.YtfndfhhimhcakaaDoorLex
import Derived.Lib.MapLaws
namespace Go.Proofs.YtfndfhhimhcakaaDoor.lx
open Go.RowKit

abbrev G := Int × Bool
/-- a text's bytes -/
abbrev B (l : ByteArray) : List UInt8 := l.data.toList

theorem dec_width (l : List UInt8) : 1 ≤ (Lib.decodeL l).2 := Lib.decodeL_width l

/-- a text's glyphs -/
def gl (l : List UInt8) : List G :=
  if _h : l = [] then [] else ((Lib.decodeL l).1, !decide ((Lib.decodeL l).1 = 65533 ∧ (Lib.decodeL l).2 = 1)) :: gl (l.drop (Lib.decodeL l).2)
termination_by l.length
decreasing_by
  have := dec_width l
  have : 0 < l.length := List.length_pos_iff.2 _h
  simp; omega

theorem gl_nil : gl [] = [] := by rw [gl, dif_pos rfl]
theorem gl_cons {l : List UInt8} (h : l ≠ []) : gl l = (((Lib.decodeL l).1 : Int), !decide ((Lib.decodeL l).1 = 65533 ∧ (Lib.decodeL l).2 = 1)) :: gl (l.drop (Lib.decodeL l).2) := by rw [gl, dif_neg h]

theorem B_nil {l : ByteArray} (h : l.size = 0) : B l = [] := List.eq_nil_of_length_eq_zero (by rw [← Lib.size_eq]; exact h)
theorem B_ne {l : ByteArray} (h : l.size ≠ 0) : B l ≠ [] := fun e => h (by rw [Lib.size_eq, show l.data.toList = [] from e]; rfl)
theorem B_length (l : ByteArray) : (B l).length = l.size := (Lib.size_eq l).symm
theorem dec_B (l : ByteArray) (h : l.size ≠ 0) : Lib.decodeL (B l) = Lib.decodeGo l := by
  unfold Lib.decodeGo
  rw [if_neg h, ← Lib.decodeL_drop]
  simp
theorem B_drop (l : ByteArray) (k : Nat) : B (l.extract k l.size) = (B l).drop k := by
  show (l.extract k l.size).data.toList = _
  rw [ByteArray.data_extract, Array.toList_extract, List.extract_eq_take_drop]
  exact List.take_of_length_le (by rw [List.length_drop, B_length]; exact Nat.le_refl _)
theorem B_adv (l : ByteArray) : B (adv l) = (B l).drop (dn l) := B_drop l _

theorem glB_nil {l : ByteArray} (h : l.size = 0) : gl (B l) = [] := by rw [B_nil h, gl_nil]
theorem glB_cons {l : ByteArray} (h : l.size ≠ 0) : gl (B l) = (dr l, stepOk l) :: gl (B (adv l)) := by
  have hb := dn_bounds l h
  rw [gl_cons (B_ne h), B_adv, dec_B l h]
  have e : stepOk l = !decide ((Lib.decodeGo l).1 = 65533 ∧ (Lib.decodeGo l).2 = 1) := by
    unfold stepOk dr
    unfold dn at *
    by_cases h1 : (Lib.decodeGo l).2 = 1
    · by_cases h2 : (Lib.decodeGo l).1 = 65533 <;> simp [h1, h2]
      exact fun hh => h2 (by omega)
    · simp [h1]; omega
  rw [e]
  rfl

/-! ### skip -/
def skipG : Bool → List G → List G
  | _, [] => []
  | note, g :: gs => if noted note g.1 || blankR g.1 then skipG (noted note g.1) gs else g :: gs

theorem skipF_gl (n : Nat) : ∀ (note : Bool) (l : ByteArray) (p : Nat), l.size = n →
    gl (B (skipF note l p).1) = skipG note (gl (B l)) ∧ (skipF note l p).2 + (gl (B (skipF note l p).1)).length = p + (gl (B l)).length := by
  induction n using Nat.strongRecOn with
  | _ n ih =>
    intro note l p hn
    by_cases h0 : l.size = 0
    · rw [skipF_end h0, glB_nil h0]; exact ⟨rfl, rfl⟩
    · cases hc : (noted note (dr l) || blankR (dr l)) with
      | true =>
        rw [skipF_go h0 hc, glB_cons h0]
        obtain ⟨a, b⟩ := ih (adv l).size (by have := adv_lt l h0; omega) (noted note (dr l)) (adv l) (p + 1) rfl
        rw [a] at b ⊢
        refine ⟨by rw [skipG, if_pos hc], by rw [b]; simp; omega⟩
      | false =>
        rw [skipF_stop h0 hc, glB_cons h0]
        exact ⟨by rw [skipG, if_neg (by simp [hc])], rfl⟩

/-! ### a bare word -/
def bareG (gs : List G) : List G := gs.takeWhile fun g => !endR g.1
def bareR (gs : List G) : List G := gs.dropWhile fun g => !endR g.1
def runeB (gs : List G) : List UInt8 := gs.flatMap fun g => Lib.encodeRune g.1

theorem endF_gl {l : ByteArray} : endF l = match gl (B l) with | [] => true | g :: _ => endR g.1 := by
  by_cases h0 : l.size = 0
  · rw [glB_nil h0]; simp [endF, h0]
  · rw [glB_cons h0]; simp [endF, h0]

theorem enc_step {l : ByteArray} (h : l.size ≠ 0) (hok : stepOk l = true) : (B l).take (dn l) = Lib.encodeRune (dr l) := by
  have hd := dec_B l h
  have := Lib.encode_decode (B l) (B_ne h) (by
    rw [hd]
    unfold stepOk dr at hok
    unfold dn at hok
    intro hh
    simp [hh.1, hh.2] at hok)
  rw [hd] at this
  exact this.symm

theorem bareF_gl (n : Nat) : ∀ (fine : Bool) (l : ByteArray) (p : Nat), l.size = n →
    (bareF fine l p).1 = (fine && (bareG (gl (B l))).all (·.2)) ∧ gl (B (bareF fine l p).2.1) = bareR (gl (B l)) ∧
      (bareF fine l p).2.2 + (gl (B (bareF fine l p).2.1)).length = p + (gl (B l)).length ∧
      (bareF fine l p).2.1.size ≤ l.size ∧
      ((bareF fine l p).1 = true → (B l).take (l.size - (bareF fine l p).2.1.size) = runeB (bareG (gl (B l)))) := by
  induction n using Nat.strongRecOn with
  | _ n ih =>
    intro fine l p hn
    cases he : endF l with
    | true =>
      rw [bareF_end he]
      rw [endF_gl] at he
      revert he
      cases gl (B l) with
      | nil => intro _; simp [bareG, bareR, runeB]
      | cons g gs => intro he; simp at he; simp [bareG, bareR, runeB, he]
    | false =>
      have h0 : l.size ≠ 0 := by intro h0; simp [endF, h0] at he
      have her : endR (dr l) = false := by simp [endF, h0] at he; exact he
      rw [bareF_go he, glB_cons h0]
      have hlt := adv_lt l h0
      obtain ⟨a, b, c, d, e⟩ := ih (adv l).size (by omega) (stepOk l && fine) (adv l) (p + 1) rfl
      refine ⟨?_, ?_, ?_, by omega, ?_⟩
      · rw [a]; simp [bareG, her, Bool.and_comm, Bool.and_assoc]
      · rw [b]; simp [bareR, her]
      · rw [c]; simp; omega
      · intro hf
        have hfine := hf
        rw [a] at hfine
        simp only [Bool.and_eq_true] at hfine
        have hh := e hf
        have hsz := adv_size l
        have hdn := dn_le l
        have hk : l.size - (bareF (stepOk l && fine) (adv l) (p + 1)).2.1.size = dn l + ((adv l).size - (bareF (stepOk l && fine) (adv l) (p + 1)).2.1.size) := by omega
        rw [hk, List.take_add, enc_step h0 hfine.1.1, ← B_adv, hh]
        simp [bareG, her, runeB]

end Go.Proofs.YtfndfhhimhcakaaDoor.lx
