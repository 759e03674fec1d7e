/-
  LexNotes: the plain laws: a note ahead of a text. No program in sight.
-/
import Derived.Test.YtchilianbbkebaaDoorGEnc
import Derived.Test.YtchilianbbkebaaDoorSep
namespace Go.Proofs.YtchilianbbkebaaDoor.lx
open Go.RowKit

/-- the runes of a note that are kept -/
def keepR (r : Int) : Bool := r != 10 && r != 65533
def keptG (gs : List G) : List Int := (gs.map (·.1)).filter keepR
theorem keptG_cons (g : G) (gs : List G) : keptG (g :: gs) = if keepR g.1 = true then g.1 :: keptG gs else keptG gs := by
  unfold keptG
  rw [List.map_cons, List.filter_cons]
def noteK (K : List Int) : List G := K.map fun r => (r, true)
theorem gl_encs : ∀ (K : List Int) (l : List UInt8), (∀ r ∈ K, validR r) → gl (K.flatMap Lib.encodeRune ++ l) = noteK K ++ gl l
  | [], _, _ => rfl
  | r :: K, l, h => by
    rw [List.flatMap_cons, List.append_assoc, gl_enc r (h r (by simp)), gl_encs K l (fun x hx => h x (by simp [hx]))]
    rfl
theorem skipG_note (X : List G) : ∀ K : List Int, (∀ r ∈ K, r ≠ 10) → skipG true (noteK K ++ (10, true) :: X) = skipG false X
  | [], _ => by
    show skipG true ((10, true) :: X) = _
    rw [skipG]
    rfl
  | r :: K, h => by
    show skipG true ((r, true) :: (noteK K ++ (10, true) :: X)) = _
    have hr := h r (by simp)
    have hn : noted true r = true := by simp [noted, hr]
    rw [skipG]
    simp only [hn]
    rw [if_pos (by simp)]
    exact skipG_note X K (fun x hx => h x (by simp [hx]))
theorem kept_valid (l : List UInt8) : ∀ r ∈ keptG (gl l), validR r ∧ r ≠ 10 := by
  intro r hr
  unfold keptG at hr
  obtain ⟨h1, h2⟩ := List.mem_filter.1 hr
  obtain ⟨g, hg, rfl⟩ := List.mem_map.1 h1
  refine ⟨gl_validR _ _ rfl g hg, ?_⟩
  simp [keepR] at h2
  exact h2.1

theorem kept_size (n : Nat) : ∀ l : List UInt8, l.length = n → ((keptG (gl l)).flatMap Lib.encodeRune).length ≤ l.length ∧ (keptG (gl l)).length ≤ l.length := by
  induction n using Nat.strongRecOn with
  | _ n ih =>
    intro l hn
    by_cases h : l = []
    · subst h; rw [gl_nil]; simp [keptG]
    · have h1 := dec_width l
      have h2 : 0 < l.length := List.length_pos_iff.2 h
      have h3 := Lib.decodeL_le l h
      obtain ⟨a, b⟩ := ih (l.drop (Lib.decodeL l).2).length (by rw [List.length_drop]; omega) _ rfl
      rw [List.length_drop] at a b
      rw [gl_cons h, keptG_cons]
      simp only
      split
      · rename_i hk
        have hd : ¬ ((Lib.decodeL l).1 = 65533 ∧ (Lib.decodeL l).2 = 1) := by
          intro hh
          rw [hh.1] at hk
          revert hk
          decide
        have := Lib.encode_decode l h hd
        rw [List.flatMap_cons, this]
        simp only [List.length_append, List.length_take, List.length_cons]
        omega
      · omega

theorem lexR_note (s t : ByteArray) (K : List Int) (hK : ∀ r ∈ K, validR r ∧ r ≠ 10) (ht : B t = 59 :: (K.flatMap Lib.encodeRune ++ 10 :: B s)) (hs : t.size ≤ 2048) :
    if (lexR s).2.1 = 0 then lexR t = ((lexR s).1.map (·.up (K.length + 2)), 0, 0) else lexR t = ([], (lexR s).2.1, (lexR s).2.2 + (K.length + 2 : Nat)) := by
  have hsz : s.size ≤ 2048 := by
    have := congrArg List.length ht
    simp only [List.length_cons, List.length_append, B_length] at this
    omega
  have hgl : gl (59 :: (K.flatMap Lib.encodeRune ++ 10 :: B s)) = (59, true) :: (noteK K ++ (10, true) :: gl (B s)) := by
    rw [gl_ascii _ (by decide), gl_encs K _ (fun r hr => (hK r hr).1), gl_ascii _ (by decide)]
    rfl
  have hsk : skipG false ((59, true) :: (noteK K ++ (10, true) :: gl (B s))) = skipG false (gl (B s)) := by
    rw [skipG, if_pos (by decide)]
    exact skipG_note _ K (fun r hr => (hK r hr).2)
  rw [lexR_gl s hsz, lexR_gl t hs, ht, hgl]
  unfold lexG
  rw [hsk]
  have hN : ((59, true) :: (noteK K ++ (10, true) :: gl (B s))).length = (gl (B s)).length + (K.length + 2) := by
    simp [noteK]; omega
  rw [hN]
  generalize gl (B s) = gs
  have hl := lexK_left2 _ _ rfl (skipG_firm gs false)
  have hl2 := skipG_length gs false
  by_cases h0 : (lexK (skipG false gs)).2.1 = 0
  · rw [if_pos h0, if_pos h0, if_pos rfl]
    refine Prod.ext ?_ rfl
    simp only
    rw [List.map_map]
    apply List.map_congr_left
    intro x hx
    have := lexK_left' gs x hx
    simp only [Function.comp, Tok.at, Tok.up]
    congr 1
    omega
  · rw [if_neg h0, if_neg h0, if_neg h0]
    refine Prod.ext rfl (Prod.ext rfl ?_)
    simp only
    omega
end Go.Proofs.YtchilianbbkebaaDoor.lx
