/-
  The reference's word and next, walked. Conditions: the row lies there; its runes are runes.
-/
import Derived.Test.YtfndfhhimhcakaaDoorRQuotW
namespace Go.Proofs.YtfndfhhimhcakaaDoor.lx
open Go.RowKit

def digR (r : Int) : Bool := decide (48 ≤ r ∧ r ≤ 57)
/-- whether glyphs begin as a number -/
def numG : List G → Bool
  | [] => false
  | g :: gs => digR g.1 || (g.1 == 45 && (match gs with | [] => false | h :: _ => digR h.1))
theorem numG_cons (g : G) (gs : List G) : numG (g :: gs) = (digR g.1 || (g.1 == 45 && (match gs with | [] => false | h :: _ => digR h.1))) := rfl
theorem enc_head (r : Int) (h : validR r) : ∃ b t, Lib.encodeRune r = b :: t ∧ (r < 128 → ((b.toNat : Nat) : Int) = r ∧ t = []) ∧ (128 ≤ r → 128 ≤ b.toNat) := by
  have h0 := h.1
  by_cases h1 : r ≤ 127
  · refine ⟨r.toNat.toUInt8, [], ?_, fun _ => ⟨?_, rfl⟩, fun h => by omega⟩
    · unfold Lib.encodeRune; rw [Lib.encodeRuneZ_one h0 h1]; rfl
    · exact toB r h0 (by omega)
  by_cases h2 : r ≤ 2047
  · refine ⟨(192 + r / 64).toNat.toUInt8, [(128 + r % 64).toNat.toUInt8], ?_, fun h => by omega, fun _ => ?_⟩
    · unfold Lib.encodeRune; rw [Lib.encodeRuneZ_two (by omega) h2]; rfl
    · have := toB (192 + r / 64) (by omega) (by omega); omega
  by_cases h3 : r ≤ 65535
  · refine ⟨(224 + r / 4096).toNat.toUInt8, [(128 + r / 64 % 64).toNat.toUInt8, (128 + r % 64).toNat.toUInt8], ?_, fun h => by omega, fun _ => ?_⟩
    · unfold Lib.encodeRune; rw [Lib.encodeRuneZ_three (by have := h.2; omega)]; rfl
    · have := toB (224 + r / 4096) (by omega) (by omega); omega
  · have h4 : r ≤ 1114111 := by have := h.2; omega
    refine ⟨(240 + r / 262144).toNat.toUInt8, [(128 + r / 4096 % 64).toNat.toUInt8, (128 + r / 64 % 64).toNat.toUInt8, (128 + r % 64).toNat.toUInt8], ?_, fun h => by omega, fun _ => ?_⟩
    · unfold Lib.encodeRune; rw [Lib.encodeRuneZ_four (by omega) h4]; rfl
    · have := toB (240 + r / 262144) (by omega) (by omega); omega
theorem dig_head {r : Int} {b : UInt8} (h1 : r < 128 → ((b.toNat : Nat) : Int) = r) (h2 : 128 ≤ r → 128 ≤ b.toNat) : digB b = digR r := by
  unfold digB digR
  by_cases h : r < 128
  · rw [h1 h]
    by_cases a : 48 ≤ r <;> by_cases c : r ≤ 57 <;> simp [a, c]
  · have := h2 (by omega)
    have e1 : decide (((b.toNat : Nat) : Int) ≤ 57) = false := by simp; omega
    have e2 : decide (48 ≤ r ∧ r ≤ 57) = false := by simp; omega
    rw [e1, e2]; simp
theorem numStart_gl (gs : List G) (hv : ∀ g ∈ gs, validR g.1) : numStart (runeB gs) = numG gs := by
  cases gs with
  | nil => rfl
  | cons g gs =>
    obtain ⟨b, t, e, p1, p2⟩ := enc_head g.1 (hv g (by simp))
    have hr : runeB (g :: gs) = b :: (t ++ runeB gs) := by
      show Lib.encodeRune g.1 ++ runeB gs = _
      rw [e]; rfl
    rw [hr]
    show (digB b || (b == 45 && (match t ++ runeB gs with | [] => false | d :: _ => digB d))) = _
    rw [dig_head (fun h => (p1 h).1) p2, numG_cons]
    by_cases h45 : g.1 = 45
    · obtain ⟨q1, q2⟩ := p1 (by omega)
      have hb : b = 45 := by
        apply UInt8.toNat_inj.1
        have : (45 : UInt8).toNat = 45 := by decide
        omega
      subst q2
      rw [hb, h45]
      simp only [List.nil_append, beq_self_eq_true, Bool.true_and]
      cases gs with
      | nil => rfl
      | cons h gs =>
        obtain ⟨b', t', e', p1', p2'⟩ := enc_head h.1 (hv h (by simp))
        have hr' : runeB (h :: gs) = b' :: (t' ++ runeB gs) := by
          show Lib.encodeRune h.1 ++ runeB gs = _
          rw [e']; rfl
        rw [hr']
        simp only
        rw [dig_head (fun h => (p1' h).1) p2']
    · have hb : (b == 45) = false := by
        rw [beq_eq_false_iff_ne]
        intro hb
        by_cases hlt : g.1 < 128
        · have := (p1 hlt).1
          rw [hb] at this
          have e45 : (45 : UInt8).toNat = 45 := by decide
          omega
        · have := p2 (by omega)
          rw [hb] at this
          revert this; decide
      have hg : (g.1 == 45) = false := by simp [h45]
      rw [hb, hg]
      simp

theorem bare_take (l : List G) : bareG l = l.take (bareG l).length := by
  have h : bareG l ++ bareR l = l := List.takeWhile_append_dropWhile
  have h2 : (bareG l ++ bareR l).take (bareG l).length = bareG l := List.take_left
  rw [h] at h2
  exact h2.symm
theorem bareR_len (l : List G) : l.length - (bareR l).length = (bareG l).length := by
  have h : bareG l ++ bareR l = l := List.takeWhile_append_dropWhile
  have := congrArg List.length h
  rw [List.length_append] at this
  omega
theorem rtext_len (gs : List G) (n : Nat) (hn : gs.length = n) (ao : Option Addr) (cap : Nat) (w : World) (hR : GRow ao gs w) (hl : gs.length ≤ 1048576) (hv : ∀ g ∈ gs, 0 ≤ g.1) :
    Calls Tryd.prog 36 #[.slice ao n cap] w fun e w' => e = .returned (.string ⟨(runeB gs).toArray⟩) ∧ Below w.heap.size w w' := by
  subst hn
  exact rtext_any gs ao cap w hR hl hv
end Go.Proofs.YtfndfhhimhcakaaDoor.lx
