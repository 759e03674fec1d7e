/-
  The reference's number: a number's token, of its text. Conditions: the text begins as a number.
-/
import Derived.Test.YtfndfhhimhcakaaDoorRNumber
import Derived.Test.YtfndfhhimhcakaaDoorNumbersLaw
namespace Go.Proofs.YtfndfhhimhcakaaDoor.lx
open Go.RowKit

/-- the value of digits, as the reference adds it up; none: one is no digit, or there are too many -/
def valR : Nat → List UInt8 → Option Nat
  | n, [] => some n
  | n, c :: d => if 48 ≤ c.toNat ∧ c.toNat ≤ 57 then (if (9223372036854775808 - (c.toNat - 48)) / 10 < n then none else valR (10 * n + (c.toNat - 48)) d) else none
theorem valR_bound : ∀ (d : List UInt8) (n v : Nat), n ≤ 9223372036854775808 → valR n d = some v → v ≤ 9223372036854775808
  | [], n, v, hn, h => by rw [valR] at h; injection h with h; omega
  | c :: d, n, v, hn, h => by
    rw [valR] at h
    split at h
    · split at h
      · cases h
      · exact valR_bound d _ v (by omega) h
    · cases h
/-- the token, of minus and the digits -/
def numD (minus : Bool) (d : List UInt8) : Option Int :=
  match valR 0 d with
  | none => none
  | some v => if (decide (1 < d.length) && (d.head? == some 48)) || (minus && v == 0) || (!minus && decide (9223372036854775807 < v)) then none
      else some (if minus then -(v : Int) else v)
/-- number: its token, or none -/
def numR (s : List UInt8) : Option Int := match s with
  | 45 :: d => numD true d
  | d => numD false d

theorem valR_app : ∀ (d : List UInt8) (n : Nat) (k : Nat) (c : UInt8), valR n d = some k → 48 ≤ c.toNat ∧ c.toNat ≤ 57 → 10 * k + (c.toNat - 48) ≤ 9223372036854775808 → valR n (d ++ [c]) = some (10 * k + (c.toNat - 48))
  | [], n, k, c, h, hc, hb => by
    rw [valR] at h; injection h with h; subst h
    rw [List.nil_append, valR, if_pos hc, if_neg (by omega), valR]
  | a :: d, n, k, c, h, hc, hb => by
    rw [List.cons_append, valR]
    rw [valR] at h
    split at h
    · rename_i h1
      rw [if_pos h1]
      split at h
      · cases h
      · rename_i h2
        rw [if_neg h2]
        exact valR_app d _ k c h hc hb
    · cases h
theorem valR_dec (n : Nat) : ∀ u : Nat, u = n → u ≤ 9223372036854775808 → valR 0 (Lib.decDigits u) = some u := by
  induction n using Nat.strongRecOn with
  | _ n ih =>
    intro u hu hb
    have hd : ∀ k, k < 10 → (UInt8.ofNat (48 + k)).toNat = 48 + k := fun k hk => digit_toNat k hk
    rw [Lib.decDigits]
    by_cases h : u < 10
    · rw [dif_pos h, valR, hd u h, if_pos (by omega), if_neg (by omega), valR]
      congr 1
      omega
    · rw [dif_neg h]
      have := valR_app (Lib.decDigits (u / 10)) 0 (u / 10) (UInt8.ofNat (48 + u % 10)) (ih (u / 10) (by omega) (u / 10) rfl (by omega)) (by rw [hd _ (Nat.mod_lt _ (by decide))]; omega) (by rw [hd _ (Nat.mod_lt _ (by decide))]; omega)
      rw [this, hd _ (Nat.mod_lt _ (by decide))]
      congr 1
      omega
/-- digits that are read are the number's own, but for noughts ahead -/
theorem valR_inv : ∀ (d : List UInt8) (n v : Nat), valR n d = some v → n ≠ 0 → Lib.decDigits n ++ d = Lib.decDigits v
  | [], n, v, h, _ => by rw [valR] at h; injection h with h; subst h; simp
  | c :: d, n, v, h, hn => by
    rw [valR] at h
    split at h
    · rename_i hc
      split at h
      · cases h
      · have := valR_inv d _ v h (by omega)
        rw [← this]
        have e : Lib.decDigits (10 * n + (c.toNat - 48)) = Lib.decDigits n ++ [c] := by
          rw [Lib.decDigits, dif_neg (by omega)]
          have e1 : (10 * n + (c.toNat - 48)) / 10 = n := by omega
          have e2 : (10 * n + (c.toNat - 48)) % 10 = c.toNat - 48 := by omega
          rw [e1, e2]
          have : UInt8.ofNat (48 + (c.toNat - 48)) = c := by
            rw [show 48 + (c.toNat - 48) = c.toNat by omega]
            simp
          rw [this]
        rw [e]
        simp
    · cases h
theorem dec_head (n : Nat) : ∀ u : Nat, u = n → 10 ≤ u → (Lib.decDigits u).head? ≠ some 48 ∧ 1 < (Lib.decDigits u).length := by
  induction n using Nat.strongRecOn with
  | _ n ih =>
    intro u hu h
    rw [Lib.decDigits, dif_neg (by omega)]
    by_cases h10 : u / 10 < 10
    · rw [Lib.decDigits, dif_pos h10]
      refine ⟨?_, by simp⟩
      simp only [List.cons_append, List.head?_cons]
      intro e
      injection e with e
      have := congrArg UInt8.toNat e
      rw [digit_toNat _ h10] at this
      have h48 : (48 : UInt8).toNat = 48 := by decide
      omega
    · obtain ⟨a, b⟩ := ih (u / 10) (by omega) (u / 10) rfl (by omega)
      refine ⟨?_, by simp; omega⟩
      cases hd : Lib.decDigits (u / 10) with
      | nil => rw [hd] at b; simp at b
      | cons x xs => rw [hd] at a; simpa using a

theorem numD_dec (minus : Bool) (u : Nat) (h1 : minus = true → u ≠ 0 ∧ u ≤ 9223372036854775808) (h2 : minus = false → u ≤ 9223372036854775807) :
    numD minus (Lib.decDigits u) = some (if minus then -(u : Int) else u) := by
  have hb : u ≤ 9223372036854775808 := by cases minus with
    | true => exact (h1 rfl).2
    | false => have := h2 rfl; omega
  rw [numD, valR_dec u u rfl hb]
  simp only
  rw [if_neg]
  intro hh
  simp only [Bool.or_eq_true, Bool.and_eq_true, decide_eq_true_eq] at hh
  rcases hh with (⟨a, b⟩ | ⟨a, b⟩) | ⟨a, b⟩
  · by_cases h10 : u < 10
    · rw [Lib.decDigits, dif_pos h10] at a
      simp at a
    · have := (dec_head u u rfl (by omega)).1
      simp at b
      exact this b
  · have := (h1 a).1
    simp at b
    exact this b
  · have := h2 (by simpa using a)
    omega
theorem numD_inv (minus : Bool) (d : List UInt8) (hd : d ≠ []) (z : Int) (h : numD minus d = some z) : ∃ u : Nat, d = Lib.decDigits u ∧ z = (if minus then -(u : Int) else u) ∧ (minus = true → u ≠ 0 ∧ u ≤ 9223372036854775808) ∧ (minus = false → u ≤ 9223372036854775807) := by
  unfold numD at h
  cases hv : valR 0 d with
  | none => rw [hv] at h; cases h
  | some v =>
    rw [hv] at h
    simp only at h
    split at h
    · cases h
    · rename_i hc
      injection h with h
      simp only [Bool.or_eq_true, Bool.and_eq_true, decide_eq_true_eq, not_or, not_and] at hc
      obtain ⟨⟨c1, c2⟩, c3⟩ := hc
      refine ⟨v, ?_, h.symm, ?_, ?_⟩
      · cases d with
        | nil => exact absurd rfl hd
        | cons c d =>
          rw [valR] at hv
          split at hv
          · rename_i hc
            split at hv
            · cases hv
            · rw [Nat.mul_zero, Nat.zero_add] at hv
              by_cases h0 : c.toNat - 48 = 0
              · have hc48 : c = 48 := by
                  apply UInt8.toNat_inj.1
                  have : (48 : UInt8).toNat = 48 := by decide
                  omega
                subst hc48
                cases d with
                | nil =>
                  rw [valR] at hv
                  injection hv with hv
                  rw [← hv]
                  decide +kernel
                | cons a d =>
                  exfalso
                  exact c1 (by simp) (by simp)
              · have := valR_inv d _ v hv h0
                rw [← this, Lib.decDigits, dif_pos (by omega)]
                have e : UInt8.ofNat (48 + (c.toNat - 48)) = c := by
                  rw [show 48 + (c.toNat - 48) = c.toNat by omega]
                  simp
                rw [e]
                rfl
          · cases hv
      · intro hm
        refine ⟨fun h0 => ?_, valR_bound d 0 v (by omega) hv⟩
        exact c2 hm (by simp [h0])
      · intro hm
        have := c3 (by simp [hm])
        omega

/-- number and the program's own tell the same -/
theorem numR_tok (s : ByteArray) (hs : numStart (B s) = true) : numTok s = match numR (B s) with | some z => (⟨4, ⟨#[]⟩, z, 0⟩, 0) | none => (Tok.no, 13) := by
  have key : ∀ z : Int, numR (B s) = some z ↔ (-9223372036854775808 ≤ z ∧ z ≤ 9223372036854775807 ∧ Lib.itoa z = B s) := by
    intro z
    constructor
    · intro h
      unfold numR at h
      split at h
      · rename_i d hB
        have hd : d ≠ [] := by
          intro e; subst e
          rw [hB] at hs
          revert hs; decide
        obtain ⟨u, e1, e2, e3, _⟩ := numD_inv true d hd z h
        obtain ⟨e4, e5⟩ := e3 rfl
        simp only [if_true] at e2
        refine ⟨by omega, by omega, ?_⟩
        rw [hB, Lib.itoa, if_pos (by omega), e1, e2]
        rw [show (-(u : Int)).natAbs = u by omega]
      · rename_i hne
        have hd : B s ≠ [] := by
          intro e
          rw [e] at hs
          revert hs; decide
        obtain ⟨u, e1, e2, _, e3⟩ := numD_inv false (B s) hd z h
        have e4 := e3 rfl
        simp only [Bool.false_eq_true, if_false] at e2
        refine ⟨by omega, by omega, ?_⟩
        rw [Lib.itoa, if_neg (by omega), e2, e1]
        rfl
    · rintro ⟨h0, h1, h2⟩
      rw [← h2]
      unfold Lib.itoa
      by_cases hz : z < 0
      · rw [if_pos hz]
        show numD true (Lib.decDigits z.natAbs) = _
        rw [numD_dec true z.natAbs (fun _ => ⟨by omega, by omega⟩) (fun h => by cases h)]
        simp only [if_true]
        congr 1
        omega
      · rw [if_neg hz]
        obtain ⟨hne, hdg⟩ := dec_digits z.toNat z.toNat rfl
        have : numR (Lib.decDigits z.toNat) = numD false (Lib.decDigits z.toNat) := by
          unfold numR
          split
          · rename_i d hd
            exfalso
            have := hdg 45 (by rw [hd]; simp)
            revert this; decide
          · rfl
        rw [this, numD_dec false z.toNat (fun h => by cases h) (fun _ => by omega)]
        simp only [Bool.false_eq_true, if_false]
        congr 1
        omega
  unfold numTok
  cases hR : numR (B s) with
  | some z =>
    obtain ⟨h0, h1, h2⟩ := (key z).1 hR
    simp only
    rw [show s.data.toList = B s from rfl, ← h2, parse_itoa z h0 h1]
    simp only
    rw [if_pos trivial]
  | none =>
    simp only
    split
    · rename_i n hn
      rw [if_neg]
      intro hh
      have hr := pi_range s n hn
      have := (key n).2 ⟨hr.1, hr.2, hh⟩
      rw [hR] at this
      cases this
    · rfl
end Go.Proofs.YtfndfhhimhcakaaDoor.lx
