/-
  A number's text is read as itself. Plain laws, no program in sight.
-/
import Derived.Lib.ItoaNum
import Derived.Lib.ParseIntBCases
namespace Go.Proofs.YtfndfhhimhcakaaDoor.lx

theorem parseM_app (M : Nat) : ∀ (l1 l2 : List UInt8) (acc v : Nat), Lib.parseUintM M acc l1 = .ok v → Lib.parseUintM M acc (l1 ++ l2) = Lib.parseUintM M v l2
  | [], l2, acc, v, h => by rw [Lib.parseUintM] at h; injection h with h; subst h; rfl
  | c :: l1, l2, acc, v, h => by
    rw [List.cons_append]
    rw [Lib.parseUintM] at h ⊢
    by_cases h1 : 48 ≤ c.toNat ∧ c.toNat ≤ 57
    · rw [if_pos h1] at h ⊢
      by_cases h2 : 1844674407370955162 ≤ acc
      · rw [if_pos h2] at h; cases h
      · rw [if_neg h2] at h ⊢
        by_cases h3 : M < acc * 10 + (c.toNat - 48)
        · rw [if_pos h3] at h; cases h
        · rw [if_neg h3] at h ⊢
          exact parseM_app M l1 l2 _ v h
    · rw [if_neg h1] at h; cases h
theorem digit_toNat (d : Nat) (h : d < 10) : (UInt8.ofNat (48 + d)).toNat = 48 + d := by
  have : ∀ k : Fin 10, (UInt8.ofNat (48 + k.val)).toNat = 48 + k.val := by decide +kernel
  exact this ⟨d, h⟩
theorem parseM_digit (M acc d : Nat) (h : d < 10) (ha : acc < 1844674407370955162) (hM : acc * 10 + d ≤ M) : Lib.parseUintM M acc [UInt8.ofNat (48 + d)] = .ok (acc * 10 + d) := by
  rw [Lib.parseUintM, digit_toNat d h, if_pos (by omega), if_neg (by omega), if_neg (by omega), Lib.parseUintM]
  have : 48 + d - 48 = d := by omega
  rw [this]
theorem parseM_dec (M : Nat) (hM : M < 18446744073709551616) (n : Nat) : ∀ u : Nat, u = n → u ≤ M → Lib.parseUintM M 0 (Lib.decDigits u) = .ok u := by
  induction n using Nat.strongRecOn with
  | _ n ih =>
    intro u hu hm
    rw [Lib.decDigits]
    by_cases h : u < 10
    · rw [dif_pos h]
      have := parseM_digit M 0 u h (by omega) (by omega)
      simpa using this
    · rw [dif_neg h, parseM_app M _ _ 0 (u / 10) (ih (u / 10) (by omega) (u / 10) rfl (by omega)), parseM_digit M (u / 10) (u % 10) (by omega) (by omega) (by omega)]
      have : u / 10 * 10 + u % 10 = u := by omega
      rw [this]
theorem dec_digits (n : Nat) : ∀ u : Nat, u = n → Lib.decDigits u ≠ [] ∧ ∀ b ∈ Lib.decDigits u, 48 ≤ b.toNat ∧ b.toNat ≤ 57 := by
  induction n using Nat.strongRecOn with
  | _ n ih =>
    intro u hu
    rw [Lib.decDigits]
    by_cases h : u < 10
    · rw [dif_pos h]
      refine ⟨by simp, fun b hb => ?_⟩
      rw [List.mem_singleton.1 hb, digit_toNat u h]
      omega
    · rw [dif_neg h]
      refine ⟨by simp, fun b hb => ?_⟩
      rcases List.mem_append.1 hb with hb | hb
      · exact (ih (u / 10) (by omega) (u / 10) rfl).2 b hb
      · rw [List.mem_singleton.1 hb, digit_toNat _ (Nat.mod_lt _ (by decide))]
        omega
theorem parseB_dec (u : Nat) (h : u < 18446744073709551616) : Lib.parseUintB 64 (Lib.decDigits u) = .ok u := by
  rw [Lib.parseUintB, if_neg (dec_digits u u rfl).1]
  exact parseM_dec _ (by decide) u u rfl (by omega)
theorem parse_itoa (n : Int) (h0 : -9223372036854775808 ≤ n) (h1 : n ≤ 9223372036854775807) : Lib.parseIntB 64 (Lib.itoa n) = .ok n := by
  unfold Lib.itoa
  by_cases h : n < 0
  · rw [if_pos h, Lib.parseIntB_minus, parseB_dec n.natAbs (by omega)]
    show (if (2 ^ (64 - 1)) < n.natAbs then _ else Lib.NumEnd.ok (-(n.natAbs : Int))) = _
    rw [if_neg (by simp; omega)]
    congr 1
    omega
  · rw [if_neg h]
    obtain ⟨hne, hd⟩ := dec_digits n.toNat n.toNat rfl
    obtain ⟨c, r, hc⟩ : ∃ c r, Lib.decDigits n.toNat = c :: r := by
      cases hx : Lib.decDigits n.toNat with
      | nil => exact absurd hx hne
      | cons c r => exact ⟨c, r, rfl⟩
    have hcd := hd c (by rw [hc]; simp)
    rw [hc, Lib.parseIntB_plain 64 c r (by omega) (by omega), ← hc, parseB_dec n.toNat (by omega)]
    show (if (2 ^ (64 - 1)) ≤ n.toNat then _ else Lib.NumEnd.ok (n.toNat : Int)) = _
    rw [if_neg (by simp; omega)]
    congr 1
    omega
theorem itoa_inj {a b : Int} (ha0 : -9223372036854775808 ≤ a) (ha1 : a ≤ 9223372036854775807) (hb0 : -9223372036854775808 ≤ b) (hb1 : b ≤ 9223372036854775807) (h : Lib.itoa a = Lib.itoa b) : a = b := by
  have h1 := parse_itoa a ha0 ha1
  rw [h, parse_itoa b hb0 hb1] at h1
  injection h1 with h1
  exact h1.symm
end Go.Proofs.YtfndfhhimhcakaaDoor.lx
