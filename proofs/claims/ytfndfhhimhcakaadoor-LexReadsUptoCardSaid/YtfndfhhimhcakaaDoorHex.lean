/-
  strconv.ParseUint at base 16 and 32 bits, at one to six bytes, whatever they are: the number, or an error. Conditions: the length; the package's errors are laid.
-/
import Derived.Test.YtfndfhhimhcakaaDoorBare
namespace Go.Proofs.YtfndfhhimhcakaaDoor.lx
open Go.RowKit

/-- c | 0x20 -/
def low (c : Nat) : Nat := c ||| 32
theorem low_bits : ∀ c : Fin 256, bits .or .u8 ((c.val : Nat) : Int) 32 = ((low c.val : Nat) : Int) := by decide +kernel
theorem low_lt : ∀ c : Fin 256, low c.val < 256 := by decide +kernel
/-- a hexadecimal digit's number, in either case -/
def hexv (c : Nat) : Option Nat := if 48 ≤ c ∧ c ≤ 57 then some (c - 48) else if 97 ≤ low c ∧ low c ≤ 102 then some (low c - 87) else none
theorem hexv_lt {c d : Nat} (h : hexv c = some d) : d < 16 := by
  unfold hexv at h
  split at h
  · injection h; omega
  · split at h
    · injection h; omega
    · cases h
def hexN : Nat → List UInt8 → Option Nat
  | acc, [] => some acc
  | acc, c :: l => match hexv c.toNat with | none => none | some d => hexN (acc * 16 + d) l
theorem hexN_cons_some {acc d : Nat} {c : UInt8} {l : List UInt8} (h : hexv c.toNat = some d) : hexN acc (c :: l) = hexN (acc * 16 + d) l := by simp [hexN, h]
theorem hexN_cons_none {acc : Nat} {c : UInt8} {l : List UInt8} (h : hexv c.toNat = none) : hexN acc (c :: l) = none := by simp [hexN, h]

def hexTuple : Option Nat → Value
  | some n => .tuple #[.int .u64 n, .nilIface]
  | none => .tuple #[.int .u64 0, .iface 109 (.int .i64 2)]

set_option maxHeartbeats 8000000 in
set_option maxRecDepth 100000 in
theorem iParseUint16 (t : ByteArray) (hne : t.size ≠ 0) (hmax : t.size ≤ 6) (w : World) :
    Calls Tryd.prog 66 #[.string t, .int .i64 16, .int .i64 32] w fun e w' => e = .returned (hexTuple (hexN 0 t.data.toList)) ∧ w' = Lib.bytesWorld w 5 t := by
  have hemp : t.toList.isEmpty = false := by
    rw [← decide_eq_emptyBytes]
    exact decide_eq_false (fun h => hne (by rw [h]; rfl))
  have hcv := Lib.run_convert_string_bytes (P := Tryd.prog) w 9 52 5 t (u := .string) Tryd.underlying9 Tryd.underlying52 Tryd.underlying5
  have hB : ∀ j, j < t.size → (Lib.bytesWorld w 5 t).cell? ⟨w.heap.size, j, none⟩ = some (.int .u8 (t.data.toList.getD j 0).toNat) := fun j hj => Lib.bytesWorld_cell w 5 t j hj
  obtain ⟨W1, hW1⟩ : ∃ W1, W1 = Lib.bytesWorld w 5 t := ⟨_, rfl⟩
  rw [← hW1] at hcv hB ⊢
  clear hW1
  obtain ⟨bs, hL⟩ : ∃ bs, bs = t.data.toList := ⟨_, rfl⟩
  have hLn : bs.length = t.size := by rw [hL, Lib.size_eq]
  rw [← hL] at hB ⊢
  clear hL
  have hmv : IntKind.u64.wrap (IntKind.u64.wrap 4294967296 - 1) = 4294967295 := by
    rw [IntKind.wrap_u64, IntKind.wrap_u64]
    decide
  obtain ⟨R, hR⟩ : ∃ R, hexN 0 bs = R := ⟨_, rfl⟩
  rw [hR]
  have HR := Lib.hid hR
  clear hR
  go_enter Tryd.func66, Tryd.ntmps66
  go_wp2
  go_loop [12, 13, 101] (fun vu vn vi => ∃ (k acc : Nat) (a : Int), vu = .bool false ∧ vn = .int .u64 a ∧ vi = .int .i64 k ∧ k ≤ t.size ∧ Hid (a = (acc : Int) ∧ acc < 16 ^ k ∧ R = hexN acc (bs.drop k)))
    (fun _ _ vi => t.size - (intOf vi).toNat)
  case atStart => exact ⟨0, 0, 0, rfl, rfl, rfl, by omega, rfl, by decide, HR.out.symm⟩
  case round =>
    obtain ⟨k, acc, a, rfl, rfl, rfl, hk, hh⟩ := hrel
    obtain ⟨ha, hacc, hdec⟩ := hh.out
    clear hh
    have hacc6 : acc < 16777216 := Nat.lt_of_lt_of_le hacc (Nat.le_trans (Nat.pow_le_pow_right (by decide) (show k ≤ 6 by omega)) (by decide))
    have a0 : 0 ≤ a := by omega
    have a1 : a < 16777216 := by omega
    by_cases hkn : k < t.size
    · have hc := hB k hkn
      have hdrop : bs.drop k = bs[k]'(by omega) :: bs.drop (k + 1) := List.drop_eq_getElem_cons (by omega)
      have hget : bs.getD k 0 = bs[k]'(by omega) := by simp [List.getD, List.getElem?_eq_getElem (show k < bs.length by omega)]
      rw [hdrop] at hdec
      rw [hget] at hc
      generalize bs[k]'(by omega) = c at hc hdec
      have hc256 : c.toNat < 256 := c.toNat_lt
      have hlow := low_bits ⟨c.toNat, hc256⟩
      have hlt := low_lt ⟨c.toNat, hc256⟩
      simp only at hlow hlt
      obtain ⟨j, hj⟩ : ∃ j, low c.toNat = j := ⟨_, rfl⟩
      rw [hj] at hlow hlt
      have hcl : ∀ w, Calls Tryd.prog 82 #[.int .u8 c.toNat] w fun e w' => e = .returned (.int .u8 j) ∧ w' = w := fun w => by
        rw [← hlow]; exact Tryd.internal_strconv_lower _ _
      have HL := Lib.hid hcl
      clear hB hdrop hget hlow hcl
      cases hv : hexv c.toNat with
      | some d =>
        have hd := hexv_lt hv
        rw [hexN_cons_some hv] at hdec
        have hpow : acc * 16 + d < 16 ^ (k + 1) := by rw [Nat.pow_succ]; omega
        by_cases hdig : 48 ≤ c.toNat ∧ c.toNat ≤ 57
        · obtain ⟨hd0, hd1⟩ := hdig
          have hdd : d = c.toNat - 48 := by simp [hexv, hd0, hd1] at hv; omega
          have HN : Hid (a * 16 + ((c.toNat : Int) - 48) = ((acc * 16 + d : Nat) : Int) ∧ acc * 16 + d < 16 ^ (k + 1) ∧ R = hexN (acc * 16 + d) (bs.drop (k + 1))) := Lib.hid ⟨by omega, hpow, hdec⟩
          clear hacc hdec ha hdd hpow hv hj HR
          go_wp2
          refine ⟨⟨k + 1, acc * 16 + d, a * 16 + ((c.toNat : Int) - 48), rfl, (by first | rfl | (congr 1; omega)), (by first | rfl | (congr 1; omega)), by omega, HN⟩, by simp [intOf]; omega⟩
        · obtain ⟨hl0, hl1, hdd⟩ : 97 ≤ j ∧ j ≤ 102 ∧ d = j - 87 := by
            unfold hexv at hv
            rw [if_neg hdig, hj] at hv
            split at hv
            · injection hv; omega
            · cases hv
          have HN : Hid (a * 16 + ((j : Int) - 97 + 10) = ((acc * 16 + d : Nat) : Int) ∧ acc * 16 + d < 16 ^ (k + 1) ∧ R = hexN (acc * 16 + d) (bs.drop (k + 1))) := Lib.hid ⟨by omega, hpow, hdec⟩
          have h95 : ((c.toNat : Int) == 95) = false := by
            apply beq_eq_false_iff_ne.2
            intro h
            have h' : c.toNat = 95 := by omega
            rw [h'] at hj
            have : low 95 = 127 := by decide
            omega
          have hnd : ¬ (48 ≤ c.toNat ∧ c.toNat ≤ 57) := hdig
          clear hacc hdec ha hdd hpow hv hj HR hdig
          by_cases h48 : 48 ≤ c.toNat
          all_goals
            have h57 : 48 ≤ c.toNat → ¬ c.toNat ≤ 57 := fun h h' => hnd ⟨h, h'⟩
            clear hnd
            go_wp2_with (go_at_call 82; refine (HL.out _).mono ?_; rintro e w' ⟨rfl, rfl⟩)
            exact ⟨⟨k + 1, acc * 16 + d, a * 16 + ((j : Int) - 97 + 10), rfl, rfl, (by go_num), by omega, HN⟩, by simp [intOf]; omega⟩
      | none =>
        have hR0 : R = none := by rw [hdec, hexN_cons_none hv]
        have HF := Lib.hid hR0
        obtain ⟨hnd, hnl⟩ : ¬ (48 ≤ c.toNat ∧ c.toNat ≤ 57) ∧ ¬ (97 ≤ j ∧ j ≤ 102) := by
          unfold hexv at hv
          split at hv
          · cases hv
          · rename_i h1
            rw [hj] at hv
            split at hv
            · cases hv
            · rename_i h2; exact ⟨h1, h2⟩
        clear hacc hdec ha hv hR0 HR hacc6
        have h57 : 48 ≤ c.toNat → ¬ c.toNat ≤ 57 := fun h h' => hnd ⟨h, h'⟩
        clear hnd
        by_cases h9 : c.toNat = 95
        · rw [h9] at hc hj
          have hj' : j = 127 := by rw [← hj]; decide
          subst hj'
          have hcl := HL.out
          rw [h9] at hcl
          have HL' := Lib.hid hcl
          clear hcl HL hj h57 hnl h9 hlt
          go_wp2_with (go_at_call 82; refine (HL'.out _).mono ?_; rintro e w' ⟨rfl, rfl⟩)
          all_goals go_ret2
          all_goals (rw [HF.out]; exact ⟨rfl, rfl⟩)
        · have h95 : ((c.toNat : Int) == 95) = false := by
            apply beq_eq_false_iff_ne.2
            omega
          clear h9 hj
          by_cases h48 : 48 ≤ c.toNat
          all_goals
            by_cases hj97 : 97 ≤ j
            all_goals
              have hj102 : 97 ≤ j → 103 ≤ j := fun h => by
                have : ¬ j ≤ 102 := fun h' => hnl ⟨h, h'⟩
                omega
              clear hnl
              go_wp2_with (go_at_call 82; refine (HL.out _).mono ?_; rintro e w' ⟨rfl, rfl⟩)
              all_goals go_ret2
              all_goals (rw [HF.out]; exact ⟨rfl, rfl⟩)
    · have hkk : k = t.size := by omega
      subst hkk
      rw [List.drop_eq_nil_of_le (by omega)] at hdec
      have hF : R = some acc := hdec
      have HF := Lib.hid hF
      subst ha
      clear hacc hdec hF a0 a1
      go_wp2
      go_ret2
      rw [HF.out]
      exact ⟨rfl, rfl⟩
end Go.Proofs.YtfndfhhimhcakaaDoor.lx
