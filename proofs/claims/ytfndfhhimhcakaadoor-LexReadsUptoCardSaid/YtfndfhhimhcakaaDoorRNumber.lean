/-
  The reference's Number: a number's text. No condition.
-/
import Derived.Test.YtfndfhhimhcakaaDoorRRow
import Derived.Lib.ItoaNum
import Derived.Test.YtfndfhhimhcakaaDoorShow
import Derived.Laws.Bits64
namespace Go.Proofs.YtfndfhhimhcakaaDoor.lx
open Go.RowKit

/-- where the loop over the digits stands: what is left, and what is written -/
def NumAt (N u : Nat) (s : List UInt8) : Prop := (s = [] ∧ u = N) ∨ (s ≠ [] ∧ (if u = 0 then s else Lib.decDigits u ++ s) = Lib.decDigits N)
theorem NumAt.step {N u : Nat} {s : List UInt8} (h : NumAt N u s) (hu : s = [] ∨ u ≠ 0) : NumAt N (u / 10) (UInt8.ofNat (48 + u % 10) :: s) := by
  right
  refine ⟨by simp, ?_⟩
  have hd : Lib.decDigits u = (if u / 10 = 0 then [] else Lib.decDigits (u / 10)) ++ [UInt8.ofNat (48 + u % 10)] := by
    rw [Lib.decDigits]
    by_cases h10 : u < 10
    · rw [dif_pos h10, if_pos (by omega), show u % 10 = u by omega]
      rfl
    · rw [dif_neg h10, if_neg (by omega)]
  have hN : Lib.decDigits u ++ s = Lib.decDigits N := by
    rcases h with ⟨rfl, rfl⟩ | ⟨h1, h2⟩
    · simp
    · rw [if_neg (by rcases hu with hu | hu; exact absurd hu h1; exact hu)] at h2
      exact h2
  rw [← hN, hd]
  by_cases h0 : u / 10 = 0
  · rw [if_pos h0, if_pos h0]; rfl
  · rw [if_neg h0, if_neg h0]; simp
theorem NumAt.done {N u : Nat} {s : List UInt8} (h : NumAt N u s) (h1 : s ≠ []) (h2 : u = 0) : s = Lib.decDigits N := by
  rcases h with ⟨a, _⟩ | ⟨_, b⟩
  · exact absurd a h1
  · rw [if_pos h2] at b; exact b
theorem digit_slice (d : Nat) (h : d < 10) : ((⟨#[48, 49, 50, 51, 52, 53, 54, 55, 56, 57]⟩ : ByteArray).extract d (d + 1)).data.toList = [UInt8.ofNat (48 + d)] := by
  have : ∀ k : Fin 10, ((⟨#[48, 49, 50, 51, 52, 53, 54, 55, 56, 57]⟩ : ByteArray).extract k.val (k.val + 1)).data.toList = [UInt8.ofNat (48 + k.val)] := by decide +kernel
  exact this ⟨d, h⟩
theorem wrap_u64_neg (n : Int) (h0 : -9223372036854775808 ≤ n) (h1 : n < 0) : IntKind.u64.wrap (-(IntKind.u64.wrap n)) = (n.natAbs : Int) := by
  rw [IntKind.wrap_u64, IntKind.wrap_u64]
  omega
theorem dec_len (u : Nat) (h : u < 18446744073709551616) : (Lib.decDigits u).length ≤ 20 := by
  have := nDigits_le u h
  rw [Lib.decDigits_length]
  exact this
theorem NumAt.size {N u : Nat} {s : List UInt8} (h : NumAt N u s) (hN : N < 18446744073709551616) : s.length ≤ 20 := by
  have := dec_len N hN
  rcases h with ⟨rfl, _⟩ | ⟨_, b⟩
  · simp
  · have := congrArg List.length b
    split at this
    · omega
    · rw [List.length_append] at this; omega
theorem digits_cat (d : Nat) (h : d < 10) (s : ByteArray) : B ((⟨#[48, 49, 50, 51, 52, 53, 54, 55, 56, 57]⟩ : ByteArray).extract d (d + 1) ++ s) = UInt8.ofNat (48 + d) :: B s := by
  show (_ ++ s : ByteArray).data.toList = _
  rw [ByteArray.data_append, Array.toList_append, digit_slice d h]
  rfl

theorem cat_size (d : Nat) (h : d < 10) (s : ByteArray) : ((⟨#[48, 49, 50, 51, 52, 53, 54, 55, 56, 57]⟩ : ByteArray).extract d (d + 1) ++ s).size = s.size + 1 := by
  have := congrArg List.length (digits_cat d h s)
  rw [B_length, List.length_cons, B_length] at this
  exact this
theorem itoa_neg (n : Int) (h : n < 0) (s : ByteArray) (hs : B s = Lib.decDigits n.natAbs) : (⟨#[45]⟩ ++ s : ByteArray) = ⟨(Lib.itoa n).toArray⟩ := by
  apply ByteArray.ext
  apply Array.toList_inj.1
  rw [ByteArray.data_append, Array.toList_append, show s.data.toList = _ from hs, Lib.itoa, if_pos h]
  rfl
theorem itoa_pos (n : Int) (h : ¬ n < 0) (s : ByteArray) (hs : B s = Lib.decDigits n.natAbs) : s = ⟨(Lib.itoa n).toArray⟩ := by
  apply ByteArray.ext
  apply Array.toList_inj.1
  rw [show s.data.toList = _ from hs, Lib.itoa, if_neg h]
  simp only []
  rw [show n.toNat = n.natAbs by omega]

set_option maxHeartbeats 8000000 in
set_option maxRecDepth 100000 in
theorem rNumber_any (n : Int) (w : World) (h0 : -9223372036854775808 ≤ n) (h1 : n ≤ 9223372036854775807) :
    Calls Tryd.prog 17 #[.int .i64 n] w fun e w' => e = .returned (.string ⟨(Lib.itoa n).toArray⟩) ∧ w = w' := by
  by_cases hn : n < 0
  · go_enter Tryd.func17, Tryd.ntmps17
    go_wp2_with fail
    go_loop [3, 4] (fun v t => ∃ (u : Nat) (s : ByteArray), v = .int .u64 u ∧ t = .string s ∧ u ≤ 9223372036854775808 ∧ Hid (NumAt n.natAbs u (B s)) ∧ s.size ≤ 20) (fun v t => (intOf v).toNat + (match t with | .string s => 1 - s.size | _ => 0))
    case atStart => exact ⟨n.natAbs, ⟨#[]⟩, by rw [wrap_u64_neg n h0 hn], rfl, by omega, Lib.hid (.inl ⟨rfl, rfl⟩), by decide⟩
    case round =>
      obtain ⟨u, s, rfl, rfl, hu, HA, hs⟩ := hrel
      have hdl : u % 10 < 10 := Nat.mod_lt _ (by decide)
      have hsl := Lib.size_eq s
      by_cases he : s.size = 0
      · have hB : B s = [] := B_nil he
        have hl : s.toList = [] := by rw [Lib.toList_data]; exact hB
        have hi : s.toList.isEmpty = true := by rw [hl]; rfl
        have HN := Lib.hid (HA.out.step (.inl hB))
        have hsz := HN.out.size (by omega)
        simp only [List.length_cons, B_length] at hsz
        clear hB hsl
        go_wp2_with fail
        exact ⟨⟨u / 10, _, by simp, rfl, by omega, Lib.hid (by rw [digits_cat _ hdl]; exact HN.out), by have := cat_size (u % 10) hdl s; omega⟩, by have := cat_size (u % 10) hdl s; simp only [intOf]; omega⟩
      · have hB : B s ≠ [] := B_ne he
        have hl : ¬ s.toList = [] := by rw [Lib.toList_data]; exact hB
        have hi : s.toList.isEmpty = false := by simp [hl]
        by_cases hu0 : u = 0
        · have hfin := HA.out.done hB hu0
          subst hu0
          have HF := Lib.hid hfin
          clear hB hsl hfin
          go_wp2_with fail
          go_ret
          exact ⟨ret_str (itoa_neg n hn s HF.out), rfl⟩
        · have HN := Lib.hid (HA.out.step (.inr hu0))
          have hsz := HN.out.size (by omega)
          simp only [List.length_cons, B_length] at hsz
          have hup : 0 < u := by omega
          clear hB hsl
          go_wp2_with fail
          exact ⟨⟨u / 10, _, by simp, rfl, by omega, Lib.hid (by rw [digits_cat _ hdl]; exact HN.out), by have := cat_size (u % 10) hdl s; omega⟩, by have := cat_size (u % 10) hdl s; simp only [intOf]; omega⟩
  · go_enter Tryd.func17, Tryd.ntmps17
    go_wp2_with fail
    go_loop [3, 4] (fun v t => ∃ (u : Nat) (s : ByteArray), v = .int .u64 u ∧ t = .string s ∧ u ≤ 9223372036854775808 ∧ Hid (NumAt n.natAbs u (B s)) ∧ s.size ≤ 20) (fun v t => (intOf v).toNat + (match t with | .string s => 1 - s.size | _ => 0))
    case atStart => exact ⟨n.natAbs, ⟨#[]⟩, by congr 1; omega, rfl, by omega, Lib.hid (.inl ⟨rfl, rfl⟩), by decide⟩
    case round =>
      obtain ⟨u, s, rfl, rfl, hu, HA, hs⟩ := hrel
      have hdl : u % 10 < 10 := Nat.mod_lt _ (by decide)
      have hsl := Lib.size_eq s
      by_cases he : s.size = 0
      · have hB : B s = [] := B_nil he
        have hl : s.toList = [] := by rw [Lib.toList_data]; exact hB
        have hi : s.toList.isEmpty = true := by rw [hl]; rfl
        have HN := Lib.hid (HA.out.step (.inl hB))
        have hsz := HN.out.size (by omega)
        simp only [List.length_cons, B_length] at hsz
        clear hB hsl
        go_wp2_with fail
        exact ⟨⟨u / 10, _, by simp, rfl, by omega, Lib.hid (by rw [digits_cat _ hdl]; exact HN.out), by have := cat_size (u % 10) hdl s; omega⟩, by have := cat_size (u % 10) hdl s; simp only [intOf]; omega⟩
      · have hB : B s ≠ [] := B_ne he
        have hl : ¬ s.toList = [] := by rw [Lib.toList_data]; exact hB
        have hi : s.toList.isEmpty = false := by simp [hl]
        by_cases hu0 : u = 0
        · have hfin := HA.out.done hB hu0
          subst hu0
          have HF := Lib.hid hfin
          clear hB hsl hfin
          go_wp2_with fail
          go_ret
          exact ⟨ret_str (itoa_pos n (by omega) s HF.out), rfl⟩
        · have HN := Lib.hid (HA.out.step (.inr hu0))
          have hsz := HN.out.size (by omega)
          simp only [List.length_cons, B_length] at hsz
          have hup : 0 < u := by omega
          clear hB hsl
          go_wp2_with fail
          exact ⟨⟨u / 10, _, by simp, rfl, by omega, Lib.hid (by rw [digits_cat _ hdl]; exact HN.out), by have := cat_size (u % 10) hdl s; omega⟩, by have := cat_size (u % 10) hdl s; simp only [intOf]; omega⟩
end Go.Proofs.YtfndfhhimhcakaaDoor.lx
