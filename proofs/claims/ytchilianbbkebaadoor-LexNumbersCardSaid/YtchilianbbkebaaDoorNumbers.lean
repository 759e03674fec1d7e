/-
  LexNumbers, for every two numbers. Conditions: the package-level variables are laid.
-/
import Derived.Test.YtchilianbbkebaaDoorLives
import Derived.Test.YtchilianbbkebaaDoorNumbersLaw
namespace Go.Proofs.YtchilianbbkebaaDoor.lx
open Go.RowKit

set_option maxHeartbeats 8000000 in
set_option maxRecDepth 100000 in
theorem Numbers_any (a b : Int) (w : World) (hG : Glob w) (ha0 : -9223372036854775808 ≤ a) (ha1 : a ≤ 9223372036854775807) (hb0 : -9223372036854775808 ≤ b) (hb1 : b ≤ 9223372036854775807) :
    Calls Tryd.prog 9 #[.int .i64 a, .int .i64 b] w fun e w' => e = .returned (.bool true) ∧ Below w.heap.size w w' := by
  have hSa := fun w hG => Show_any ⟨4, ⟨#[]⟩, a, 0⟩ w hG (show (⟨#[]⟩ : ByteArray).size ≤ 1073741824 by decide) ha0 ha1
  have hSb := fun w hG => Show_any ⟨4, ⟨#[]⟩, b, 0⟩ w hG (show (⟨#[]⟩ : ByteArray).size ≤ 1073741824 by decide) hb0 hb1
  rw [show_num a ha0 ha1] at hSa
  rw [show_num b hb0 hb1] at hSb
  simp only [Tok.v] at hSa hSb
  obtain ⟨S, hS⟩ : ∃ S : ByteArray, ⟨(Lib.itoa a).toArray⟩ = S := ⟨_, rfl⟩
  obtain ⟨T, hT⟩ : ∃ T : ByteArray, ⟨(Lib.itoa b).toArray⟩ = T := ⟨_, rfl⟩
  have hsize : S.size = (Lib.itoa a).length := by rw [← hS]; rfl
  have hcat : S ++ ⟨#[32]⟩ ++ T = ⟨(Lib.itoa a ++ 32 :: Lib.itoa b).toArray⟩ := by
    rw [← hS, ← hT]; apply ByteArray.ext; simp [ByteArray.data_append]
  have hlex : lexR (S ++ ⟨#[32]⟩ ++ T) = ([numT a 0, numT b (S.size + 1)], 0, 0) := by rw [hcat, hsize]; exact lexR_two a b ha0 ha1 hb0 hb1
  have heq : (S.toList == T.toList) = (a == b) := by
    have h1 : S.toList = Lib.itoa a := by rw [← hS, Lib.toList_data]
    have h2 : T.toList = Lib.itoa b := by rw [← hT, Lib.toList_data]
    rw [h1, h2]
    by_cases hab : a = b
    · subst hab; rw [beq_self_eq_true, beq_self_eq_true]
    · have : Lib.itoa a ≠ Lib.itoa b := fun e => hab (itoa_inj ha0 ha1 hb0 hb1 e)
      rw [beq_eq_false_iff_ne.2 this, beq_eq_false_iff_ne.2 hab]
  have hlen := itoa_len a ha0 ha1
  have hlen' := itoa_len b hb0 hb1
  have hSz : S.size ≤ 21 := by omega
  have hTz : T.size ≤ 21 := by rw [← hT]; simp [ByteArray.size]; omega
  have hL := fun w hG => Lex_any (S ++ ⟨#[32]⟩ ++ T) w hG (by rw [hcat]; simp [ByteArray.size]; omega)
  rw [hlex] at hL
  rw [hS] at hSa
  rw [hT] at hSb
  clear hcat hlex hS hT hlen hlen' hsize
  go_enter Tryd.func9, Tryd.ntmps9
  go_wp2_with (go_at_call 14; refine (lives_any _ hG).mono ?_; rintro e w1 ⟨rfl, b1⟩; refine Hid.out ?_)
  refine Lib.hid ?_
  have hG1 := hG.self b1
  go_wp2_with (go_at_call 12; refine (hSa _ hG1).mono ?_; rintro e w2 ⟨rfl, b2⟩; refine Hid.out ?_)
  refine Lib.hid ?_
  have hG2 := hG1.self b2
  go_wp2_with (go_at_call 12; refine (hSb _ hG2).mono ?_; rintro e w3 ⟨rfl, b3⟩; refine Hid.out ?_)
  refine Lib.hid ?_
  have hG3 := hG2.self b3
  go_wp2_with (go_at_call 10; refine (hL _ hG3).mono ?_; rintro e w4 ⟨v, rfl, hown, b4⟩; refine Hid.out ?_)
  refine Lib.hid ?_
  have hb := below_self (below_self (below_self b1 b2) b3) b4
  obtain ⟨ao, cap, rfl, hrow⟩ := own_slice (ts := [numT a 0, numT b (S.size + 1)]) hown
  obtain ⟨g, rfl, hBg, hg, hc⟩ := hrow.resolve_left (by simp)
  have c2 : w4.cell? ⟨g, 2, none⟩ = some (.int .i64 a) := hc 2 _ rfl
  have c6 : w4.cell? ⟨g, 6, none⟩ = some (.int .i64 b) := hc 6 _ rfl
  have c7 : w4.cell? ⟨g, 7, none⟩ = some (.int .i64 ((S.size + 1 : Nat) : Int)) := hc 7 _ rfl
  clear hrow hc hown hSa hSb hL b1 b2 b3 b4
  go_wp2_with fail
  go_ret
  exact ⟨rfl, hb⟩
end Go.Proofs.YtchilianbbkebaaDoor.lx
