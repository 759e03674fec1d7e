/-
  LexQuotes, for every text of at most 2^20 bytes and every number. Conditions: the package-level variables are laid.
-/
import Derived.Test.YtchilianbbkebaaDoorLives
import Derived.Test.YtchilianbbkebaaDoorQuotLaw
import Derived.Test.YtchilianbbkebaaDoorRows4
namespace Go.Proofs.YtchilianbbkebaaDoor.lx
open Go.RowKit

theorem utf8_enc (r : Nat) : (Utf8.encode (r : Int)).data.toList = Lib.encodeRune (r : Int) := by
  have h := Go.Extern.FmtText.encode_eq r
  unfold Lib.encodeRune
  rw [← h]
  unfold Go.Extern.FmtText.nums
  rw [List.map_map]
  refine (List.map_id _).symm.trans (List.map_congr_left fun b _ => ?_)
  simp
theorem utf8_size (r : Nat) : 1 ≤ (Utf8.encode (r : Int)).size ∧ (Utf8.encode (r : Int)).size ≤ 4 := by
  have := Lib.encodeRuneZ_length (r : Int)
  rw [Lib.size_eq, utf8_enc]
  simp only [Lib.encodeRune, List.length_map]
  exact this
theorem showF_ok {t : Tok} (h : showOk t) : showF t = (showS t, 0) := by rw [showF, if_pos h]
theorem showF_bad {t : Tok} (h : ¬ showOk t) : showF t = (⟨#[]⟩, 13) := by rw [showF, if_neg h]
theorem quot_ne {s x : ByteArray} (hx : x.size ≠ 0) (h1 : showOk ⟨5, s, 0, 0⟩) (h2 : showOk ⟨5, s ++ x, 0, 0⟩) : quotF (s ++ x) ≠ quotF s := by
  intro e
  have a := h1.2
  have b := h2.2
  have e1 : showS ⟨5, s, 0, 0⟩ = quotF s := rfl
  have e2 : showS ⟨5, s ++ x, 0, 0⟩ = quotF (s ++ x) := rfl
  rw [e1] at a
  rw [e2, e, a] at b
  have hs : s = s ++ x := congrArg Tok.s (List.cons.inj b).1
  have := congrArg ByteArray.size hs
  rw [ByteArray.size_append] at this
  omega

set_option maxHeartbeats 8000000 in
set_option maxRecDepth 100000 in
theorem Quotes_any (s : ByteArray) (r : Int) (w : World) (hG : Glob w) (hs : s.size ≤ 1048576) (hr0 : 0 ≤ r) (hr1 : r ≤ 4294967295) :
    Calls Tryd.prog 6 #[.string s, .int .u32 r] w fun e w' => e = .returned (.bool true) ∧ Below w.heap.size w w' := by
  have hS1 := fun w hG => Show_any ⟨5, s, 0, 0⟩ w hG (show s.size ≤ 1073741824 by omega) (show (-9223372036854775808 : Int) ≤ 0 by decide) (show (0 : Int) ≤ 9223372036854775807 by decide)
  by_cases hok : showOk ⟨5, s, 0, 0⟩
  · rw [showF_ok hok] at hS1
    obtain ⟨T, hT⟩ : ∃ T, quotF s = T := ⟨_, rfl⟩
    have e1 : showS ⟨5, s, 0, 0⟩ = T := hT
    rw [e1] at hS1
    simp only [Tok.v] at hS1
    have hTz : T.size ≤ 9223372036854775807 := by rw [← hT]; exact quotF_size s (by omega)
    obtain ⟨p, hR⟩ : ∃ p, lexR T = ([⟨5, s, 0, 0⟩], 0, p) := by
      obtain ⟨a, b⟩ := hok
      rw [e1] at a b
      exact ⟨(lexR T).2.2, Prod.ext b (Prod.ext a rfl)⟩
    have hL := fun w hG => Lex_any T w hG hTz
    rw [hR] at hL
    obtain ⟨X, hX⟩ : ∃ X : ByteArray, Utf8.encode (r % 55296) = X := ⟨_, rfl⟩
    have hXs : X.size ≠ 0 ∧ X.size ≤ 4 := by
      rw [← hX]
      have h1 := utf8_size (r % 55296).toNat
      rw [show (((r % 55296).toNat : Nat) : Int) = r % 55296 by omega] at h1
      omega
    have hXs1 : (Utf8.encode (r % 55296)).size ≤ 4 := by rw [hX]; exact hXs.2
    have hS2 := fun w hG => Show_any ⟨5, s ++ X, 0, 0⟩ w hG (show (s ++ X).size ≤ 1073741824 by rw [ByteArray.size_append]; omega) (show (-9223372036854775808 : Int) ≤ 0 by decide) (show (0 : Int) ≤ 9223372036854775807 by decide)
    obtain ⟨⟨U, z⟩, hU⟩ : ∃ F, showF ⟨5, s ++ X, 0, 0⟩ = F := ⟨_, rfl⟩
    rw [hU] at hS2
    simp only [Tok.v] at hS2
    have hend : (z != 0 || (U.toList != T.toList)) = true := by
      by_cases hok2 : showOk ⟨5, s ++ X, 0, 0⟩
      · rw [showF_ok hok2] at hU
        injection hU with h1 h2
        have : U ≠ T := by rw [← h1, ← hT]; exact quot_ne hXs.1 hok hok2
        have : U.toList ≠ T.toList := fun e => this (ByteArray.ext (Array.toList_inj.1 (by simpa [Lib.toList_data] using e)))
        rw [bne_iff_ne.2 this]
        simp
      · rw [showF_bad hok2] at hU
        injection hU with h1 h2
        rw [← h2]
        simp
    rw [← hX] at hS2
    have HE := Lib.hid hend
    clear hok e1 hT hR hXs hU hend
    clear hX X
    go_enter Tryd.func6, Tryd.ntmps6
    go_wp2_with (go_at_call 14; refine (lives_any _ hG).mono ?_; rintro e w1 ⟨rfl, b1⟩; refine Hid.out ?_)
    refine Lib.hid ?_
    have hG1 := hG.self b1
    go_wp2_with (go_at_call 12; refine (hS1 _ hG1).mono ?_; rintro e w2 ⟨rfl, b2⟩; refine Hid.out ?_)
    refine Lib.hid ?_
    have hG2 := hG1.self b2
    go_wp2_with (go_at_call 10; refine (hL _ hG2).mono ?_; rintro e w3 ⟨v, rfl, hown, b3⟩; refine Hid.out ?_)
    refine Lib.hid ?_
    have hG3 := hG2.self b3
    have hb := below_self (below_self b1 b2) b3
    obtain ⟨ao, cap, rfl, hrow⟩ := own_row hown
    obtain ⟨g, rfl, c0, c1, c2, c3⟩ := hrow.at (i := 0) (t := ⟨5, s, 0, 0⟩) rfl
    simp only at c0 c1 c2 c3
    clear hown hrow hL b1 b2 b3 hS1
    go_wp2_with (go_at_call 12; refine (hS2 _ hG3).mono ?_; rintro e w4 ⟨rfl, b4⟩; refine Hid.out ?_)
    refine Lib.hid ?_
    have hb4 := below_self hb b4
    clear hS2 b4 hb
    by_cases hz : z = 0
    · subst hz
      have hU : (!U.toList == T.toList) = true := by
        have := HE.out
        simpa using this
      have HU := Lib.hid hU
      clear hU
      go_wp2_with fail
      go_ret
      exact ⟨ret_bool HU.out, hb4⟩
    · have hz : (z != 0) = true := by simp [hz]
      go_wp2_with fail
      go_ret
      exact ⟨rfl, hb4⟩
  · rw [showF_bad hok] at hS1
    simp only [Tok.v] at hS1
    clear hok
    go_enter Tryd.func6, Tryd.ntmps6
    go_wp2_with (go_at_call 14; refine (lives_any _ hG).mono ?_; rintro e w1 ⟨rfl, b1⟩; refine Hid.out ?_)
    refine Lib.hid ?_
    have hG1 := hG.self b1
    go_wp2_with (go_at_call 12; refine (hS1 _ hG1).mono ?_; rintro e w2 ⟨rfl, b2⟩; refine Hid.out ?_)
    refine Lib.hid ?_
    have hb := below_self b1 b2
    clear hS1
    go_wp2_with fail
    go_ret
    exact ⟨rfl, hb⟩
end Go.Proofs.YtchilianbbkebaaDoor.lx
