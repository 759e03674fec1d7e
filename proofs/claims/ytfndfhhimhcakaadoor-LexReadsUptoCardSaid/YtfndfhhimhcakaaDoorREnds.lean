/-
  The reference's ends, digit, hex, escape. Conditions: the row lies there.
-/
import Derived.Test.YtfndfhhimhcakaaDoorRText
namespace Go.Proofs.YtfndfhhimhcakaaDoor.lx
open Go.RowKit

theorem blanks_len (gs : List G) (n : Nat) (hn : gs.length = n) (ao : Option Addr) (cap : Nat) (w : World) (hR : GRow ao gs w) (hl : gs.length ≤ 1099511627776) :
    Calls Tryd.prog 13 #[.slice ao n cap] w fun e w' => e = .returned (.int .i64 (blankN gs)) ∧ w = w' := by
  subst hn
  exact blanks_any gs ao cap w hR hl
theorem blankN_zero {g : G} {gs : List G} (h : (noted false g.1 || blankR g.1) = false) : blankN (g :: gs) = 0 := by
  rw [blankN, skipG, if_neg (by simp [h])]
  simp
theorem blankN_pos {g : G} {gs : List G} (h : (noted false g.1 || blankR g.1) = true) : blankN (g :: gs) ≠ 0 := by
  rw [blankN, skipG, if_pos h]
  have := skipG_length gs (noted false g.1)
  simp
  omega
theorem bareG_cons (g : G) (gs : List G) : bareG (g :: gs) = if endR g.1 = true then [] else g :: bareG gs := by
  unfold bareG
  rw [List.takeWhile_cons]
  cases endR g.1 <;> rfl

set_option maxHeartbeats 8000000 in
set_option maxRecDepth 100000 in
theorem ends_any (gs : List G) (ao : Option Addr) (cap : Nat) (w : World) (hR : GRow ao gs w) (hl : gs.length ≤ 1048576) (hc : gs.length ≤ cap) (hm : cap ≤ 9223372036854775807) :
    Calls Tryd.prog 39 #[.slice ao gs.length cap] w fun e w' => e = .returned (.int .i64 (bareG gs).length) ∧ w = w' := by
  go_enter Tryd.func39, Tryd.ntmps39
  go_wp2_with fail
  go_loop [3] (fun v => ∃ k : Nat, v = .int .i64 k ∧ k ≤ gs.length ∧ Hid ((bareG gs).length = k + (bareG (gs.drop k)).length)) (fun v => gs.length - (intOf v).toNat)
  case atStart => exact ⟨0, rfl, Nat.zero_le _, Lib.hid (by simp)⟩
  case round =>
    obtain ⟨k, rfl, hk, HT⟩ := hrel
    by_cases hlt : k < gs.length
    · obtain ⟨g, hg⟩ : ∃ g, gs[k]? = some g := ⟨_, List.getElem?_eq_getElem hlt⟩
      obtain ⟨b, o, rfl, c0, c1⟩ := hR.at hg
      have hRd := hR.drop k
      have hd : gs.drop k = g :: gs.drop (k + 1) := by
        rw [List.drop_eq_getElem_cons hlt]
        congr 1
        exact Option.some.inj ((List.getElem?_eq_getElem hlt).symm.trans hg)
      have hbl := fun w hR => blanks_len (gs.drop k) (gs.length - k) (List.length_drop) (some ⟨b, o + k * 2, none⟩) (cap - k) w hR (by rw [List.length_drop]; omega)
      have hst := HT.out
      rw [hd, bareG_cons] at hst
      obtain ⟨r, ok⟩ := g
      simp only at hst c0 c1
      by_cases hend : endR r = true
      · rw [if_pos hend] at hst
        have HF : Hid ((k : Int) = ((bareG gs).length : Int)) := Lib.hid (by rw [hst]; simp)
        by_cases hbk : (noted false r || blankR r) = true
        · have hnz : ((blankN (gs.drop k) : Int) == 0) = false := by
            have := blankN_pos (gs := gs.drop (k + 1)) (g := (r, ok)) hbk
            rw [← hd] at this
            simp; omega
          clear hg hd hst hend hbk HT c1
          go_wp2_with (go_at_call 13; refine (hbl _ hRd).mono ?_; rintro e w2 ⟨rfl, rfl⟩)
          go_ret
          exact ⟨ret_int HF.out, rfl⟩
        · have hz := blankN_zero (gs := gs.drop (k + 1)) (g := (r, ok)) (by simpa using hbk)
          rw [← hd] at hz
          rw [hz] at hbl
          have h3 : r = 40 ∨ r = 41 ∨ r = 34 := by
            rw [endR_iff] at hend
            simp [noted, blankR] at hbk
            omega
          clear hg hd hst hend hbk HT c1 hz
          rcases h3 with h3 | h3 | h3
          · have e1 : (r != 40) = false := by simp [h3]
            clear h3
            go_wp2_with (go_at_call 13; refine (hbl _ hRd).mono ?_; rintro e w2 ⟨rfl, rfl⟩)
            go_ret
            exact ⟨ret_int HF.out, rfl⟩
          · have e1 : (r != 40) = true := by simp [h3]
            have e2 : (r != 41) = false := by simp [h3]
            clear h3
            go_wp2_with (go_at_call 13; refine (hbl _ hRd).mono ?_; rintro e w2 ⟨rfl, rfl⟩)
            go_ret
            exact ⟨ret_int HF.out, rfl⟩
          · have e1 : (r != 40) = true := by simp [h3]
            have e2 : (r != 41) = true := by simp [h3]
            have e3 : (r != 34) = false := by simp [h3]
            clear h3
            go_wp2_with (go_at_call 13; refine (hbl _ hRd).mono ?_; rintro e w2 ⟨rfl, rfl⟩)
            go_ret
            exact ⟨ret_int HF.out, rfl⟩
      · rw [if_neg hend] at hst
        have HN : Hid ((bareG gs).length = k + 1 + (bareG (gs.drop (k + 1))).length) := Lib.hid (by rw [hst]; simp; omega)
        have hbk : (noted false r || blankR r) = false := by
          cases hh : (noted false r || blankR r) with
          | false => rfl
          | true =>
            exfalso
            apply hend
            rw [endR_iff]
            simp [noted, blankR] at hh
            omega
        have hz := blankN_zero (gs := gs.drop (k + 1)) (g := (r, ok)) hbk
        rw [← hd] at hz
        rw [hz] at hbl
        rw [endR_iff] at hend
        have e1 : (r != 40) = true := by simp; omega
        have e2 : (r != 41) = true := by simp; omega
        have e3 : (r != 34) = true := by simp; omega
        clear hg hd hst hend hbk HT c1 hz
        go_wp2_with (go_at_call 13; refine (hbl _ hRd).mono ?_; rintro e w2 ⟨rfl, rfl⟩)
        go_round
        case rel => exact ⟨k + 1, by go_num, by omega, HN⟩
        case measure => simp [intOf]; omega
    · have HF : Hid ((k : Int) = ((bareG gs).length : Int)) := Lib.hid (by
        have := HT.out
        rw [List.drop_of_length_le (by omega)] at this
        rw [this]; simp [bareG])
      clear HT
      go_wp2_with fail
      go_ret
      exact ⟨ret_int HF.out, rfl⟩

set_option maxRecDepth 100000 in
theorem rdigit_any (r : Int) (w : World) :
    Calls Tryd.prog 40 #[.int .i32 r] w fun e w' => e = .returned (.bool (decide (48 ≤ r ∧ r ≤ 57))) ∧ w = w' := by
  by_cases h1 : 48 ≤ r
  · by_cases h2 : r ≤ 57
    · have hd : decide (48 ≤ r ∧ r ≤ 57) = true := by simp; omega
      rw [hd]
      clear hd
      go_enter Tryd.func40, Tryd.ntmps40
      go_wp2_with fail
      go_ret
      exact ⟨rfl, rfl⟩
    · have hd : decide (48 ≤ r ∧ r ≤ 57) = false := by simp; omega
      have h2' : ¬ r ≤ 57 := h2
      rw [hd]
      clear hd
      go_enter Tryd.func40, Tryd.ntmps40
      go_wp2_with fail
      go_ret
      exact ⟨rfl, rfl⟩
  · have hd : decide (48 ≤ r ∧ r ≤ 57) = false := by simp; omega
    rw [hd]
    clear hd
    go_enter Tryd.func40, Tryd.ntmps40
    go_wp2_with fail
    go_ret
    exact ⟨rfl, rfl⟩

/-- a digit's number; 16: it is none -/
def hexV (r : Int) : Int := if isHexR r = true then hexR r else 16
set_option maxRecDepth 100000 in
theorem rhex_any (r : Int) (w : World) (h0 : 0 ≤ r) (h1 : r ≤ 1114111) :
    Calls Tryd.prog 53 #[.int .i32 r] w fun e w' => e = .returned (.int .i32 (hexV r)) ∧ w = w' := by
  by_cases hd : 48 ≤ r ∧ r ≤ 57
  · have hv : hexV r = r - 48 := by
      rw [hexV, if_pos (by simp [isHexR]; omega), hexR, if_pos hd.2]
      omega
    have hb : decide (48 ≤ r ∧ r ≤ 57) = true := by simp; omega
    have hdg := rdigit_any r w
    rw [hb] at hdg
    rw [hv]
    have h48 := hd.1
    clear hv hb hd
    go_enter Tryd.func53, Tryd.ntmps53
    go_wp2_with (go_at_call 40; refine hdg.mono ?_; rintro e w2 ⟨rfl, rfl⟩)
    go_ret
    exact ⟨rfl, rfl⟩
  · have hb : decide (48 ≤ r ∧ r ≤ 57) = false := by simp; omega
    have hdg := rdigit_any r w
    rw [hb] at hdg
    by_cases h97 : 97 ≤ r
    · by_cases h102 : r ≤ 102
      · have hv : hexV r = r - 97 + 10 := by
          rw [hexV, if_pos (by simp [isHexR]; omega), hexR, if_neg (by omega)]
          omega
        rw [hv]
        clear hv hb hd
        go_enter Tryd.func53, Tryd.ntmps53
        go_wp2_with (go_at_call 40; refine hdg.mono ?_; rintro e w2 ⟨rfl, rfl⟩)
        go_ret
        exact ⟨rfl, rfl⟩
      · have hv : hexV r = 16 := by
          rw [hexV, if_neg (by simp [isHexR]; omega)]
        rw [hv]
        clear hv hb hd
        go_enter Tryd.func53, Tryd.ntmps53
        go_wp2_with (go_at_call 40; refine hdg.mono ?_; rintro e w2 ⟨rfl, rfl⟩)
        go_ret
        exact ⟨rfl, rfl⟩
    · have hv : hexV r = 16 := by
        rw [hexV, if_neg (by simp [isHexR]; omega)]
      rw [hv]
      clear hv hb hd
      go_enter Tryd.func53, Tryd.ntmps53
      go_wp2_with (go_at_call 40; refine hdg.mono ?_; rintro e w2 ⟨rfl, rfl⟩)
      go_ret
      exact ⟨rfl, rfl⟩
end Go.Proofs.YtfndfhhimhcakaaDoor.lx
