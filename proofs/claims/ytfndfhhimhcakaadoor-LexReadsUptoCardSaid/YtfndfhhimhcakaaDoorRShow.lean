/-
  The reference's Show, for every token (a text of at most 2^30 bytes): what Show shows. No other condition.
-/
import Derived.Test.YtfndfhhimhcakaaDoorRLex
import Derived.Test.YtfndfhhimhcakaaDoorRQuotS
import Derived.Test.YtfndfhhimhcakaaDoorRNumber
namespace Go.Proofs.YtfndfhhimhcakaaDoor.lx
open Go.RowKit

theorem show_yes {t u : Tok} {S F} {p : Int} (hF : showF t = F) (hS : showS t = S) (hR : lexR S = ([u], 0, p)) (h : u = t.at 0) : Ending.returned (.tuple #[.string S, .int .i64 0]) = .returned (.tuple #[.string F.1, .int .i64 F.2]) := by
  rw [← hF, showF, if_pos (by rw [showOk, hS, hR, h]; exact ⟨rfl, rfl⟩), hS]
theorem show_no {t : Tok} {S F} (hF : showF t = F) (hS : showS t = S) (h : ¬ ((lexR S).2.1 = 0 ∧ (lexR S).1 = [t.at 0])) : Ending.returned (.tuple #[.string ⟨#[]⟩, .int .i64 13]) = .returned (.tuple #[.string F.1, .int .i64 F.2]) := by
  rw [← hF, showF, if_neg (by rw [showOk, hS]; exact h)]

set_option maxHeartbeats 16000000 in
set_option maxRecDepth 100000 in
theorem rShow_any (t : Tok) (w : World) (hs : t.s.size ≤ 1073741824) (hn0 : -9223372036854775808 ≤ t.n) (hn1 : t.n ≤ 9223372036854775807) :
    Calls Tryd.prog 7 #[t.v] w fun e w' => e = .returned (.tuple #[.string (showF t).1, .int .i64 (showF t).2]) ∧ Below w.heap.size w w' := by
  obtain ⟨S, hS⟩ : ∃ S, showS t = S := ⟨_, rfl⟩
  obtain ⟨F, hF⟩ : ∃ F, showF t = F := ⟨_, rfl⟩
  rw [hF]
  obtain ⟨k, s, n, a⟩ := t
  obtain ⟨⟨L, y, p⟩, hR⟩ : ∃ R, lexR S = R := ⟨_, rfl⟩
  have hLA := rLex_any S
  rw [hR] at hLA
  have hno := show_no hF hS
  rw [hR] at hno
  simp only at hs hLA hn0 hn1 hno
  unfold Tok.v
  by_cases h1 : k = 1
  · subst h1
    have hS1 : S = ⟨#[40]⟩ := by rw [← hS]; rfl
    subst hS1
    have hb0 : Below w.heap.size w (w.alloc (.cells #[.int .u8 1, .string s, .int .i64 n, .int .i64 a] 24)) := (Below.refl _ w).alloc (Nat.le_refl _) _
    have hcell : Cell4 w.heap.size ⟨1, s, n, a⟩ (w.alloc (.cells #[.int .u8 1, .string s, .int .i64 n, .int .i64 a] 24)) := by
      unfold Cell4; rw [heap_alloc_new]
    go_enter Tryd.func7, Tryd.ntmps7
    go_wp2_with (go_at_call 5; refine (hLA _ (by decide)).mono ?_; rintro e w2 ⟨v, rfl, hown, hb⟩; refine Hid.out ?_)
    refine Lib.hid ?_
    have hcell2 := hcell.below hb (by simp)
    have hb2 := below_self hb0 hb
    obtain ⟨ao, cap, rfl, hrow⟩ := own_slice hown
    have c0 := hcell2.c0
    have c1 := hcell2.c1
    have c2 := hcell2.c2
    have c3 := hcell2.c3
    clear hcell hcell2 hLA
    by_cases hy : y = 0
    · subst hy
      by_cases hn : L.length = 1
      · obtain ⟨u, rfl⟩ : ∃ u, L = [u] := List.length_eq_one_iff.1 hn
        obtain ⟨g, rfl, hg⟩ := hrow.resolve_left (by omega)
        have d0 := hg.2.2 0 _ rfl
        have d1 := hg.2.2 1 _ rfl
        have d2 := hg.2.2 2 _ rfl
        have d3 := hg.2.2 3 _ rfl
        clear hrow hg hown hn
        obtain ⟨uk, us, un, ua⟩ := u
        simp only at d0 d1 d2 d3
        by_cases k1 : uk = 1
        · have e1 : (uk != 1) = false := by simp [k1]
          by_cases k2 : us = s
          · have e2 : (us.toList != s.toList) = false := by simp [k2]
            by_cases k3 : un = n
            · have e3 : (un != n) = false := by simp [k3]
              by_cases k4 : ua = 0
              · have e4 : (ua != 0) = false := by simp [k4]
                have HY := Lib.hid (show_yes hF hS hR (by rw [k1, k2, k3, k4]; rfl))
                go_wp2_with fail
                go_quiet (fail)
                go_wp2_with fail
                go_ret2
                exact ⟨HY.out, below_drewN hb2 _⟩
              · have e4 : (ua != 0) = true := by simp [k4]
                go_wp2_with fail
                go_quiet (fail)
                go_wp2_with fail
                go_ret2
                exact ⟨hno (fun h => by have := h.2; injection this with h1 h2; injection h1 with h3 h4 h5 h6; exact k4 h6), below_drewN hb2 _⟩
            · have e3 : (un != n) = true := by simp [k3]
              go_wp2_with fail
              go_quiet (fail)
              go_wp2_with fail
              go_ret2
              exact ⟨hno (fun h => by have := h.2; injection this with h1 h2; injection h1 with h3 h4 h5 h6; exact k3 h5), below_drewN hb2 _⟩
          · have e20 : us.toList ≠ s.toList := fun e => k2 (ByteArray.ext (Array.toList_inj.1 (by simpa [Lib.toList_data] using e)))
            have e2 : (us.toList != s.toList) = true := by simp [e20]
            have e2b : (us.toList == s.toList) = false := by simp [e20]
            have e2c : (!us.toList == s.toList) = true := by simp [e20]
            clear e20
            go_wp2_with fail
            go_quiet (fail)
            go_wp2_with fail
            go_ret2
            exact ⟨hno (fun h => by have := h.2; injection this with h1 h2; injection h1 with h3 h4 h5 h6; exact k2 h4), below_drewN hb2 _⟩
        · have e1 : (uk != 1) = true := by simp [k1]
          go_wp2_with fail
          go_quiet (fail)
          go_wp2_with fail
          go_ret2
          exact ⟨hno (fun h => by have := h.2; injection this with h1 h2; injection h1 with h3 h4 h5 h6; exact k1 h3), below_drewN hb2 _⟩
      · have hnb : ((L.length : Int) != 1) = true := by simp; omega
        go_wp2_with fail
        go_quiet (fail)
        go_wp2_with fail
        go_ret2
        exact ⟨hno (fun h => by rw [h.2] at hn; exact hn rfl), below_drewN hb2 _⟩
    · have hyb : (y != 0) = true := by simp [hy]
      go_wp2_with fail
      go_quiet (fail)
      go_wp2_with fail
      go_ret2
      exact ⟨hno (fun h => hy h.1), below_drewN hb2 _⟩
  by_cases h2 : k = 2
  · subst h2
    have hS1 : S = ⟨#[41]⟩ := by rw [← hS]; rfl
    subst hS1
    have hb0 : Below w.heap.size w (w.alloc (.cells #[.int .u8 2, .string s, .int .i64 n, .int .i64 a] 24)) := (Below.refl _ w).alloc (Nat.le_refl _) _
    have hcell : Cell4 w.heap.size ⟨2, s, n, a⟩ (w.alloc (.cells #[.int .u8 2, .string s, .int .i64 n, .int .i64 a] 24)) := by
      unfold Cell4; rw [heap_alloc_new]
    go_enter Tryd.func7, Tryd.ntmps7
    go_wp2_with (go_at_call 5; refine (hLA _ (by decide)).mono ?_; rintro e w2 ⟨v, rfl, hown, hb⟩; refine Hid.out ?_)
    refine Lib.hid ?_
    have hcell2 := hcell.below hb (by simp)
    have hb2 := below_self hb0 hb
    obtain ⟨ao, cap, rfl, hrow⟩ := own_slice hown
    have c0 := hcell2.c0
    have c1 := hcell2.c1
    have c2 := hcell2.c2
    have c3 := hcell2.c3
    clear hcell hcell2 hLA
    by_cases hy : y = 0
    · subst hy
      by_cases hn : L.length = 1
      · obtain ⟨u, rfl⟩ : ∃ u, L = [u] := List.length_eq_one_iff.1 hn
        obtain ⟨g, rfl, hg⟩ := hrow.resolve_left (by omega)
        have d0 := hg.2.2 0 _ rfl
        have d1 := hg.2.2 1 _ rfl
        have d2 := hg.2.2 2 _ rfl
        have d3 := hg.2.2 3 _ rfl
        clear hrow hg hown hn
        obtain ⟨uk, us, un, ua⟩ := u
        simp only at d0 d1 d2 d3
        by_cases k1 : uk = 2
        · have e1 : (uk != 2) = false := by simp [k1]
          by_cases k2 : us = s
          · have e2 : (us.toList != s.toList) = false := by simp [k2]
            by_cases k3 : un = n
            · have e3 : (un != n) = false := by simp [k3]
              by_cases k4 : ua = 0
              · have e4 : (ua != 0) = false := by simp [k4]
                have HY := Lib.hid (show_yes hF hS hR (by rw [k1, k2, k3, k4]; rfl))
                go_wp2_with fail
                go_quiet (fail)
                go_wp2_with fail
                go_ret2
                exact ⟨HY.out, below_drewN hb2 _⟩
              · have e4 : (ua != 0) = true := by simp [k4]
                go_wp2_with fail
                go_quiet (fail)
                go_wp2_with fail
                go_ret2
                exact ⟨hno (fun h => by have := h.2; injection this with h1 h2; injection h1 with h3 h4 h5 h6; exact k4 h6), below_drewN hb2 _⟩
            · have e3 : (un != n) = true := by simp [k3]
              go_wp2_with fail
              go_quiet (fail)
              go_wp2_with fail
              go_ret2
              exact ⟨hno (fun h => by have := h.2; injection this with h1 h2; injection h1 with h3 h4 h5 h6; exact k3 h5), below_drewN hb2 _⟩
          · have e20 : us.toList ≠ s.toList := fun e => k2 (ByteArray.ext (Array.toList_inj.1 (by simpa [Lib.toList_data] using e)))
            have e2 : (us.toList != s.toList) = true := by simp [e20]
            have e2b : (us.toList == s.toList) = false := by simp [e20]
            have e2c : (!us.toList == s.toList) = true := by simp [e20]
            clear e20
            go_wp2_with fail
            go_quiet (fail)
            go_wp2_with fail
            go_ret2
            exact ⟨hno (fun h => by have := h.2; injection this with h1 h2; injection h1 with h3 h4 h5 h6; exact k2 h4), below_drewN hb2 _⟩
        · have e1 : (uk != 2) = true := by simp [k1]
          go_wp2_with fail
          go_quiet (fail)
          go_wp2_with fail
          go_ret2
          exact ⟨hno (fun h => by have := h.2; injection this with h1 h2; injection h1 with h3 h4 h5 h6; exact k1 h3), below_drewN hb2 _⟩
      · have hnb : ((L.length : Int) != 1) = true := by simp; omega
        go_wp2_with fail
        go_quiet (fail)
        go_wp2_with fail
        go_ret2
        exact ⟨hno (fun h => by rw [h.2] at hn; exact hn rfl), below_drewN hb2 _⟩
    · have hyb : (y != 0) = true := by simp [hy]
      go_wp2_with fail
      go_quiet (fail)
      go_wp2_with fail
      go_ret2
      exact ⟨hno (fun h => hy h.1), below_drewN hb2 _⟩
  by_cases h4 : k = 4
  · subst h4
    have hS1 : S = ⟨(Lib.itoa n).toArray⟩ := by rw [← hS]; rfl
    have hb0 : Below w.heap.size w (w.alloc (.cells #[.int .u8 4, .string s, .int .i64 n, .int .i64 a] 24)) := (Below.refl _ w).alloc (Nat.le_refl _) _
    have hcell0 : Cell4 w.heap.size ⟨4, s, n, a⟩ (w.alloc (.cells #[.int .u8 4, .string s, .int .i64 n, .int .i64 a] 24)) := by
      unfold Cell4; rw [heap_alloc_new]
    rw [hS1] at hLA
    go_enter Tryd.func7, Tryd.ntmps7
    go_wp2_with (go_at_call 17; refine (rNumber_any n _ hn0 hn1).mono ?_; rintro e w1 ⟨rfl, rfl⟩; refine Hid.out ?_)
    refine Lib.hid ?_
    have hcell := hcell0
    have hbk := hb0
    have hlt := (Array.getElem?_eq_some_iff.1 hcell).1
    clear hcell0 hb0
    go_wp2_with (go_at_call 5; refine (hLA _ (itoa_size n hn0 hn1)).mono ?_; rintro e w2 ⟨v, rfl, hown, hb⟩; refine Hid.out ?_)
    refine Lib.hid ?_
    have hcell2 := hcell.below hb (by simp)
    have hb2 := below_then hbk (by have := hbk.size; omega) hb
    clear hbk hb
    obtain ⟨ao, cap, rfl, hrow⟩ := own_slice hown
    have c0 := hcell2.c0
    have c1 := hcell2.c1
    have c2 := hcell2.c2
    have c3 := hcell2.c3
    clear hcell hcell2 hLA
    by_cases hy : y = 0
    · subst hy
      by_cases hn : L.length = 1
      · obtain ⟨u, rfl⟩ : ∃ u, L = [u] := List.length_eq_one_iff.1 hn
        obtain ⟨g, rfl, hg⟩ := hrow.resolve_left (by omega)
        have d0 := hg.2.2 0 _ rfl
        have d1 := hg.2.2 1 _ rfl
        have d2 := hg.2.2 2 _ rfl
        have d3 := hg.2.2 3 _ rfl
        clear hrow hg hown hn
        obtain ⟨uk, us, un, ua⟩ := u
        simp only at d0 d1 d2 d3
        by_cases k1 : uk = 4
        · have e1 : (uk != 4) = false := by simp [k1]
          by_cases k2 : us = s
          · have e2 : (us.toList != s.toList) = false := by simp [k2]
            by_cases k3 : un = n
            · have e3 : (un != n) = false := by simp [k3]
              by_cases k4 : ua = 0
              · have e4 : (ua != 0) = false := by simp [k4]
                have HY := Lib.hid (show_yes hF hS hR (by rw [k1, k2, k3, k4]; rfl))
                go_wp2_with fail
                go_quiet (fail)
                go_wp2_with fail
                go_ret2
                exact ⟨by rw [← hS1]; exact HY.out, below_drewN hb2 _⟩
              · have e4 : (ua != 0) = true := by simp [k4]
                go_wp2_with fail
                go_quiet (fail)
                go_wp2_with fail
                go_ret2
                exact ⟨hno (fun h => by have := h.2; injection this with h1 h2; injection h1 with h3 h4 h5 h6; exact k4 h6), below_drewN hb2 _⟩
            · have e3 : (un != n) = true := by simp [k3]
              go_wp2_with fail
              go_quiet (fail)
              go_wp2_with fail
              go_ret2
              exact ⟨hno (fun h => by have := h.2; injection this with h1 h2; injection h1 with h3 h4 h5 h6; exact k3 h5), below_drewN hb2 _⟩
          · have e20 : us.toList ≠ s.toList := fun e => k2 (ByteArray.ext (Array.toList_inj.1 (by simpa [Lib.toList_data] using e)))
            have e2 : (us.toList != s.toList) = true := by simp [e20]
            have e2b : (us.toList == s.toList) = false := by simp [e20]
            have e2c : (!us.toList == s.toList) = true := by simp [e20]
            clear e20
            go_wp2_with fail
            go_quiet (fail)
            go_wp2_with fail
            go_ret2
            exact ⟨hno (fun h => by have := h.2; injection this with h1 h2; injection h1 with h3 h4 h5 h6; exact k2 h4), below_drewN hb2 _⟩
        · have e1 : (uk != 4) = true := by simp [k1]
          go_wp2_with fail
          go_quiet (fail)
          go_wp2_with fail
          go_ret2
          exact ⟨hno (fun h => by have := h.2; injection this with h1 h2; injection h1 with h3 h4 h5 h6; exact k1 h3), below_drewN hb2 _⟩
      · have hnb : ((L.length : Int) != 1) = true := by simp; omega
        go_wp2_with fail
        go_quiet (fail)
        go_wp2_with fail
        go_ret2
        exact ⟨hno (fun h => by rw [h.2] at hn; exact hn rfl), below_drewN hb2 _⟩
    · have hyb : (y != 0) = true := by simp [hy]
      go_wp2_with fail
      go_quiet (fail)
      go_wp2_with fail
      go_ret2
      exact ⟨hno (fun h => hy h.1), below_drewN hb2 _⟩
  by_cases h5 : k = 5
  · subst h5
    have hS1 : S = quotF s := by rw [← hS]; rfl
    have hb0 : Below w.heap.size w (w.alloc (.cells #[.int .u8 5, .string s, .int .i64 n, .int .i64 a] 24)) := (Below.refl _ w).alloc (Nat.le_refl _) _
    have hcell0 : Cell4 w.heap.size ⟨5, s, n, a⟩ (w.alloc (.cells #[.int .u8 5, .string s, .int .i64 n, .int .i64 a] 24)) := by
      unfold Cell4; rw [heap_alloc_new]
    rw [hS1] at hLA
    go_enter Tryd.func7, Tryd.ntmps7
    go_wp2_with (go_at_call 18; refine (rQuoted_any s _ (by omega)).mono ?_; rintro e w1 ⟨rfl, hb⟩; refine Hid.out ?_)
    refine Lib.hid ?_
    have hcell := hcell0.below hb (by simp)
    have hbk := below_self hb0 hb
    have hlt := (Array.getElem?_eq_some_iff.1 hcell).1
    clear hcell0 hb0 hb
    go_wp2_with (go_at_call 5; refine (hLA _ (quotF_size s hs)).mono ?_; rintro e w2 ⟨v, rfl, hown, hb⟩; refine Hid.out ?_)
    refine Lib.hid ?_
    have hcell2 := hcell.below hb hlt
    have hb2 := below_then hbk (by have := hbk.size; omega) hb
    clear hbk hb
    obtain ⟨ao, cap, rfl, hrow⟩ := own_slice hown
    have c0 := hcell2.c0
    have c1 := hcell2.c1
    have c2 := hcell2.c2
    have c3 := hcell2.c3
    clear hcell hcell2 hLA
    by_cases hy : y = 0
    · subst hy
      by_cases hn : L.length = 1
      · obtain ⟨u, rfl⟩ : ∃ u, L = [u] := List.length_eq_one_iff.1 hn
        obtain ⟨g, rfl, hg⟩ := hrow.resolve_left (by omega)
        have d0 := hg.2.2 0 _ rfl
        have d1 := hg.2.2 1 _ rfl
        have d2 := hg.2.2 2 _ rfl
        have d3 := hg.2.2 3 _ rfl
        clear hrow hg hown hn
        obtain ⟨uk, us, un, ua⟩ := u
        simp only at d0 d1 d2 d3
        by_cases k1 : uk = 5
        · have e1 : (uk != 5) = false := by simp [k1]
          by_cases k2 : us = s
          · have e2 : (us.toList != s.toList) = false := by simp [k2]
            by_cases k3 : un = n
            · have e3 : (un != n) = false := by simp [k3]
              by_cases k4 : ua = 0
              · have e4 : (ua != 0) = false := by simp [k4]
                have HY := Lib.hid (show_yes hF hS hR (by rw [k1, k2, k3, k4]; rfl))
                go_wp2_with fail
                go_quiet (fail)
                go_wp2_with fail
                go_ret2
                exact ⟨by rw [← hS1]; exact HY.out, below_drewN hb2 _⟩
              · have e4 : (ua != 0) = true := by simp [k4]
                go_wp2_with fail
                go_quiet (fail)
                go_wp2_with fail
                go_ret2
                exact ⟨hno (fun h => by have := h.2; injection this with h1 h2; injection h1 with h3 h4 h5 h6; exact k4 h6), below_drewN hb2 _⟩
            · have e3 : (un != n) = true := by simp [k3]
              go_wp2_with fail
              go_quiet (fail)
              go_wp2_with fail
              go_ret2
              exact ⟨hno (fun h => by have := h.2; injection this with h1 h2; injection h1 with h3 h4 h5 h6; exact k3 h5), below_drewN hb2 _⟩
          · have e20 : us.toList ≠ s.toList := fun e => k2 (ByteArray.ext (Array.toList_inj.1 (by simpa [Lib.toList_data] using e)))
            have e2 : (us.toList != s.toList) = true := by simp [e20]
            have e2b : (us.toList == s.toList) = false := by simp [e20]
            have e2c : (!us.toList == s.toList) = true := by simp [e20]
            clear e20
            go_wp2_with fail
            go_quiet (fail)
            go_wp2_with fail
            go_ret2
            exact ⟨hno (fun h => by have := h.2; injection this with h1 h2; injection h1 with h3 h4 h5 h6; exact k2 h4), below_drewN hb2 _⟩
        · have e1 : (uk != 5) = true := by simp [k1]
          go_wp2_with fail
          go_quiet (fail)
          go_wp2_with fail
          go_ret2
          exact ⟨hno (fun h => by have := h.2; injection this with h1 h2; injection h1 with h3 h4 h5 h6; exact k1 h3), below_drewN hb2 _⟩
      · have hnb : ((L.length : Int) != 1) = true := by simp; omega
        go_wp2_with fail
        go_quiet (fail)
        go_wp2_with fail
        go_ret2
        exact ⟨hno (fun h => by rw [h.2] at hn; exact hn rfl), below_drewN hb2 _⟩
    · have hyb : (y != 0) = true := by simp [hy]
      go_wp2_with fail
      go_quiet (fail)
      go_wp2_with fail
      go_ret2
      exact ⟨hno (fun h => hy h.1), below_drewN hb2 _⟩
  have hS1 : S = s := by rw [← hS, showS, if_neg h1, if_neg h2, if_neg h4, if_neg h5]
  have e1k : (k == 1) = false := by simp [h1]
  have e2k : (k == 2) = false := by simp [h2]
  have e4k : (k == 4) = false := by simp [h4]
  have e5k : (k == 5) = false := by simp [h5]
  have hb0 : Below w.heap.size w (w.alloc (.cells #[.int .u8 k, .string s, .int .i64 n, .int .i64 a] 24)) := (Below.refl _ w).alloc (Nat.le_refl _) _
  have hcell : Cell4 w.heap.size ⟨k, s, n, a⟩ (w.alloc (.cells #[.int .u8 k, .string s, .int .i64 n, .int .i64 a] 24)) := by
    unfold Cell4; rw [heap_alloc_new]
  rw [hS1] at hLA
  go_enter Tryd.func7, Tryd.ntmps7
  go_wp2_with (go_at_call 5; refine (hLA _ (by omega)).mono ?_; rintro e w2 ⟨v, rfl, hown, hb⟩; refine Hid.out ?_)
  refine Lib.hid ?_
  have hcell2 := hcell.below hb (by simp)
  have hb2 := below_self hb0 hb
  obtain ⟨ao, cap, rfl, hrow⟩ := own_slice hown
  have c0 := hcell2.c0
  have c1 := hcell2.c1
  have c2 := hcell2.c2
  have c3 := hcell2.c3
  clear hcell hcell2 hLA
  by_cases hy : y = 0
  · subst hy
    by_cases hn : L.length = 1
    · obtain ⟨u, rfl⟩ : ∃ u, L = [u] := List.length_eq_one_iff.1 hn
      obtain ⟨g, rfl, hg⟩ := hrow.resolve_left (by omega)
      have d0 := hg.2.2 0 _ rfl
      have d1 := hg.2.2 1 _ rfl
      have d2 := hg.2.2 2 _ rfl
      have d3 := hg.2.2 3 _ rfl
      clear hrow hg hown hn
      obtain ⟨uk, us, un, ua⟩ := u
      simp only at d0 d1 d2 d3
      by_cases k1 : uk = k
      · have e1 : (uk != k) = false := by simp [k1]
        by_cases k2 : us = s
        · have e2 : (us.toList != s.toList) = false := by simp [k2]
          by_cases k3 : un = n
          · have e3 : (un != n) = false := by simp [k3]
            by_cases k4 : ua = 0
            · have e4 : (ua != 0) = false := by simp [k4]
              have HY := Lib.hid (show_yes hF hS hR (by rw [k1, k2, k3, k4]; rfl))
              go_wp2_with fail
              go_quiet (fail)
              go_wp2_with fail
              go_ret2
              exact ⟨by rw [← hS1]; exact HY.out, below_drewN hb2 _⟩
            · have e4 : (ua != 0) = true := by simp [k4]
              go_wp2_with fail
              go_quiet (fail)
              go_wp2_with fail
              go_ret2
              exact ⟨hno (fun h => by have := h.2; injection this with h1 h2; injection h1 with h3 h4 h5 h6; exact k4 h6), below_drewN hb2 _⟩
          · have e3 : (un != n) = true := by simp [k3]
            go_wp2_with fail
            go_quiet (fail)
            go_wp2_with fail
            go_ret2
            exact ⟨hno (fun h => by have := h.2; injection this with h1 h2; injection h1 with h3 h4 h5 h6; exact k3 h5), below_drewN hb2 _⟩
        · have e20 : us.toList ≠ s.toList := fun e => k2 (ByteArray.ext (Array.toList_inj.1 (by simpa [Lib.toList_data] using e)))
          have e2 : (us.toList != s.toList) = true := by simp [e20]
          have e2b : (us.toList == s.toList) = false := by simp [e20]
          have e2c : (!us.toList == s.toList) = true := by simp [e20]
          clear e20
          go_wp2_with fail
          go_quiet (fail)
          go_wp2_with fail
          go_ret2
          exact ⟨hno (fun h => by have := h.2; injection this with h1 h2; injection h1 with h3 h4 h5 h6; exact k2 h4), below_drewN hb2 _⟩
      · have e1 : (uk != k) = true := by simp [k1]
        go_wp2_with fail
        go_quiet (fail)
        go_wp2_with fail
        go_ret2
        exact ⟨hno (fun h => by have := h.2; injection this with h1 h2; injection h1 with h3 h4 h5 h6; exact k1 h3), below_drewN hb2 _⟩
    · have hnb : ((L.length : Int) != 1) = true := by simp; omega
      go_wp2_with fail
      go_quiet (fail)
      go_wp2_with fail
      go_ret2
      exact ⟨hno (fun h => by rw [h.2] at hn; exact hn rfl), below_drewN hb2 _⟩
  · have hyb : (y != 0) = true := by simp [hy]
    go_wp2_with fail
    go_quiet (fail)
    go_wp2_with fail
    go_ret2
    exact ⟨hno (fun h => hy h.1), below_drewN hb2 _⟩
end Go.Proofs.YtfndfhhimhcakaaDoor.lx
