/-
  LexReads, for every text and every token (a token's text of at most 2^30 bytes). Conditions: the package-level variables are laid.
-/
import Derived.Test.YtfndfhhimhcakaaDoorLives
import Derived.Test.YtfndfhhimhcakaaDoorRShow
import Derived.Test.YtfndfhhimhcakaaDoorSame
namespace Go.Proofs.YtfndfhhimhcakaaDoor.lx
open Go.RowKit

set_option maxHeartbeats 8000000 in
set_option maxRecDepth 100000 in
theorem Reads_any (s : ByteArray) (t : Tok) (w : World) (hG : Glob w) (hs : s.size ≤ 140737488351232) (ht : t.s.size ≤ 1073741824) (hn0 : -9223372036854775808 ≤ t.n) (hn1 : t.n ≤ 9223372036854775807) :
    Calls Tryd.prog 3 #[.string s, t.v] w fun e w' => e = .returned (.bool true) ∧ Below w.heap.size w w' := by
  obtain ⟨⟨L, y, p⟩, hR⟩ : ∃ R, lexR s = R := ⟨_, rfl⟩
  obtain ⟨⟨U, z⟩, hU⟩ : ∃ F, showF t = F := ⟨_, rfl⟩
  have hL1 := fun w hG => Lex_any s w hG (by omega)
  have hL2 := fun w => rLex_any s w (by omega)
  have hS1 := fun w hG => Show_any t w hG ht hn0 hn1
  have hS2 := fun w => rShow_any t w ht hn0 hn1
  have hlen : L.length ≤ 4096 := by
    by_cases h : 2048 < s.size
    · rw [lexR_long h] at hR
      injection hR with e1 e2
      rw [← e1]; simp
    · by_cases hy : y = 0
      · subst hy
        obtain ⟨h1, h2, h3⟩ := lexR_ok hR
        have h4 := lexK_count _ (skipG false (gl (B s))) rfl (skipG_firm _ _)
        have h5 := skipG_length (gl (B s)) false
        have h6 := gl_len _ (B s) rfl
        rw [B_length] at h6
        rw [h3, List.length_map]
        omega
      · have := (lexR_err hR hy).1
        rw [this]; simp
  rw [hR] at hL1 hL2
  rw [hU] at hS1 hS2
  obtain ⟨k, st, n, a⟩ := t
  simp only at hL1 hL2 hS1 hS2
  unfold Tok.v at *
  simp only at hS1 hS2
  have hcell : Cell4 w.heap.size ⟨k, st, n, a⟩ (w.alloc (.cells #[.int .u8 k, .string st, .int .i64 n, .int .i64 a] 24)) := by
    unfold Cell4; rw [heap_alloc_new]
  have hb0 : Below w.heap.size w (w.alloc (.cells #[.int .u8 k, .string st, .int .i64 n, .int .i64 a] 24)) := (Below.refl _ w).alloc (Nat.le_refl _) _
  have hG0 := hG.self hb0
  clear hR hU ht hG
  go_enter Tryd.func3, Tryd.ntmps3
  go_wp2_with (go_at_call 4; refine (hL1 _ hG0).mono ?_; rintro e w1 ⟨v, rfl, hown, hb1⟩; refine Hid.out ?_)
  refine Lib.hid ?_
  have hG1 := hG0.self hb1
  obtain ⟨ao, cap, rfl, hrow⟩ := own_row hown
  clear hown
  go_wp2_with (go_at_call 5; refine (hL2 _).mono ?_; rintro e w2 ⟨v, rfl, hown, hb2⟩; refine Hid.out ?_)
  refine Lib.hid ?_
  have hG2 := hG1.self hb2
  obtain ⟨ao2, cap2, rfl, hrow2⟩ := own_row hown
  have hrow1 := hrow.below hb2
  have hb01 := below_self hb0 hb1
  have hb02 := below_self hb01 hb2
  have hcell1 := hcell.below hb1 (by simp)
  have hcell2 := hcell1.below hb2 (Array.getElem?_eq_some_iff.1 hcell1).1
  have c0 := hcell2.c0
  have c1 := hcell2.c1
  have c2 := hcell2.c2
  have c3 := hcell2.c3
  clear hown hrow hb0 hb1 hb2 hcell hcell1 hL1 hL2 hG0 hG1 hb01
  go_wp2_with (go_at_call 6; refine (hS1 _ hG2).mono ?_; rintro e w3 ⟨rfl, hb3⟩; refine Hid.out ?_)
  refine Lib.hid ?_
  have hG3 := hG2.self hb3
  have hcell3 := hcell2.below hb3 (Array.getElem?_eq_some_iff.1 hcell2).1
  have hb03 := below_self hb02 hb3
  have hrow13 := hrow1.below hb3
  have hrow23 := hrow2.below hb3
  clear hb3 hcell2 c0 c1 c2 c3 hb02 hrow1 hrow2 hS1
  have c0 := hcell3.c0
  have c1 := hcell3.c1
  have c2 := hcell3.c2
  have c3 := hcell3.c3
  go_wp2_with (go_at_call 7; refine (hS2 _).mono ?_; rintro e w4 ⟨rfl, hb4⟩; refine Hid.out ?_)
  refine Lib.hid ?_
  have hG4 := hG3.self hb4
  have hb04 := below_self hb03 hb4
  have hrow14 := hrow13.below hb4
  have hrow24 := hrow23.below hb4
  clear hb4 hcell3 c0 c1 c2 c3 hb03 hrow13 hrow23 hS2 hG2 hG3
  go_wp2_with (go_at_call 8; refine (lives_any _ hG4).mono ?_; rintro e w5 ⟨rfl, hb5⟩; refine Hid.out ?_)
  refine Lib.hid ?_
  have hb05 := below_self hb04 hb5
  have hrow15 := hrow14.below hb5
  have hrow25 := hrow24.below hb5
  clear hb5 hb04 hrow14 hrow24 hG4
  have hSm := Same_any L L ao ao2 cap cap2 w5 hrow15 hrow25 (by omega)
  rw [decide_eq_true (rfl : L = L)] at hSm
  go_wp2_with (go_at_call 9; refine hSm.mono ?_; rintro e w6 ⟨rfl, m, rfl⟩; refine Hid.out ?_)
  refine Lib.hid ?_
  go_wp2_with fail
  go_ret
  exact ⟨rfl, below_drewN hb05 _⟩
end Go.Proofs.YtfndfhhimhcakaaDoor.lx
