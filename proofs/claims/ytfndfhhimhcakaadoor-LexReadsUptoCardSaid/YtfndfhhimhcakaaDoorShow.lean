/-
  Show, for every token (a text of at most 2^30 bytes). Conditions: the package-level variables are laid.
-/
import Derived.Test.YtfndfhhimhcakaaDoorLex
import Derived.Test.YtfndfhhimhcakaaDoorQuoted
import Derived.Test.YtfndfhhimhcakaaDoorTokEq
namespace Go.Proofs.YtfndfhhimhcakaaDoor.lx
open Go.RowKit

/-- the text that Show tries -/
def showS (t : Tok) : ByteArray :=
  if t.k = 1 then ⟨#[40]⟩ else if t.k = 2 then ⟨#[41]⟩ else if t.k = 4 then ⟨(Lib.itoa t.n).toArray⟩ else if t.k = 5 then quotF t.s else t.s
def showOk (t : Tok) : Prop := (lexR (showS t)).2.1 = 0 ∧ (lexR (showS t)).1 = [t.at 0]
open Classical in
noncomputable def showF (t : Tok) : ByteArray × Int := if showOk t then (showS t, 0) else (⟨#[]⟩, 13)

theorem lexR_long {s : ByteArray} (h : 2048 < s.size) : lexR s = ([], 4, 0) := if_pos h
theorem below_drewN {B : Nat} {w W : World} (h : Below B w W) (n : Nat) : Below B w (W.drewN n) := ⟨h.os, h.tape, h.output, h.size, h.block⟩
/-- Lex, for every text -/
theorem Lex_any (s : ByteArray) (w : World) (hG : Glob w) (hs : s.size ≤ 9223372036854775807) :
    Calls Tryd.prog 4 #[.string s] w fun e w' => ∃ v, e = .returned (.tuple #[v, .int .i64 (lexR s).2.1, .int .i64 (lexR s).2.2]) ∧
      w'.ownsRow w.heap.size 24 4 v (lexR s).1.length (tokCells (lexR s).1) ∧ Below w.heap.size w w' := by
  by_cases h : 2048 < s.size
  · refine (Lex_long s w h hs).mono ?_
    rintro e w' ⟨rfl, rfl⟩
    rw [lexR_long h]
    exact ⟨_, rfl, World.ownsRow_nil _ _ _ _, Below.refl _ _⟩
  · exact Lex_short s w hG h

/-- a row that is owned, as a slice -/
theorem own_slice {w : World} {B : Nat} {v : Value} {ts : List Tok} (h : w.ownsRow B 24 4 v ts.length (tokCells ts)) :
    ∃ ao cap, v = .slice ao ts.length cap ∧ (ts.length = 0 ∨ ∃ g, ao = some ⟨g, 0, none⟩ ∧ B ≤ g ∧ g < w.heap.size ∧ ∀ (j : Nat) u, (tokCells ts)[j]? = some u → w.cell? ⟨g, j, none⟩ = some u) := by
  rcases h.2 with ⟨hv, h0⟩ | ⟨g, cap, cur, hv, hb, hg, rest⟩
  · exact ⟨none, 0, by rw [hv, h0], .inl h0⟩
  · refine ⟨_, cap, hv, .inr ⟨g, rfl, hb, (Array.getElem?_eq_some_iff.1 hg).1, ?_⟩⟩
    intro j u hu
    rw [Lib.cell_of_heap hg]
    rw [← rest.2.2.2, List.getElem?_take] at hu
    split at hu
    · simpa using hu
    · cases hu

theorem cell4_at {B : Nat} {k n a : Int} {s : ByteArray} {w : World} (h : Cell4 B ⟨k, s, n, a⟩ w) : Cell4 B ⟨k, s, n, 0⟩ (w.setCell ⟨B, 3, none⟩ (.int .i64 0)) := by
  unfold Cell4 at *
  simp [World.setCell, Array.getElem?_modify, h]
theorem quotL_size (n : Nat) : ∀ l : ByteArray, l.size = n → (quotL l).length ≤ 6 * n := by
  induction n using Nat.strongRecOn with
  | _ n ih =>
    intro l hn
    by_cases h0 : l.size = 0
    · rw [quotL_end h0]; simp
    · rw [quotL_go h0]
      have := adv_lt l h0
      have := ih (adv l).size (by omega) (adv l) rfl
      have := quotR_len (dr l)
      simp
      omega
theorem quotF_size (s : ByteArray) (h : s.size ≤ 1073741824) : (quotF s).size ≤ 9223372036854775807 := by
  have := quotL_size s.size s rfl
  simp [quotF, ByteArray.size]
  omega
theorem nDigits_le (u : Nat) (h : u < 18446744073709551616) : Lib.nDigits u ≤ 20 := by
  by_cases h0 : u = 0
  · subst h0; rw [Lib.nDigits_small (by decide)]; decide
  · have := Lib.numDigits_eq u (by omega) h; split at this <;> omega
theorem itoa_len (n : Int) (h0 : -9223372036854775808 ≤ n) (h1 : n ≤ 9223372036854775807) : (Lib.itoa n).length ≤ 21 := by
  unfold Lib.itoa
  split
  · have := nDigits_le n.natAbs (by omega)
    simp [Lib.decDigits_length]; omega
  · have := nDigits_le n.toNat (by omega)
    simp [Lib.decDigits_length]; omega
theorem itoa_size (n : Int) (h0 : -9223372036854775808 ≤ n) (h1 : n ≤ 9223372036854775807) : (⟨(Lib.itoa n).toArray⟩ : ByteArray).size ≤ 9223372036854775807 := by
  have := itoa_len n h0 h1
  simp [ByteArray.size]
  omega

set_option maxHeartbeats 8000000 in
set_option maxRecDepth 100000 in
theorem Show_any (t : Tok) (w : World) (hG : Glob w) (hs : t.s.size ≤ 1073741824) (hn0 : -9223372036854775808 ≤ t.n) (hn1 : t.n ≤ 9223372036854775807) :
    Calls Tryd.prog 6 #[t.v] w fun e w' => e = .returned (.tuple #[.string (showF t).1, .int .i64 (showF t).2]) ∧ Below w.heap.size w w' := by
  obtain ⟨S, hS⟩ : ∃ S, showS t = S := ⟨_, rfl⟩
  obtain ⟨F, hF⟩ : ∃ F, showF t = F := ⟨_, rfl⟩
  rw [hF]
  obtain ⟨k, s, n, a⟩ := t
  obtain ⟨⟨L, y, p⟩, hR⟩ : ∃ R, lexR S = R := ⟨_, rfl⟩
  have hLA := Lex_any S
  rw [hR] at hLA
  simp only at hs hLA hn0 hn1
  unfold Tok.v
  by_cases h1 : k = 1
  · subst h1
    have hS1 : S = ⟨#[40]⟩ := by rw [← hS]; rfl
    have hb0 : Below w.heap.size w (w.alloc (.cells #[.int .u8 1, .string s, .int .i64 n, .int .i64 0] 24)) := (Below.refl _ w).alloc (Nat.le_refl _) _
    have hG1 := hG.self hb0
    have hcell : Cell4 w.heap.size ⟨1, s, n, 0⟩ (w.alloc (.cells #[.int .u8 1, .string s, .int .i64 n, .int .i64 0] 24)) := by
      unfold Cell4; rw [heap_alloc_new]
    have hL1 := hLA _ hG1
    rw [hS1] at hL1
    go_enter Tryd.func6, Tryd.ntmps6
    go_wp2_with (go_at_call 4; refine (hL1 (by decide)).mono ?_; rintro e w2 ⟨v, rfl, hown, hb⟩; refine Hid.out ?_)
    refine Lib.hid ?_
    have hcell2 := hcell.below hb (by simp)
    have hb2 := below_self hb0 hb
    obtain ⟨ao, cap, rfl, hrow⟩ := own_slice hown
    have c0 := hcell2.c0
    have c1 := hcell2.c1
    have c2 := hcell2.c2
    have c3 := hcell2.c3
    clear hcell hcell2 hL1
    by_cases hy : y = 0
    · subst hy
      by_cases hn : L.length = 1
      · obtain ⟨u, rfl⟩ : ∃ u, L = [u] := List.length_eq_one_iff.1 hn
        obtain ⟨g, rfl, hg⟩ := hrow.resolve_left (by omega)
        have d0 := hg.2.2 0 _ rfl
        have d1 := hg.2.2 1 _ rfl
        have d2 := hg.2.2 2 _ rfl
        have d3 := hg.2.2 3 _ rfl
        have hne := tok_neq u ⟨1, s, n, 0⟩
        simp only [Tok.v] at hne
        clear hrow hg hown hn
        by_cases hu : u = ⟨1, s, n, 0⟩
        · have hcmp : ∀ W, (binOp .neq 24 (.agg #[.int .u8 u.k, .string u.s, .int .i64 u.n, .int .i64 u.a]) (.agg #[.int .u8 1, .string s, .int .i64 n, .int .i64 0])).run Tryd.prog W = .ok (.bool false) W := fun W => by rw [hne W, hu]; simp
          clear hne
          go_wp2_with fail
          go_quiet (fail)
          go_wp2_with fail
          go_ret2
          refine ⟨?_, below_drewN hb2 _⟩
          rw [← hF, showF, if_pos (by rw [showOk, hS, hR, hu]; exact ⟨rfl, rfl⟩), hS]
          rw [hS1]; rfl
        · have hcmp : ∀ W, (binOp .neq 24 (.agg #[.int .u8 u.k, .string u.s, .int .i64 u.n, .int .i64 u.a]) (.agg #[.int .u8 1, .string s, .int .i64 n, .int .i64 0])).run Tryd.prog W = .ok (.bool true) W := fun W => by rw [hne W]; simp [hu]
          clear hne
          go_wp2_with fail
          go_quiet (fail)
          go_wp2_with fail
          go_ret2
          refine ⟨?_, below_drewN hb2 _⟩
          rw [← hF, showF, if_neg (by intro h; rw [showOk, hS, hR] at h; exact hu (by simpa [Tok.at] using h.2))]
          rfl
      · have hnb : ((L.length : Int) != 1) = true := by simp; omega
        go_wp2_with fail
        go_quiet (fail)
        go_wp2_with fail
        go_ret2
        refine ⟨?_, below_drewN hb2 _⟩
        rw [← hF, showF, if_neg (by intro h; rw [showOk, hS, hR] at h; simp only at h; rw [h.2] at hn; exact hn rfl)]
        rfl
    · have hyb : (y != 0) = true := by simp [hy]
      go_wp2_with fail
      go_quiet (fail)
      go_wp2_with fail
      go_ret2
      refine ⟨?_, below_drewN hb2 _⟩
      rw [← hF, showF, if_neg (by intro h; rw [showOk, hS, hR] at h; exact hy h.1)]
      rfl
  by_cases h2 : k = 2
  · subst h2
    have hS1 : S = ⟨#[41]⟩ := by rw [← hS]; rfl
    have hb0 : Below w.heap.size w (w.alloc (.cells #[.int .u8 2, .string s, .int .i64 n, .int .i64 0] 24)) := (Below.refl _ w).alloc (Nat.le_refl _) _
    have hG1 := hG.self hb0
    have hcell : Cell4 w.heap.size ⟨2, s, n, 0⟩ (w.alloc (.cells #[.int .u8 2, .string s, .int .i64 n, .int .i64 0] 24)) := by
      unfold Cell4; rw [heap_alloc_new]
    have hL1 := hLA _ hG1
    rw [hS1] at hL1
    go_enter Tryd.func6, Tryd.ntmps6
    go_wp2_with (go_at_call 4; refine (hL1 (by decide)).mono ?_; rintro e w2 ⟨v, rfl, hown, hb⟩; refine Hid.out ?_)
    refine Lib.hid ?_
    have hcell2 := hcell.below hb (by simp)
    have hb2 := below_self hb0 hb
    obtain ⟨ao, cap, rfl, hrow⟩ := own_slice hown
    have c0 := hcell2.c0
    have c1 := hcell2.c1
    have c2 := hcell2.c2
    have c3 := hcell2.c3
    clear hcell hcell2 hL1
    by_cases hy : y = 0
    · subst hy
      by_cases hn : L.length = 1
      · obtain ⟨u, rfl⟩ : ∃ u, L = [u] := List.length_eq_one_iff.1 hn
        obtain ⟨g, rfl, hg⟩ := hrow.resolve_left (by omega)
        have d0 := hg.2.2 0 _ rfl
        have d1 := hg.2.2 1 _ rfl
        have d2 := hg.2.2 2 _ rfl
        have d3 := hg.2.2 3 _ rfl
        have hne := tok_neq u ⟨2, s, n, 0⟩
        simp only [Tok.v] at hne
        clear hrow hg hown hn
        by_cases hu : u = ⟨2, s, n, 0⟩
        · have hcmp : ∀ W, (binOp .neq 24 (.agg #[.int .u8 u.k, .string u.s, .int .i64 u.n, .int .i64 u.a]) (.agg #[.int .u8 2, .string s, .int .i64 n, .int .i64 0])).run Tryd.prog W = .ok (.bool false) W := fun W => by rw [hne W, hu]; simp
          clear hne
          go_wp2_with fail
          go_quiet (fail)
          go_wp2_with fail
          go_ret2
          refine ⟨?_, below_drewN hb2 _⟩
          rw [← hF, showF, if_pos (by rw [showOk, hS, hR, hu]; exact ⟨rfl, rfl⟩), hS]
          rw [hS1]; rfl
        · have hcmp : ∀ W, (binOp .neq 24 (.agg #[.int .u8 u.k, .string u.s, .int .i64 u.n, .int .i64 u.a]) (.agg #[.int .u8 2, .string s, .int .i64 n, .int .i64 0])).run Tryd.prog W = .ok (.bool true) W := fun W => by rw [hne W]; simp [hu]
          clear hne
          go_wp2_with fail
          go_quiet (fail)
          go_wp2_with fail
          go_ret2
          refine ⟨?_, below_drewN hb2 _⟩
          rw [← hF, showF, if_neg (by intro h; rw [showOk, hS, hR] at h; exact hu (by simpa [Tok.at] using h.2))]
          rfl
      · have hnb : ((L.length : Int) != 1) = true := by simp; omega
        go_wp2_with fail
        go_quiet (fail)
        go_wp2_with fail
        go_ret2
        refine ⟨?_, below_drewN hb2 _⟩
        rw [← hF, showF, if_neg (by intro h; rw [showOk, hS, hR] at h; simp only at h; rw [h.2] at hn; exact hn rfl)]
        rfl
    · have hyb : (y != 0) = true := by simp [hy]
      go_wp2_with fail
      go_quiet (fail)
      go_wp2_with fail
      go_ret2
      refine ⟨?_, below_drewN hb2 _⟩
      rw [← hF, showF, if_neg (by intro h; rw [showOk, hS, hR] at h; exact hy h.1)]
      rfl
  by_cases h4 : k = 4
  · subst h4
    have hS1 : S = ⟨(Lib.itoa n).toArray⟩ := by rw [← hS]; rfl
    have hb0 : Below w.heap.size w (w.alloc (.cells #[.int .u8 4, .string s, .int .i64 n, .int .i64 a] 24)) := (Below.refl _ w).alloc (Nat.le_refl _) _
    have hG1 := hG.self hb0
    have hcell0 : Cell4 w.heap.size ⟨4, s, n, a⟩ (w.alloc (.cells #[.int .u8 4, .string s, .int .i64 n, .int .i64 a] 24)) := by
      unfold Cell4; rw [heap_alloc_new]
    go_enter Tryd.func6, Tryd.ntmps6
    go_wp2_with (go_at_call 15; refine (fi_any n hn0 hn1 _ hG1).mono ?_; rintro e w1 ⟨rfl, hb⟩; refine Hid.out ?_)
    refine Lib.hid ?_
    have hcell1 := hcell0.below hb (by simp)
    have hb1 := below_self hb0 hb
    have hcell := cell4_at hcell1
    have hb2 := hb1.setCell (p := ⟨w.heap.size, 3, none⟩) (Nat.le_refl _) (.int .i64 0)
    have hG2 := hG.self hb2
    have hL1 := hLA _ hG2
    have hlt : w.heap.size < w1.heap.size := (Array.getElem?_eq_some_iff.1 hcell1).1
    have f3 := hcell1.f 3
    have b0 := hcell1.c0
    have b1 := hcell1.c1
    have b2 := hcell1.c2
    have b3 := hcell1.c3
    have hbk := hb2
    clear hcell0 hcell1 hb hb1 hb0 hG1 hG2 hb2
    rw [hS1] at hL1
    go_wp2_with (go_at_call 4; refine (hL1 (itoa_size n hn0 hn1)).mono ?_; rintro e w2 ⟨v, rfl, hown, hb⟩; refine Hid.out ?_)
    refine Lib.hid ?_
    clear b0 b1 b2 b3 f3
    have hcell2 := hcell.below hb (by simpa using hlt)
    have hb2 := below_then hbk (by have := hbk.size; omega) hb
    clear hbk hb
    obtain ⟨ao, cap, rfl, hrow⟩ := own_slice hown
    have c0 := hcell2.c0
    have c1 := hcell2.c1
    have c2 := hcell2.c2
    have c3 := hcell2.c3
    clear hcell hcell2 hL1
    by_cases hy : y = 0
    · subst hy
      by_cases hn : L.length = 1
      · obtain ⟨u, rfl⟩ : ∃ u, L = [u] := List.length_eq_one_iff.1 hn
        obtain ⟨g, rfl, hg⟩ := hrow.resolve_left (by omega)
        have d0 := hg.2.2 0 _ rfl
        have d1 := hg.2.2 1 _ rfl
        have d2 := hg.2.2 2 _ rfl
        have d3 := hg.2.2 3 _ rfl
        have hne := tok_neq u ⟨4, s, n, 0⟩
        simp only [Tok.v] at hne
        clear hrow hg hown hn
        by_cases hu : u = ⟨4, s, n, 0⟩
        · have hcmp : ∀ W, (binOp .neq 24 (.agg #[.int .u8 u.k, .string u.s, .int .i64 u.n, .int .i64 u.a]) (.agg #[.int .u8 4, .string s, .int .i64 n, .int .i64 0])).run Tryd.prog W = .ok (.bool false) W := fun W => by rw [hne W, hu]; simp
          clear hne
          go_wp2_with fail
          go_quiet (fail)
          go_wp2_with fail
          go_ret2
          refine ⟨?_, below_drewN hb2 _⟩
          rw [← hF, showF, if_pos (by rw [showOk, hS, hR, hu]; exact ⟨rfl, rfl⟩), hS]
          rw [hS1]; rfl
        · have hcmp : ∀ W, (binOp .neq 24 (.agg #[.int .u8 u.k, .string u.s, .int .i64 u.n, .int .i64 u.a]) (.agg #[.int .u8 4, .string s, .int .i64 n, .int .i64 0])).run Tryd.prog W = .ok (.bool true) W := fun W => by rw [hne W]; simp [hu]
          clear hne
          go_wp2_with fail
          go_quiet (fail)
          go_wp2_with fail
          go_ret2
          refine ⟨?_, below_drewN hb2 _⟩
          rw [← hF, showF, if_neg (by intro h; rw [showOk, hS, hR] at h; exact hu (by simpa [Tok.at] using h.2))]
          rfl
      · have hnb : ((L.length : Int) != 1) = true := by simp; omega
        go_wp2_with fail
        go_quiet (fail)
        go_wp2_with fail
        go_ret2
        refine ⟨?_, below_drewN hb2 _⟩
        rw [← hF, showF, if_neg (by intro h; rw [showOk, hS, hR] at h; simp only at h; rw [h.2] at hn; exact hn rfl)]
        rfl
    · have hyb : (y != 0) = true := by simp [hy]
      go_wp2_with fail
      go_quiet (fail)
      go_wp2_with fail
      go_ret2
      refine ⟨?_, below_drewN hb2 _⟩
      rw [← hF, showF, if_neg (by intro h; rw [showOk, hS, hR] at h; exact hy h.1)]
      rfl
  by_cases h5 : k = 5
  · subst h5
    have hS1 : S = quotF s := by rw [← hS]; rfl
    have hb0 : Below w.heap.size w (w.alloc (.cells #[.int .u8 5, .string s, .int .i64 n, .int .i64 a] 24)) := (Below.refl _ w).alloc (Nat.le_refl _) _
    have hG1 := hG.self hb0
    have hcell0 : Cell4 w.heap.size ⟨5, s, n, a⟩ (w.alloc (.cells #[.int .u8 5, .string s, .int .i64 n, .int .i64 a] 24)) := by
      unfold Cell4; rw [heap_alloc_new]
    go_enter Tryd.func6, Tryd.ntmps6
    go_wp2_with (go_at_call 16; refine (quoted_any s _ hG1 (by omega)).mono ?_; rintro e w1 ⟨rfl, hb⟩; refine Hid.out ?_)
    refine Lib.hid ?_
    have hcell1 := hcell0.below hb (by simp)
    have hb1 := below_self hb0 hb
    have hcell := cell4_at hcell1
    have hb2 := hb1.setCell (p := ⟨w.heap.size, 3, none⟩) (Nat.le_refl _) (.int .i64 0)
    have hG2 := hG.self hb2
    have hL1 := hLA _ hG2
    have hlt : w.heap.size < w1.heap.size := (Array.getElem?_eq_some_iff.1 hcell1).1
    have f3 := hcell1.f 3
    have b0 := hcell1.c0
    have b1 := hcell1.c1
    have b2 := hcell1.c2
    have b3 := hcell1.c3
    have hbk := hb2
    clear hcell0 hcell1 hb hb1 hb0 hG1 hG2 hb2
    rw [hS1] at hL1
    go_wp2_with (go_at_call 4; refine (hL1 (quotF_size s hs)).mono ?_; rintro e w2 ⟨v, rfl, hown, hb⟩; refine Hid.out ?_)
    refine Lib.hid ?_
    clear b0 b1 b2 b3 f3
    have hcell2 := hcell.below hb (by simpa using hlt)
    have hb2 := below_then hbk (by have := hbk.size; omega) hb
    clear hbk hb
    obtain ⟨ao, cap, rfl, hrow⟩ := own_slice hown
    have c0 := hcell2.c0
    have c1 := hcell2.c1
    have c2 := hcell2.c2
    have c3 := hcell2.c3
    clear hcell hcell2 hL1
    by_cases hy : y = 0
    · subst hy
      by_cases hn : L.length = 1
      · obtain ⟨u, rfl⟩ : ∃ u, L = [u] := List.length_eq_one_iff.1 hn
        obtain ⟨g, rfl, hg⟩ := hrow.resolve_left (by omega)
        have d0 := hg.2.2 0 _ rfl
        have d1 := hg.2.2 1 _ rfl
        have d2 := hg.2.2 2 _ rfl
        have d3 := hg.2.2 3 _ rfl
        have hne := tok_neq u ⟨5, s, n, 0⟩
        simp only [Tok.v] at hne
        clear hrow hg hown hn
        by_cases hu : u = ⟨5, s, n, 0⟩
        · have hcmp : ∀ W, (binOp .neq 24 (.agg #[.int .u8 u.k, .string u.s, .int .i64 u.n, .int .i64 u.a]) (.agg #[.int .u8 5, .string s, .int .i64 n, .int .i64 0])).run Tryd.prog W = .ok (.bool false) W := fun W => by rw [hne W, hu]; simp
          clear hne
          go_wp2_with fail
          go_quiet (fail)
          go_wp2_with fail
          go_ret2
          refine ⟨?_, below_drewN hb2 _⟩
          rw [← hF, showF, if_pos (by rw [showOk, hS, hR, hu]; exact ⟨rfl, rfl⟩), hS]
          rw [hS1]; rfl
        · have hcmp : ∀ W, (binOp .neq 24 (.agg #[.int .u8 u.k, .string u.s, .int .i64 u.n, .int .i64 u.a]) (.agg #[.int .u8 5, .string s, .int .i64 n, .int .i64 0])).run Tryd.prog W = .ok (.bool true) W := fun W => by rw [hne W]; simp [hu]
          clear hne
          go_wp2_with fail
          go_quiet (fail)
          go_wp2_with fail
          go_ret2
          refine ⟨?_, below_drewN hb2 _⟩
          rw [← hF, showF, if_neg (by intro h; rw [showOk, hS, hR] at h; exact hu (by simpa [Tok.at] using h.2))]
          rfl
      · have hnb : ((L.length : Int) != 1) = true := by simp; omega
        go_wp2_with fail
        go_quiet (fail)
        go_wp2_with fail
        go_ret2
        refine ⟨?_, below_drewN hb2 _⟩
        rw [← hF, showF, if_neg (by intro h; rw [showOk, hS, hR] at h; simp only at h; rw [h.2] at hn; exact hn rfl)]
        rfl
    · have hyb : (y != 0) = true := by simp [hy]
      go_wp2_with fail
      go_quiet (fail)
      go_wp2_with fail
      go_ret2
      refine ⟨?_, below_drewN hb2 _⟩
      rw [← hF, showF, if_neg (by intro h; rw [showOk, hS, hR] at h; exact hy h.1)]
      rfl
  have hS1 : S = s := by rw [← hS, showS, if_neg h1, if_neg h2, if_neg h4, if_neg h5]
  have hb0 : Below w.heap.size w (w.alloc (.cells #[.int .u8 k, .string s, .int .i64 n, .int .i64 0] 24)) := (Below.refl _ w).alloc (Nat.le_refl _) _
  have hG1 := hG.self hb0
  have hcell : Cell4 w.heap.size ⟨k, s, n, 0⟩ (w.alloc (.cells #[.int .u8 k, .string s, .int .i64 n, .int .i64 0] 24)) := by
    unfold Cell4; rw [heap_alloc_new]
  have hL1 := hLA _ hG1
  rw [hS1] at hL1
  go_enter Tryd.func6, Tryd.ntmps6
  go_wp2_with (go_at_call 4; refine (hL1 (by omega)).mono ?_; rintro e w2 ⟨v, rfl, hown, hb⟩; refine Hid.out ?_)
  refine Lib.hid ?_
  have hcell2 := hcell.below hb (by simp)
  have hb2 := below_self hb0 hb
  obtain ⟨ao, cap, rfl, hrow⟩ := own_slice hown
  have c0 := hcell2.c0
  have c1 := hcell2.c1
  have c2 := hcell2.c2
  have c3 := hcell2.c3
  clear hcell hcell2 hL1
  by_cases hy : y = 0
  · subst hy
    by_cases hn : L.length = 1
    · obtain ⟨u, rfl⟩ : ∃ u, L = [u] := List.length_eq_one_iff.1 hn
      obtain ⟨g, rfl, hg⟩ := hrow.resolve_left (by omega)
      have d0 := hg.2.2 0 _ rfl
      have d1 := hg.2.2 1 _ rfl
      have d2 := hg.2.2 2 _ rfl
      have d3 := hg.2.2 3 _ rfl
      have hne := tok_neq u ⟨k, s, n, 0⟩
      simp only [Tok.v] at hne
      clear hrow hg hown hn
      by_cases hu : u = ⟨k, s, n, 0⟩
      · have hcmp : ∀ W, (binOp .neq 24 (.agg #[.int .u8 u.k, .string u.s, .int .i64 u.n, .int .i64 u.a]) (.agg #[.int .u8 k, .string s, .int .i64 n, .int .i64 0])).run Tryd.prog W = .ok (.bool false) W := fun W => by rw [hne W, hu]; simp
        clear hne
        go_wp2_with fail
        go_quiet (fail)
        go_wp2_with fail
        go_ret2
        refine ⟨?_, below_drewN hb2 _⟩
        rw [← hF, showF, if_pos (by rw [showOk, hS, hR, hu]; exact ⟨rfl, rfl⟩), hS]
        rw [hS1]; rfl
      · have hcmp : ∀ W, (binOp .neq 24 (.agg #[.int .u8 u.k, .string u.s, .int .i64 u.n, .int .i64 u.a]) (.agg #[.int .u8 k, .string s, .int .i64 n, .int .i64 0])).run Tryd.prog W = .ok (.bool true) W := fun W => by rw [hne W]; simp [hu]
        clear hne
        go_wp2_with fail
        go_quiet (fail)
        go_wp2_with fail
        go_ret2
        refine ⟨?_, below_drewN hb2 _⟩
        rw [← hF, showF, if_neg (by intro h; rw [showOk, hS, hR] at h; exact hu (by simpa [Tok.at] using h.2))]
        rfl
    · have hnb : ((L.length : Int) != 1) = true := by simp; omega
      go_wp2_with fail
      go_quiet (fail)
      go_wp2_with fail
      go_ret2
      refine ⟨?_, below_drewN hb2 _⟩
      rw [← hF, showF, if_neg (by intro h; rw [showOk, hS, hR] at h; simp only at h; rw [h.2] at hn; exact hn rfl)]
      rfl
  · have hyb : (y != 0) = true := by simp [hy]
    go_wp2_with fail
    go_quiet (fail)
    go_wp2_with fail
    go_ret2
    refine ⟨?_, below_drewN hb2 _⟩
    rw [← hF, showF, if_neg (by intro h; rw [showOk, hS, hR] at h; exact hy h.1)]
    rfl
end Go.Proofs.YtfndfhhimhcakaaDoor.lx
