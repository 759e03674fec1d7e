/-
  LexBrackets, for every text. Conditions: the package-level variables are laid.
-/
import Derived.Test.YtchilianbbkebaaDoorLives
import Derived.Test.YtchilianbbkebaaDoorSep
import Derived.Test.YtchilianbbkebaaDoorRows4
namespace Go.Proofs.YtchilianbbkebaaDoor.lx
open Go.RowKit

set_option maxHeartbeats 8000000 in
set_option maxRecDepth 100000 in
theorem Brackets_any (s : ByteArray) (w : World) (hG : Glob w) (hs : s.size ≤ 140737488351232) :
    Calls Tryd.prog 7 #[.string s] w fun e w' => e = .returned (.bool true) ∧ Below w.heap.size w w' := by
  obtain ⟨⟨L, y, p⟩, hR⟩ : ∃ R, lexR s = R := ⟨_, rfl⟩
  have hL1 := fun w hG => Lex_any s w hG (by omega)
  rw [hR] at hL1
  simp only at hL1
  obtain ⟨T, hT⟩ : ∃ T : ByteArray, ⟨#[40]⟩ ++ s ++ ⟨#[10, 41]⟩ = T := ⟨_, rfl⟩
  have hBT : B T = 40 :: (B s ++ [10, 41]) := by rw [← hT]; simp [B, ByteArray.data_append]
  have hTs : T.size = s.size + 3 := by
    have := congrArg List.length hBT
    rw [B_length] at this
    simp only [List.length_cons, List.length_append, B_length, List.length_nil] at this
    omega
  have hTs1 : s.size + 3 ≤ T.size := by omega
  have hTs2 : T.size ≤ s.size + 3 := by omega
  obtain ⟨⟨M, z, q⟩, hRT⟩ : ∃ R, lexR T = R := ⟨_, rfl⟩
  have hL2 := fun w hG => Lex_any T w hG (by omega)
  rw [hRT] at hL2
  simp only at hL2
  rw [← hT] at hL2
  have HT := Lib.hid hT
  clear hT hTs
  go_enter Tryd.func7, Tryd.ntmps7
  go_wp2_with (go_at_call 14; refine (lives_any _ hG).mono ?_; rintro e w1 ⟨rfl, hb1⟩; refine Hid.out ?_)
  refine Lib.hid ?_
  have hG1 := hG.self hb1
  go_wp2_with (go_at_call 10; refine (hL1 _ hG1).mono ?_; rintro e w2 ⟨v, rfl, hown, hb2⟩; refine Hid.out ?_)
  refine Lib.hid ?_
  have hG2 := hG1.self hb2
  obtain ⟨ao, cap, rfl, hrow⟩ := own_row hown
  clear hown
  go_wp2_with (go_at_call 10; refine (hL2 _ hG2).mono ?_; rintro e w3 ⟨v, rfl, hown, hb3⟩; refine Hid.out ?_)
  refine Lib.hid ?_
  have hG3 := hG2.self hb3
  obtain ⟨ao2, cap2, rfl, hrow2⟩ := own_row hown
  have hrow1 := hrow.below hb3
  have hb := below_self (below_self hb1 hb2) hb3
  clear hown hL1 hL2 hb1 hb2 hb3 hG1 hG2 hG hrow
  by_cases hlong : 2048 < T.size
  · have hl : (2048 : Int) < 1 + (s.size : Int) + 2 := by omega
    rw [lexR_long hlong] at hRT
    injection hRT with e1 e2; injection e2 with e2 e3
    subst e1 e2 e3
    go_wp2_with fail
    go_ret
    exact ⟨rfl, hb⟩
  · have hl : ¬ (2048 : Int) < 1 + (s.size : Int) + 2 := by omega
    have hlaw := lexR_brackets s T hBT (by omega)
    rw [hR, hRT] at hlaw
    simp only at hlaw
    by_cases hy : y = 0
    · subst hy
      rw [if_pos rfl] at hlaw
      obtain ⟨q', hM⟩ := hlaw
      injection hM with e1 e2; injection e2 with e2 e3
      subst e2 e3
      have hLlen : L.length ≤ 2048 := by
        obtain ⟨h1, h2, h3⟩ := lexR_ok hR
        have h4 := lexK_count _ (skipG false (gl (B s))) rfl (skipG_firm _ _)
        have h5 := skipG_length (gl (B s)) false
        have h6 := gl_len _ (B s) rfl
        rw [B_length] at h6
        rw [h3, List.length_map]
        omega
      have hm : M.length = L.length + 2 := by rw [e1]; simp
      have hx0 : M[0]? = some tokO := by rw [e1]; rfl
      have hx1 : M[L.length + 1]? = some (tokC q') := by rw [e1]; simp
      have hxs : ∀ (i : Nat) t, L[i]? = some t → M[i + 1]? = some (t.up 1) := by
        intro i t ht
        have hlt := (List.getElem?_eq_some_iff.1 ht).1
        rw [e1, List.getElem?_cons_succ, List.getElem?_append_left (by simpa using hlt), List.getElem?_map, ht]
        rfl
      have HXS := Lib.hid hxs
      have HE := Lib.hid e1
      obtain ⟨g2, rfl, a0, a1, a2, a3⟩ := hrow2.at hx0
      obtain ⟨g2', hg', b0, b1, b2, b3⟩ := hrow2.at hx1
      injection hg' with hg'; injection hg' with hg'; subst hg'
      clear hxs e1 hx0 hx1 a1 a2 a3 b1 b2 b3
      simp only [tokO, tokC] at a0 b0
      rw [hm]
      clear hm
      go_wp2_with fail
      go_loopw [81] (fun v wr => ∃ k : Nat, v = .int .i64 k ∧ k ≤ L.length ∧ Below w3.heap.size w3 wr) (fun v _ => L.length - (intOf v).toNat)
      case atStart => exact ⟨0, rfl, Nat.zero_le _, Below.refl _ _⟩
      case round =>
        obtain ⟨k, rfl, hk, hbr⟩ := hrel
        by_cases hlt : k < L.length
        · obtain ⟨t, ht⟩ : ∃ t, L[k]? = some t := ⟨_, List.getElem?_eq_getElem hlt⟩
          obtain ⟨ta0, ta1⟩ := lexR_at hR ht
          have hrr := hrow1.below hbr
          obtain ⟨g1, rfl, d0, d1, d2, d3⟩ := hrr.at ht
          have hrr2 := hrow2.below hbr
          obtain ⟨g', hg', f0, f1, f2, f3⟩ := hrr2.at (HXS.out k t ht)
          injection hg' with hg'; injection hg' with hg'; subst hg'
          dsimp only [Tok.up] at f0 f1 f2 f3
          have hgl := World.block_lt_of_cell? _ _ f0
          have k0 := fun o => (World.cell?_of_block (a := ⟨g2, (k + 1) * 4, none⟩) (Lib.alloc_old wr o g2 hgl)).trans f0
          have k1 := fun o => (World.cell?_of_block (a := ⟨g2, (k + 1) * 4 + 1, none⟩) (Lib.alloc_old wr o g2 hgl)).trans f1
          have k2 := fun o => (World.cell?_of_block (a := ⟨g2, (k + 1) * 4 + 2, none⟩) (Lib.alloc_old wr o g2 hgl)).trans f2
          have k3 := fun o => (World.cell?_of_block (a := ⟨g2, (k + 1) * 4 + 3, none⟩) (Lib.alloc_old wr o g2 hgl)).trans f3
          have hcmp : ∀ W, (binOp .neq 24 (.agg #[.int .u8 t.k, .string t.s, .int .i64 t.n, .int .i64 (t.a + 1)]) (.agg #[.int .u8 t.k, .string t.s, .int .i64 t.n, .int .i64 (t.a + 1)])).run Tryd.prog W = .ok (.bool false) W := fun W => by
            have := tok_neq (t.up 1) (t.up 1) W
            simpa [Tok.v, Tok.up] using this
          clear f0 f1 f2 f3 hrr hrr2 ht
          go_wp2_with fail
          go_outline
          go_quiet (fail)
          go_wp2_with fail
          go_roundw
          case rel => exact ⟨k + 1, by go_num, by omega, below_drewN (hbr.alloc hbr.size _) _⟩
          case measure => simp [intOf]; omega
        · go_wp2_with fail
          go_ret
          exact ⟨rfl, below_self hb hbr⟩
    · rw [if_neg hy] at hlaw
      obtain ⟨hz, hq⟩ := hlaw
      obtain ⟨_, hp0, hp1⟩ := lexR_err hR hy
      have hyb : (y != 0) = true := by simp [hy]
      have hzb : (z != 0) = true := by simp [hz]
      have hqb : (q == p + 1) = true := by simp [hq]
      clear hq hy hz
      go_wp2_with fail
      go_ret
      exact ⟨rfl, hb⟩
end Go.Proofs.YtchilianbbkebaaDoor.lx
