/-
  The reference's Lex, walked: what Lex gives. No condition.
-/
import Derived.Test.YtfndfhhimhcakaaDoorRLexLaw
namespace Go.Proofs.YtfndfhhimhcakaaDoor.lx
open Go.RowKit

theorem rnext_len (l : List G) (n : Nat) (hn : l.length = n) (ao : Option Addr) (cap : Nat) (w : World) (hR : GRow ao l w) (hv : okR l) (hl : l.length ≤ 4096) (hc : l.length ≤ cap) (hm : cap ≤ 9223372036854775807) (hne : l ≠ []) (hf : firm l) :
    Calls Tryd.prog 14 #[.slice ao n cap] w fun e w' => e = .returned (.tuple #[(tokG l).1.1.v, .int .i64 (cntG l (tokG l)), .int .i64 (tokG l).1.2]) ∧ Below w.heap.size w w' := by
  subst hn
  exact rnext_any l ao cap w hR hv hl hc hm hne hf

set_option maxHeartbeats 8000000 in
set_option maxRecDepth 100000 in
theorem rLex_long (s : ByteArray) (w : World) (h : 2048 < s.size) (hmax : s.size ≤ 9223372036854775807) :
    Calls Tryd.prog 5 #[.string s] w fun e w' => e = .returned (.tuple #[.slice none 0 0, .int .i64 4, .int .i64 0]) ∧ w = w' := by
  have hI : (2048 : Int) < (s.size : Int) := by omega
  go_enter Tryd.func5, Tryd.ntmps5
  go_wp2_with fail
  go_ret3
  exact ⟨rfl, rfl⟩

set_option maxHeartbeats 16000000 in
set_option maxRecDepth 100000 in
theorem rLex_short (s : ByteArray) (w : World) (h : ¬ 2048 < s.size) :
    Calls Tryd.prog 5 #[.string s] w fun e w' => ∃ v, e = .returned (.tuple #[v, .int .i64 (lexR s).2.1, .int .i64 (lexR s).2.2]) ∧
      w'.ownsRow w.heap.size 24 4 v (lexR s).1.length (tokCells (lexR s).1) ∧ Below w.heap.size w w' := by
  have hI : ¬ (2048 : Int) < (s.size : Int) := by omega
  obtain ⟨R, hR⟩ : ∃ R, lexR s = R := ⟨_, rfl⟩
  rw [hR]
  have hglen := gl_len _ (B s) rfl
  rw [B_length] at hglen
  have hok : okR (gl (B s)) := okR_gl _ _ rfl
  have hgl := glyphs_any s
  have hR2 : lexAt (gl (B s)) [] (blankN (gl (B s))) = R := by rw [lexAt_start, ← lexR_gl s (by omega)]; exact hR
  generalize gl (B s) = L at hglen hok hgl hR2
  have HR := Lib.hid hR2
  have HV := Lib.hid hok
  have HF := Lib.hid (firm_start L)
  have hbl := blankN_le L
  clear hR hR2 hok
  go_enter Tryd.func5, Tryd.ntmps5
  go_wp2_with (go_at_call 12; refine (hgl _ (by omega)).mono ?_; rintro e w1 ⟨v, rfl, hown, hb1⟩; refine Hid.out ?_)
  refine Lib.hid ?_
  obtain ⟨ao, cap, rfl, hcap, hcm, hG1⟩ := own_grow hown
  unfold maxLen at hcm
  have hsz1 := hb1.size
  clear hgl hown
  go_wp2_with (go_at_call 13; refine (blanks_any L ao cap _ hG1 (by omega)).mono ?_; rintro e w2 ⟨rfl, rfl⟩; refine Hid.out ?_)
  refine Lib.hid ?_
  go_wp2_with fail
  go_loopw [5, 7] (fun v t wr => ∃ (ts : List Tok) (k : Nat), t = .int .i64 k ∧ wr.ownsRow w1.heap.size 24 4 v ts.length (tokCells ts) ∧ Below w1.heap.size w1 wr ∧ k ≤ L.length ∧ ts.length ≤ k ∧ Hid (lexAt L ts k = R) ∧ Hid (firm (L.drop k))) (fun _ t _ => L.length - (intOf t).toNat)
  case atStart => exact ⟨[], _, rfl, World.ownsRow_nil _ _ _ _, Below.refl _ _, hbl, Nat.zero_le _, HR, HF⟩
  case round =>
    clear HR HF hbl
    obtain ⟨ts, k, rfl, hown, hb, hk, hts, HS, HF⟩ := hrel
    have hGr := hG1.below hb
    have hszr := hb.size
    by_cases hlt : k < L.length
    · obtain ⟨b, o, rfl, hrow⟩ := hG1.resolve_left (by omega)
      have hGk := hGr.drop k
      have hne : L.drop k ≠ [] := by intro h0; have := congrArg List.length h0; rw [List.length_drop] at this; simp at this; omega
      have hnx := fun w2 hR2 => rnext_len (L.drop k) (L.length - k) (List.length_drop) (some ⟨b, o + k * 2, none⟩) (cap - k) w2 hR2 (HV.out.drop k) (by rw [List.length_drop]; omega) (by rw [List.length_drop]; omega) (by omega) hne HF.out
      by_cases hw : (tokG (L.drop k)).1.2 = 0
      · have hgo := lexAt_go (out := ts) hlt HF.out hw
        rw [HS.out] at hgo
        obtain ⟨hp1, hp2⟩ := tokN_pos hlt HF.out
        rw [cntG_tok hw, hw] at hnx
        have HFN := Lib.hid (firm_next L (k + tokN (L.drop k)))
        have hbn := blankN_le (L.drop (k + tokN (L.drop k)))
        rw [List.length_drop] at hbn
        generalize (tokG (L.drop k)).1.1 = t at hgo hnx
        generalize tokN (L.drop k) = m at hgo hnx hp1 hp2 HFN hbn
        have HN := Lib.hid hgo.symm
        clear hgo hw hne HS HF
        go_wp2_with (go_at_call 14; refine (hnx _ hGk).mono ?_; rintro e w2 ⟨rfl, hb2⟩; refine Hid.out ?_)
        refine Lib.hid ?_
        have hown2 := own_belowG hown hb2
        have hb12 := below_then hb (by omega) hb2
        have hsz2 := hb12.size
        clear hown hb hb2 hGr hGk hnx
        unfold Tok.v
        obtain ⟨i0, hi0, hz0, hz1, hz2⟩ := info_parts infoT
        go_wp2_with (at_builtin; refine wpList_append_own_at _ rfl _ _ 25 rfl w1.heap.size 24 i0 _ 4 40 Tryd.underlying25 hi0 hz0 hz1 hz2 rfl (by decide) u5 ts.length (tokCells ts) rfl ((hown2.alloc _).alloc _) ⟨w2.heap.size + 1, 0, none⟩ 1 1 [.int .u8 t.k, .string t.s, .int .i64 t.n, .int .i64 k] rfl rfl ?c1 ?c2 ?c3 ?c4 ?c5 ?_)
        case c1 =>
          intro j u hj
          match j, hj with
          | 0, hj => simp at hj; subst hj; simp [Addr.add]
          | 1, hj => simp at hj; subst hj; simp [Addr.add]
          | 2, hj => simp at hj; subst hj; simp [Addr.add]
          | 3, hj => simp at hj; subst hj; simp [Addr.add]
          | (j + 4), hj => simp at hj
        case c2 => intro u hu; simp at hu; rcases hu with rfl | rfl | rfl | rfl <;> rfl
        case c3 => unfold maxLen; omega
        case c4 => omega
        case c5 => simp; omega
        intro v' w3 hown3 hg3 _ _
        have hb3 : Below w1.heap.size w1 w3 := ((hb12.alloc (by omega) _).alloc (by simp; omega) _).grown hg3 (by simp; omega) (fun k hk => by have := own_base hown2 k hk; omega)
        have hown3' : w3.ownsRow w1.heap.size 24 4 v' (ts ++ [t.at k]).length (tokCells (ts ++ [t.at k])) := by
          rw [tokCells_snoc]
          simpa [Tok.cells, Tok.at] using hown3
        have hG3 := (hG1.below hb3).drop (k + m)
        have hG3' := hG1.below hb3
        clear hown2 hown3 hg3 hb12 hsz2 hi0 hz0 hz1 hz2
        have hbk := fun ao' cap' w2 hR2 => blanks_len (L.drop (k + m)) (L.length - (k + m)) List.length_drop ao' cap' w2 hR2 (by rw [List.length_drop]; omega)
        generalize blankN (L.drop (k + m)) = q at hbn hbk HFN HN
        by_cases hcp : cap = k + m
        · subst hcp
          have hl0 : L.length - (k + m) = 0 := by omega
          have hRd : GRow (some ⟨b, o, none⟩) (L.drop (k + m)) w3 := .inl (by rw [List.length_drop]; omega)
          rw [hl0] at hbk
          clear hl0
          go_wp2_with (go_at_call 13; refine (hbk _ _ _ hRd).mono ?_; rintro e w4 ⟨rfl, rfl⟩; refine Hid.out ?_)
          refine Lib.hid ?_
          go_wp2_with fail
          go_roundw
          case rel => exact ⟨ts ++ [t.at k], k + m + q, by go_num, hown3', hb3, by omega, by simp; omega, HN, HFN⟩
          case measure => simp only [intOf]; omega
        · go_wp2_with (go_at_call 13; refine (hbk _ _ _ hG3).mono ?_; rintro e w4 ⟨rfl, rfl⟩; refine Hid.out ?_)
          refine Lib.hid ?_
          go_wp2_with fail
          go_roundw
          case rel => exact ⟨ts ++ [t.at k], k + m + q, by go_num, hown3', hb3, by omega, by simp; omega, HN, HFN⟩
          case measure => simp only [intOf]; omega
      · have hfin : R = ([], (tokG (L.drop k)).1.2, (k : Int)) := by rw [← HS.out]; exact lexAt_bad hlt hw
        generalize (tokG (L.drop k)).1.2 = y at hfin hnx hw
        have hyb : (y != 0) = true := by simpa using hw
        have HFN := Lib.hid hfin
        clear hfin hw hne HS HF
        go_wp2_with (go_at_call 14; refine (hnx _ hGk).mono ?_; rintro e w2 ⟨rfl, hb2⟩; refine Hid.out ?_)
        refine Lib.hid ?_
        have hbz := below_self hb1 (below_then hb (by omega) hb2)
        unfold Tok.v
        clear hown hb hb2 hGr hGk hnx
        go_wp2_with fail
        go_ret3
        rw [HFN.out]
        exact ⟨_, rfl, World.ownsRow_nil _ _ _ _, hbz.alloc hbz.size _⟩
    · have hfin : R = (ts, 0, 0) := by rw [← HS.out]; exact lexAt_end (by omega)
      have HFN := Lib.hid hfin
      clear hfin HS HF
      go_wp2_with fail
      go_ret3
      rw [HFN.out]
      exact ⟨_, rfl, own_le hown (by omega), below_self hb1 hb⟩
/-- the reference's Lex, for every text -/
theorem rLex_any (s : ByteArray) (w : World) (hs : s.size ≤ 9223372036854775807) :
    Calls Tryd.prog 5 #[.string s] w fun e w' => ∃ v, e = .returned (.tuple #[v, .int .i64 (lexR s).2.1, .int .i64 (lexR s).2.2]) ∧
      w'.ownsRow w.heap.size 24 4 v (lexR s).1.length (tokCells (lexR s).1) ∧ Below w.heap.size w w' := by
  by_cases h : 2048 < s.size
  · refine (rLex_long s w h hs).mono ?_
    rintro e w' ⟨rfl, rfl⟩
    rw [lexR_long h]
    exact ⟨_, rfl, World.ownsRow_nil _ _ _ _, Below.refl _ _⟩
  · exact rLex_short s w h
end Go.Proofs.YtfndfhhimhcakaaDoor.lx
