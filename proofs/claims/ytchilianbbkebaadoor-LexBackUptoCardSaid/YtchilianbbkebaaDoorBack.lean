/-
  LexBack, for every row of tokens with texts of at most 2^20 bytes. Conditions: the package-level variables are laid.
-/
import Derived.Test.YtchilianbbkebaaDoorLives
import Derived.Test.YtchilianbbkebaaDoorBackLaw
import Derived.Maps.AppendAt
namespace Go.Proofs.YtchilianbbkebaaDoor.lx
open Go.RowKit

/-- a row of tokens that came in -/
def ARow (ao : Option Addr) (L : List Tok) (w : World) : Prop :=
  L.length = 0 ∨ ∃ b o, ao = some ⟨b, o, none⟩ ∧ ∀ (i : Nat) t, L[i]? = some t →
    w.cell? ⟨b, o + i * 4, none⟩ = some (.int .u8 t.k) ∧ w.cell? ⟨b, o + i * 4 + 1, none⟩ = some (.string t.s) ∧ w.cell? ⟨b, o + i * 4 + 2, none⟩ = some (.int .i64 t.n) ∧ w.cell? ⟨b, o + i * 4 + 3, none⟩ = some (.int .i64 t.a)
theorem cell_below {w w' : World} (hb : Below w.heap.size w w') {b o : Nat} {u : Value} (h : w.cell? ⟨b, o, none⟩ = some u) : w'.cell? ⟨b, o, none⟩ = some u :=
  (World.cell?_of_block (a := ⟨b, o, none⟩) (hb.block b (World.block_lt_of_cell? w _ h))).trans h
theorem ARow.below {ao : Option Addr} {L : List Tok} {w w' : World} (h : ARow ao L w) (hb : Below w.heap.size w w') : ARow ao L w' := by
  rcases h with h | ⟨b, o, h1, h2⟩
  · exact .inl h
  · refine .inr ⟨b, o, h1, fun i t ht => ?_⟩
    obtain ⟨c0, c1, c2, c3⟩ := h2 i t ht
    exact ⟨cell_below hb c0, cell_below hb c1, cell_below hb c2, cell_below hb c3⟩

/-- what a token may be -/
def TokOk (t : Tok) : Prop := t.s.size ≤ 1048576 ∧ -9223372036854775808 ≤ t.n ∧ t.n ≤ 9223372036854775807

/-- the row whose first k places have been struck -/
def zeroT (L : List Tok) (k : Nat) : List Tok := (L.take k).map (·.at 0) ++ L.drop k
theorem zeroT_zero (L : List Tok) : zeroT L 0 = L := rfl
theorem zeroT_end (L : List Tok) (k : Nat) (h : L.length ≤ k) : zeroT L k = L.map (·.at 0) := by rw [zeroT, List.take_of_length_le h, List.drop_of_length_le h]; simp
theorem zeroT_length (L : List Tok) (k : Nat) : (zeroT L k).length = L.length := by simp [zeroT]; omega
theorem zeroT_at (L : List Tok) (k : Nat) (t : Tok) (h : L[k]? = some t) : (zeroT L k)[k]? = some t := by
  have hlt := (List.getElem?_eq_some_iff.1 h).1
  rw [zeroT, List.getElem?_append_right (by simp; omega)]
  simp only [List.length_map, List.length_take]
  rw [show k - min k L.length = 0 by omega, List.getElem?_drop, Nat.add_zero, h]
theorem zeroT_set (L : List Tok) (k : Nat) (t : Tok) (h : L[k]? = some t) : (zeroT L k).set k (t.at 0) = zeroT L (k + 1) := by
  have hlt := (List.getElem?_eq_some_iff.1 h).1
  have hg := (List.getElem?_eq_some_iff.1 h).2
  unfold zeroT
  rw [List.set_append_right _ _ (by simp; omega)]
  simp only [List.length_map, List.length_take]
  have hd : L.drop k = t :: L.drop (k + 1) := by rw [List.drop_eq_getElem_cons hlt, hg]
  rw [show k - min k L.length = 0 by omega, List.take_add_one, h, hd, List.set_cons_zero]
  simp

theorem own_below {w w' : World} {B : Nat} {v : Value} {n : Nat} {xs : List Value} (h : w.ownsRow B 24 4 v n xs) (hb : Below w.heap.size w w') : w'.ownsRow B 24 4 v n xs := by
  refine h.kept (gb_of_below hb none) ?_
  cases hv : v.ownBlock with
  | none => exact .inl rfl
  | some k => exact .inr (by simp)
theorem B_app3 (a b c : ByteArray) : B (a ++ (b ++ c)) = B a ++ (B b ++ B c) := by simp [B, ByteArray.data_append]
theorem map_at0_snoc {want : List Tok} {t : Tok} (h : want.map (·.at 0) = want) : (want ++ [t.at 0]).map (·.at 0) = want ++ [t.at 0] := by
  rw [List.map_append, h]
  rfl

theorem Same_len (A C : List Tok) (n : Nat) (hn : A.length = n) (ao co : Option Addr) (ca cc : Nat) (w : World) (hA : Row ao A w) (hC : Row co C w) (h1 : A.length ≤ 1099511627776) :
    Calls Tryd.prog 15 #[.slice ao n ca, .slice co C.length cc] w fun e w' => e = .returned (.bool (decide (A = C))) ∧ ∃ n, w' = w.drewN n := by
  subst hn
  exact Same_any A C ao co ca cc w hA hC h1

set_option maxHeartbeats 16000000 in
set_option maxRecDepth 100000 in
theorem Back_any (L : List Tok) (ao : Option Addr) (cap : Nat) (how : Int) (w : World) (hG : Glob w) (hA : ARow ao L w) (hL : L.length ≤ 1048576) (hT : ∀ t ∈ L, TokOk t) (hh0 : 0 ≤ how) (hh1 : how ≤ 255) :
    Calls Tryd.prog 4 #[.slice ao L.length cap, .int .u8 how] w fun e w' => e = .returned (.bool true) ∧ Below w.heap.size w w' := by
  have HT := Lib.hid hT
  clear hT
  go_enter Tryd.func4, Tryd.ntmps4
  go_wp2_with (go_at_call 14; refine (lives_any _ hG).mono ?_; rintro e w1 ⟨rfl, hb1⟩; refine Hid.out ?_)
  refine Lib.hid ?_
  have hG1 := hG.self hb1
  have hA1 := hA.below hb1
  clear hG hA
  obtain ⟨i, hi, hhi⟩ : ∃ i : Nat, i < 4 ∧ (how % 4).toNat = i := ⟨_, by omega, rfl⟩
  obtain ⟨bt, hbt⟩ : ∃ bt, betw i = bt := ⟨_, rfl⟩
  have hcb : (#[Value.string ⟨#[32]⟩, Value.string ⟨#[9, 13, 10]⟩, Value.string ⟨#[59, 195, 169, 41, 10]⟩, Value.string ⟨#[32, 59, 32, 34, 10, 32]⟩] : Array Value)[(how % 4).toNat]? = some (.string bt) := by
    rw [hhi, ← hbt]
    match i, hi with
    | 0, _ => rfl
    | 1, _ => rfl
    | 2, _ => rfl
    | 3, _ => rfl
  have hcb2 : (w1.alloc (.cells #[Value.string ⟨#[32]⟩, Value.string ⟨#[9, 13, 10]⟩, Value.string ⟨#[59, 195, 169, 41, 10]⟩, Value.string ⟨#[32, 59, 32, 34, 10, 32]⟩] 9)).cell? ⟨w1.heap.size, (how % 4).toNat, none⟩ = some (.string bt) := by
    rw [Lib.cell_of_heap (heap_alloc_new _ _)]
    exact hcb
  have hbz : bt.size ≤ 6 := by
    rw [← hbt]
    match i, hi with
    | 0, _ => decide
    | 1, _ => decide
    | 2, _ => decide
    | 3, _ => decide
  have HBT := Lib.hid hbt
  clear hhi hbt
  go_wp2_with fail
  go_loopw [6, 7, 25] (fun v6 v7 v25 wr => ∃ (k : Nat) (text : ByteArray) (want : List Tok), v25 = .int .i64 k ∧ k ≤ L.length ∧ v6 = .string text ∧ wr.ownsRow w1.heap.size 24 4 v7 want.length (tokCells want) ∧ Below w1.heap.size w1 wr ∧ Hid (BackInv (B text) want ∧ want.map (·.at 0) = want) ∧ text.size ≤ 2048 ∧ want.length ≤ k) (fun _ _ v _ => L.length - (intOf v).toNat)
  case atStart => exact ⟨0, ⟨#[]⟩, [], rfl, Nat.zero_le _, rfl, World.ownsRow_nil _ _ _ _, (Below.refl _ w1).alloc (Nat.le_refl _) _, Lib.hid ⟨BackInv.start, rfl⟩, by decide, Nat.le_refl _⟩
  case round =>
    clear hcb hcb2
    obtain ⟨k, text, want, rfl, hk, rfl, hown, hbr, HI, htx, hwl⟩ := hrel
    have hAr := hA1.below hbr
    by_cases hlt : k < L.length
    · obtain ⟨t, ht⟩ : ∃ t, L[k]? = some t := ⟨_, List.getElem?_eq_getElem hlt⟩
      obtain ⟨hts, htn0, htn1⟩ := HT.out t (List.mem_of_getElem? ht)
      obtain ⟨b, o, rfl, hcs⟩ := hAr.resolve_left (by omega)
      obtain ⟨c0, c1, c2, c3⟩ := hcs k t ht
      have hbW1 : Below wr.heap.size wr (wr.alloc (.cells #[.int .u8 t.k, .string t.s, .int .i64 t.n, .int .i64 t.a] 24)) := (Below.refl _ wr).alloc (Nat.le_refl _) _
      have hGr := hG1.self hbr
      have hGW := hGr.self hbW1
      have hcell : Cell4 wr.heap.size t (wr.alloc (.cells #[.int .u8 t.k, .string t.s, .int .i64 t.n, .int .i64 t.a] 24)) := by
        unfold Cell4; rw [heap_alloc_new]
      have hSh := Show_any t _ hGW (by omega) htn0 htn1
      unfold Tok.v at hSh
      by_cases hok : showOk t
      · rw [showF_yes hok] at hSh
        have hSz := (show_alone t hok).1
        have HN := Lib.hid (HI.out.1.step t hok i hi)
        have HM := Lib.hid (map_at0_snoc (t := t) HI.out.2)
        obtain ⟨S, hS⟩ : ∃ S, showS t = S := ⟨_, rfl⟩
        rw [hS] at hSh hSz
        have HS := Lib.hid hS
        clear hok hS ht hcs
        go_wp2_with (go_at_call 12; refine hSh.mono ?_; rintro e w2 ⟨rfl, hb2⟩; refine Hid.out ?_)
        refine Lib.hid ?_
        have hcell2 := hcell.below hb2 (by simp)
        have hbA := below_self hbW1 hb2
        have d0 := hcell2.c0
        have d1 := hcell2.c1
        have d2 := hcell2.c2
        have d3 := hcell2.c3
        have f3 := hcell2.f 3
        clear hSh hcell hb2 hbW1 hGW
        by_cases hlong : (2048 : Int) < (text.size : Int) + (S.size : Int) + (bt.size : Int)
        · have hown2 := own_below hown hbA
          have hbr2 := below_then hbr hbr.size hbA
          clear hown hbr d0 d1 d2 d3 f3 hcell2 hbA HN HM HS
          go_wp2_with fail
          exact ⟨⟨k + 1, text, want, by go_num, by omega, rfl, hown2, hbr2, HI, htx, by omega⟩, by simp [intOf]; omega⟩
        · have hcell3 := cell4_at hcell2
          have hbB : Below wr.heap.size wr (w2.setCell ⟨wr.heap.size, 3, none⟩ (.int .i64 0)) := hbA.setCell (p := ⟨wr.heap.size, 3, none⟩) (Nat.le_refl _) _
          have hownB := own_below hown hbB
          have hz1' := hbr.size
          have hz2' := hbA.size
          obtain ⟨i0, hi0, hz0, hz1, hz2⟩ := info_parts infoT
          clear hown hbA
          go_wp2_with (at_builtin; refine wpList_append_own_at _ rfl _ _ 25 rfl w1.heap.size 24 i0 _ 4 40 Tryd.underlying25 hi0 hz0 hz1 hz2 rfl (by decide) u7 want.length (tokCells want) rfl (hownB.alloc _) ⟨w2.heap.size, 0, none⟩ 1 1 [.int .u8 t.k, .string t.s, .int .i64 t.n, .int .i64 0] rfl rfl ?c1 ?c2 ?c3 ?c4 ?c5 ?_)
          case c2 => exact ⟨rfl, rfl, rfl, rfl⟩
          case c3 => unfold maxLen; omega
          case c4 => omega
          case c5 => omega
          intro v' w3 hown3 hg3 _ _
          have hb3 : Below w1.heap.size w1 w3 := ((below_then hbr hbr.size hbB).alloc (by simp; omega) _).grown hg3 (by simp; omega) (fun k hk => own_base hownB k hk)
          have hown3' : w3.ownsRow w1.heap.size 24 4 v' (want ++ [t.at 0]).length (tokCells (want ++ [t.at 0])) := by
            rw [tokCells_snoc]
            simpa [Tok.cells, Tok.at] using hown3
          have hsz3 : (text ++ (S ++ bt)).size ≤ 2048 := by rw [ByteArray.size_append, ByteArray.size_append]; omega
          have HI2 : Hid (BackInv (B (text ++ (S ++ bt))) (want ++ [t.at 0]) ∧ (want ++ [t.at 0]).map (·.at 0) = want ++ [t.at 0]) := Lib.hid ⟨by rw [B_app3, ← HS.out, ← HBT.out]; exact HN.out, HM.out⟩
          clear hown3 hg3 hi0 hz0 hz1 hz2 hownB hbB hcell3 hcell2 d0 d1 d2 d3 f3 HI HN HM HS
          go_wp2_with fail
          go_roundw
          case rel => exact ⟨k + 1, text ++ (S ++ bt), want ++ [t.at 0], by go_num, by omega, rfl, hown3', hb3, HI2, hsz3, by simp; omega⟩
          case measure => simp [intOf]; omega
      · rw [showF_no hok] at hSh
        clear hok ht hcs
        go_wp2_with (go_at_call 12; refine hSh.mono ?_; rintro e w2 ⟨rfl, hb2⟩; refine Hid.out ?_)
        refine Lib.hid ?_
        have hbA := below_self hbW1 hb2
        have hown2 := own_below hown hbA
        have hbr2 := below_then hbr hbr.size hbA
        clear hown hbr hbA hb2 hbW1 hSh
        go_wp2_with fail
        exact ⟨⟨k + 1, text, want, by go_num, by omega, rfl, hown2, hbr2, HI, htx, by omega⟩, by simp [intOf]; omega⟩
    · have hGr := hG1.self hbr
      obtain ⟨hl0, hl1⟩ := HI.out.1.done htx
      obtain ⟨⟨M, z, q⟩, hR⟩ : ∃ R, lexR text = R := ⟨_, rfl⟩
      have hLx := Lex_any text wr hGr (by omega)
      rw [hR] at hl0 hl1 hLx
      simp only at hl0 hl1 hLx
      subst hl0
      rw [HI.out.2] at hl1
      have HE := Lib.hid hl1
      obtain ⟨co, ccap, rfl, hwant⟩ := own_row hown
      have hMl : M.length ≤ want.length := by rw [← hl1, List.length_map]; exact Nat.le_refl _
      clear hl1 hR hown
      go_wp2_with (go_at_call 10; refine hLx.mono ?_; rintro e w2 ⟨v, rfl, hown, hb2⟩; refine Hid.out ?_)
      refine Lib.hid ?_
      obtain ⟨mo, mcap, rfl, hM⟩ := own_rowF hown
      have hbB := below_then hbr hbr.size hb2
      have hw2 := hwant.below hb2
      have hsz := hbr.size
      have hsz2 := hb2.size
      have hM1 : M.length = want.length := by rw [← HE.out, List.length_map]
      have HM1 := Lib.hid hM1
      clear hown hLx hA1 hAr hM1
      obtain ⟨wo, rfl⟩ : ∃ wo : World, wo = wr := ⟨_, rfl⟩
      go_wp2_with fail
      go_loopw [66] (fun v wr' => ∃ k : Nat, v = .int .i64 k ∧ k ≤ M.length ∧ Below wo.heap.size w2 wr' ∧ RowF wo.heap.size mo (zeroT M k) wr') (fun v _ => M.length - (intOf v).toNat)
      case atStart => exact ⟨0, rfl, Nat.zero_le _, Below.refl _ _, hM⟩
      case round =>
        clear hM
        obtain ⟨k', rfl, hk', hb4, hZ⟩ := hrel
        by_cases hlt' : k' < M.length
        · obtain ⟨t, ht⟩ : ∃ t, M[k']? = some t := ⟨_, List.getElem?_eq_getElem hlt'⟩
          have hat := zeroT_at M k' t ht
          obtain ⟨g, rfl, hBg, hg, hfz, hcs⟩ := hZ.resolve_left (by rw [zeroT_length]; omega)
          obtain ⟨g', hg', f0, f1, f2, f3⟩ := hZ.row.at hat
          injection hg' with hg'; injection hg' with hg'; subst hg'
          have z3 := hfz (k' * 4 + 3)
          have hnx := hZ.set hat 0
          have htt : (⟨t.k, t.s, t.n, 0⟩ : Tok) = t.at 0 := rfl
          rw [htt, zeroT_set M k' t ht] at hnx
          have hb5 := below_set hb4 hBg (k' * 4 + 3) (.int .i64 0)
          clear hat hcs hfz f0 f1 f2 ht htt hZ
          go_wp2_with fail
          exact ⟨⟨k' + 1, by go_num, by omega, hb5, hnx⟩, by simp [intOf]; omega⟩
        · rw [zeroT_end M _ (by omega), HE.out] at hZ
          have hb6 := hb2.trans hb4
          have hw4 := hwant.below hb6
          have hbz := below_self hb1 (below_then hbr hbr.size hb6)
          have hSm := Same_len want want M.length HM1.out.symm mo co mcap ccap wr hZ.row hw4 (by omega)
          clear hb4 hZ hb6 hw4
          go_wp2_with (go_at_call 15; refine hSm.mono ?_; rintro e w5 ⟨rfl, n, rfl⟩; refine Hid.out ?_)
          refine Lib.hid ?_
          go_wp2_with fail
          go_ret
          exact ⟨ret_bool (by simp), below_drewN hbz _⟩
end Go.Proofs.YtchilianbbkebaaDoor.lx
