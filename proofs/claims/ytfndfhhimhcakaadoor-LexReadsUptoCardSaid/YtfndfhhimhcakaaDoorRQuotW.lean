/-
  The reference's quoted, walked. Conditions: the row lies there; its runes are runes; it begins with a mark.
-/
import Derived.Test.YtfndfhhimhcakaaDoorRQuot
namespace Go.Proofs.YtfndfhhimhcakaaDoor.lx
open Go.RowKit

theorem ill_len (gs : List G) (n : Nat) (hn : gs.length = n) (ao : Option Addr) (cap : Nat) (w : World) (hR : GRow ao gs w) (hl : gs.length ≤ 1099511627776) :
    Calls Tryd.prog 37 #[.slice ao n cap] w fun e w' => e = .returned (.bool (!gs.all (·.2))) ∧ Below w.heap.size w w' := by
  subst hn
  exact ill_any gs ao cap w hR hl
theorem rescape_len (gs : List G) (n : Nat) (hn : gs.length = n) (ao : Option Addr) (cap : Nat) (w : World) (hR : GRow ao gs w) (hl : gs.length ≤ 1048576) (hv : ∀ g ∈ gs, validR g.1) :
    Calls Tryd.prog 38 #[.slice ao n cap] w fun e w' => e = .returned (.tuple #[.int .i32 (escN gs).1, .int .i64 (escN gs).2]) ∧ w = w' := by
  subst hn
  exact rescape_any gs ao cap w hR hl hv
theorem runeB_len (gs : List G) : (runeB gs).length ≤ 4 * gs.length := by
  induction gs with
  | nil => exact Nat.le_refl _
  | cons g gs ih =>
    have := encodeRune_len g.1
    show (Lib.encodeRune g.1 ++ runeB gs).length ≤ _
    rw [List.length_append, List.length_cons]
    omega
theorem textG_close {fine : Bool} {acc : List UInt8} {g : G} {gs : List G} (h : g.1 = 34) : textG fine acc (g :: gs) = ((if fine = false then (Tok.no, 9) else if 256 < acc.length then (Tok.no, 4) else (⟨5, ⟨acc.toArray⟩, 0, 0⟩, 0)), gs) := by rw [textG, if_pos h]
theorem textG_none {fine : Bool} {acc : List UInt8} {g : G} {gs r : List G} (h : g.1 = 92) (he : escG gs = (none, r)) : textG fine acc (g :: gs) = ((Tok.no, 13), r) := by rw [textG, if_neg (by omega), if_pos h, he]; rfl
theorem tok_ret {t t' : Tok} {a a' b b' : Int} (h1 : t = t') (h2 : a = a') (h3 : b = b') : Ending.returned (.tuple #[t.v, .int .i64 a, .int .i64 b]) = .returned (.tuple #[t'.v, .int .i64 a', .int .i64 b']) := by rw [h1, h2, h3]

set_option maxHeartbeats 16000000 in
set_option maxRecDepth 100000 in
theorem rquoted_any (l : List G) (ao : Option Addr) (cap : Nat) (w : World) (hR : GRow ao l w) (hv : okR l) (hl : l.length ≤ 4096) (hc : l.length ≤ cap) (hm : cap ≤ 9223372036854775807) (h34 : ∃ g gs, l = g :: gs ∧ g.1 = 34) :
    Calls Tryd.prog 23 #[.slice ao l.length cap] w fun e w' => e = .returned (.tuple #[(tokG l).1.1.v, .int .i64 (cntG l (tokG l)), .int .i64 (tokG l).1.2]) ∧ Below w.heap.size w w' := by
  obtain ⟨K, hK⟩ : ∃ K, tokG l = K := ⟨_, rfl⟩
  rw [hK]
  have hst : QAt l 1 [] := by
    obtain ⟨g, gs, rfl, hg⟩ := h34
    exact QAt.start g gs hg
  have hpos : 1 ≤ l.length := by
    obtain ⟨g, gs, rfl, hg⟩ := h34
    simp
  have HS := Lib.hid hst
  have HK := Lib.hid hK
  have HV := Lib.hid hv
  have hcell := cell4_fresh w
  have hW : Below w.heap.size w (w.alloc (.cells #[.int .u8 0, .string ⟨#[]⟩, .int .i64 0, .int .i64 0] 24)) := (Below.refl w.heap.size w).alloc (Nat.le_refl _) _
  clear hK hst h34 hv
  go_enter Tryd.func23, Tryd.ntmps23
  go_wp2_with fail
  go_loopw [5, 6] (fun v t wr => ∃ (n : Nat) (O : List G), t = .int .i64 n ∧ 1 ≤ n ∧ n ≤ l.length ∧ O.length ≤ n ∧ wr.ownsRow (w.heap.size + 1) 50 2 v O.length (gCells O) ∧ Cell4 w.heap.size Tok.no wr ∧ Below w.heap.size w wr ∧ Hid (QAt l n O)) (fun _ t _ => l.length - (intOf t).toNat)
  case atStart => exact ⟨1, [], rfl, Nat.le_refl _, hpos, Nat.zero_le _, World.ownsRow_nil _ _ _ _, hcell, hW, HS⟩
  case round =>
    clear hcell hW HS
    obtain ⟨n, O, rfl, hn1, hnl, hOn, hown, hcell, hb, HA⟩ := hrel
    have hRr := hR.below hb
    have hsz := hb.size
    have hclt : w.heap.size < wr.heap.size := (Array.getElem?_eq_some_iff.1 hcell).1
    by_cases hlt : n < l.length
    · obtain ⟨g, hg⟩ : ∃ g, l[n]? = some g := ⟨_, List.getElem?_eq_getElem hlt⟩
      obtain ⟨b, o, rfl, c0, c1⟩ := hRr.at hg
      have hd : l.drop n = g :: l.drop (n + 1) := by
        rw [List.drop_eq_getElem_cons hlt]
        congr 1
        exact Option.some.inj ((List.getElem?_eq_getElem hlt).symm.trans hg)
      have HG := Lib.hid hg
      obtain ⟨r, ok⟩ := g
      simp only at c0 c1
      by_cases h34 : r = 34
      · subst h34
        have hKv := HK.out
        rw [HA.out.1, hd, textG_close rfl] at hKv
        obtain ⟨oo, ocap, rfl, ho1, ho2, hGO⟩ := own_grow hown
        have htx := rtext_any O oo ocap wr hGO (by omega) HA.out.2
        have hrl := runeB_len O
        obtain ⟨S, hS⟩ : ∃ S : ByteArray, (⟨(runeB O).toArray⟩ : ByteArray) = S := ⟨_, rfl⟩
        rw [hS] at htx hKv
        have hSz : S.size = (runeB O).length := by rw [← hS]; rfl
        have hSz1 : S.size ≤ 16384 := by omega
        obtain ⟨fine, hfine⟩ : ∃ f, (l.take n).all (·.2) = f := ⟨_, rfl⟩
        have hil := fun w2 hR2 => ill_len (l.take n) n (by rw [List.length_take]; omega) (some ⟨b, o, none⟩) cap w2 hR2 (by rw [List.length_take]; omega)
        rw [hfine] at hil hKv
        rw [← hSz] at hKv
        have hlast : l.length - (l.drop (n + 1)).length = n + 1 := by rw [List.length_drop]; omega
        have HKV := Lib.hid hKv
        have HL := Lib.hid hlast
        clear hd hKv hS hSz hfine hlast c1 hown HA HG hrl
        go_wp2_with (go_at_call 36; refine htx.mono ?_; rintro e w2 ⟨rfl, hb2⟩; refine Hid.out ?_)
        refine Lib.hid ?_
        have hRi := (hRr.below hb2).take n
        have hcell2 := hcell.below hb2 hclt
        have hbb := below_then hb hsz hb2
        have hsz2 := hb2.size
        clear hcell hb hRr htx hGO hb2
        go_wp2_with (go_at_call 37; refine (hil _ hRi).mono ?_; rintro e w3 ⟨rfl, hb3⟩; refine Hid.out ?_)
        refine Lib.hid ?_
        have hcell3 := hcell2.below hb3 (by omega)
        have hbc := below_then hbb (by omega) hb3
        have r0 := hcell3.c0
        have r1 := hcell3.c1
        have r2 := hcell3.c2
        have r3 := hcell3.c3
        have fr := hcell3.f
        clear hcell2 hbb hRi hb3 hil
        have h4 := put4_cell hcell3 Tok.no
        have hb4 := ((((hbc.setCell (p := ⟨w.heap.size, 0, none⟩) (Nat.le_refl _) (.int .u8 0)).setCell (p := ⟨w.heap.size, 1, none⟩) (Nat.le_refl _) (.string ⟨#[]⟩)).setCell (p := ⟨w.heap.size, 2, none⟩) (Nat.le_refl _) (.int .i64 0)).setCell (p := ⟨w.heap.size, 3, none⟩) (Nat.le_refl _) (.int .i64 0))
        cases fine with
        | false =>
          have hKw := HKV.out
          rw [if_pos rfl] at hKw
          have HKW := Lib.hid hKw
          clear hKw HKV
          go_wp2_with fail
          refine bodyPost_ret (v := .tuple #[Tok.no.v, .int .i64 0, .int .i64 9]) (results43 rfl h4 rfl rfl rfl) rfl ⟨tok_ret (by rw [← HKW.out]) (by rw [← HKW.out]; rfl) (by rw [← HKW.out]), hb4⟩
        | true =>
          by_cases h256 : 256 < S.size
          · have hKw := HKV.out
            rw [if_neg (by simp), if_pos h256] at hKw
            have HKW := Lib.hid hKw
            have h256I : (256 : Int) < (S.size : Int) := by omega
            clear hKw HKV
            go_wp2_with fail
            refine bodyPost_ret (v := .tuple #[Tok.no.v, .int .i64 0, .int .i64 4]) (results43 rfl h4 rfl rfl rfl) rfl ⟨tok_ret (by rw [← HKW.out]) (by rw [← HKW.out]; rfl) (by rw [← HKW.out]), hb4⟩
          · have hKw := HKV.out
            rw [if_neg (by simp), if_neg h256] at hKw
            have HKW := Lib.hid hKw
            have h256I : ¬ (256 : Int) < (S.size : Int) := by omega
            have h5 := put4_cell hcell3 ⟨5, S, 0, 0⟩
            have hb5 := ((((hbc.setCell (p := ⟨w.heap.size, 0, none⟩) (Nat.le_refl _) (.int .u8 5)).setCell (p := ⟨w.heap.size, 1, none⟩) (Nat.le_refl _) (.string S)).setCell (p := ⟨w.heap.size, 2, none⟩) (Nat.le_refl _) (.int .i64 0)).setCell (p := ⟨w.heap.size, 3, none⟩) (Nat.le_refl _) (.int .i64 0))
            clear hKw HKV h4 hb4
            go_wp2_with fail
            refine bodyPost_ret (v := .tuple #[(⟨5, S, 0, 0⟩ : Tok).v, .int .i64 ((n : Int) + 1), .int .i64 0]) (results43 rfl h5 rfl rfl rfl) rfl ⟨tok_ret (by rw [← HKW.out]) ?_ (by rw [← HKW.out]), hb5⟩
            rw [← HKW.out]
            show ((n : Int) + 1) = ((l.length - (l.drop (n + 1)).length : Nat) : Int)
            rw [HL.out]
            rfl
      · by_cases h92 : r = 92
        · skip
          have e1 : (r == 34) = false := by simp [h34]
          have e2 : (r == 92) = true := by simp [h92]
          obtain ⟨ex, rest, hee⟩ : ∃ ex rest, escG (l.drop (n + 1)) = (ex, rest) := ⟨_, _, rfl⟩
          have hesc := fun ao' cap' w2 hR2 => rescape_len (l.drop (n + 1)) (l.length - (n + 1)) (List.length_drop) ao' cap' w2 hR2 (by rw [List.length_drop]; omega) (fun g hg => (HV.out.drop (n + 1) g hg).1)
          cases ex with
          | none =>
            rw [escN_none hee] at hesc
            have hKv := HK.out
            rw [HA.out.1, hd, textG_none h92 hee] at hKv
            have HKV := Lib.hid hKv
            have r0 := hcell.c0
            have r1 := hcell.c1
            have r2 := hcell.c2
            have r3 := hcell.c3
            have fr := hcell.f
            have h4 := put4_cell hcell Tok.no
            have hb4 := ((((hb.setCell (p := ⟨w.heap.size, 0, none⟩) (Nat.le_refl _) (.int .u8 0)).setCell (p := ⟨w.heap.size, 1, none⟩) (Nat.le_refl _) (.string ⟨#[]⟩)).setCell (p := ⟨w.heap.size, 2, none⟩) (Nat.le_refl _) (.int .i64 0)).setCell (p := ⟨w.heap.size, 3, none⟩) (Nat.le_refl _) (.int .i64 0))
            clear hKv HA hd h34 h92 hee HG
            by_cases hcap : cap = n + 1
            · subst hcap
              have hRd : GRow (some ⟨b, o, none⟩) (l.drop (n + 1)) wr := .inl (by rw [List.length_drop]; omega)
              have hl0 : l.length - (n + 1) = 0 := by omega
              rw [hl0] at hesc
              clear hl0
              go_wp2_with (go_at_call 38; refine (hesc _ _ _ hRd).mono ?_; rintro e w2 ⟨rfl, rfl⟩)
              refine bodyPost_ret (v := .tuple #[Tok.no.v, .int .i64 0, .int .i64 13]) (results43 rfl h4 rfl rfl rfl) rfl ⟨tok_ret (by rw [← HKV.out]) (by rw [← HKV.out]; rfl) (by rw [← HKV.out]), hb4⟩
            · have hRd := hRr.drop (n + 1)
              go_wp2_with (go_at_call 38; refine (hesc _ _ _ hRd).mono ?_; rintro e w2 ⟨rfl, rfl⟩)
              refine bodyPost_ret (v := .tuple #[Tok.no.v, .int .i64 0, .int .i64 13]) (results43 rfl h4 rfl rfl rfl) rfl ⟨tok_ret (by rw [← HKV.out]) (by rw [← HKV.out]; rfl) (by rw [← HKV.out]), hb4⟩
          | some x =>
            rw [escN_some hee] at hesc
            obtain ⟨hq, hqle, hk1⟩ := HA.out.esc HV.out HG.out h92 hee
            obtain ⟨k, hk⟩ : ∃ k, (l.drop (n + 1)).length - rest.length = k := ⟨_, rfl⟩
            rw [hk] at hesc hq hqle hk1
            have HQ := Lib.hid hq
            have hx := escG_val (HV.out.drop (n + 1)) hee
            have hx0 : 0 ≤ x := hx.1
            have hx1 : x ≤ 1114111 := by have := hx.2; omega
            have hkz : ((k : Int) == 0) = false := by simp; omega
            obtain ⟨i0, hi0, hz0, hz1, hz2⟩ := info_parts infoGl
            clear hd hq h34 h92 HA HG hee hk hx
            by_cases hcap : cap = n + 1
            · exfalso
              omega
            · have hRd := hRr.drop (n + 1)
              go_wp2_with (go_at_call 38; refine (hesc _ _ _ hRd).mono ?_; rintro e w2 ⟨rfl, rfl⟩; refine Hid.out ?_)
              refine Lib.hid ?_
              clear hesc hRd
              go_wp2_with (at_builtin; refine wpList_append_own_at _ rfl _ _ 39 rfl (w.heap.size + 1) 50 i0 _ 2 8 Tryd.underlying39 hi0 hz0 hz1 hz2 rfl (by decide) u5 O.length (gCells O) rfl (hown.alloc _) ⟨wr.heap.size, 0, none⟩ 1 1 [.int .i32 x, .bool false] rfl rfl ?cE1 ?cE2 ?cE3 ?cE4 ?cE5 ?_)
              case cE1 =>
                intro j u hj
                match j, hj with
                | 0, hj => simp at hj; subst hj; simp [Addr.add]
                | 1, hj => simp at hj; subst hj; simp [Addr.add]
                | (j + 2), hj => simp at hj
              case cE2 => intro u hu; simp at hu; rcases hu with rfl | rfl <;> rfl
              case cE3 => unfold maxLen; omega
              case cE4 => omega
              case cE5 => simp; omega
              intro v' w3 hown3 hg3 _ _
              have hne : u5.ownBlock ≠ some w.heap.size := fun e => by have := own_base hown _ e; omega
              have hcell3 : Cell4 w.heap.size Tok.no w3 := (hg3.block w.heap.size (by simp; omega) (fun e => hne e.symm)).trans ((Lib.alloc_old _ _ _ hclt).trans hcell)
              have hb3 : Below w.heap.size w w3 := (hb.alloc (by omega) _).grown hg3 (by simp; omega) (fun k hk => by have := own_base hown k hk; omega)
              have hown3' : w3.ownsRow (w.heap.size + 1) 50 2 v' (O ++ [(x, true)]).length (gCells (O ++ [(x, true)])) := by
                rw [gCells_snoc]
                simpa [G.cells] using hown3
              clear hown3 hg3 hown hne hb hcell hi0 hz0 hz1 hz2
              go_wp2_with fail
              go_roundw
              case rel => exact ⟨n + 1 + k, O ++ [(x, true)], by go_num, by omega, by omega, by simp; omega, hown3', hcell3, hb3, HQ⟩
              case measure => simp [intOf]; omega
        · have hq := HA.out.rune HV.out HG.out h34 h92
          have HQ := Lib.hid hq
          have e1 : (r == 34) = false := by simp [h34]
          have e2 : (r == 92) = false := by simp [h92]
          obtain ⟨i0, hi0, hz0, hz1, hz2⟩ := info_parts infoGl
          clear hd hq h34 h92 HA HG
          go_wp2_with (at_builtin; refine wpList_append_own_at _ rfl _ _ 39 rfl (w.heap.size + 1) 50 i0 _ 2 8 Tryd.underlying39 hi0 hz0 hz1 hz2 rfl (by decide) u5 O.length (gCells O) rfl (hown.alloc _) ⟨wr.heap.size, 0, none⟩ 1 1 [.int .i32 r, .bool (!ok)] rfl rfl ?c1 ?c2 ?c3 ?c4 ?c5 ?_)
          case c1 =>
            intro j u hj
            match j, hj with
            | 0, hj => simp at hj; subst hj; simp [Addr.add]
            | 1, hj => simp at hj; subst hj; simp [Addr.add]
            | (j + 2), hj => simp at hj
          case c2 => intro u hu; simp at hu; rcases hu with rfl | rfl <;> rfl
          case c3 => unfold maxLen; omega
          case c4 => omega
          case c5 => simp; omega
          intro v' w3 hown3 hg3 _ _
          have hne : u5.ownBlock ≠ some w.heap.size := fun e => by have := own_base hown _ e; omega
          have hcell3 : Cell4 w.heap.size Tok.no w3 := (hg3.block w.heap.size (by simp; omega) (fun e => hne e.symm)).trans ((Lib.alloc_old _ _ _ hclt).trans hcell)
          have hb3 : Below w.heap.size w w3 := (hb.alloc (by omega) _).grown hg3 (by simp; omega) (fun k hk => by have := own_base hown k hk; omega)
          have hown3' : w3.ownsRow (w.heap.size + 1) 50 2 v' (O ++ [(r, ok)]).length (gCells (O ++ [(r, ok)])) := by
            rw [gCells_snoc]
            simpa [G.cells] using hown3
          clear hown3 hg3 hown hne hb hcell hi0 hz0 hz1 hz2
          go_wp2_with fail
          go_roundw
          case rel => exact ⟨n + 1, O ++ [(r, ok)], by go_num, by omega, by omega, by simp; omega, hown3', hcell3, hb3, HQ⟩
          case measure => simp [intOf]; omega
    · have hKv := HK.out
      rw [HA.out.1, List.drop_of_length_le (by omega), textG] at hKv
      have HKV := Lib.hid hKv
      have r0 := hcell.c0
      have r1 := hcell.c1
      have r2 := hcell.c2
      have r3 := hcell.c3
      have fr := hcell.f
      have h4 := put4_cell hcell Tok.no
      have hb4 := ((((hb.setCell (p := ⟨w.heap.size, 0, none⟩) (Nat.le_refl _) (.int .u8 0)).setCell (p := ⟨w.heap.size, 1, none⟩) (Nat.le_refl _) (.string ⟨#[]⟩)).setCell (p := ⟨w.heap.size, 2, none⟩) (Nat.le_refl _) (.int .i64 0)).setCell (p := ⟨w.heap.size, 3, none⟩) (Nat.le_refl _) (.int .i64 0))
      clear hKv HA
      go_wp2_with fail
      refine bodyPost_ret (v := .tuple #[Tok.no.v, .int .i64 0, .int .i64 13]) (results43 rfl h4 rfl rfl rfl) rfl ⟨tok_ret (by rw [← HKV.out]) (by rw [← HKV.out]; rfl) (by rw [← HKV.out]), hb4⟩
end Go.Proofs.YtfndfhhimhcakaaDoor.lx
