/-
  The reference's glyphs and text. Conditions: the row lies there; the text is short.
-/
import Derived.Test.YtfndfhhimhcakaaDoorRRow
import Derived.Test.YtfndfhhimhcakaaDoorEnc
import Derived.Test.YtfndfhhimhcakaaDoorGEnc
import Derived.Laws.Cover4
import Derived.Maps.AppendAt
namespace Go.Proofs.YtfndfhhimhcakaaDoor.lx
open Go.RowKit

def G.cells (g : G) : List Value := [.int .i32 g.1, .bool (!g.2)]
def gCells (gs : List G) : List Value := gs.flatMap G.cells
theorem gCells_length (gs : List G) : (gCells gs).length = gs.length * 2 := by
  induction gs with
  | nil => rfl
  | cons t ts ih => simp [gCells] at ih ⊢; rw [ih]; simp [G.cells]; omega
theorem gCells_snoc (gs : List G) (g : G) : gCells (gs ++ [g]) = gCells gs ++ g.cells := by simp [gCells]
theorem gCells_at : ∀ (gs : List G) (i : Nat) (g : G) (j : Nat), gs[i]? = some g → j < 2 → (gCells gs)[i * 2 + j]? = g.cells[j]?
  | [], i, g, j, h, _ => by simp at h
  | x :: gs, 0, g, j, h, hj => by
    simp at h
    subst h
    rw [gCells, List.flatMap_cons, List.getElem?_append_left (by simp [G.cells]; omega)]
    simp
  | x :: gs, i + 1, g, j, h, hj => by
    have := gCells_at gs i g j (by simpa using h) hj
    rw [gCells, List.flatMap_cons, List.getElem?_append_right (by simp [G.cells]; omega)]
    have e : (i + 1) * 2 + j - x.cells.length = i * 2 + j := by simp [G.cells]; omega
    rw [e]
    exact this
theorem own_grow {w : World} {B : Nat} {v : Value} {gs : List G} (h : w.ownsRow B 50 2 v gs.length (gCells gs)) : ∃ ao cap, v = .slice ao gs.length cap ∧ gs.length ≤ cap ∧ cap ≤ maxLen ∧ GRow ao gs w := by
  rcases h.2 with ⟨hv, h0⟩ | ⟨g, cap, cur, hv, hb, hg, hc, hm, hs, ht⟩
  · exact ⟨none, 0, by rw [hv, h0], by omega, by decide, .inl h0⟩
  · refine ⟨_, cap, hv, hc, hm, .inr ⟨g, 0, rfl, fun i x hx => ?_⟩⟩
    have hcell : ∀ (j : Nat) u, (gCells gs)[j]? = some u → w.cell? ⟨g, j, none⟩ = some u := by
      intro j u hu
      rw [Lib.cell_of_heap hg]
      rw [← ht, List.getElem?_take] at hu
      split at hu
      · simpa using hu
      · cases hu
    rw [Nat.zero_add]
    exact ⟨hcell _ _ (gCells_at gs i x 0 hx (by omega)), hcell _ _ (gCells_at gs i x 1 hx (by omega))⟩
theorem infoGl : (Tryd.prog.info? 50).map (fun i => (i.zero, i.size, i.bytes)) = some (some (.agg #[.int .i32 0, .bool false]), 2, 8) := by kernel_rfl
theorem infoRn : (Tryd.prog.info? 21).map (fun i => (i.zero, i.size, i.bytes)) = some (some (.int .i32 0), 1, 4) := by kernel_rfl

theorem take3 (l : List UInt8) (pos : Nat) (h : pos + 3 ≤ l.length) : (l.drop pos).take 3 = [l.getD pos 0, l.getD (pos + 1) 0, l.getD (pos + 2) 0] := by
  have e1 : l.drop pos = l[pos] :: l.drop (pos + 1) := List.drop_eq_getElem_cons (by omega)
  have e2 : l.drop (pos + 1) = l[pos + 1] :: l.drop (pos + 2) := List.drop_eq_getElem_cons (by omega)
  have e3 : l.drop (pos + 2) = l[pos + 2] :: l.drop (pos + 3) := List.drop_eq_getElem_cons (by omega)
  have g1 : l.getD pos 0 = l[pos] := by simp [List.getD_eq_getElem?_getD, List.getElem?_eq_getElem (show pos < l.length by omega)]
  have g2 : l.getD (pos + 1) 0 = l[pos + 1] := by simp [List.getD_eq_getElem?_getD, List.getElem?_eq_getElem (show pos + 1 < l.length by omega)]
  have g3 : l.getD (pos + 2) 0 = l[pos + 2] := by simp [List.getD_eq_getElem?_getD, List.getElem?_eq_getElem (show pos + 2 < l.length by omega)]
  rw [e1, e2, e3, g1, g2, g3]
  rfl
theorem slice3 (s : ByteArray) (pos : Nat) (h : pos + 3 ≤ s.size) : (s.extract pos (pos + 3)).toList = [s.data.toList.getD pos 0, s.data.toList.getD (pos + 1) 0, s.data.toList.getD (pos + 2) 0] := by
  rw [Lib.toList_data, ByteArray.data_extract, Array.toList_extract, List.extract_eq_take_drop, show pos + 3 - pos = 3 by omega]
  exact take3 _ _ (by rw [← Lib.size_eq]; exact h)
/-- how the reference tells a bad rune -/
theorem rune_bad (s : ByteArray) (pos : Nat) (hr : (Utf8.decode s pos).1 = 65533) :
    ((Utf8.decode s pos).2 = 3 ∧ pos + 3 ≤ s.size ∧ (s.extract pos (pos + 3)).toList = [239, 191, 189]) ∨ ((Utf8.decode s pos).2 = 1 ∧ (s.size < pos + 3 ∨ (s.extract pos (pos + 3)).toList ≠ [239, 191, 189])) := by
  have hN := Lib.decode_N s pos
  have hs := Lib.size_eq s
  rcases Lib.decodeN_shape (s.data.toList.length - pos) (s.data.toList.getD pos 0).toNat (s.data.toList.getD (pos + 1) 0).toNat (s.data.toList.getD (pos + 2) 0).toNat (s.data.toList.getD (pos + 3) 0).toNat with ⟨c, e⟩ | ⟨c1, c2, c3, cv, e⟩ | ⟨c1, c2, c3, c4, cv, cs, e⟩ | ⟨c1, c2, c3, c4, c5, cv, cw, e⟩ | e
  · rw [hN, e] at hr; simp only at hr; omega
  · rw [hN, e] at hr; simp only at hr; omega
  · left
    rw [hN, e] at hr ⊢
    simp only at hr
    have e0 : (s.data.toList.getD pos 0).toNat = 239 := by omega
    have e1 : (s.data.toList.getD (pos + 1) 0).toNat = 191 := by omega
    have e2 : (s.data.toList.getD (pos + 2) 0).toNat = 189 := by omega
    refine ⟨rfl, by omega, ?_⟩
    rw [slice3 s pos (by omega), UInt8.toNat_inj.1 (e0.trans (by decide : 239 = (239 : UInt8).toNat)), UInt8.toNat_inj.1 (e1.trans (by decide : 191 = (191 : UInt8).toNat)), UInt8.toNat_inj.1 (e2.trans (by decide : 189 = (189 : UInt8).toNat))]
  · rw [hN, e] at hr; simp only at hr; omega
  · right
    refine ⟨by rw [hN, e], ?_⟩
    by_cases h3 : s.size < pos + 3
    · exact .inl h3
    · right
      intro hh
      rw [slice3 s pos (by omega)] at hh
      injection hh with h0 hh
      injection hh with h1 hh
      injection hh with h2 hh
      rw [h0, h1, h2] at e
      have hn : 2 < s.data.toList.length - pos := by omega
      unfold Lib.decodeN at e
      rw [if_neg (by decide), if_neg (by intro hc; exact absurd hc.1 (by decide)), if_pos ⟨by decide, ⟨by omega, by decide⟩, ⟨by omega, by decide⟩⟩, if_pos (by decide)] at e
      have := congrArg Prod.snd e
      revert this
      decide

theorem stepOk_other (l : ByteArray) (h : l.size ≠ 0) (hr : dr l ≠ 65533) : stepOk l = true := by
  have hb := dn_bounds l h
  by_cases h1 : dn l = 1
  · rw [stepOk_one h1]; simpa using hr
  · exact stepOk_many (by omega)

theorem own_belowG {w w' : World} {B : Nat} {e : TypeId} {size : Nat} {v : Value} {n : Nat} {xs : List Value} (h : w.ownsRow B e size v n xs) (hb : Below w.heap.size w w') : w'.ownsRow B e size v n xs := by
  refine h.kept (gb_of_below hb none) ?_
  cases hv : v.ownBlock with
  | none => exact .inl rfl
  | some k => exact .inr (by simp)

set_option maxHeartbeats 8000000 in
set_option maxRecDepth 100000 in
theorem glyphs_any (s : ByteArray) (w : World) (hs : s.size ≤ 2048) :
    Calls Tryd.prog 12 #[.string s] w fun e w' => ∃ v, e = .returned v ∧ w'.ownsRow w.heap.size 50 2 v (gl (B s)).length (gCells (gl (B s))) ∧ Below w.heap.size w w' := by
  go_enter Tryd.func12, Tryd.ntmps12
  go_wp2_with fail
  go_loopw [3] (fun v wr => ∃ (pos : Nat) (gs : List G), wr.ownsRow (w.heap.size + 1) 50 2 v gs.length (gCells gs) ∧ wr.heap[w.heap.size]? = some (.stringIter s pos) ∧ Below w.heap.size w wr ∧ Hid (gs ++ gl (B (s.extract pos s.size)) = gl (B s)) ∧ gs.length ≤ pos ∧ pos ≤ s.size) (fun _ wr => s.size - wr.iterPos w.heap.size)
  case atStart =>
    refine ⟨0, [], World.ownsRow_nil _ _ _ _, ?_, (Below.refl _ w).alloc (Nat.le_refl _) _, Lib.hid (by rw [all_rest]; rfl), Nat.le_refl _, Nat.zero_le _⟩
    have := World.iter_heap w s 0
    simpa using this
  case round =>
    obtain ⟨pos, gs, hown, hit, hbr, HA, hgl, hps⟩ := hrel
    by_cases hp : pos < s.size
    · have hnxt : ∀ ty, (Instr.next (.pointer (some ⟨w.heap.size, 0, none⟩)) true ty).run Tryd.prog wr = _ := fun ty => Lib.run_next_any_at wr w.heap.size s pos ty hit hp
      have hsz : w.heap.size < wr.heap.size := (Array.getElem?_eq_some_iff.1 hit).1
      have hwd : 1 ≤ (Utf8.decode s pos).2 := by rw [← dn_rest s pos hp]; exact (dn_bounds _ (by rw [rest_size]; omega)).1
      have hwe : pos + (Utf8.decode s pos).2 ≤ s.size := by
        have := (dn_bounds (s.extract pos s.size) (by rw [rest_size]; omega)).2.2
        rw [dn_rest s pos hp, rest_size] at this
        omega
      have hd1 := decode_le s pos
      have hbad := rune_bad s pos
      have hg : gl (B (s.extract pos s.size)) = (((Utf8.decode s pos).1 : Int), stepOk (s.extract pos s.size)) :: gl (B (s.extract (pos + (Utf8.decode s pos).2) s.size)) := by
        rw [glB_cons (by rw [rest_size]; omega), dr_rest s pos hp, adv_rest s pos hp]
      have hother := stepOk_other (s.extract pos s.size) (by rw [rest_size]; omega)
      have hone := @stepOk_one (s.extract pos s.size)
      have hmany := @stepOk_many (s.extract pos s.size)
      rw [dr_rest s pos hp] at hother hone
      rw [dn_rest s pos hp] at hone hmany
      obtain ⟨n, hn⟩ : ∃ n, (Utf8.decode s pos).2 = n := ⟨_, rfl⟩
      obtain ⟨r, hr⟩ : ∃ r, (Utf8.decode s pos).1 = r := ⟨_, rfl⟩
      obtain ⟨ok, hok⟩ : ∃ ok, stepOk (s.extract pos s.size) = ok := ⟨_, rfl⟩
      rw [hr] at hd1 hbad hg hother hone hnxt
      rw [hn] at hwd hwe hbad hg hone hmany hnxt
      rw [hok] at hg hother hone hmany
      obtain ⟨q, hq⟩ : ∃ q, pos + n = q := ⟨_, rfl⟩
      rw [hq] at hwe hg hnxt
      have hpq : pos + 1 ≤ q := by omega
      have hit2 := Lib.iterAt_heap wr w.heap.size s pos q hit
      have hbr2 := Lib.below_iterAt hbr (k := w.heap.size) (Nat.le_refl _) s q
      have hown2 := ownsRow_iterAt hown (k := w.heap.size) (by omega) s q
      have HM : Hid (s.size - q < s.size - wr.iterPos w.heap.size) := Lib.hid (by simp only [World.iterPos, hit]; omega)
      obtain ⟨wi, hwi⟩ : ∃ x, wr.iterAt w.heap.size s q = x := ⟨_, rfl⟩
      rw [hwi] at hnxt hit2 hbr2 hown2
      have hszi : w.heap.size < wi.heap.size := (Array.getElem?_eq_some_iff.1 hit2).1
      have HN : Hid ((gs ++ [((r : Int), ok)]) ++ gl (B (s.extract q s.size)) = gl (B s)) := Lib.hid (by rw [← HA.out, hg]; simp)
      obtain ⟨i0, hi0, hz0, hz1, hz2⟩ := info_parts infoGl
      clear hn hr hok hq hwd hg hit hbr HA hwi hsz
      by_cases h53 : r = 65533
      · rcases hbad h53 with ⟨h3, h4, h5⟩ | ⟨h3, h4⟩
        · have hok : ok = true := hmany (by omega)
          subst hok
          have e1 : ((r : Int) == 65533) = true := by simp [h53]
          have e2 : ¬ (s.size : Int) < (pos : Int) + 3 := by omega
          have e3 : ((s.extract pos (pos + 3)).toList == [239, 191, 189]) = true := by rw [h5]; rfl
          clear h53 h3 h5
          clear hbad hone hmany hother hown
          go_wp2_with (at_builtin; refine wpList_append_own_at _ rfl _ _ 39 rfl (w.heap.size + 1) 50 i0 _ 2 8 Tryd.underlying39 hi0 hz0 hz1 hz2 rfl (by decide) u3 gs.length (gCells gs) rfl (hown2.alloc _) ⟨wi.heap.size, 0, none⟩ 1 1 [.int .i32 (r : Int), .bool false] rfl rfl ?cA1 ?cA2 ?cA3 ?cA4 ?cA5 ?_)
          case cA2 => exact ⟨rfl, rfl⟩
          case cA3 => unfold maxLen; omega
          case cA4 => omega
          case cA5 => omega
          intro v' w3 hown3 hg3 _ _
          have hne : u3.ownBlock ≠ some w.heap.size := fun e => by have := own_base hown2 _ e; omega
          have hit3 : w3.heap[w.heap.size]? = some (.stringIter s q) := (hg3.block w.heap.size (by simp; omega) (fun e => hne e.symm)).trans ((Lib.alloc_old _ _ _ hszi).trans hit2)
          have hb3 : Below w.heap.size w w3 := (hbr2.alloc (by omega) _).grown hg3 (by simp; omega) (fun k hk => by have := own_base hown2 k hk; omega)
          have hown3' : w3.ownsRow (w.heap.size + 1) 50 2 v' (gs ++ [((r : Int), true)]).length (gCells (gs ++ [((r : Int), true)])) := by
            rw [gCells_snoc]
            simpa [G.cells] using hown3
          clear hown3 hg3 hown2 hne hbr2 hit2 hi0 hz0 hz1 hz2
          go_wp2_with fail
          go_roundw
          case rel => exact ⟨q, gs ++ [((r : Int), true)], hown3', hit3, hb3, HN, by simp; omega, hwe⟩
          case measure => simp only [World.iterPos, hit3]; exact HM.out
        · have hok : ok = false := by
            rw [hone h3, h53]
            rfl
          subst hok
          by_cases h6 : s.size < pos + 3
          · skip
            have e1 : ((r : Int) == 65533) = true := by simp [h53]
            have e2 : (s.size : Int) < (pos : Int) + 3 := by omega
            clear h53 h3 h4
            clear hbad hone hmany hother hown
            go_wp2_with (at_builtin; refine wpList_append_own_at _ rfl _ _ 39 rfl (w.heap.size + 1) 50 i0 _ 2 8 Tryd.underlying39 hi0 hz0 hz1 hz2 rfl (by decide) u3 gs.length (gCells gs) rfl (hown2.alloc _) ⟨wi.heap.size, 0, none⟩ 1 1 [.int .i32 (r : Int), .bool true] rfl rfl ?cB1 ?cB2 ?cB3 ?cB4 ?cB5 ?_)
            case cB1 =>
              intro j u hj
              match j, hj with
              | 0, hj => simp at hj; subst hj; simp [Addr.add]
              | 1, hj => simp at hj; subst hj; simp [Addr.add]
              | (j + 2), hj => simp at hj
            case cB2 => intro u hu; simp at hu; rcases hu with rfl | rfl <;> rfl
            case cB3 => unfold maxLen; omega
            case cB4 => omega
            case cB5 => simp; omega
            intro v' w3 hown3 hg3 _ _
            have hne : u3.ownBlock ≠ some w.heap.size := fun e => by have := own_base hown2 _ e; omega
            have hit3 : w3.heap[w.heap.size]? = some (.stringIter s q) := (hg3.block w.heap.size (by simp; omega) (fun e => hne e.symm)).trans ((Lib.alloc_old _ _ _ hszi).trans hit2)
            have hb3 : Below w.heap.size w w3 := (hbr2.alloc (by omega) _).grown hg3 (by simp; omega) (fun k hk => by have := own_base hown2 k hk; omega)
            have hown3' : w3.ownsRow (w.heap.size + 1) 50 2 v' (gs ++ [((r : Int), false)]).length (gCells (gs ++ [((r : Int), false)])) := by
              rw [gCells_snoc]
              simpa [G.cells] using hown3
            clear hown3 hg3 hown2 hne hbr2 hit2 hi0 hz0 hz1 hz2
            go_wp2_with fail
            go_roundw
            case rel => exact ⟨q, gs ++ [((r : Int), false)], hown3', hit3, hb3, HN, by simp; omega, hwe⟩
            case measure => simp only [World.iterPos, hit3]; exact HM.out
          · have h7 := h4.resolve_left h6
            have e1 : ((r : Int) == 65533) = true := by simp [h53]
            have e2 : ¬ (s.size : Int) < (pos : Int) + 3 := by omega
            have e3 : ((s.extract pos (pos + 3)).toList == [239, 191, 189]) = false := by rw [beq_eq_false_iff_ne]; exact h7
            clear h53 h3 h4 h7
            clear hbad hone hmany hother hown
            go_wp2_with (at_builtin; refine wpList_append_own_at _ rfl _ _ 39 rfl (w.heap.size + 1) 50 i0 _ 2 8 Tryd.underlying39 hi0 hz0 hz1 hz2 rfl (by decide) u3 gs.length (gCells gs) rfl (hown2.alloc _) ⟨wi.heap.size, 0, none⟩ 1 1 [.int .i32 (r : Int), .bool true] rfl rfl ?cC1 ?cC2 ?cC3 ?cC4 ?cC5 ?_)
            case cC2 => exact ⟨rfl, rfl⟩
            case cC3 => unfold maxLen; omega
            case cC4 => omega
            case cC5 => omega
            intro v' w3 hown3 hg3 _ _
            have hne : u3.ownBlock ≠ some w.heap.size := fun e => by have := own_base hown2 _ e; omega
            have hit3 : w3.heap[w.heap.size]? = some (.stringIter s q) := (hg3.block w.heap.size (by simp; omega) (fun e => hne e.symm)).trans ((Lib.alloc_old _ _ _ hszi).trans hit2)
            have hb3 : Below w.heap.size w w3 := (hbr2.alloc (by omega) _).grown hg3 (by simp; omega) (fun k hk => by have := own_base hown2 k hk; omega)
            have hown3' : w3.ownsRow (w.heap.size + 1) 50 2 v' (gs ++ [((r : Int), false)]).length (gCells (gs ++ [((r : Int), false)])) := by
              rw [gCells_snoc]
              simpa [G.cells] using hown3
            clear hown3 hg3 hown2 hne hbr2 hit2 hi0 hz0 hz1 hz2
            go_wp2_with fail
            go_roundw
            case rel => exact ⟨q, gs ++ [((r : Int), false)], hown3', hit3, hb3, HN, by simp; omega, hwe⟩
            case measure => simp only [World.iterPos, hit3]; exact HM.out
      · have hok : ok = true := hother (by omega)
        subst hok
        have e1 : ((r : Int) == 65533) = false := by simp; omega
        clear h53
        clear hbad hone hmany hother hown
        go_wp2_with (at_builtin; refine wpList_append_own_at _ rfl _ _ 39 rfl (w.heap.size + 1) 50 i0 _ 2 8 Tryd.underlying39 hi0 hz0 hz1 hz2 rfl (by decide) u3 gs.length (gCells gs) rfl (hown2.alloc _) ⟨wi.heap.size, 0, none⟩ 1 1 [.int .i32 (r : Int), .bool false] rfl rfl ?cD1 ?cD2 ?cD3 ?cD4 ?cD5 ?_)
        case cD1 =>
          intro j u hj
          match j, hj with
          | 0, hj => simp at hj; subst hj; simp [Addr.add]
          | 1, hj => simp at hj; subst hj; simp [Addr.add]
          | (j + 2), hj => simp at hj
        case cD2 => intro u hu; simp at hu; rcases hu with rfl | rfl <;> rfl
        case cD3 => unfold maxLen; omega
        case cD4 => omega
        case cD5 => simp; omega
        intro v' w3 hown3 hg3 _ _
        have hne : u3.ownBlock ≠ some w.heap.size := fun e => by have := own_base hown2 _ e; omega
        have hit3 : w3.heap[w.heap.size]? = some (.stringIter s q) := (hg3.block w.heap.size (by simp; omega) (fun e => hne e.symm)).trans ((Lib.alloc_old _ _ _ hszi).trans hit2)
        have hb3 : Below w.heap.size w w3 := (hbr2.alloc (by omega) _).grown hg3 (by simp; omega) (fun k hk => by have := own_base hown2 k hk; omega)
        have hown3' : w3.ownsRow (w.heap.size + 1) 50 2 v' (gs ++ [((r : Int), true)]).length (gCells (gs ++ [((r : Int), true)])) := by
          rw [gCells_snoc]
          simpa [G.cells] using hown3
        clear hown3 hg3 hown2 hne hbr2 hit2 hi0 hz0 hz1 hz2
        go_wp2_with fail
        go_roundw
        case rel => exact ⟨q, gs ++ [((r : Int), true)], hown3', hit3, hb3, HN, by simp; omega, hwe⟩
        case measure => simp only [World.iterPos, hit3]; exact HM.out
    · have hnxt : ∀ ty, (Instr.next (.pointer (some ⟨w.heap.size, 0, none⟩)) true ty).run Tryd.prog wr = _ := fun ty => Lib.run_next_end_at wr w.heap.size s pos ty hit hp
      have hfin : gs = gl (B s) := by rw [← HA.out, glB_nil (by rw [rest_size]; omega), List.append_nil]
      have HF := Lib.hid hfin
      clear hfin HA
      go_wp2_with fail
      go_ret
      rw [← HF.out]
      exact ⟨_, rfl, own_le hown (by omega), hbr⟩

theorem runes_foldl : ∀ (zs : List Int) (s : ByteArray), (∀ z ∈ zs, 0 ≤ z) → (zs.foldl (fun r n => r ++ Utf8.encode n) s).data.toList = s.data.toList ++ zs.flatMap Lib.encodeRune
  | [], s, _ => by simp
  | z :: zs, s, h => by
    rw [List.foldl_cons, runes_foldl zs _ (fun x hx => h x (by simp [hx])), ByteArray.data_append, Array.toList_append, List.flatMap_cons]
    obtain ⟨n, rfl⟩ := Int.eq_ofNat_of_zero_le (h z (by simp))
    rw [utf8_enc]
    simp
theorem runesBytes_eq (gs : List G) (h : ∀ g ∈ gs, 0 ≤ g.1) : runesBytes (gs.map (·.1)) = ⟨(runeB gs).toArray⟩ := by
  apply ByteArray.ext
  apply Array.toList_inj.1
  unfold runesBytes
  rw [runes_foldl _ _ (fun z hz => by obtain ⟨g, hg, rfl⟩ := List.mem_map.1 hz; exact h g hg)]
  simp [runeB, List.flatMap_map]

def runeC (gs : List G) (k : Nat) : List Value := (gs.take k).map fun g => .int .i32 g.1
theorem runeC_snoc {gs : List G} {k : Nat} {g : G} (h : gs[k]? = some g) : runeC gs (k + 1) = runeC gs k ++ [.int .i32 g.1] := by
  unfold runeC
  rw [List.take_add_one, h]
  simp
theorem conv_own {w : World} {B : Nat} {v : Value} {gs : List G} (h : w.ownsRow B 21 1 v gs.length (runeC gs gs.length)) (hv : ∀ g ∈ gs, 0 ≤ g.1) :
    (convert 88 9 v).run Tryd.prog w = .ok (.string ⟨(runeB gs).toArray⟩) w := by
  rcases h.2 with ⟨rfl, h0⟩ | ⟨g, cap, cur, rfl, hb, hg, hc, hm, hs, ht⟩
  · rw [run_convert_runes_nil w _ _ _ 0 0 Tryd.underlying88 Tryd.underlying21 Tryd.underlying9]
    rw [List.eq_nil_of_length_eq_zero h0]
    rfl
  · have hcell : ∀ j, j < (gs.map (·.1)).length → w.cell? ((⟨g, 0, none⟩ : Addr).add j) = some (.int .i32 ((gs.map (·.1)).getD j 0)) := by
      intro j hj
      have hj' : j < gs.length := by simpa using hj
      have hcj := h.cells (g := g) rfl j (.int .i32 ((gs.map (·.1)).getD j 0)) (by
        unfold runeC
        rw [List.take_of_length_le (Nat.le_refl _), List.getElem?_map, List.getElem?_eq_getElem hj']
        simp [List.getD_eq_getElem?_getD, List.getElem?_eq_getElem hj'])
      exact hcj
    rw [run_convert_runes w _ _ _ ⟨g, 0, none⟩ gs.length cap (gs.map (·.1)) (by simp) Tryd.underlying88 Tryd.underlying21 Tryd.underlying9 hcell]
    rw [List.take_of_length_le (by simp), runesBytes_eq gs hv]

set_option maxHeartbeats 8000000 in
set_option maxRecDepth 100000 in
theorem rtext_any (gs : List G) (ao : Option Addr) (cap : Nat) (w : World) (hR : GRow ao gs w) (hl : gs.length ≤ 1048576) (hv : ∀ g ∈ gs, 0 ≤ g.1) :
    Calls Tryd.prog 36 #[.slice ao gs.length cap] w fun e w' => e = .returned (.string ⟨(runeB gs).toArray⟩) ∧ Below w.heap.size w w' := by
  have HV := Lib.hid hv
  clear hv
  go_enter Tryd.func36, Tryd.ntmps36
  go_wp2_with fail
  go_loopw [3, 8] (fun v u wr => ∃ k : Nat, u = .int .i64 k ∧ k ≤ gs.length ∧ wr.ownsRow w.heap.size 21 1 v k (runeC gs k) ∧ Below w.heap.size w wr) (fun _ u _ => gs.length - (intOf u).toNat)
  case atStart => exact ⟨0, rfl, Nat.zero_le _, World.ownsRow_nil _ _ _ _, Below.refl _ _⟩
  case round =>
    obtain ⟨k, rfl, hk, hown, hb⟩ := hrel
    by_cases hlt : k < gs.length
    · obtain ⟨g, hg⟩ : ∃ g, gs[k]? = some g := ⟨_, List.getElem?_eq_getElem hlt⟩
      obtain ⟨b, o, rfl, c0, c1⟩ := (hR.below hb).at hg
      obtain ⟨i0, hi0, hz0, hz1, hz2⟩ := info_parts infoRn
      have hsz := hb.size
      have HN := Lib.hid (runeC_snoc hg)
      clear hg
      go_wp2_with (at_builtin; refine wpList_append_own_at _ rfl _ _ 88 rfl w.heap.size 21 i0 _ 1 4 Tryd.underlying88 hi0 hz0 hz1 hz2 rfl (by decide) u3 k (runeC gs k) rfl ((hown.alloc _).alloc _) ⟨wr.heap.size + 1, 0, none⟩ 1 1 [.int .i32 g.1] rfl rfl ?c1 ?c2 ?c3 ?c4 ?c5 ?_)
      case c1 =>
        intro j u hj
        match j, hj with
        | 0, hj => simp at hj; subst hj; simp [Addr.add]
        | (j + 1), hj => simp at hj
      case c2 => intro u hu; simp at hu; subst hu; rfl
      case c3 => unfold maxLen; omega
      case c4 => omega
      case c5 => simp; omega
      intro v' w3 hown3 hg3 _ _
      have hb3 : Below w.heap.size w w3 := ((hb.alloc hb.size _).alloc (by simp; omega) _).grown hg3 (by simp; omega) (fun k hk => own_base hown k hk)
      rw [← HN.out] at hown3
      clear hown hg3 hb hi0 hz0 hz1 hz2
      go_wp2_with fail
      go_roundw
      case rel => exact ⟨k + 1, by go_num, by omega, hown3, hb3⟩
      case measure => simp [intOf]; omega
    · obtain rfl : k = gs.length := by omega
      have hcv := conv_own hown HV.out
      clear hown
      go_wp2_with (simp only [hcv])
      go_ret
      exact ⟨rfl, hb⟩
end Go.Proofs.YtfndfhhimhcakaaDoor.lx
