/-
  Rows of glyphs (potsherdref02), read: ill, blanks, ends, digit, hex. Conditions: the row lies there.
-/
import Derived.Test.YtfndfhhimhcakaaDoorRows4
namespace Go.Proofs.YtfndfhhimhcakaaDoor.lx
open Go.RowKit

/-- a row of glyphs, somewhere -/
def GRow (ao : Option Addr) (gs : List G) (w : World) : Prop :=
  gs.length = 0 ∨ ∃ b o, ao = some ⟨b, o, none⟩ ∧ ∀ (i : Nat) g, gs[i]? = some g → w.cell? ⟨b, o + i * 2, none⟩ = some (.int .i32 g.1) ∧ w.cell? ⟨b, o + i * 2 + 1, none⟩ = some (.bool (!g.2))
theorem keep_cell {w w' : World} (hb : Below w.heap.size w w') {b o : Nat} {u : Value} (h : w.cell? ⟨b, o, none⟩ = some u) : w'.cell? ⟨b, o, none⟩ = some u :=
  (World.cell?_of_block (a := ⟨b, o, none⟩) (hb.block b (World.block_lt_of_cell? w _ h))).trans h
theorem GRow.below {ao : Option Addr} {gs : List G} {w w' : World} (h : GRow ao gs w) (hb : Below w.heap.size w w') : GRow ao gs w' := by
  rcases h with h | ⟨b, o, h1, h2⟩
  · exact .inl h
  · exact .inr ⟨b, o, h1, fun i g hg => ⟨keep_cell hb (h2 i g hg).1, keep_cell hb (h2 i g hg).2⟩⟩
theorem GRow.at {ao : Option Addr} {gs : List G} {w : World} (h : GRow ao gs w) {i : Nat} {g : G} (hg : gs[i]? = some g) :
    ∃ b o, ao = some ⟨b, o, none⟩ ∧ w.cell? ⟨b, o + i * 2, none⟩ = some (.int .i32 g.1) ∧ w.cell? ⟨b, o + i * 2 + 1, none⟩ = some (.bool (!g.2)) := by
  have hlt := (List.getElem?_eq_some_iff.1 hg).1
  obtain ⟨b, o, h1, h2⟩ := h.resolve_left (by omega)
  exact ⟨b, o, h1, h2 i g hg⟩
theorem GRow.drop {b o : Nat} {gs : List G} {w : World} (h : GRow (some ⟨b, o, none⟩) gs w) (k : Nat) : GRow (some ⟨b, o + k * 2, none⟩) (gs.drop k) w := by
  rcases h with h | ⟨b', o', h1, h2⟩
  · exact .inl (by rw [List.length_drop]; omega)
  · injection h1 with h1; injection h1 with h3 h4; subst h3; subst h4
    refine .inr ⟨b, o + k * 2, rfl, fun i g hg => ?_⟩
    rw [List.getElem?_drop] at hg
    have := h2 (k + i) g hg
    rw [show o + k * 2 + i * 2 = o + (k + i) * 2 by omega]
    exact this
theorem GRow.take {ao : Option Addr} {gs : List G} {w : World} (h : GRow ao gs w) (k : Nat) : GRow ao (gs.take k) w := by
  rcases h with h | ⟨b, o, h1, h2⟩
  · exact .inl (by rw [List.length_take]; omega)
  · refine .inr ⟨b, o, h1, fun i g hg => ?_⟩
    rw [List.getElem?_take] at hg
    split at hg
    · exact h2 i g hg
    · cases hg
theorem GRow.nil (ao : Option Addr) (w : World) : GRow ao [] w := .inl rfl

set_option maxHeartbeats 4000000 in
set_option maxRecDepth 100000 in
theorem ill_any (gs : List G) (ao : Option Addr) (cap : Nat) (w : World) (hR : GRow ao gs w) (hl : gs.length ≤ 1099511627776) :
    Calls Tryd.prog 37 #[.slice ao gs.length cap] w fun e w' => e = .returned (.bool (!gs.all (·.2))) ∧ Below w.heap.size w w' := by
  go_enter Tryd.func37, Tryd.ntmps37
  go_wp2_with fail
  go_loopw [7] (fun v wr => ∃ k : Nat, v = .int .i64 k ∧ k ≤ gs.length ∧ Below w.heap.size w wr ∧ Hid ((gs.take k).all (·.2) = true)) (fun v _ => gs.length - (intOf v).toNat)
  case atStart => exact ⟨0, rfl, Nat.zero_le _, Below.refl _ _, Lib.hid rfl⟩
  case round =>
    obtain ⟨k, rfl, hk, hb, HT⟩ := hrel
    have hRr := hR.below hb
    by_cases hlt : k < gs.length
    · obtain ⟨g, hg⟩ : ∃ g, gs[k]? = some g := ⟨_, List.getElem?_eq_getElem hlt⟩
      obtain ⟨b, o, rfl, c0, c1⟩ := hRr.at hg
      obtain ⟨r, ok⟩ := g
      cases ok with
      | true =>
        have HN : Hid ((gs.take (k + 1)).all (·.2) = true) := Lib.hid (by rw [List.take_add_one, hg, List.all_append, HT.out]; rfl)
        simp only [Bool.not_true] at c1
        clear hg hRr
        go_wp2_with fail
        exact ⟨⟨k + 1, by go_num, by omega, hb.alloc hb.size _, HN⟩, by simp [intOf]; omega⟩
      | false =>
        have HN : Hid ((!gs.all (·.2)) = true) := Lib.hid (by
          rw [Bool.not_eq_true']
          cases h : gs.all (·.2) with
          | false => rfl
          | true => have := List.all_eq_true.1 h _ (List.mem_of_getElem? hg); cases this)
        simp only [Bool.not_false] at c1
        clear hg hRr
        go_wp2_with fail
        go_ret
        exact ⟨ret_bool HN.out.symm, hb.alloc hb.size _⟩
    · have HN : Hid ((!gs.all (·.2)) = false) := Lib.hid (by
        have := HT.out
        rw [List.take_of_length_le (by omega)] at this
        rw [this]; rfl)
      go_wp2_with fail
      go_ret
      exact ⟨ret_bool HN.out.symm, hb⟩

/-- how many glyphs are blank -/
def blankN (gs : List G) : Nat := gs.length - (skipG false gs).length
/-- where blanks stands: the glyphs ahead are skipped -/
def BlankAt (gs : List G) (note : Bool) (k : Nat) : Prop := skipG false gs = skipG note (gs.drop k)

set_option maxHeartbeats 4000000 in
set_option maxRecDepth 100000 in
theorem blanks_any (gs : List G) (ao : Option Addr) (cap : Nat) (w : World) (hR : GRow ao gs w) (hl : gs.length ≤ 1099511627776) :
    Calls Tryd.prog 13 #[.slice ao gs.length cap] w fun e w' => e = .returned (.int .i64 (blankN gs)) ∧ w = w' := by
  go_enter Tryd.func13, Tryd.ntmps13
  go_wp2_with fail
  go_loop [3, 4] (fun v u => ∃ (k : Nat) (note : Bool), v = .int .i64 k ∧ u = .bool note ∧ k ≤ gs.length ∧ Hid (BlankAt gs note k)) (fun v _ => gs.length - (intOf v).toNat)
  case atStart => exact ⟨0, false, rfl, rfl, Nat.zero_le _, Lib.hid rfl⟩
  case round =>
    obtain ⟨k, note, rfl, rfl, hk, HT⟩ := hrel
    by_cases hlt : k < gs.length
    · obtain ⟨g, hg⟩ : ∃ g, gs[k]? = some g := ⟨_, List.getElem?_eq_getElem hlt⟩
      obtain ⟨b, o, rfl, c0, c1⟩ := hR.at hg
      have hd : gs.drop k = g :: gs.drop (k + 1) := by
        rw [List.drop_eq_getElem_cons hlt]
        congr 1
        exact Option.some.inj ((List.getElem?_eq_getElem hlt).symm.trans hg)
      obtain ⟨r, ok⟩ := g
      have hst := HT.out
      unfold BlankAt at hst
      rw [hd, skipG] at hst
      by_cases hc : (noted note r || blankR r) = true
      · rw [if_pos hc] at hst
        have HN : Hid (BlankAt gs (noted note r) (k + 1)) := Lib.hid hst
        by_cases h59 : r = 59
        · have e1 : (r == 59) = true := by simp [h59]
          have e2 : (r == 10) = false := by simp [h59]
          have hnt : noted note r = true := by simp [noted, h59]
          rw [hnt] at HN
          clear hst hd hg hc h59 hnt HT c1
          go_wp2_with fail
          exact ⟨⟨k + 1, true, by go_num, rfl, by omega, HN⟩, by simp [intOf]; omega⟩
        · have e1 : (r == 59) = false := by simp [h59]
          by_cases h10 : r = 10
          · have e2 : (r == 10) = true := by simp [h10]
            have e3 : (r != 10) = false := by simp [h10]
            have e4 : (r != 32) = true := by simp [h10]
            have e5 : (r != 9) = true := by simp [h10]
            have hnt : noted note r = false := by simp [noted, h10]
            rw [hnt] at HN
            clear hst hd hg hc h59 h10 hnt HT c1
            cases note
            · go_wp2_with fail
              exact ⟨⟨k + 1, false, by go_num, rfl, by omega, HN⟩, by simp [intOf]; omega⟩
            · go_wp2_with fail
              exact ⟨⟨k + 1, false, by go_num, rfl, by omega, HN⟩, by simp [intOf]; omega⟩
          · have e2 : (r == 10) = false := by simp [h10]
            cases note
            · have hbl : r = 32 ∨ r = 9 ∨ r = 13 := by simp [noted, blankR, h59, h10] at hc; omega
              have hnt : noted false r = false := by simp [noted, h59]
              rw [hnt] at HN
              have e3 : (r != 10) = true := by simp [h10]
              rcases hbl with hbl | hbl | hbl
              · have e4 : (r != 32) = false := by simp [hbl]
                clear hst hd hg hc h59 h10 hnt HT c1 hbl
                go_wp2_with fail
                exact ⟨⟨k + 1, false, by go_num, rfl, by omega, HN⟩, by simp [intOf]; omega⟩
              · have e4 : (r != 32) = true := by simp [hbl]
                have e5 : (r != 9) = false := by simp [hbl]
                clear hst hd hg hc h59 h10 hnt HT c1 hbl
                go_wp2_with fail
                exact ⟨⟨k + 1, false, by go_num, rfl, by omega, HN⟩, by simp [intOf]; omega⟩
              · have e4 : (r != 32) = true := by simp [hbl]
                have e5 : (r != 9) = true := by simp [hbl]
                have e6 : (r != 13) = false := by simp [hbl]
                clear hst hd hg hc h59 h10 hnt HT c1 hbl
                go_wp2_with fail
                exact ⟨⟨k + 1, false, by go_num, rfl, by omega, HN⟩, by simp [intOf]; omega⟩
            · have hnt : noted true r = true := by simp [noted, h10]
              rw [hnt] at HN
              clear hst hd hg hc h59 h10 hnt HT c1
              go_wp2_with fail
              exact ⟨⟨k + 1, true, by go_num, rfl, by omega, HN⟩, by simp [intOf]; omega⟩
      · rw [if_neg hc] at hst
        have hfin : blankN gs = k := by
          rw [blankN, hst, ← hd, List.length_drop]
          omega
        have hn : note = false ∧ r ≠ 59 ∧ r ≠ 32 ∧ r ≠ 9 ∧ r ≠ 13 ∧ r ≠ 10 := by
          cases note <;> simp [noted, blankR] at hc ⊢ <;> omega
        obtain ⟨rfl, n1, n2, n3, n4, n5⟩ := hn
        have e1 : (r == 59) = false := by simp [n1]
        have e2 : (r != 32) = true := by simp [n2]
        have e3 : (r != 9) = true := by simp [n3]
        have e4 : (r != 13) = true := by simp [n4]
        have e5 : (r != 10) = true := by simp [n5]
        have HF : Hid ((k : Int) = (blankN gs : Int)) := Lib.hid (by rw [hfin])
        clear hst hd hg hc hfin n1 n2 n3 n4 n5 HT c1
        go_wp2_with fail
        go_ret
        exact ⟨ret_int HF.out, rfl⟩
    · have hfin : blankN gs = k := by
        have := HT.out
        unfold BlankAt at this
        rw [List.drop_of_length_le (by omega)] at this
        rw [blankN, this]
        simp [skipG]
        omega
      have HF : Hid ((k : Int) = (blankN gs : Int)) := Lib.hid (by rw [hfin])
      clear hfin HT
      go_wp2_with fail
      go_ret
      exact ⟨ret_int HF.out, rfl⟩
end Go.Proofs.YtfndfhhimhcakaaDoor.lx
