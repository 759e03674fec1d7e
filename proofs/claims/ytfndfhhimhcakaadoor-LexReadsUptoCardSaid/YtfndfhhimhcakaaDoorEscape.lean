/-
  The lexer's escape (the rune of an escape, behind its stroke), for every tape. Conditions as for code.
-/
import Derived.Test.YtfndfhhimhcakaaDoorCode
import Derived.Maps.OwnOps
import Derived.Maps.OwnSet
namespace Go.Proofs.YtfndfhhimhcakaaDoor.lx
open Go.RowKit Go.Maps

def escR (r : Int) : Option Int := if r = 34 then some 34 else if r = 92 then some 92 else if r = 110 then some 10 else if r = 116 then some 9 else none
/-- what escape reads, and what it leaves -/
def escF (l : ByteArray) (p : Nat) : Option Int × ByteArray × Nat :=
  if dr l = 117 then
    match codeF (adv l) with
    | none => (none, adv l, stepP l p)
    | some (n, m) => (some n, (adv l).extract (m + 1) (adv l).size, stepP l p + m + 1)
  else (escR (dr l), adv l, stepP l p)

def escD : DataW Unit := ((((DataW.map []).put (.int .i32 34) (.lit (.int .i32 34))).put (.int .i32 92) (.lit (.int .i32 92))).put (.int .i32 110) (.lit (.int .i32 10))).put (.int .i32 116) (.lit (.int .i32 9))

theorem escD_has (r : Int) : Maps.has escD (.int .i32 r) = (escR r).isSome := by
  unfold escR
  by_cases h1 : r = 34
  · subst h1; rfl
  by_cases h2 : r = 92
  · subst h2; rfl
  by_cases h3 : r = 110
  · subst h3; rfl
  by_cases h4 : r = 116
  · subst h4; rfl
  rw [if_neg h1, if_neg h2, if_neg h3, if_neg h4]
  unfold escD
  rw [has_put_other (by simpa using h4), has_put_other (by simpa using h3), has_put_other (by simpa using h2), has_put_other (by simpa using h1)]
  rfl
theorem escD_at (r : Int) : escD.atKey (.int .i32 r) (.lit (.int .i32 0)) = .lit (.int .i32 ((escR r).getD 0)) := by
  by_cases hh : (escR r).isSome = true
  · unfold escR at hh ⊢
    by_cases h1 : r = 34
    · subst h1; rfl
    by_cases h2 : r = 92
    · subst h2; rfl
    by_cases h3 : r = 110
    · subst h3; rfl
    by_cases h4 : r = 116
    · subst h4; rfl
    rw [if_neg h1, if_neg h2, if_neg h3, if_neg h4] at hh
    cases hh
  · rw [atKey_of_not_has (by rw [escD_has]; simpa using hh)]
    cases h : escR r with
    | none => rfl
    | some x => rw [h] at hh; exact absurd rfl hh

theorem law_i32 : Keyed Tryd.prog 21 := int_keyed Tryd.underlying21
theorem zero_i32 (w : World) : (zeroValue 21).run Tryd.prog w = .ok (.int .i32 0) w := by kernel_rfl

/-- the map of escapes, laid in a new block -/
theorem esc_laid (w : World) : ∃ w1 w2 w3 w4,
    (Instr.mapUpdate 86 (.map (some w.heap.size)) (.int .i32 34) (.int .i32 34)).run Tryd.prog (w.alloc (.map #[] 0)) = .ok () w1 ∧
    (Instr.mapUpdate 86 (.map (some w.heap.size)) (.int .i32 92) (.int .i32 92)).run Tryd.prog w1 = .ok () w2 ∧
    (Instr.mapUpdate 86 (.map (some w.heap.size)) (.int .i32 110) (.int .i32 10)).run Tryd.prog w2 = .ok () w3 ∧
    (Instr.mapUpdate 86 (.map (some w.heap.size)) (.int .i32 116) (.int .i32 9)).run Tryd.prog w3 = .ok () w4 ∧
    w4.ownsMap Tryd.prog 21 (plainElem Tryd.prog 21) w.heap.size 4 escD ∧ Below w.heap.size w w4 := by
  have u := Tryd.underlying86
  have ui := Tryd.underlying21
  have h0 := World.ownsMap_made (H := Unit) w Tryd.prog 21 (plainElem Tryd.prog 21)
  obtain ⟨w1, r1, o1, g1⟩ := h0.update law_i32 u (by unfold maxLen; omega) (keyOf_int_mk ui (a := 34) (by decide)) (plainElem_int ui (a := 34) (by decide))
  obtain ⟨w2, r2, o2, g2⟩ := o1.update law_i32 u (by unfold maxLen; omega) (keyOf_int_mk ui (a := 92) (by decide)) (plainElem_int ui (a := 92) (by decide))
  obtain ⟨w3, r3, o3, g3⟩ := o2.update law_i32 u (by unfold maxLen; omega) (keyOf_int_mk ui (a := 110) (by decide)) (plainElem_int ui (a := 10) (by decide))
  obtain ⟨w4, r4, o4, g4⟩ := o3.update law_i32 u (by unfold maxLen; omega) (keyOf_int_mk ui (a := 116) (by decide)) (plainElem_int ui (a := 9) (by decide))
  refine ⟨w1, w2, w3, w4, r1, r2, r3, r4, o4, ?_⟩
  have g := gb_trans (gb_trans (gb_trans (gb_trans (World.grownBy_alloc w _ (some w.heap.size)) g1) g2) g3) g4
  exact gb_below g (Nat.le_refl _) (Nat.le_refl _)

set_option maxHeartbeats 4000000 in
set_option maxRecDepth 100000 in
theorem escape_any (b : Nat) (l : ByteArray) (p : Nat) (w : World) (hG : Glob w) (hb8 : 8 ≤ b) (h : Tape b l p w) (hl : p + l.size + 1 ≤ 4611686018427387904)  :
    Calls Tryd.prog 32 #[.pointer (some ⟨b, 0, none⟩)] w fun e w' => e = .returned (.tuple #[.int .i32 ((escF l p).1.getD 0), .bool (escF l p).1.isSome]) ∧ Tape b (escF l p).2.1 (escF l p).2.2 w' ∧ w.grownBy w' (some b) := by
  have hmm := @run_makeMap Tryd.prog
  obtain ⟨w1, w2, w3, w4, r1, r2, r3, r4, ho, hb4⟩ := esc_laid w
  have hG4 := hG.self hb4
  have ht4 := h.below hb4 h.lt
  obtain ⟨R, hR⟩ : ∃ R, escF l p = R := ⟨_, rfl⟩
  rw [hR]
  unfold escF at hR
  have hsz := adv_size l
  have hsp : stepP l p ≤ p + 1 := by unfold stepP; split <;> omega
  have HSZ := Lib.hid hsz
  clear hsz
  by_cases h117 : dr l = 117
  · rw [if_pos h117] at hR
    have h117b : (dr l == 117) = true := by simp [h117]
    have HR := Lib.hid hR
    clear hR h117
    go_enter Tryd.func32, Tryd.ntmps32
    go_wp2_with (go_at_call 19; refine (peek_any b l p _ hG4 ht4).mono ?_)
    rintro e w5 ⟨rfl, hb5⟩
    have hG5 := hG4.self hb5
    have ht5 := ht4.below hb5 ht4.lt
    go_wp2_with (go_at_call 20; refine (step_any b l p _ hG5 ht5 (by omega)).mono ?_)
    rintro e w6 ⟨rfl, ht6, hg6⟩
    have hG6 := hG5.gb hb8 hg6
    have hg : w.grownBy w6 (some b) := gb_trans (gb_of_below (below_self hb4 hb5) _) hg6
    cases hc : codeF (adv l) with
    | none =>
      go_wp2_with (go_at_call 49; refine (code_no b _ _ _ hG6 ht6 hc).mono ?_)
      rintro e w7 ⟨rfl, hb7⟩
      go_wp2
      go_ret2
      rw [← HR.out, hc]
      exact ⟨rfl, ht6.below hb7 ht6.lt, gb_trans hg (gb_of_below hb7 _)⟩
    | some nm =>
      obtain ⟨n, m⟩ := nm
      go_wp2_with (go_at_call 49; refine (code_yes b _ _ _ hG6 ht6 (by rw [HSZ.out]; omega) n m hc).mono ?_)
      rintro e w7 ⟨rfl, ht7, hg7⟩
      go_wp2
      go_ret2
      rw [← HR.out, hc]
      exact ⟨rfl, ht7, gb_trans hg hg7⟩
  · rw [if_neg h117] at hR
    have h117b : (dr l == 117) = false := by simp [h117]
    have HR := Lib.hid hR
    have hd := dr_le l
    have hwf : (Lit.int .i32 (dr l)).wf = true := by first | go_wf | (simp [Lit.wf, IntKind.min, IntKind.max, IntKind.bits, IntKind.signed]; omega)
    have HW := Lib.hid hwf
    clear hR h117 hwf
    go_enter Tryd.func32, Tryd.ntmps32
    go_wp2_with (go_at_call 19; refine (peek_any b l p _ hG4 ht4).mono ?_)
    rintro e w5 ⟨rfl, hb5⟩
    have hG5 := hG4.self hb5
    have ht5 := ht4.below hb5 ht4.lt
    have ho5 := ho.kept (gb_of_below hb5 none) (by simp)
    go_wp2_with (go_at_call 20; refine (step_any b l p _ hG5 ht5 (by omega)).mono ?_)
    rintro e w6 ⟨rfl, ht6, hg6⟩
    have hne : some w.heap.size ≠ some b := by intro e; injection e with e; have := h.lt; omega
    have ho6 := ho5.kept hg6 hne
    have hg : w.grownBy w6 (some b) := gb_trans (gb_of_below (below_self hb4 hb5) _) hg6
    clear hne
    go_wp2_with (at_lookup; refine wpList_lookup_own_ok_int _ rfl _ _ 86 rfl 21 21 .i32 law_i32 Tryd.underlying86 Tryd.underlying21 (zero_i32 _) w.heap.size 4 _ rfl ho6 _ _ rfl (keyOf_int_mk Tryd.underlying21 HW.out) ?_; intro c hat hwc)
    have hce : c = (escR (dr l)).getD 0 := by
      rw [escD_at] at hat
      injection hat with hat
      injection hat with _ hat
      exact hat.symm
    have HC := Lib.hid hce
    clear hce hat hwc
    go_wp2
    go_ret2
    rw [← HR.out, HC.out, escD_has]
    exact ⟨rfl, ht6, hg⟩
end Go.Proofs.YtfndfhhimhcakaaDoor.lx
