/-
  bind's kind: what a step makes of kinds. Conditions: the kinds lie there; there are as many as the step takes. bind's takes. Conditions: the package-level variables are laid; the step's text is no great one. What Parse catches. Conditions: its three results lie there. Tokens compared: '==' and '!=' of two tokens' values. No condition. Show, for every token (a text of at most 2^30 bytes). Conditions: the package-level variables are laid. Escapes as laws on glyphs: plain laws, no program in sight. The lexer as a law on glyphs: plain laws, no program in sight.
-/
import Derived.Test.YtgjfbbmachoolaaGreatDoorM01
import Derived.Test.YtgjfbbmachoolaaGreatDoorM10
import Derived.Deep.RegionHeld3
import Derived.BigQuiet
import Derived.Test.YtgjfbbmachoolaaGreatDoorM09
import Derived.Defers
import Derived.Recover
import Derived.Laws.Pointers
import Derived.RegionTactic
import Derived.Test.YtgjfbbmachoolaaGreatDoorM02
import Derived.Laws.StructEq
import Derived.Test.YtgjfbbmachoolaaGreatDoorM03
import Derived.Test.YtgjfbbmachoolaaGreatDoorM04
import Derived.Lib.TrimAscii
namespace Go.Proofs.YtgjfbbmachoolaaGreatDoor.lx
open Go.RowKit Go.Maps
set_option linter.unusedSimpArgs false

theorem lit8_ne {a b : Int} (h : a ≠ b) : (Lit.int .u8 a) ≠ Lit.int .u8 b := by intro e; injection e with _ e; exact h e
theorem rules_has (k : Int) : has rulesD (.int .u8 k) = (ruleR k).isSome := by
 by_cases h1 : k = 1
 ·
  subst h1; rfl
 by_cases h2 : k = 2
 ·
  subst h2; rfl
 by_cases h3 : k = 3
 ·
  subst h3; rfl
 by_cases h4 : k = 4
 ·
  subst h4; rfl
 by_cases h5 : k = 5
 ·
  subst h5; rfl
 by_cases h7 : k = 7
 ·
  subst h7; rfl
 by_cases h8 : k = 8
 ·
  subst h8; rfl
 by_cases h10 : k = 10
 ·
  subst h10; rfl
 by_cases h11 : k = 11
 ·
  subst h11; rfl
 by_cases h12 : k = 12
 ·
  subst h12; rfl
 by_cases h13 : k = 13
 ·
  subst h13; rfl
 by_cases h20 : k = 20
 ·
  subst h20; rfl
 by_cases h21 : k = 21
 ·
  subst h21; rfl
 unfold rulesD
 rw [has_put_other (lit8_ne h21), has_put_other (lit8_ne h20), has_put_other (lit8_ne h13), has_put_other (lit8_ne h12), has_put_other (lit8_ne h11), has_put_other (lit8_ne h10), has_put_other (lit8_ne h8), has_put_other (lit8_ne h7), has_put_other (lit8_ne h5), has_put_other (lit8_ne h4), has_put_other (lit8_ne h3), has_put_other (lit8_ne h2), has_put_other (lit8_ne h1)]
 simp [ruleR, h1, h2, h3, h4, h5, h7, h8, h10, h11, h12, h13, h20, h21]
 rfl
theorem rules_at (k : Int) : rulesD.atKey (.int .u8 k) (.agg [.lit (.int .u8 0), .lit (.int .u8 0)]) = .agg [.lit (.int .u8 ((ruleR k).getD (0, 0)).1), .lit (.int .u8 ((ruleR k).getD (0, 0)).2)] := by
 by_cases hh : (ruleR k).isSome = true
 ·
  have hk : k = 1 ∨ k = 2 ∨ k = 3 ∨ k = 4 ∨ k = 5 ∨ k = 7 ∨ k = 8 ∨ k = 10 ∨ k = 11 ∨ k = 12 ∨ k = 13 ∨ k = 20 ∨ k = 21 := by
   unfold ruleR at hh
   repeat' split at hh
   all_goals first | omega | cases hh
  rcases hk with rfl | rfl | rfl | rfl | rfl | rfl | rfl | rfl | rfl | rfl | rfl | rfl | rfl <;> rfl
 ·
  rw [atKey_of_not_has (by rw [rules_has]; simpa using hh)]
  cases h : ruleR k with
  | none => rfl
  | some x => rw [h] at hh; exact absurd rfl hh

/-- kinds that lie there -/
def KRow (ao : Option Addr) (L : List Int) (w : World) : Prop := L.length = 0 ∨ ∃ b o, ao = some ⟨b, o, none⟩ ∧ ∀ (i : Nat) t, L[i]? = some t → w.cell? ⟨b, o + i, none⟩ = some (.int .u8 t)
theorem KRow.at {ao : Option Addr} {L : List Int} {w : World} (h : KRow ao L w) {k : Nat} {x : Int} (hx : L[k]? = some x) : ∃ b o, ao = some ⟨b, o, none⟩ ∧ w.cell? ⟨b, o + k, none⟩ = some (.int .u8 x) := by
 rcases h with h | ⟨b, o, h1, h2⟩
 ·
  rw [List.getElem?_eq_none (by omega)] at hx; cases hx
 ·
  exact ⟨b, o, h1, h2 k x hx⟩
theorem KRow.self {ao : Option Addr} {L : List Int} {w w' : World} (h : KRow ao L w) (hb : Below w.heap.size w w') : KRow ao L w' := by
 rcases h with h | ⟨b, o, h1, h2⟩
 ·
  exact .inl h
 ·
  exact .inr ⟨b, o, h1, fun i t ht => keep_cellP hb (h2 i t ht)⟩
/-- a number, or a panic -/
def IntP (K : IntKind) (r : Ex Int) (e : Ending) : Prop := match r with | .ok k => e = .returned (.int K k) | .no y => e = .panicked [flE y]

set_option maxHeartbeats 4000000 in
set_option maxRecDepth 100000 in
theorem kind_two {ao : Option Addr} {cap : Nat} {k : Int} {L : List Int} {R : Ex Int} {w : World} (hL : KRow ao L w) (hk : 0 ≤ k ∧ k ≤ 255) (hr : ruleR k = none) (h9 : k ≠ 9) (hl2 : 2 ≤ L.length)
  (hR : (if k ≠ 9 ∧ ¬ (L.getD 0 0 = L.getD 1 0 ∨ min (L.getD 0 0) (L.getD 1 0) = 0) then Ex.no 5 else Ex.ok 1) = R) :
  Calls Tryz.prog 58 #[.int .u8 k, .slice ao L.length cap] w fun e w' => IntP .u8 R e ∧ Below w.heap.size w w' := by
 have HRU := Lib.hid (rules_any w)
 have hh := rules_has k
 have ha := rules_at k
 rw [hr] at hh ha
 simp only [Option.isSome_none, Option.getD_none] at hh ha
 obtain ⟨b, o, rfl, hz⟩ := hL.at (List.getElem?_eq_getElem (by omega : 0 < L.length))
 clear hz
 have hx0 : L[0]? = some (L.getD 0 0) := by rw [List.getD_eq_getElem?_getD, List.getElem?_eq_getElem (by omega : 0 < L.length)]; rfl
 have hx1 : L[1]? = some (L.getD 1 0) := by rw [List.getD_eq_getElem?_getD, List.getElem?_eq_getElem (by omega : 1 < L.length)]; rfl
 generalize L.getD 0 0 = x at *
 generalize L.getD 1 0 = y at *
 have e9 : (k != 9) = true := by simp [h9]
 have HR := Lib.hid hR
 have HL := Lib.hid fun wx (hb : Below w.heap.size w wx) => (show wx.cell? ⟨b, o, none⟩ = some (.int .u8 x) ∧ wx.cell? ⟨b, o + 1, none⟩ = some (.int .u8 y) from by
  obtain ⟨_, _, e, d0⟩ := (hL.self hb).at hx0
  cases e
  obtain ⟨_, _, e, d1⟩ := (hL.self hb).at hx1
  cases e
  exact ⟨d0, d1⟩)
 clear hR hr hx0 hx1 hL
 go_enter Tryz.func58, Tryz.ntmps58
 go_wp2_with (go_at_call 76; refine HRU.out.mono ?_; rintro e w2 ⟨mb, rfl, ho2, hb2⟩; refine Hid.out ?_)
 refine Lib.hid ?_
 obtain ⟨v, ps, hlk, hv⟩ := ho2.look_ok step_keyed Tryz.underlying137 (zero_rule w2) (ruleElem_mk 0 0) (key8 hk)
 rw [ha] at hv
 rw [hh] at hlk
 obtain rfl := ruleElem_inv hv
 have HB := Lib.hid (below_self hb2 ((Below.refl w2.heap.size w2).alloc (Nat.le_refl _) (.cells #[.int .u8 0, .int .u8 0] 135)))
 obtain ⟨d0, d1⟩ := HL.out _ HB.out
 clear hv ha hh ho2 hb2
 go_upto_region 9 with fail
 generalize w2.alloc (.cells #[.int .u8 0, .int .u8 0] 135) = W at *
 clear hlk HL HRU
 have hmin : ∀ W, (Builtin.min_ #[45, 45] 45 #[.int .u8 x, .int .u8 y]).run Tryz.prog W = .ok (.int .u8 (min x y)) W := fun W => by
  simp [Builtin.min_, Builtin.min2, go_sem]
  try omega
 have hgd : ∀ o1 o2 W, (eqGuard .eql 45 o1 o2 (.int .u8 x) (.int .u8 y)).run Tryz.prog W = .ok () W := fun o1 o2 W => by simp [eqGuard, go_sem]
 have hgm : ∀ o1 o2 W, (eqGuard .eql 45 o1 o2 (.int .u8 (min x y)) (.int .u8 0)).run Tryz.prog W = .ok () W := fun o1 o2 W => by simp [eqGuard, go_sem]
 have l0 : (0 : Int) < L.length := by omega
 have l1 : (1 : Int) < L.length := by omega
 have l2 : (0 : Nat) < L.length := by omega
 generalize L.length = n at *
 cases hxy : (x == y) with
 | true =>
  have HRR : Hid (Ex.ok 1 = R) := Lib.hid (by have := HR.out; rwa [if_neg (by simp [beq_iff_eq.1 hxy])] at this)
  have hcmp : ∀ W, (binOp .eql 45 (.int .u8 x) (.int .u8 y)).run Tryz.prog W = .ok (.bool true) W := fun W => by simp [binOp_eql, go_sem, beq_iff_eq.1 hxy]
  clear HR hxy
  generalize Value.int .u8 x = vx at *
  generalize Value.int .u8 y = vy at *
  go_upto_region 10 with fail
  clear hmin hgm
  have HY := Lib.hid fun n (is : Bool) (hi : is = true) => (bmust_yes (w := W.drewN n) (why := 5) (is := is) hi).mono fun e w' (h : e = _ ∧ W.drewN n = w') => (⟨h.1, h.2.symm⟩ : e = _ ∧ w' = W.drewN n)
  go_quiet ((go_at_call 26; exact Calls.quiet_of_same (HY.out _ _ (by first | rfl | simp))))
  all_goals
   try refine Lib.hid ?_
   go_wp2_with fail
   go_ret
   exact ⟨by rw [← HRR.out]; rfl, by first | exact HB.out | exact bdn HB.out _⟩
 | false =>
  have hcmp : ∀ W, (binOp .eql 45 (.int .u8 x) (.int .u8 y)).run Tryz.prog W = .ok (.bool false) W := fun W => by simp [binOp_eql, go_sem, beq_eq_false_iff_ne.1 hxy]
  cases hm : (min x y == 0) with
  | true =>
   have HRR : Hid (Ex.ok 1 = R) := Lib.hid (by have := HR.out; rwa [if_neg (by simp [beq_iff_eq.1 hm])] at this)
   have hcmp0 : ∀ W, (binOp .eql 45 (.int .u8 (min x y)) (.int .u8 0)).run Tryz.prog W = .ok (.bool true) W := fun W => by simp [binOp_eql, go_sem, beq_iff_eq.1 hm]
   clear HR hm hxy
   generalize Value.int .u8 (min x y) = vm at *
   generalize Value.int .u8 x = vx at *
   generalize Value.int .u8 y = vy at *
   go_upto_region 10 with fail
   have HKA := Lib.hid fun (wx : World) (hb : Below W.heap.size W wx) => (show wx.cell? ⟨b, o, none⟩ = some vx ∧ wx.cell? ⟨b, o + 1, none⟩ = some vy ∧ Hid (Below W.heap.size W wx) from ⟨keep_cellP hb d0, keep_cellP hb d1, Lib.hid hb⟩)
   have HKB := HKA.out W (Below.refl _ _)
   go_region_held3 (fun wx => wx.cell? ⟨b, o, none⟩ = some vx ∧ wx.cell? ⟨b, o + 1, none⟩ = some vy ∧ Hid (Below W.heap.size W wx)) ((go_split_ands; first | exact HKB | exact HKA.out _ (Hid.out (by assumption)) | exact HKA.out _ (bdn (Hid.out (by assumption)) 1)))
    ((go_at_call 26; go_split_ands; refine (bmust_yes rfl).mono ?_; rintro e w3 ⟨rfl, rfl⟩))
   go_split_ands
   go_wp2_with fail
   go_ret
   exact ⟨by rw [← HRR.out]; rfl, below_self HB.out (Hid.out (by assumption))⟩
  | false =>
   have HRR : Hid (Ex.no 5 = R) := Lib.hid (by
    have := HR.out
    rwa [if_pos ⟨h9, fun h => h.elim (beq_eq_false_iff_ne.1 hxy) (beq_eq_false_iff_ne.1 hm)⟩] at this)
   have hcmp0 : ∀ W, (binOp .eql 45 (.int .u8 (min x y)) (.int .u8 0)).run Tryz.prog W = .ok (.bool false) W := fun W => by simp [binOp_eql, go_sem, beq_eq_false_iff_ne.1 hm]
   clear HR hm hxy
   generalize Value.int .u8 (min x y) = vm at *
   generalize Value.int .u8 x = vx at *
   generalize Value.int .u8 y = vy at *
   go_upto_region 10 with fail
   have HKA := Lib.hid fun (wx : World) (hb : Below W.heap.size W wx) => (show wx.cell? ⟨b, o, none⟩ = some vx ∧ wx.cell? ⟨b, o + 1, none⟩ = some vy ∧ Hid (Below W.heap.size W wx) from ⟨keep_cellP hb d0, keep_cellP hb d1, Lib.hid hb⟩)
   have HKB := HKA.out W (Below.refl _ _)
   refine wp_region_held_drew (S := (fun wx => wx.cell? ⟨b, o, none⟩ = some vx ∧ wx.cell? ⟨b, o + 1, none⟩ = some vy)) (by kernel_rfl) (And.intro HKB.1 HKB.2.1) (fun hHeld => ?_)
   refine wpAnyH_take (i := 0) (v := ?_) opAt0 (by kernel_rfl) (by kernel_rfl) (by kernel_rfl) (fun _ _ _ h => h) (Or.inl ⟨by kernel_rfl, ?_⟩) (by assumption) ?_; rotate_left; intro wq hSw; (try dsimp only at hSw); go_split_ands; go_simp <;> with_reducible rfl; try simp only [Act.put, List.setIfInBounds_toArray, List.set_cons_zero, List.set_cons_succ]
   refine wpAnyH_take (i := 1) (v := ?_) opAt1 (by kernel_rfl) (by kernel_rfl) (by kernel_rfl) (fun _ _ _ h => h) (Or.inl ⟨by kernel_rfl, ?_⟩) (by assumption) ?_; rotate_left; intro wq hSw; (try dsimp only at hSw); go_split_ands; go_simp <;> with_reducible rfl; try simp only [Act.put, List.setIfInBounds_toArray, List.set_cons_zero, List.set_cons_succ]
   refine wpAnyH_take (i := 2) (v := ?_) opAt2 (by kernel_rfl) (by kernel_rfl) (by kernel_rfl) (fun _ _ _ h => h) (Or.inl ⟨by kernel_rfl, ?_⟩) (by assumption) ?_; rotate_left; intro wq hSw; (try dsimp only at hSw); go_split_ands; go_simp <;> with_reducible rfl; try simp only [Act.put, List.setIfInBounds_toArray, List.set_cons_zero, List.set_cons_succ]
   refine wpAnyH_take (i := 3) (v := ?_) opAt3 (by kernel_rfl) (by kernel_rfl) (by kernel_rfl) (fun _ _ _ h => h) (Or.inl ⟨by kernel_rfl, ?_⟩) (by assumption) ?_; rotate_left; intro wq hSw; (try dsimp only at hSw); go_split_ands; go_simp <;> with_reducible rfl; try simp only [Act.put, List.setIfInBounds_toArray, List.set_cons_zero, List.set_cons_succ]
   refine wpAnyH_take (i := 4) (v := ?_) opAt4 (by kernel_rfl) (by kernel_rfl) (by kernel_rfl) (fun _ _ _ h => h) (Or.inl ⟨by kernel_rfl, ?_⟩) (by assumption) ?_; rotate_left; intro wq hSw; (try dsimp only at hSw); go_split_ands; go_simp <;> with_reducible rfl; try simp only [Act.put, List.setIfInBounds_toArray, List.set_cons_zero, List.set_cons_succ]
   refine wpAnyH_take (i := 5) (v := ?_) opAt5 (by kernel_rfl) (by kernel_rfl) (by kernel_rfl) (fun _ _ _ h => h) (Or.inl ⟨by kernel_rfl, ?_⟩) (by assumption) ?_; rotate_left; intro wq hSw; (try dsimp only at hSw); go_split_ands; go_simp <;> with_reducible rfl; try simp only [Act.put, List.setIfInBounds_toArray, List.set_cons_zero, List.set_cons_succ]
   refine wpAnyH_take (i := 6) (v := ?_) opAt6 (by kernel_rfl) (by kernel_rfl) (by kernel_rfl) (fun _ _ _ h => h) (Or.inl ⟨by kernel_rfl, ?_⟩) (by assumption) ?_; rotate_left; intro wq hSw; (try dsimp only at hSw); go_split_ands; go_simp <;> with_reducible rfl; try simp only [Act.put, List.setIfInBounds_toArray, List.set_cons_zero, List.set_cons_succ]
   refine wpAnyH_take (i := 7) (v := ?_) opAt7 (by kernel_rfl) (by kernel_rfl) (by kernel_rfl) (fun _ _ _ h => h) (Or.inl ⟨by kernel_rfl, ?_⟩) (by assumption) ?_; rotate_left; intro wq hSw; (try dsimp only at hSw); go_split_ands; go_simp <;> with_reducible rfl; try simp only [Act.put, List.setIfInBounds_toArray, List.set_cons_zero, List.set_cons_succ]
   refine wpAnyH_take (i := 8) (v := ?_) opAt8 (by kernel_rfl) (by kernel_rfl) (by kernel_rfl) (fun _ _ _ h => h) (Or.inl ⟨by kernel_rfl, ?_⟩) (by assumption) ?_; rotate_left; intro wq hSw; (try dsimp only at hSw); go_split_ands; go_simp <;> with_reducible rfl; try simp only [Act.put, List.setIfInBounds_toArray, List.set_cons_zero, List.set_cons_succ]
   refine wpAnyH_take (i := 9) (v := ?_) opAt9 (by kernel_rfl) (by kernel_rfl) (by kernel_rfl) (fun _ _ _ h => h) (Or.inl ⟨by kernel_rfl, ?_⟩) (by assumption) ?_; rotate_left; intro wq hSw; (try dsimp only at hSw); go_split_ands; go_simp <;> with_reducible rfl; try simp only [Act.put, List.setIfInBounds_toArray, List.set_cons_zero, List.set_cons_succ]
   refine wpAnyH_take (i := 10) (v := ?_) opAt10 (by kernel_rfl) (by kernel_rfl) (by kernel_rfl) (fun _ _ _ h => h) (Or.inl ⟨by kernel_rfl, ?_⟩) (by assumption) ?_; rotate_left; intro wq hSw; (try dsimp only at hSw); go_split_ands; go_simp <;> with_reducible rfl; try simp only [Act.put, List.setIfInBounds_toArray, List.set_cons_zero, List.set_cons_succ]
   refine wpAnyH_take (i := 11) (v := ?_) opAt11 (by kernel_rfl) (by kernel_rfl) (by kernel_rfl) (fun _ _ _ h => h) (Or.inl ⟨by kernel_rfl, ?_⟩) (by assumption) ?_; rotate_left; intro wq hSw; (try dsimp only at hSw); go_split_ands; go_simp <;> with_reducible rfl; try simp only [Act.put, List.setIfInBounds_toArray, List.set_cons_zero, List.set_cons_succ]
   refine wpAnyH_take (i := 12) (v := ?_) opAt12 (by kernel_rfl) (by kernel_rfl) (by kernel_rfl) (fun _ _ _ h => h) (Or.inl ⟨by kernel_rfl, ?_⟩) (by assumption) ?_; rotate_left; intro wq hSw; (try dsimp only at hSw); go_split_ands; go_simp <;> with_reducible rfl; try simp only [Act.put, List.setIfInBounds_toArray, List.set_cons_zero, List.set_cons_succ]
   refine wpAnyH_take (i := 13) (v := ?_) opAt13 (by kernel_rfl) (by kernel_rfl) (by kernel_rfl) (fun _ _ _ h => h) (Or.inl ⟨by kernel_rfl, ?_⟩) (by assumption) ?_; rotate_left; intro wq hSw; (try dsimp only at hSw); go_split_ands; go_simp <;> with_reducible rfl; try simp only [Act.put, List.setIfInBounds_toArray, List.set_cons_zero, List.set_cons_succ]
   refine wpAnyH_take (i := 14) (v := ?_) opAt14 (by kernel_rfl) (by kernel_rfl) (by kernel_rfl) (fun _ _ _ h => h) (Or.inl ⟨by kernel_rfl, ?_⟩) (by assumption) ?_; rotate_left; intro wq hSw; (try dsimp only at hSw); go_split_ands; go_simp <;> with_reducible rfl; try simp only [Act.put, List.setIfInBounds_toArray, List.set_cons_zero, List.set_cons_succ]
   refine wpAnyH_take (i := 15) (v := ?_) opAt15 (by kernel_rfl) (by kernel_rfl) (by kernel_rfl) (fun _ _ _ h => h) (Or.inl ⟨by kernel_rfl, ?_⟩) (by assumption) ?_; rotate_left; intro wq hSw; (try dsimp only at hSw); go_split_ands; go_simp <;> with_reducible rfl; try simp only [Act.put, List.setIfInBounds_toArray, List.set_cons_zero, List.set_cons_succ]
   refine wpAnyH_take (i := 16) (v := ?_) opAt16 (by kernel_rfl) (by kernel_rfl) (by kernel_rfl) (fun _ _ _ h => h) (Or.inl ⟨by kernel_rfl, ?_⟩) (by assumption) ?_; rotate_left; intro wq hSw; (try dsimp only at hSw); go_split_ands; go_simp <;> with_reducible rfl; try simp only [Act.put, List.setIfInBounds_toArray, List.set_cons_zero, List.set_cons_succ]
   refine wpAnyH_ready (rs := [17]) (by kernel_rfl) (by simp) (AllReadyH.cons opAt17 (fun K hK => ?_) AllReadyH.nil)
   go_simp
   go_at_call 26
   refine (bmust_no rfl).mono ?_
   rintro e w3 ⟨rfl, rfl⟩
   exact ⟨rfl, by rw [← HRR.out]; rfl, bdn HB.out 1⟩
set_option maxHeartbeats 4000000 in
set_option maxRecDepth 100000 in
theorem kind_any {ao : Option Addr} {cap : Nat} {k : Int} {L : List Int} {w : World} (hL : KRow ao L w) (hk : 0 ≤ k ∧ k ≤ 255) (h2 : ruleR k = none → k ≠ 9 → 2 ≤ L.length) (hlen : L.length ≤ 1099511627776) :
  Calls Tryz.prog 58 #[.int .u8 k, .slice ao L.length cap] w fun e w' => IntP .u8 (kindR k L) e ∧ Below w.heap.size w w' := by
 have HRU := Lib.hid (rules_any w)
 obtain ⟨R, hR⟩ : ∃ R, kindR k L = R := ⟨_, rfl⟩
 rw [hR]
 unfold kindR at hR
 have hh := rules_has k
 have ha := rules_at k
 cases hr : ruleR k with
 | some r =>
  rw [hr] at hR hh ha
  simp only [Option.isSome_some, Option.getD_some] at hR hh ha
  obtain ⟨rt, rm⟩ := r
  simp only at hR ha
  have HR := Lib.hid hR
  clear hR h2 hr
  go_enter Tryz.func58, Tryz.ntmps58
  go_wp2_with (go_at_call 76; refine HRU.out.mono ?_; rintro e w2 ⟨mb, rfl, ho2, hb2⟩; refine Hid.out ?_)
  refine Lib.hid ?_
  obtain ⟨v, ps, hlk, hv⟩ := ho2.look_ok step_keyed Tryz.underlying137 (zero_rule w2) (ruleElem_mk 0 0) (key8 hk)
  rw [ha] at hv
  rw [hh] at hlk
  obtain rfl := ruleElem_inv hv
  have HL := Lib.hid (hL.self hb2)
  have HB := Lib.hid hb2
  clear hv ha hh ho2 hL hb2
  go_wp2_with fail
  go_loopw [18] (fun v wr => ∃ j : Nat, v = .int .i64 j ∧ j ≤ L.length ∧ Below w2.heap.size w2 wr ∧ wr.heap[w2.heap.size]? = some (.cells #[.int .u8 rt, .int .u8 rm] 135 (0, 0)) ∧ Hid ((L.take j).all (fun y => y == rt || y == 0) = true)) (fun v _ => L.length - (intOf v).toNat)
  case atStart => exact ⟨0, rfl, Nat.zero_le _, (Below.refl _ _).alloc (Nat.le_refl _) _, heap_alloc_new _ _, Lib.hid rfl⟩
  case round =>
   obtain ⟨j, rfl, hj, hb, hc, HT⟩ := hrel
   have c0 : wr.cell? ⟨w2.heap.size, 0, none⟩ = some (.int .u8 rt) := by rw [Lib.cell_of_heap hc]; rfl
   have c1 : wr.cell? ⟨w2.heap.size, 1, none⟩ = some (.int .u8 rm) := by rw [Lib.cell_of_heap hc]; rfl
   by_cases hlt : j < L.length
   ·
    have hx : L[j]? = some L[j] := List.getElem?_eq_getElem hlt
    obtain ⟨b, o, rfl, d0⟩ := (HL.out.self hb).at hx
    have hsn : (L.take (j + 1)).all (fun y => y == rt || y == 0) = (L[j] == rt || L[j] == 0) := by
     rw [List.take_succ_eq_append_getElem hlt, List.all_append, HT.out]; simp
    have hmem := List.getElem_mem hlt
    generalize L[j] = y at *
    have HS := Lib.hid hsn
    clear hx hsn HT
    cases hy : (y == rt || y == 0) with
    | true =>
     rw [hy] at HS
     cases h1 : (y == rt) with
     | true =>
      clear hy hmem
      go_wp2_with (go_at_call 26; refine (bmust_yes rfl).mono ?_; rintro e w3 ⟨rfl, rfl⟩; refine Hid.out ?_)
      refine Lib.hid ?_
      go_wp2_with fail
      exact ⟨⟨j + 1, by go_num, by omega, by first | exact hb | exact bdn hb _, by first | exact hc | exact hc, HS⟩, by simp [intOf]; omega⟩
     | false =>
      rw [h1, Bool.false_or] at hy
      clear hmem
      go_wp2_with (go_at_call 26; refine (bmust_yes rfl).mono ?_; rintro e w3 ⟨rfl, rfl⟩; refine Hid.out ?_)
      refine Lib.hid ?_
      go_wp2_with fail
      exact ⟨⟨j + 1, by go_num, by omega, by first | exact hb | exact bdn hb _, by first | exact hc | exact hc, HS⟩, by simp [intOf]; omega⟩
    | false =>
     rw [Bool.or_eq_false_iff] at hy
     obtain ⟨h1, h2⟩ := hy
     have hall : (L.all fun y => y == rt || y == 0) = false := by
      rw [List.all_eq_false]
      exact ⟨y, hmem, by rw [h1, h2]; decide⟩
     have HRR : Hid (Ex.no 5 = R) := Lib.hid (by have := HR.out; rwa [if_neg (by rw [hall]; decide)] at this)
     clear hmem hall
     have hfin : ∀ wx, Below wr.heap.size wr wx → Below w.heap.size w wx := fun wx h => below_self HB.out (below_self hb h)
     have HF := Lib.hid hfin
     clear hfin
     go_wp2_with (go_at_call 26; refine (bmust_no rfl).mono ?_; rintro e w3 ⟨rfl, rfl⟩; refine ⟨rfl, ?_, HF.out _ (by first | exact Below.refl _ _ | exact bdn (Below.refl _ _) _)⟩; rw [← HRR.out]; rfl)
   ·
    have hall : (L.all fun y => y == rt || y == 0) = true := by
     have := HT.out
     rwa [List.take_of_length_le (by omega)] at this
    have HRR : Hid (Ex.ok rm = R) := Lib.hid (by have := HR.out; rwa [if_pos hall] at this)
    have HF := Lib.hid (below_self HB.out hb)
    clear hall
    go_wp2_with fail
    go_ret
    exact ⟨by rw [← HRR.out]; rfl, by first | exact HF.out | exact bdn HF.out _⟩
 | none =>
  rw [hr] at hR hh ha
  simp only [Option.isSome_none, Option.getD_none] at hR hh ha
  by_cases h9 : k = 9
  ·
   subst h9
   rw [if_neg (by simp)] at hR
   have HR := Lib.hid hR
   clear hR h2 hr
   go_enter Tryz.func58, Tryz.ntmps58
   go_wp2_with (go_at_call 76; refine HRU.out.mono ?_; rintro e w2 ⟨mb, rfl, ho2, hb2⟩; refine Hid.out ?_)
   refine Lib.hid ?_
   obtain ⟨v, ps, hlk, hv⟩ := ho2.look_ok step_keyed Tryz.underlying137 (zero_rule w2) (ruleElem_mk 0 0) (key8 hk)
   rw [ha] at hv
   rw [hh] at hlk
   obtain rfl := ruleElem_inv hv
   have HB := Lib.hid (below_self hb2 ((Below.refl w2.heap.size w2).alloc (Nat.le_refl _) (.cells #[.int .u8 0, .int .u8 0] 135)))
   clear hv ha hh ho2 hL hb2
   go_wp2_with fail
   go_ret
   exact ⟨by rw [← HR.out]; rfl, HB.out⟩
  ·
   exact kind_two hL hk hr h9 (h2 hr h9) hR
end Go.Proofs.YtgjfbbmachoolaaGreatDoor.lx
namespace Go.Proofs.YtgjfbbmachoolaaGreatDoor.lx
open Go.RowKit

theorem takesB_range (t : Stp) : 0 ≤ (takesB t).1 ∧ (takesB t).1 ≤ 2 := by
 unfold takesB
 split
 ·
  exact ⟨by decide, by decide⟩
 ·
  exact takesR_range t
/-- what a step takes that has no rule -/
theorem takesB_two {t : Stp} (h0 : 0 ≤ t.k) (h6 : t.k ≠ 6) (h : (takesB t).2 = true) (hr : ruleR t.k = none) (h9 : t.k ≠ 9) : (takesB t).1 = 2 := by
 unfold takesB at *
 rw [if_neg h6] at h ⊢
 have hn : t.k ≠ 1 ∧ t.k ≠ 2 ∧ t.k ≠ 3 ∧ t.k ≠ 4 ∧ t.k ≠ 5 ∧ t.k ≠ 7 ∧ t.k ≠ 8 ∧ t.k ≠ 10 := by
  refine ⟨?_, ?_, ?_, ?_, ?_, ?_, ?_, ?_⟩ <;> (intro e; rw [e] at hr; cases hr)
 obtain ⟨a1, a2, a3, a4, a5, a7, a8, a10⟩ := hn
 unfold takesR at *
 rw [if_neg (by omega), if_neg a4, if_neg a5, if_neg h6] at h ⊢
 split at h
 ·
  cases h
 ·
  rename_i hh
  rw [if_neg hh]
  split at h
  ·
   rename_i h10
   have hz : t.k ≠ 0 := fun e => hh (.inl e)
   omega
  ·
   rename_i h10
   rw [if_neg h10]
set_option maxHeartbeats 4000000 in
set_option maxRecDepth 100000 in
theorem takesB_any (t : Stp) (w : World) (hG : PGlob w) (hs : t.s.size < 4294967281) (hk : 0 ≤ t.k ∧ t.k ≤ 255) :
  Calls Tryz.prog 57 #[.agg #[.int .u8 t.k, .string t.s, .int .i64 t.n]] w fun e w' => e = .returned (.tuple #[.int .i64 (takesB t).1, .bool (takesB t).2]) ∧ Below w.heap.size w w' := by
 unfold takesB
 have hT : ∀ w, PGlob w → _ := fun w hG => takes_any t w hG hs hk
 unfold Stp.v at hT
 obtain ⟨k, s, n⟩ := t
 have hbV := (Below.refl w.heap.size w).alloc (Nat.le_refl _) (.cells #[.int .u8 k, .string s, .int .i64 n] 50)
 have HG := Lib.hid (hG.self hbV)
 have HB := Lib.hid hbV
 have HT := Lib.hid hT
 clear hG hbV hT
 simp only at hs hk ⊢
 by_cases h6 : k = 6
 ·
  subst h6
  rw [if_pos rfl]
  go_enter Tryz.func57, Tryz.ntmps57
  go_wp2_with fail
  go_ret2
  exact ⟨rfl, HB.out⟩
 ·
  rw [if_neg h6]
  have e6 : (k == 6) = false := beq_eq_false_iff_ne.2 h6
  clear h6
  go_enter Tryz.func57, Tryz.ntmps57
  go_wp2_with (go_at_call 69; refine (HT.out _ HG.out).mono ?_; rintro e w2 ⟨rfl, hb2⟩; refine Hid.out ?_)
  refine Lib.hid ?_
  go_wp2_with fail
  go_ret2
  exact ⟨rfl, below_self HB.out hb2⟩
end Go.Proofs.YtgjfbbmachoolaaGreatDoor.lx
namespace Go.Proofs.YtgjfbbmachoolaaGreatDoor.lx
open Go.RowKit

/-- Parse's results in memory -/
structure PRes (Q : Nat) (w : World) : Prop where
 q : ∃ a b c d e f g, w.heap[Q]? = some (.cells #[a, b, c, d, e, f, g] 26 (0, 0))
 y : ∃ v, w.heap[Q + 1]? = some (.cells #[.int .i64 v] 33 (0, 0))
 p : ∃ v, w.heap[Q + 2]? = some (.cells #[.int .i64 v] 3 (0, 0))
/-- .. what they hold -/
structure PHas (Q : Nat) (v : Array Value) (y p : Int) (w : World) : Prop where
 q : w.heap[Q]? = some (.cells v 26 (0, 0))
 y : w.heap[Q + 1]? = some (.cells #[.int .i64 y] 33 (0, 0))
 p : w.heap[Q + 2]? = some (.cells #[.int .i64 p] 3 (0, 0))
def zeroQ : Array Value := #[.slice none 0 0, .string ⟨#[]⟩, .string ⟨#[]⟩, .string ⟨#[]⟩, .string ⟨#[]⟩, .slice none 0 0, .slice none 0 0]

/-- the world behind -/
def caught (Q : Nat) (a b c d e f g y p : Value) (o : Obj) (w : World) : World := ((((set7 Q a b c d e f g w).setCell ⟨Q + 1, 0, none⟩ y).setCell ⟨Q + 2, 0, none⟩ p).alloc o).drew
theorem drew_heap (w : World) : w.drew.heap = w.heap := rfl
theorem caught_heap {Q : Nat} {a b c d e f g y p : Value} {o : Obj} {w : World} {k : Nat} (hk : k < w.heap.size) : (caught Q a b c d e f g y p o w).heap[k]? = (((set7 Q a b c d e f g w).setCell ⟨Q + 1, 0, none⟩ y).setCell ⟨Q + 2, 0, none⟩ p).heap[k]? := by
 unfold caught
 rw [drew_heap]
 exact heap_alloc_old _ _ (by rw [setCell_size, setCell_size, set7_size]; exact hk)
theorem caught_has {Q : Nat} {a b c d e f g a' b' c' d' e' f' g' : Value} {y p vy vp : Int} {o : Obj} {w : World} (hq : w.heap[Q]? = some (.cells #[a', b', c', d', e', f', g'] 26 (0, 0)))
  (hy : w.heap[Q + 1]? = some (.cells #[.int .i64 vy] 33 (0, 0))) (hp : w.heap[Q + 2]? = some (.cells #[.int .i64 vp] 3 (0, 0))) : PHas Q #[a, b, c, d, e, f, g] y p (caught Q a b c d e f g (.int .i64 y) (.int .i64 p) o w) := by
 have hql := (Array.getElem?_eq_some_iff.1 hq).1
 have hyl := (Array.getElem?_eq_some_iff.1 hy).1
 have hpl := (Array.getElem?_eq_some_iff.1 hp).1
 refine ⟨?_, ?_, ?_⟩
 ·
  rw [caught_heap hql, Below.heap_setCell _ _ _ _ (by show Q ≠ Q + 2; omega), Below.heap_setCell _ _ _ _ (by show Q ≠ Q + 1; omega)]
  exact set7_at hq
 ·
  rw [caught_heap hyl, Below.heap_setCell _ _ _ _ (by show Q + 1 ≠ Q + 2; omega)]
  have h1 : Boxed (set7 Q a b c d e f g w) (Q + 1) 33 (.int .i64 vy) := (set7_ne (by omega)).trans hy
  exact h1.set _
 ·
  rw [caught_heap hpl]
  have h1 : Boxed ((set7 Q a b c d e f g w).setCell ⟨Q + 1, 0, none⟩ (.int .i64 y)) (Q + 2) 3 (.int .i64 vp) := (Below.heap_setCell _ _ _ _ (by show Q + 2 ≠ Q + 1; omega)).trans ((set7_ne (by omega)).trans hp)
  exact h1.set _
theorem caught_below {Q : Nat} {a b c d e f g y p : Value} {o : Obj} {w : World} (hQ : Q ≤ w.heap.size) : Below Q w (caught Q a b c d e f g y p o w) := by
 unfold caught set7
 have h0 : Below Q w ((((((((( w.setCell ⟨Q, 0, none⟩ a).setCell ⟨Q, 1, none⟩ b).setCell ⟨Q, 2, none⟩ c).setCell ⟨Q, 3, none⟩ d).setCell ⟨Q, 4, none⟩ e).setCell ⟨Q, 5, none⟩ f).setCell ⟨Q, 6, none⟩ g).setCell ⟨Q + 1, 0, none⟩ y).setCell ⟨Q + 2, 0, none⟩ p) :=
  (((((((((Below.refl Q w).setCell (p := ⟨Q, 0, none⟩) (Nat.le_refl _) _).setCell (p := ⟨Q, 1, none⟩) (Nat.le_refl _) _).setCell (p := ⟨Q, 2, none⟩) (Nat.le_refl _) _).setCell (p := ⟨Q, 3, none⟩) (Nat.le_refl _) _).setCell (p := ⟨Q, 4, none⟩) (Nat.le_refl _) _).setCell (p := ⟨Q, 5, none⟩) (Nat.le_refl _) _).setCell (p := ⟨Q, 6, none⟩) (Nat.le_refl _) _).setCell (p := ⟨Q + 1, 0, none⟩) (Nat.le_succ Q) _).setCell (p := ⟨Q + 2, 0, none⟩) (by show Q ≤ Q + 2; omega) _
 exact (h0.alloc (by rw [setCell_size, setCell_size, setCell_size, setCell_size, setCell_size, setCell_size, setCell_size, setCell_size, setCell_size]; exact hQ) o).drew

set_option maxHeartbeats 2000000 in
set_option maxRecDepth 100000 in
theorem catch_panicking {Q : Nat} {y p : Int} {older : List PanicEntry} {w : World} (h : PRes Q w) :
  CallsD Tryz.prog 60 #[.pointer (some ⟨Q, 0, none⟩), .pointer (some ⟨Q + 1, 0, none⟩), .pointer (some ⟨Q + 2, 0, none⟩)] (.panicking (flt y p :: older)) w fun e u' w' =>
   e = .returned (.tuple #[]) ∧ u' = .panicking ({ flt y p with recovered := true } :: older) ∧ PHas Q zeroQ y p w' ∧ Below Q w w' := by
 obtain ⟨⟨a, b, c, d, e, f, g, hq⟩, ⟨vy, hy⟩, ⟨vp, hp⟩⟩ := h
 unfold flt
 refine callsD_of_wpS Tryz.func60 rfl fun c₀ cs hu => ?_
 apply wpS_seq
 apply wpS_region
 simp [wpOpsS, go_sem, recoverD, hu, Tryz.ntmps60, Exit.thenS]
 apply wpS_seq
 apply wpS_region
 simp [wpOpsS, go_sem, Exit.thenS]
 refine wpS_cond (t := true) (by simp [Act.eval, Array.replicate, go_sem]) ?_
 simp only [if_true]
 refine wpS_of_wp ?_
 have hta : ∀ w, (Instr.typeAssert (.iface 115 (.agg #[.int .i64 y, .int .i64 p])) 20 115 true).run Tryz.prog w = .ok (.tuple #[.agg #[.int .i64 y, .int .i64 p], .bool true]) w := fun w => by kernel_rfl
 simp only [Array.replicate_succ, Array.replicate_zero, List.push_toArray, List.append_toArray, List.nil_append, List.cons_append, List.setIfInBounds_toArray, List.set_cons_zero, List.set_cons_succ]
 have hql := (Array.getElem?_eq_some_iff.1 hq).1
 have hyl := (Array.getElem?_eq_some_iff.1 hy).1
 have hpl := (Array.getElem?_eq_some_iff.1 hp).1
 have k0 : w.cell? ⟨Q, 0, none⟩ = some a := by rw [Lib.cell_of_heap hq]; rfl
 have k1 : w.cell? ⟨Q, 1, none⟩ = some b := by rw [Lib.cell_of_heap hq]; rfl
 have k2 : w.cell? ⟨Q, 2, none⟩ = some c := by rw [Lib.cell_of_heap hq]; rfl
 have k3 : w.cell? ⟨Q, 3, none⟩ = some d := by rw [Lib.cell_of_heap hq]; rfl
 have k4 : w.cell? ⟨Q, 4, none⟩ = some e := by rw [Lib.cell_of_heap hq]; rfl
 have k5 : w.cell? ⟨Q, 5, none⟩ = some f := by rw [Lib.cell_of_heap hq]; rfl
 have k6 : w.cell? ⟨Q, 6, none⟩ = some g := by rw [Lib.cell_of_heap hq]; rfl
 have ky : w.cell? ⟨Q + 1, 0, none⟩ = some (.int .i64 vy) := by rw [Lib.cell_of_heap hy]; rfl
 have kp : w.cell? ⟨Q + 2, 0, none⟩ = some (.int .i64 vp) := by rw [Lib.cell_of_heap hp]; rfl
 have kf : ∀ j, w.frozen? ⟨Q, j, none⟩ = false := Lib.frozen_of_heap hq
 have kfy : w.frozen? ⟨Q + 1, 0, none⟩ = false := Lib.frozen_of_heap hy 0
 have kfp : w.frozen? ⟨Q + 2, 0, none⟩ = false := Lib.frozen_of_heap hp 0
 go_wp2
 go_region
 refine ⟨rfl, _, rfl, _, results_none rfl _ _ _, rfl, rfl, ?_, ?_⟩
 ·
  exact caught_has hq hy hp
 ·
  exact caught_below (Nat.le_of_lt hql)

set_option maxHeartbeats 2000000 in
set_option maxRecDepth 100000 in
theorem catch_idle (a b c : Value) (w : World) :
  CallsD Tryz.prog 60 #[a, b, c] .returning w fun e u' w' => e = .returned (.tuple #[]) ∧ u' = .returning ∧ w' = w := by
 refine callsD_of_wpS Tryz.func60 rfl fun c₀ cs hu => ?_
 apply wpS_seq
 apply wpS_region
 simp [wpOpsS, go_sem, recoverD, hu, Tryz.ntmps60, Exit.thenS]
 apply wpS_seq
 apply wpS_region
 simp [wpOpsS, go_sem, Exit.thenS]
 refine wpS_cond (t := false) (by simp [Act.eval, Array.replicate, go_sem]) ?_
 simp only [Bool.false_eq_true, if_false]
 refine wpS_of_wp (wp_skip ?_)
 cases c₀
 simp_all [bodyPostS, results, Tryz.results60]
end Go.Proofs.YtgjfbbmachoolaaGreatDoor.lx
namespace Go.Proofs.YtgjfbbmachoolaaGreatDoor.lx
open Go.RowKit
instance : DecidableEq Tok := fun a b =>
 if h : a.k = b.k ∧ a.s = b.s ∧ a.n = b.n ∧ a.a = b.a then isTrue (by cases a; cases b; simp only at h; obtain ⟨rfl, rfl, rfl, rfl⟩ := h; rfl)
 else isFalse (by intro e; subst e; exact h ⟨rfl, rfl, rfl, rfl⟩)

end Go.Proofs.YtgjfbbmachoolaaGreatDoor.lx
namespace Go.Proofs.YtgjfbbmachoolaaGreatDoor.lx
open Go.RowKit

/-- the text that Show tries -/
def showS (t : Tok) : ByteArray :=
 if t.k = 1 then ⟨#[40]⟩ else if t.k = 2 then ⟨#[41]⟩ else if t.k = 4 then ⟨(Lib.itoa t.n).toArray⟩ else if t.k = 5 then quotF t.s else t.s
def showOk (t : Tok) : Prop := (lexR (showS t)).2.1 = 0 ∧ (lexR (showS t)).1 = [t.at 0]
open Classical in
noncomputable def showF (t : Tok) : ByteArray × Int := if showOk t then (showS t, 0) else (⟨#[]⟩, 13)

theorem lexR_long {s : ByteArray} (h : 2048 < s.size) : lexR s = ([], 4, 0) := if_pos h
/-- Lex, for every text -/
theorem Lex_any (s : ByteArray) (w : World) (hG : Glob w) (hs : s.size ≤ 9223372036854775807) :
  Calls Tryz.prog 59 #[.string s] w fun e w' => ∃ v, e = .returned (.tuple #[v, .int .i64 (lexR s).2.1, .int .i64 (lexR s).2.2]) ∧
   w'.ownsRow w.heap.size 144 4 v (lexR s).1.length (tokCells (lexR s).1) ∧ Below w.heap.size w w' := by
 by_cases h : 2048 < s.size
 ·
  refine (Lex_long s w h hs).mono ?_
  rintro e w' ⟨rfl, rfl⟩
  rw [lexR_long h]
  exact ⟨_, rfl, World.ownsRow_nil _ _ _ _, Below.refl _ _⟩
 ·
  exact Lex_short s w hG h

/-- a row that is owned, as a slice -/
theorem own_slice {w : World} {B : Nat} {v : Value} {ts : List Tok} (h : w.ownsRow B 144 4 v ts.length (tokCells ts)) :
  ∃ ao cap, v = .slice ao ts.length cap ∧ (ts.length = 0 ∨ ∃ g, ao = some ⟨g, 0, none⟩ ∧ B ≤ g ∧ g < w.heap.size ∧ ∀ (j : Nat) u, (tokCells ts)[j]? = some u → w.cell? ⟨g, j, none⟩ = some u) := by
 rcases h.2 with ⟨hv, h0⟩ | ⟨g, cap, cur, hv, hb, hg, rest⟩
 ·
  exact ⟨none, 0, by rw [hv, h0], .inl h0⟩
 ·
  refine ⟨_, cap, hv, .inr ⟨g, rfl, hb, (Array.getElem?_eq_some_iff.1 hg).1, ?_⟩⟩
  intro j u hu
  rw [Lib.cell_of_heap hg]
  rw [← rest.2.2.2, List.getElem?_take] at hu
  split at hu
  ·
   simpa using hu
  ·
   cases hu

end Go.Proofs.YtgjfbbmachoolaaGreatDoor.lx
namespace Go.Proofs.YtgjfbbmachoolaaGreatDoor.lx
open Go.RowKit

def isHexR (r : Int) : Bool := decide (48 ≤ r ∧ r ≤ 57) || decide (97 ≤ r ∧ r ≤ 102)
def hexR (r : Int) : Nat := if r ≤ 57 then (r - 48).toNat else (r - 87).toNat
def hexG (gs : List G) : Nat := gs.foldl (fun x g => 16 * x + hexR g.1) 0
/-- what stands between the brackets of an escape, and what is behind -/
def codeG (gs : List G) : Option (Nat × List G) :=
 match gs with
 | [] => none
 | g :: gs => if g.1 = 123 then
   (match gs.dropWhile fun g => isHexR g.1 with
   | [] => none
   | e :: rest => if e.1 = 125 ∧ 1 ≤ (gs.takeWhile fun g => isHexR g.1).length ∧ (gs.takeWhile fun g => isHexR g.1).length ≤ 6 ∧ Lib.validRune (hexG (gs.takeWhile fun g => isHexR g.1)) = true
     then some (hexG (gs.takeWhile fun g => isHexR g.1), rest) else none)
  else none

def isHexB (b : UInt8) : Bool := cset.contains b
theorem indexByte_at (c : UInt8) : ∀ (ds t : List UInt8), (∀ b ∈ ds, b ≠ c) → Lib.indexByte (ds ++ c :: t) c = (ds.length : Int)
 | [], t, _ => by simp [Lib.indexByte]
 | b :: ds, t, h => by
  have hb : (b == c) = false := by simpa using h b (by simp)
  have ih := indexByte_at c ds t (fun x hx => h x (by simp [hx]))
  rw [List.cons_append, Lib.indexByte, hb, ih]
  have : ((ds.length : Int) == -1) = false := by simp
  simp [this]

end Go.Proofs.YtgjfbbmachoolaaGreatDoor.lx
namespace Go.Proofs.YtgjfbbmachoolaaGreatDoor.lx
open Go.RowKit

def escG : List G → Option Int × List G
 | [] => (none, [])
 | g :: gs => if g.1 = 117 then (match codeG gs with | none => (none, gs) | some (n, r) => (some (n : Int), r)) else (escR g.1, gs)

theorem escG_cons (g : G) (gs : List G) : escG (g :: gs) = if g.1 = 117 then (match codeG gs with | none => (none, gs) | some (n, r) => (some (n : Int), r)) else (escR g.1, gs) := rfl

theorem codeG_length {gs r : List G} {n : Nat} (h : codeG gs = some (n, r)) : r.length < gs.length := by
 unfold codeG at h
 cases gs with
 | nil => cases h
 | cons g gs =>
  simp only at h
  split at h
  ·
   have hl : (gs.dropWhile fun g => isHexR g.1).length ≤ gs.length := (List.dropWhile_sublist _).length_le
   revert h
   cases hd : gs.dropWhile fun g => isHexR g.1 with
   | nil => intro h; cases h
   | cons e rest =>
    rw [hd] at hl
    simp only
    intro h
    split at h
    ·
     injection h with h; injection h with h1 h2
     subst h2
     simp at hl ⊢
     omega
    ·
     cases h
  ·
   cases h
theorem escG_length (gs : List G) : (escG gs).2.length ≤ gs.length := by
 cases gs with
 | nil => exact Nat.le_refl _
 | cons g gs =>
  rw [escG_cons]
  by_cases h : g.1 = 117
  ·
   rw [if_pos h]
   cases hc : codeG gs with
   | none => simp
   | some x => obtain ⟨n, r⟩ := x; have := codeG_length hc; simp; omega
  ·
   rw [if_neg h]; simp

def textG (fine : Bool) (acc : List UInt8) (gs : List G) : (Tok × Int) × List G :=
 match gs with
 | [] => ((Tok.no, 13), [])
 | g :: gs =>
  if g.1 = 34 then ((if fine = false then (Tok.no, 9) else if 256 < acc.length then (Tok.no, 4) else (⟨5, ⟨acc.toArray⟩, 0, 0⟩, 0)), gs)
  else if g.1 = 92 then
   if (escG gs).1.isSome then textG fine (acc ++ Lib.encodeRune ((escG gs).1.getD 0)) (escG gs).2 else ((Tok.no, 13), (escG gs).2)
  else textG (fine && g.2) (acc ++ Lib.encodeRune g.1) gs
termination_by gs.length
decreasing_by
 ·
  have := escG_length gs; simp; omega
 ·
  simp

/-- a word's token, of its glyphs -/
def wordG (ds : List G) : Tok × Int := if ds.all (·.2) then wordTok true ⟨(runeB ds).toArray⟩ else (Tok.no, 9)
def tokG : List G → (Tok × Int) × List G
 | [] => ((Tok.no, 13), [])
 | g :: gs => if g.1 = 40 then ((⟨1, ⟨#[]⟩, 0, 0⟩, 0), gs) else if g.1 = 41 then ((⟨2, ⟨#[]⟩, 0, 0⟩, 0), gs) else if g.1 = 34 then textG g.2 [] gs
  else (wordG (bareG (g :: gs)), bareR (g :: gs))

/-- a text's tokens with how many glyphs are left where each begins; the error, and how many are left there -/
def lexK (gs : List G) : List (Tok × Nat) × Int × Nat :=
 match gs with
 | [] => ([], 0, 0)
 | g :: gs =>
  if (tokG (g :: gs)).1.2 ≠ 0 then ([], (tokG (g :: gs)).1.2, (g :: gs).length)
  else if _h : (skipG false (tokG (g :: gs)).2).length < (g :: gs).length then
   (((tokG (g :: gs)).1.1, (g :: gs).length) :: (lexK (skipG false (tokG (g :: gs)).2)).1, (lexK (skipG false (tokG (g :: gs)).2)).2)
  else ([], 0, 0)
termination_by gs.length
def lexG (gs : List G) : List Tok × Int × Int :=
 if (lexK (skipG false gs)).2.1 = 0 then ((lexK (skipG false gs)).1.map fun x => x.1.at (gs.length - x.2), 0, 0)
 else ([], (lexK (skipG false gs)).2.1, ((gs.length - (lexK (skipG false gs)).2.2 : Nat) : Int))


/-- the first glyph is no blank -/
def firm : List G → Prop
 | [] => True
 | g :: _ => (noted false g.1 || blankR g.1) = false
end Go.Proofs.YtgjfbbmachoolaaGreatDoor.lx
