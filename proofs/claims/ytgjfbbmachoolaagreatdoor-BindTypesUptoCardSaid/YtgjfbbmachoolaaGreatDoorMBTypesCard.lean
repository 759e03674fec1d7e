/-
  potsherdlaw04.BindTypes, for all steps and columns. Conditions: the package-level variables are laid; the rows lie there. BindTypes: the row and the card.
-/
import Derived.Test.YtgjfbbmachoolaaGreatDoorM21
import Derived.Test.YtgjfbbmachoolaaGreatDoorM16
import Derived.Test.YtgjfbbmachoolaaGreatDoorM22
namespace Go.Proofs.YtgjfbbmachoolaaGreatDoor.lx
open Go.RowKit
set_option linter.unusedVariables false
set_option linter.unusedSimpArgs false

theorem kind_snoc {ao co : Option Addr} {cap ccap : Nat} {L : List Stp} {s : Stp} {C : List Clm} {w : World} (hG : PGlob w) (hL : StpRow ao (L ++ [s]) w) (hok : StpsOk (L ++ [s])) (hC : ColRow co C w) (hck : ∀ c ∈ C, 0 ≤ c.k ∧ c.k ≤ 255) (hlen : L.length ≤ 62) (hcl : C.length ≤ 4398046511104) :
  Calls Tryz.prog 16 #[.slice ao (L.length + 1) cap, .slice co C.length ccap] w fun e w' => e = .returned (.tuple #[.int .u8 (kindA (L ++ [s]) C).1, .int .i64 (kindA (L ++ [s]) C).2]) ∧ Below w.heap.size w w' := by
 have h := Kind_any (cap := cap) (ccap := ccap) hG hL hok hC hck (by rw [List.length_append]; simp; omega) hcl
 rw [List.length_append] at h
 exact h
theorem StpsOk.snoc {L : List Stp} {s : Stp} (h : StpsOk L) (hs : s.s.size < 4294967281 ∧ 0 ≤ s.k ∧ s.k ≤ 255) : StpsOk (L ++ [s]) := fun t ht => by
 rcases List.mem_append.1 ht with ht | ht
 ·
  exact h t ht
 ·
  rw [List.mem_singleton.1 ht]; exact hs

set_option maxHeartbeats 8000000 in
set_option maxRecDepth 100000 in
theorem Types_any {ao co : Option Addr} {cap ccap : Nat} {L : List Stp} {C : List Clm} {w : World} (hG : PGlob w) (hL : StpRow ao L w) (hok : StpsOk L) (hC : ColRow co C w) (hck : ∀ c ∈ C, 0 ≤ c.k ∧ c.k ≤ 255) (hlen : L.length ≤ 1099511627776) (hcl : C.length ≤ 4398046511104) :
  Calls Tryz.prog 7 #[.slice ao L.length cap, .slice co C.length ccap] w fun e w' => e = .returned (.bool true) ∧ Below w.heap.size w w' := by
 have HG := Lib.hid hG
 have HL := Lib.hid hL
 have HO := Lib.hid hok
 have HC := Lib.hid hC
 have HCK := Lib.hid hck
 have hwr : wrap64 ((L.length : Int) + 2) = (L.length : Int) + 2 := by unfold wrap64; omega
 have hwi : IntKind.i64.wrap ((L.length : Int) + 2) = (L.length : Int) + 2 := IntWalk.i64_in _ (by omega)
 clear hG hL hok hC hck
 go_enter Tryz.func7, Tryz.ntmps7
 go_wp2_with (go_at_call 8; refine (lives4_any _ HG.out).mono ?_; rintro e w1 ⟨rfl, hb1⟩; refine Hid.out ?_)
 refine Lib.hid ?_
 have HB1 := Lib.hid hb1
 have hk := Kind_any (cap := cap) (ccap := ccap) (HG.out.self hb1) (HL.out.self hb1) HO.out (HC.out.self hb1) HCK.out hlen hcl
 clear hb1
 cases hr : kindOfR L C with
 | no y =>
  have hy := kindOfR_nz hr
  rw [kindA_no hr] at hk
  have HK := Lib.hid hk
  have hyb : (y == 0) = false := by simpa using hy
  have hyb2 : (y != 0) = true := by simpa using hy
  clear hr hk hy
  go_wp2_with (go_at_call 16; refine HK.out.mono ?_; rintro e w2 ⟨rfl, hb2⟩; refine Hid.out ?_)
  refine Lib.hid ?_
  have HB2 := Lib.hid (below_self HB1.out hb2)
  clear hb2 HK
  go_wp2_with fail
  go_ret
  exact ⟨rfl, HB2.out⟩
 | ok k =>
  rw [kindA_ok hr] at hk
  have HK := Lib.hid hk
  have HR := Lib.hid hr
  clear hr hk
  by_cases h62 : L.length ≤ 62
  rotate_left
  ·
   have hI : ¬ (L.length : Int) + 2 ≤ 64 := by omega
   have hI2 : (64 : Int) < (L.length : Int) + 2 := by omega
   go_wp2_with (go_at_call 16; refine HK.out.mono ?_; rintro e w2 ⟨rfl, hb2⟩; refine Hid.out ?_)
   refine Lib.hid ?_
   have HB2 := Lib.hid (below_self HB1.out hb2)
   clear hb2 HK
   cases hk0 : (k == 0) with
   | true =>
    go_wp2_with fail
    go_ret
    exact ⟨rfl, HB2.out⟩
   | false =>
    go_wp2_with fail
    go_ret
    exact ⟨rfl, HB2.out⟩
  have hI : (L.length : Int) + 2 ≤ 64 := by omega
  have hI2 : ¬ (64 : Int) < (L.length : Int) + 2 := by omega
  obtain ⟨t7, t8, t10, t9⟩ := types_law HR.out (by omega)
  have HT7 := Lib.hid t7
  have HT8 := Lib.hid t8
  have HT10 := Lib.hid t10
  have HT9 := Lib.hid t9
  obtain ⟨i0, hi0, hz0, hz1, hz2⟩ := info_parts infoS
  have HI := Lib.hid (And.intro hi0 (And.intro hz0 (And.intro hz1 hz2)))
  clear hi0 hz0 hz1 hz2 t7 t8 t10 t9
  go_wp2_with (go_at_call 16; refine HK.out.mono ?_; rintro e w2 ⟨rfl, hb2⟩; refine Hid.out ?_)
  refine Lib.hid ?_
  have HB2 := Lib.hid (below_self HB1.out hb2)
  clear hb2 HK HB1
  go_upto_region 6 with fail
  clear hwr hwi hI hI2
  have hLS7 : Lies 3 ao L.length (stpCells L) (w2.alloc (.cells #[] 50)) := lies_stps (HL.out.self (below_self HB2.out ((Below.refl _ _).alloc (Nat.le_refl _) _)))
  have hbE7 := (Below.refl w2.heap.size w2).alloc (Nat.le_refl _) (.cells #[] 50)
  go_wp2_with (at_builtin; refine wpList_append_lying rfl _ _ 23 rfl w2.heap.size 50 i0 _ 3 32 Tryz.underlying23 HI.out.1 HI.out.2.1 HI.out.2.2.1 HI.out.2.2.2 rfl (by decide) (.slice (some ⟨w2.heap.size, 0, none⟩) 0 0) 0 [] rfl own_empty ao L.length cap (stpCells L) rfl hLS7 (by unfold maxLen; omega) (by omega) (by simp) ?_)
  intro v7 u7 hown7 hg7 _
  obtain ⟨so7, cap7, rfl⟩ := own_shape hown7
  have hbF7 : Below w2.heap.size w2 u7 := below_ownB hbE7 hg7 (fun k hk => by have e : w2.heap.size = k := Option.some.inj hk; omega) (by rw [alloc_sz]; omega)
  have HO7 := Lib.hid hown7
  have HF7 := Lib.hid hbF7
  have hsz7 := hbF7.size
  clear hown7 hg7 hbF7 hbE7 hLS7
  go_wp2_with (at_builtin; refine wpList_append_lying rfl _ _ 23 rfl w2.heap.size 50 i0 _ 3 32 Tryz.underlying23 HI.out.1 HI.out.2.1 HI.out.2.2.1 HI.out.2.2.2 rfl (by decide) (.slice so7 L.length cap7) L.length (stpCells L) (by first | rfl | simp [Act.eval]) (HO7.out.alloc _) (some ⟨u7.heap.size, 0, none⟩) 1 1 [.int .u8 7, .string ⟨#[]⟩, .int .i64 0] rfl (lies_three rfl rfl rfl) (by unfold maxLen; omega) (by omega) (by simp; omega) ?_)
  intro vv7 uu7 hown7 hg7 _
  obtain ⟨sp7, cbp7, rfl⟩ := own_shape hown7
  have hbG7 : Below w2.heap.size w2 uu7 := below_ownB (below_self HF7.out ((Below.refl u7.heap.size u7).alloc (Nat.le_refl _) (.cells #[.int .u8 7, .string ⟨#[]⟩, .int .i64 0] 50))) hg7 (own_base HO7.out) (by rw [alloc_sz]; omega)
  have hown27 : uu7.ownsRow w2.heap.size 50 3 (.slice sp7 (L.length + 1) cbp7) (L ++ [Stp.mk 7 ⟨#[]⟩ 0]).length (stpCells (L ++ [Stp.mk 7 ⟨#[]⟩ 0])) := by rw [List.length_append, stpCells_app]; exact hown7
  obtain ⟨sq7, cq7, hsv7, hrow7⟩ := own_stps hown27
  injection hsv7 with hs1 hsx hs2
  clear hsx
  subst hs1 hs2
  have HB7 := Lib.hid (below_self HB2.out hbG7)
  have hkn7 := kind_snoc (cap := cbp7) (ccap := ccap) (HG.out.self HB7.out) hrow7 (HO.out.snoc ⟨by show (0 : Nat) < _; decide, by show (0 : Int) ≤ 7; decide, by show (7 : Int) ≤ 255; decide⟩) (HC.out.self HB7.out) HCK.out h62 hcl
  have HKN7 := Lib.hid hkn7
  clear hown7 hg7 hbG7 hown27 hrow7 hkn7 HF7 HO7 hsz7 HB2
  go_wp2_with (go_at_call 16; refine HKN7.out.mono ?_; rintro e w79 ⟨rfl, hb79⟩; refine Hid.out ?_)
  refine Lib.hid ?_
  have HBB7 := Lib.hid (below_self HB7.out hb79)
  clear hb79 HKN7 HB7
  have hLS8 : Lies 3 ao L.length (stpCells L) (w79.alloc (.cells #[] 50)) := lies_stps (HL.out.self (below_self HBB7.out ((Below.refl _ _).alloc (Nat.le_refl _) _)))
  have hbE8 := (Below.refl w79.heap.size w79).alloc (Nat.le_refl _) (.cells #[] 50)
  go_wp2_with (at_builtin; refine wpList_append_lying rfl _ _ 23 rfl w79.heap.size 50 i0 _ 3 32 Tryz.underlying23 HI.out.1 HI.out.2.1 HI.out.2.2.1 HI.out.2.2.2 rfl (by decide) (.slice (some ⟨w79.heap.size, 0, none⟩) 0 0) 0 [] rfl own_empty ao L.length cap (stpCells L) rfl hLS8 (by unfold maxLen; omega) (by omega) (by simp) ?_)
  intro v8 u8 hown8 hg8 _
  obtain ⟨so8, cap8, rfl⟩ := own_shape hown8
  have hbF8 : Below w79.heap.size w79 u8 := below_ownB hbE8 hg8 (fun k hk => by have e : w79.heap.size = k := Option.some.inj hk; omega) (by rw [alloc_sz]; omega)
  have HO8 := Lib.hid hown8
  have HF8 := Lib.hid hbF8
  have hsz8 := hbF8.size
  clear hown8 hg8 hbF8 hbE8 hLS8
  go_wp2_with (at_builtin; refine wpList_append_lying rfl _ _ 23 rfl w79.heap.size 50 i0 _ 3 32 Tryz.underlying23 HI.out.1 HI.out.2.1 HI.out.2.2.1 HI.out.2.2.2 rfl (by decide) (.slice so8 L.length cap8) L.length (stpCells L) (by first | rfl | simp [Act.eval]) (HO8.out.alloc _) (some ⟨u8.heap.size, 0, none⟩) 1 1 [.int .u8 8, .string ⟨#[]⟩, .int .i64 0] rfl (lies_three rfl rfl rfl) (by unfold maxLen; omega) (by omega) (by simp; omega) ?_)
  intro vv8 uu8 hown8 hg8 _
  obtain ⟨sp8, cbp8, rfl⟩ := own_shape hown8
  have hbG8 : Below w79.heap.size w79 uu8 := below_ownB (below_self HF8.out ((Below.refl u8.heap.size u8).alloc (Nat.le_refl _) (.cells #[.int .u8 8, .string ⟨#[]⟩, .int .i64 0] 50))) hg8 (own_base HO8.out) (by rw [alloc_sz]; omega)
  have hown28 : uu8.ownsRow w79.heap.size 50 3 (.slice sp8 (L.length + 1) cbp8) (L ++ [Stp.mk 8 ⟨#[]⟩ 0]).length (stpCells (L ++ [Stp.mk 8 ⟨#[]⟩ 0])) := by rw [List.length_append, stpCells_app]; exact hown8
  obtain ⟨sq8, cq8, hsv8, hrow8⟩ := own_stps hown28
  injection hsv8 with hs1 hsx hs2
  clear hsx
  subst hs1 hs2
  have HB8 := Lib.hid (below_self HBB7.out hbG8)
  have hkn8 := kind_snoc (cap := cbp8) (ccap := ccap) (HG.out.self HB8.out) hrow8 (HO.out.snoc ⟨by show (0 : Nat) < _; decide, by show (0 : Int) ≤ 8; decide, by show (8 : Int) ≤ 255; decide⟩) (HC.out.self HB8.out) HCK.out h62 hcl
  have HKN8 := Lib.hid hkn8
  clear hown8 hg8 hbG8 hown28 hrow8 hkn8 HF8 HO8 hsz8 HBB7
  go_wp2_with (go_at_call 16; refine HKN8.out.mono ?_; rintro e w89 ⟨rfl, hb89⟩; refine Hid.out ?_)
  refine Lib.hid ?_
  have HBB8 := Lib.hid (below_self HB8.out hb89)
  clear hb89 HKN8 HB8
  have hLS10 : Lies 3 ao L.length (stpCells L) (w89.alloc (.cells #[] 50)) := lies_stps (HL.out.self (below_self HBB8.out ((Below.refl _ _).alloc (Nat.le_refl _) _)))
  have hbE10 := (Below.refl w89.heap.size w89).alloc (Nat.le_refl _) (.cells #[] 50)
  go_wp2_with (at_builtin; refine wpList_append_lying rfl _ _ 23 rfl w89.heap.size 50 i0 _ 3 32 Tryz.underlying23 HI.out.1 HI.out.2.1 HI.out.2.2.1 HI.out.2.2.2 rfl (by decide) (.slice (some ⟨w89.heap.size, 0, none⟩) 0 0) 0 [] rfl own_empty ao L.length cap (stpCells L) rfl hLS10 (by unfold maxLen; omega) (by omega) (by simp) ?_)
  intro v10 u10 hown10 hg10 _
  obtain ⟨so10, cap10, rfl⟩ := own_shape hown10
  have hbF10 : Below w89.heap.size w89 u10 := below_ownB hbE10 hg10 (fun k hk => by have e : w89.heap.size = k := Option.some.inj hk; omega) (by rw [alloc_sz]; omega)
  have HO10 := Lib.hid hown10
  have HF10 := Lib.hid hbF10
  have hsz10 := hbF10.size
  clear hown10 hg10 hbF10 hbE10 hLS10
  go_wp2_with (at_builtin; refine wpList_append_lying rfl _ _ 23 rfl w89.heap.size 50 i0 _ 3 32 Tryz.underlying23 HI.out.1 HI.out.2.1 HI.out.2.2.1 HI.out.2.2.2 rfl (by decide) (.slice so10 L.length cap10) L.length (stpCells L) (by first | rfl | simp [Act.eval]) (HO10.out.alloc _) (some ⟨u10.heap.size, 0, none⟩) 1 1 [.int .u8 10, .string ⟨#[]⟩, .int .i64 0] rfl (lies_three rfl rfl rfl) (by unfold maxLen; omega) (by omega) (by simp; omega) ?_)
  intro vv10 uu10 hown10 hg10 _
  obtain ⟨sp10, cbp10, rfl⟩ := own_shape hown10
  have hbG10 : Below w89.heap.size w89 uu10 := below_ownB (below_self HF10.out ((Below.refl u10.heap.size u10).alloc (Nat.le_refl _) (.cells #[.int .u8 10, .string ⟨#[]⟩, .int .i64 0] 50))) hg10 (own_base HO10.out) (by rw [alloc_sz]; omega)
  have hown210 : uu10.ownsRow w89.heap.size 50 3 (.slice sp10 (L.length + 1) cbp10) (L ++ [Stp.mk 10 ⟨#[]⟩ 0]).length (stpCells (L ++ [Stp.mk 10 ⟨#[]⟩ 0])) := by rw [List.length_append, stpCells_app]; exact hown10
  obtain ⟨sq10, cq10, hsv10, hrow10⟩ := own_stps hown210
  injection hsv10 with hs1 hsx hs2
  clear hsx
  subst hs1 hs2
  have HB10 := Lib.hid (below_self HBB8.out hbG10)
  have hkn10 := kind_snoc (cap := cbp10) (ccap := ccap) (HG.out.self HB10.out) hrow10 (HO.out.snoc ⟨by show (0 : Nat) < _; decide, by show (0 : Int) ≤ 10; decide, by show (10 : Int) ≤ 255; decide⟩) (HC.out.self HB10.out) HCK.out h62 hcl
  have HKN10 := Lib.hid hkn10
  clear hown10 hg10 hbG10 hown210 hrow10 hkn10 HF10 HO10 hsz10 HBB8
  go_wp2_with (go_at_call 16; refine HKN10.out.mono ?_; rintro e w109 ⟨rfl, hb109⟩; refine Hid.out ?_)
  refine Lib.hid ?_
  have HBB10 := Lib.hid (below_self HB10.out hb109)
  clear hb109 HKN10 HB10
  have hLS9 : Lies 3 ao L.length (stpCells L) (w109.alloc (.cells #[] 50)) := lies_stps (HL.out.self (below_self HBB10.out ((Below.refl _ _).alloc (Nat.le_refl _) _)))
  have hbE9 := (Below.refl w109.heap.size w109).alloc (Nat.le_refl _) (.cells #[] 50)
  go_wp2_with (at_builtin; refine wpList_append_lying rfl _ _ 23 rfl w109.heap.size 50 i0 _ 3 32 Tryz.underlying23 HI.out.1 HI.out.2.1 HI.out.2.2.1 HI.out.2.2.2 rfl (by decide) (.slice (some ⟨w109.heap.size, 0, none⟩) 0 0) 0 [] rfl own_empty ao L.length cap (stpCells L) rfl hLS9 (by unfold maxLen; omega) (by omega) (by simp) ?_)
  intro v9 u9 hown9 hg9 _
  obtain ⟨so9, cap9, rfl⟩ := own_shape hown9
  have hbF9 : Below w109.heap.size w109 u9 := below_ownB hbE9 hg9 (fun k hk => by have e : w109.heap.size = k := Option.some.inj hk; omega) (by rw [alloc_sz]; omega)
  have HO9 := Lib.hid hown9
  have HF9 := Lib.hid hbF9
  have hsz9 := hbF9.size
  clear hown9 hg9 hbF9 hbE9 hLS9
  go_wp2_with (at_builtin; refine wpList_append_lying rfl _ _ 23 rfl w109.heap.size 50 i0 _ 3 32 Tryz.underlying23 HI.out.1 HI.out.2.1 HI.out.2.2.1 HI.out.2.2.2 rfl (by decide) (.slice so9 L.length cap9) L.length (stpCells L) (by first | rfl | simp [Act.eval]) (HO9.out.alloc _) (some ⟨u9.heap.size, 0, none⟩) 1 1 [.int .u8 9, .string ⟨#[]⟩, .int .i64 0] rfl (lies_three rfl rfl rfl) (by unfold maxLen; omega) (by omega) (by simp; omega) ?_)
  intro vv9 uu9 hown9 hg9 _
  obtain ⟨sp9, cbp9, rfl⟩ := own_shape hown9
  have hbG9 : Below w109.heap.size w109 uu9 := below_ownB (below_self HF9.out ((Below.refl u9.heap.size u9).alloc (Nat.le_refl _) (.cells #[.int .u8 9, .string ⟨#[]⟩, .int .i64 0] 50))) hg9 (own_base HO9.out) (by rw [alloc_sz]; omega)
  have hown29 : uu9.ownsRow w109.heap.size 50 3 (.slice sp9 (L.length + 1) cbp9) (L ++ [Stp.mk 9 ⟨#[]⟩ 0]).length (stpCells (L ++ [Stp.mk 9 ⟨#[]⟩ 0])) := by rw [List.length_append, stpCells_app]; exact hown9
  obtain ⟨sq9, cq9, hsv9, hrow9⟩ := own_stps hown29
  injection hsv9 with hs1 hsx hs2
  clear hsx
  subst hs1 hs2
  have HB9 := Lib.hid (below_self HBB10.out hbG9)
  have hkn9 := kind_snoc (cap := cbp9) (ccap := ccap) (HG.out.self HB9.out) hrow9 (HO.out.snoc ⟨by show (0 : Nat) < _; decide, by show (0 : Int) ≤ 9; decide, by show (9 : Int) ≤ 255; decide⟩) (HC.out.self HB9.out) HCK.out h62 hcl
  have HKN9 := Lib.hid hkn9
  clear hown9 hg9 hbG9 hown29 hrow9 hkn9 HF9 HO9 hsz9 HBB10
  go_wp2_with (go_at_call 16; refine HKN9.out.mono ?_; rintro e w99 ⟨rfl, hb99⟩; refine Hid.out ?_)
  refine Lib.hid ?_
  have HBB9 := Lib.hid (below_self HB9.out hb99)
  clear hb99 HKN9 HB9
  go_upto_region 10 with fail
  have e7 := show kindA (L ++ [Stp.mk 7 ⟨#[]⟩ 0]) C = _ from by unfold kindA; rw [HT7.out]
  have e8 := show kindA (L ++ [Stp.mk 8 ⟨#[]⟩ 0]) C = _ from by unfold kindA; rw [HT8.out]
  have e10 := show kindA (L ++ [Stp.mk 10 ⟨#[]⟩ 0]) C = _ from by unfold kindA; rw [HT10.out]
  have e9 : kindA (L ++ [Stp.mk 9 ⟨#[]⟩ 0]) C = (1, 0) := by unfold kindA; rw [HT9.out]
  generalize kindA (L ++ [Stp.mk 7 ⟨#[]⟩ 0]) C = a7 at *
  generalize kindA (L ++ [Stp.mk 8 ⟨#[]⟩ 0]) C = a8 at *
  generalize kindA (L ++ [Stp.mk 10 ⟨#[]⟩ 0]) C = a10 at *
  generalize kindA (L ++ [Stp.mk 9 ⟨#[]⟩ 0]) C = a9 at *
  subst e9
  clear HT7 HT8 HT9 HT10 HR
  by_cases k0 : k = 0
  ·
   subst k0
   simp at e7 e8 e10
   subst e7 e8 e10
   go_wp2_with fail
   go_ret
   exact ⟨rfl, HBB9.out⟩
  by_cases k1 : k = 1
  ·
   subst k1
   simp at e7 e8 e10
   subst e7 e8 e10
   go_wp2_with fail
   go_ret
   exact ⟨rfl, HBB9.out⟩
  by_cases k2 : k = 2
  ·
   subst k2
   simp at e7 e8 e10
   subst e7 e8 e10
   go_wp2_with fail
   go_ret
   exact ⟨rfl, HBB9.out⟩
  by_cases k3 : k = 3
  ·
   subst k3
   simp at e7 e8 e10
   subst e7 e8 e10
   go_wp2_with fail
   go_ret
   exact ⟨rfl, HBB9.out⟩
  simp only [k0, k1, k2, k3, or_self, if_false] at e7 e8 e10
  subst e7 e8 e10
  have b0 : (k == 0) = false := by simpa using k0
  have b1 : (k == 1) = false := by simpa using k1
  have b2 : (k == 2) = false := by simpa using k2
  have b3 : (k == 3) = false := by simpa using k3
  go_wp2_with fail
  go_ret
  exact ⟨rfl, HBB9.out⟩
end Go.Proofs.YtgjfbbmachoolaaGreatDoor.lx
namespace Go.Proofs.YtgjfbbmachoolaaGreatDoor.lx
open Go.ChangeShapes Go.WideShapes Go.ChangeAt Go.RowKit

namespace btypes
set_option maxRecDepth 100000 in
theorem contract (H : Type) (enc : TypeId × Value → H) (W : World) (base : Nat) (args : Array Value) (ds gs : List (DataW H)) (before : List MemPlace)
  (hval : ∀ (j : Nat) t v, Tryz.f7.params[j]? = some t → args[j]? = some v → Value.okWide Tryz.prog W .any base t v)
  (hW : DataW.Whole enc Tryz.prog Tryz.f7.params.toList Rows.bindTypesSpec.vars false W args.toList ds gs before) (hsz0 : (DataW.weightsEach Tryz.prog (Tryz.f7.params.toList ++ (Rows.OpenSpec.upto Rows.bindTypesSpec).bare.plain.varTypes Tryz.prog) (ds ++ gs)).all (· ≤ reachBytes) = true) (hk : Rows.uptoSmall H (ds ++ gs) = true) (hG : PGlob W) :
  Calls Tryz.prog 7 args W fun e W' => ∃ v, e = .returned v ∧ Rows.bindTypesSpec.post enc Tryz.prog Tryz.f7 false true false false W args v W' := by
 have hW' := hW
 obtain ⟨p, q, hA0, hV, rfl, hfz, hnd⟩ := hW
 have hA : DataW.TrodAll enc Tryz.prog W 0 (fun _ => true) true Tryz.f7.params.toList args.toList ds p := hA0
 rw [Tryz.params7] at hA hval
 obtain ⟨v1, vs1, d1, ds1, p1, q1, hargs, rfl, rfl, h1, r1⟩ := trodAll_cons hA
 obtain ⟨v2, vs2, d2, ds2, p2, q2, hargs2, rfl, rfl, h2, r2⟩ := trodAll_cons r1
 obtain ⟨rfl, rfl, rfl⟩ := trodAll_nil r2
 subst hargs2
 obtain rfl : args = #[v1, v2] := by cases args; simp_all
 obtain ⟨rfl, rfl⟩ := trodVars_none hV
 have hAk := hA
 clear hA0
 have hsz : (DataW.weightsEach Tryz.prog ([23, 43] ++ []) ([d1, d2] ++ [])).all (· ≤ reachBytes) = true := hsz0
 obtain ⟨ao1, x1, cap1, rfl, ha1, hl1, hb1⟩ := open_stps (hval 0 23 v1 rfl rfl) h1
 obtain ⟨ao2, x2, cap2, rfl, ha2, hl2, hb2⟩ := open_cols (hval 1 43 v2 rfl rfl) h2
 have hbulk := of_decide_eq_true hk
 simp only [Rows.uptoBulkAll, List.append_nil] at hbulk
 refine (Types_any hG ha1 (stps_okB hb1 (by omega)) ha2 (fun c hc => (hb2 c hc).2) (by omega) (by omega)).mono fun e W' ⟨he, hg⟩ => ?_
 subst he
 have hAc := carryAll hg (by kernel_rfl) hAk
 refine ⟨_, rfl, _, _, _, [], _, [], hW', ?_, hAc, ?_, hg.frame _, fun h => by cases h⟩
 ·
  exact trodAll_cons_mk (shut_bool Tryz.underlying4 _) trodAll_mk0
 ·
  rfl

theorem reads (os : Os) {H : Type} (enc : TypeId × Value → H) : ∃ places, DataW.whole enc Tryz.prog ((laidWorld os).forCall (fun _ _ => 0) ⟨#[], #[Value.slice none 0 0, Value.slice none 0 0], []⟩).memory Tryz.f7.params.toList Rows.bindTypesSpec.vars false #[Value.slice none 0 0, Value.slice none 0 0].toList 8 = some ([.nil, .nil], [], places) := by
 have hw : (DataW.whole enc Tryz.prog ((laidWorld os).forCall (fun _ _ => 0) ⟨#[], #[Value.slice none 0 0, Value.slice none 0 0], []⟩).memory Tryz.f7.params.toList Rows.bindTypesSpec.vars false #[Value.slice none 0 0, Value.slice none 0 0].toList 8).map (fun x => (x.1, x.2.1)) =
   some ([.nil, .nil], []) := by kernel_rfl
 obtain ⟨⟨x1, x2, x3⟩, hx, hx1⟩ := Option.map_eq_some_iff.1 hw
 simp only [Prod.mk.injEq] at hx1
 obtain ⟨rfl, rfl⟩ := hx1
 exact ⟨x3, hx⟩

set_option maxRecDepth 100000 in
theorem lifted (os : Os) (started : os.Started) (H : Type) (enc : TypeId × Value → H) (F : Stop.Interp) :
  ReturnsInHanded {} Tryz.checked os 7 .any ((Rows.OpenSpec.upto Rows.bindTypesSpec).preRow enc Tryz.prog Tryz.f7 Rows.bindTypesUptoRow.domain false Rows.bindTypesUptoRow.laid) (((Rows.OpenSpec.upto Rows.bindTypesSpec).at F).post enc Tryz.prog Tryz.f7 false true false false) := by
 obtain ⟨places, hx⟩ := reads os enc
 refine returnsInHanded_of_row (C := Tryz.checked) (s := Rows.OpenSpec.upto Rows.bindTypesSpec) own started (by kernel_rfl) Tryz.func7
  (witness_row_atRef (enc := enc) (C := Tryz.checked) false (laidWorld os) #[Value.slice none 0 0, Value.slice none 0 0] rfl (by kernel_rfl) (by kernel_rfl) (by kernel_rfl)
   (OpenSpec.preRow_of_cond 8 hx (by kernel_rfl) (fun k hk => by cases hk; kernel_rfl) (by kernel_rfl) (laid_met os _))) ?_
 intro W base args ds gs before hval hW _ hcond hsz hL hS _
 exact contract H enc W base args ds gs before hval hW hsz (hcond _ rfl) (pglob_of hL hS)

theorem said : Rows.BindTypesUptoSaid :=
 OpenClaim.holds_of_cond 7 Tryz.f7 rfl rfl rfl rfl rfl rfl rfl ⟨rfl, rfl, rfl, rfl, rfl⟩ rfl rfl rfl rfl rfl (by kernel_rfl) Tryz.func7 (by kernel_rfl)
  (of_decide_eq_true (by kernel_rfl)) (by unfold Func.isWrapper; first | (rw [if_pos (by decide +kernel)]; kernel_rfl) | (rw [if_neg (by decide +kernel)]; exact ⟨rfl, rfl⟩))
  (fun os started H enc _ F => by rw [OpenClaim.pre_eq_preRow]; exact lifted os started H enc F)

theorem plain (f : FuncId) (fn : Func) (hf : Tryz.pinned.checked.prog.funcNamed "potsherd/potsherdlaw04.BindTypes" = some f) (hfn : Tryz.pinned.checked.prog.funcs[f]? = some fn) :
  true = Tryz.pinned.checked.prog.looks [] ∧ ∀ (j : Nat) t, fn.params[j]? = some t → Tryz.pinned.checked.prog.wantsStandIn t = false := by
 obtain rfl : f = 7 := Option.some.inj ((show Tryz.prog.funcNamed "potsherd/potsherdlaw04.BindTypes" = some 7 by kernel_rfl).symm.trans hf) |>.symm
 obtain rfl : fn = Tryz.f7 := (Option.some.inj (Tryz.func7.symm.trans hfn)).symm
 refine ⟨by kernel_rfl, fun j t ht => ?_⟩
 rw [Tryz.params7] at ht
 have hall : ([23, 43].all fun t => !Tryz.prog.wantsStandIn t) = true := by kernel_rfl
 have := List.all_eq_true.1 hall t (by simpa using Array.mem_of_getElem? ht)
 rw [Bool.not_eq_true'] at this
 exact this

/-- THE CARD -/
theorem card : Rows.BindTypesUptoCardSaid :=
 Claim7.holds_tied_plain_at .later [] _ _ _ _ said (fun _ h => by cases h) (by kernel_rfl) (fun _ h => by cases h) bindTypesUpto_row_tie rfl ⟨rfl, rfl⟩ (by kernel_rfl) rfl plain (by kernel_rfl)
end btypes
end Go.Proofs.YtgjfbbmachoolaaGreatDoor.lx
