/-
  potsherdref04.Same of a bound query and itself, wherever the two lie. No condition but that they lie there.
-/
import Derived.Test.YtgjfbbmachoolaaGreatDoorM13
import Derived.Test.YtgjfbbmachoolaaGreatDoorM19
import Derived.BigQuiet
namespace Go.Proofs.YtgjfbbmachoolaaGreatDoor.lx
open Go.RowKit
set_option linter.unusedVariables false
set_option linter.unusedSimpArgs false

/-- a bound query that is no great one -/
structure BndSm (b : Bnd) : Prop where
 wlen : b.wher.length ≤ 1099511627776
 glen : b.group.length ≤ 1099511627776
 ilen : b.items.length ≤ 1099511627776
 nlen : b.names.length ≤ 1099511627776
 klen : b.kinds.length ≤ 1099511627776
 elen : ∀ it ∈ b.items, it.e.length ≤ 1099511627776
abbrev bndB (b : Bnd) (wo : Option Addr) (wc : Nat) (ga : Option Addr) (gc : Nat) (ia : Option Addr) (ic : Nat) (na : Option Addr) (nc : Nat) (ka : Option Addr) (kc : Nat) : Array Value :=
 #[.string b.table, .string b.join, .int .i64 b.width, .int .i64 b.left, .int .i64 b.right, .slice wo b.wher.length wc, .slice ga b.group.length gc, .slice ia b.items.length ic, .bool b.grouped, .slice na b.names.length nc, .slice ka b.kinds.length kc]

set_option maxHeartbeats 4000000 in
set_option maxRecDepth 100000 in
theorem SameB_any {b : Bnd} {wo ga ia na ka wo' ga' ia' na' ka' : Option Addr} {wcp gc ic nc kc wcp' gc' ic' nc' kc' : Nat} {w : World} (hA : BndIn b wo ga ia na ka w) (hC : BndIn b wo' ga' ia' na' ka' w) (hs : BndSm b) :
  Calls Tryz.prog 12 #[.agg (bndB b wo wcp ga gc ia ic na nc ka kc), .agg (bndB b wo' wcp' ga' gc' ia' ic' na' nc' ka' kc')] w fun e w' => e = .returned (.bool true) ∧ Below w.heap.size w w' := by
 obtain ⟨_, hb, hn1, hn2⟩ := alloc2 w (.cells (bndB b wo wcp ga gc ia ic na nc ka kc) 32) (.cells (bndB b wo' wcp' ga' gc' ia' ic' na' nc' ka' kc') 32)
 have HB := Lib.hid hb
 have HA := Lib.hid (hA.self hb)
 have HC := Lib.hid (hC.self hb)
 have hwl := hs.wlen
 have hgl := hs.glen
 have hil := hs.ilen
 have hnl := hs.nlen
 have hkl := hs.klen
 have HEL := Lib.hid hs.elen
 clear hA hC hb hs
 go_enter Tryz.func12, Tryz.ntmps12
 go_upto_region 1 with fail
 unfold bndB at *
 generalize ((w.alloc (.cells #[.string b.table, .string b.join, .int .i64 b.width, .int .i64 b.left, .int .i64 b.right, .slice wo b.wher.length wcp, .slice ga b.group.length gc, .slice ia b.items.length ic, .bool b.grouped, .slice na b.names.length nc, .slice ka b.kinds.length kc] 32)).alloc (.cells #[.string b.table, .string b.join, .int .i64 b.width, .int .i64 b.left, .int .i64 b.right, .slice wo' b.wher.length wcp', .slice ga' b.group.length gc', .slice ia' b.items.length ic', .bool b.grouped, .slice na' b.names.length nc', .slice ka' b.kinds.length kc'] 32)) = W1 at *
 have hcl : ∀ (j : Nat) v, (#[.string b.table, .string b.join, .int .i64 b.width, .int .i64 b.left, .int .i64 b.right, .slice wo b.wher.length wcp, .slice ga b.group.length gc, .slice ia b.items.length ic, .bool b.grouped, .slice na b.names.length nc, .slice ka b.kinds.length kc] : Array Value)[j]? = some v → W1.cell? ⟨w.heap.size, j, none⟩ = some v := fun j v h => by rw [Lib.cell_of_heap hn1]; exact h
 have hcm : ∀ (j : Nat) v, (#[.string b.table, .string b.join, .int .i64 b.width, .int .i64 b.left, .int .i64 b.right, .slice wo' b.wher.length wcp', .slice ga' b.group.length gc', .slice ia' b.items.length ic', .bool b.grouped, .slice na' b.names.length nc', .slice ka' b.kinds.length kc'] : Array Value)[j]? = some v → W1.cell? ⟨w.heap.size + 1, j, none⟩ = some v := fun j v h => by rw [Lib.cell_of_heap hn2]; exact h
 have k0 := hcl 0 _ rfl
 have k1 := hcl 1 _ rfl
 have k2 := hcl 2 _ rfl
 have k3 := hcl 3 _ rfl
 have k4 := hcl 4 _ rfl
 have k5 := hcl 5 _ rfl
 have k6 := hcl 6 _ rfl
 have k7 := hcl 7 _ rfl
 have k8 := hcl 8 _ rfl
 have k9 := hcl 9 _ rfl
 have k10 := hcl 10 _ rfl
 have m0 := hcm 0 _ rfl
 have m1 := hcm 1 _ rfl
 have m2 := hcm 2 _ rfl
 have m3 := hcm 3 _ rfl
 have m4 := hcm 4 _ rfl
 have m5 := hcm 5 _ rfl
 have m6 := hcm 6 _ rfl
 have m7 := hcm 7 _ rfl
 have m8 := hcm 8 _ rfl
 have m9 := hcm 9 _ rfl
 have m10 := hcm 10 _ rfl
 clear hcl hcm
 have HSS := Lib.hid (SameSteps_any b.wher b.wher wo wo' wcp wcp' W1 HA.out.wher HC.out.wher hwl)
 rw [decide_eq_true rfl] at HSS
 clear hn1 hn2
 go_wp2_with (go_at_call 31; refine HSS.out.mono ?_; rintro e w2 ⟨rfl, n2, rfl⟩; refine Hid.out ?_)
 refine Lib.hid ?_
 have HTX := Lib.hid (Texts_any b.names b.names na na' nc nc' (W1.drewN n2) HA.out.names HC.out.names hnl)
 rw [decide_eq_true rfl] at HTX
 go_wp2_with (go_at_call 32; refine HTX.out.mono ?_; rintro e w2 ⟨rfl, n3, rfl⟩; refine Hid.out ?_)
 refine Lib.hid ?_
 generalize n2 + n3 = n4
 clear HSS HTX
 go_wp2_with fail
 go_loopw [92] (fun v wr => ∃ k n : Nat, v = .int .i64 k ∧ k ≤ b.group.length ∧ wr = W1.drewN n) (fun v _ => b.group.length - (intOf v).toNat)
 case atStart => exact ⟨0, n4, rfl, Nat.zero_le _, rfl⟩
 case round =>
  obtain ⟨k, n, rfl, hk, rfl⟩ := hrel
  by_cases hlt : k < b.group.length
  ·
   have hit : b.group[k]? = some b.group[k] := List.getElem?_eq_getElem hlt
   obtain ⟨p, o, rfl, hc⟩ := HA.out.group.resolve_left (by omega)
   obtain ⟨p', o', rfl, hc'⟩ := HC.out.group.resolve_left (by omega)
   have c0 := hc k _ hit
   have d0 := hc' k _ hit
   generalize b.group[k] = x at *
   clear hit hc hc'
   go_wp2_with fail
   go_quiet (fail)
   go_wp2_with fail
   go_roundw
   case rel => exact ⟨k + 1, _, by go_num, by omega, rfl⟩
   case measure => simp [intOf]; omega
  ·
   go_wp2_with fail
   go_loopw [110] (fun v wr => ∃ k n : Nat, v = .int .i64 k ∧ k ≤ b.kinds.length ∧ wr = W1.drewN n) (fun v _ => b.kinds.length - (intOf v).toNat)
   case atStart => exact ⟨0, n, rfl, Nat.zero_le _, rfl⟩
   case round =>
    obtain ⟨k, n, rfl, hk, rfl⟩ := hrel
    by_cases hlt : k < b.kinds.length
    ·
     have hit : b.kinds[k]? = some b.kinds[k] := List.getElem?_eq_getElem hlt
     obtain ⟨p, o, rfl, hc⟩ := HA.out.kinds.resolve_left (by omega)
     obtain ⟨p', o', rfl, hc'⟩ := HC.out.kinds.resolve_left (by omega)
     have c0 := hc k _ hit
     have d0 := hc' k _ hit
     generalize b.kinds[k] = x at *
     clear hit hc hc'
     go_wp2_with fail
     go_quiet (fail)
     go_wp2_with fail
     go_roundw
     case rel => exact ⟨k + 1, _, by go_num, by omega, rfl⟩
     case measure => simp [intOf]; omega
    ·
     go_wp2_with fail
     go_loopw [128] (fun v wr => ∃ k n : Nat, v = .int .i64 k ∧ k ≤ b.items.length ∧ wr = W1.drewN n) (fun v _ => b.items.length - (intOf v).toNat)
     case atStart => exact ⟨0, n, rfl, Nat.zero_le _, rfl⟩
     case round =>
      obtain ⟨k, n, rfl, hk, rfl⟩ := hrel
      by_cases hlt : k < b.items.length
      ·
       have hit : b.items[k]? = some b.items[k] := List.getElem?_eq_getElem hlt
       obtain ⟨p, o, rfl, hc⟩ := HA.out.items.resolve_left (by omega)
       obtain ⟨p', o', rfl, hc'⟩ := HC.out.items.resolve_left (by omega)
       obtain ⟨e1, x1, c0, c1, hr⟩ := hc k _ hit
       obtain ⟨e2, x2, d0, d1, hr'⟩ := hc' k _ hit
       have hle := HEL.out _ (List.getElem_mem hlt)
       generalize b.items[k] = it at *
       have HSS := Lib.hid fun m => Calls.mono (SameSteps_any it.e it.e e1 e2 x1 x2 (W1.drewN (n + m)) hr hr' hle) (R' := fun e w' => e = .returned (.bool true) ∧ ∃ j, w' = W1.drewN (n + j)) (by rintro e w' ⟨h, j, rfl⟩; exact ⟨by rw [h, decide_eq_true rfl], m + j, by rw [World.drewN_drewN, Nat.add_assoc]⟩)
       clear hit hc hc' hr hr' hle
       go_wp2_with fail
       go_quiet ((go_at_call 31; go_loud (exact HSS.out _)))
       go_wp2_with fail
       go_roundw
       case rel => exact ⟨k + 1, _, by go_num, by omega, rfl⟩
       case measure => simp [intOf]; omega
      ·
       go_wp2_with fail
       go_ret
       exact ⟨rfl, bdn HB.out _⟩
end Go.Proofs.YtgjfbbmachoolaaGreatDoor.lx
