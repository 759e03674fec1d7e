/-
  The reference's number, walked. Conditions: the text is not empty, and short.
-/
import Derived.Test.YtfndfhhimhcakaaDoorRNum
import Derived.Test.YtfndfhhimhcakaaDoorRText
namespace Go.Proofs.YtfndfhhimhcakaaDoor.lx
open Go.RowKit

def optTok (o : Option Int) : Tok := match o with | some z => ⟨4, ⟨#[]⟩, z, 0⟩ | none => Tok.no
theorem cell4_fresh (w : World) : Cell4 w.heap.size Tok.no (w.alloc (.cells #[.int .u8 0, .string ⟨#[]⟩, .int .i64 0, .int .i64 0] 24)) := by
  unfold Cell4
  rw [heap_alloc_new]
  rfl
theorem byte_at (s : ByteArray) (i : Nat) (h : i < s.size) (c : UInt8) (hc : (B s)[i]? = some c) : s[i]'h = c := by
  have e := at_list s i h
  exact Option.some.inj (e.symm.trans hc)

set_option maxHeartbeats 16000000 in
set_option maxRecDepth 100000 in
theorem rnumber_any (s : ByteArray) (w : World) (h0 : s.size ≠ 0) (hs : s.size ≤ 1048576) :
    Calls Tryd.prog 41 #[.string s] w fun e w' => e = .returned (.tuple #[(optTok (numR (B s))).v, .bool (numR (B s)).isSome]) ∧ Below w.heap.size w w' := by
  obtain ⟨R, hR⟩ : ∃ R, numR (B s) = R := ⟨_, rfl⟩
  rw [hR]
  obtain ⟨c, d, hcd⟩ : ∃ c d, B s = c :: d := by
    cases hh : B s with
    | nil => exact absurd hh (B_ne h0)
    | cons c d => exact ⟨c, d, rfl⟩
  have hpos : 0 < s.size := by omega
  have hc0 : ∀ h, s[0]'h = c := fun h => byte_at s 0 h c (by rw [hcd]; rfl)
  have hcell := cell4_fresh w
  have hW : Below w.heap.size w (w.alloc (.cells #[.int .u8 0, .string ⟨#[]⟩, .int .i64 0, .int .i64 0] 24)) := (Below.refl w.heap.size w).alloc (Nat.le_refl _) _
  by_cases h45 : c = 45
  · have hm : ((c.toNat : Int) == 45) = true := by rw [h45]; rfl
    obtain ⟨D, hD⟩ : ∃ D : ByteArray, s.extract 1 s.size = D := ⟨_, rfl⟩
    have hBD : B D = d := by rw [← hD, B_drop, hcd]; rfl
    have hDz : D.size + 1 = s.size := by have := congrArg List.length hcd; rw [B_length, List.length_cons, ← hBD, B_length] at this; omega
    have hDz1 : D.size + 1 ≤ s.size := by omega
    have hDz2 : s.size ≤ D.size + 1 := by omega
    have hRD : numD true (B D) = R := by rw [← hR, hBD, hcd, h45]; rfl
    have HD := Lib.hid hBD
    have HR := Lib.hid hRD
    clear hR hcd h45 hBD hRD hDz
    go_enter Tryd.func41, Tryd.ntmps41
    go_wp2_with fail
    go_loop [6, 7] (fun v t => ∃ (n k : Nat), v = .int .u64 n ∧ t = .int .i64 k ∧ n ≤ 9223372036854775808 ∧ k ≤ D.size ∧ Hid (valR 0 (B D) = valR n ((B D).drop k))) (fun _ t => D.size - (intOf t).toNat)
    case atStart => exact ⟨0, 0, rfl, rfl, by omega, Nat.zero_le _, Lib.hid rfl⟩
    case round =>
      obtain ⟨n, k, rfl, rfl, hn, hk, HA⟩ := hrel
      by_cases hlt : k < D.size
      · obtain ⟨x, hx⟩ : ∃ x, (B D)[k]? = some x := ⟨_, List.getElem?_eq_getElem (by rw [B_length]; exact hlt)⟩
        have hxc : ∀ h, D[k]'h = x := fun h => byte_at D k h x hx
        have hdr : (B D).drop k = x :: (B D).drop (k + 1) := by
          rw [List.drop_eq_getElem_cons (by rw [B_length]; exact hlt)]
          congr 1
          exact Option.some.inj ((List.getElem?_eq_getElem _).symm.trans hx)
        have hst := HA.out
        rw [hdr, valR] at hst
        have hx256 := x.toNat_lt
        by_cases hdg : 48 ≤ x.toNat ∧ x.toNat ≤ 57
        · rw [if_pos hdg] at hst
          have hx48 : (48 : Int) ≤ (x.toNat : Int) := by omega
          have hx57 : (x.toNat : Int) ≤ 57 := by omega
          by_cases hbig : (9223372036854775808 - (x.toNat - 48)) / 10 < n
          · rw [if_pos hbig] at hst
            have hb2 : (9223372036854775808 - ((x.toNat : Int) - 48)) / 10 < (n : Int) := by omega
            have hRn : R = none := by rw [← HR.out, numD, hst]
            subst hRn
            clear hst hdr hx HA HR hbig hdg
            go_wp2_with fail
            exact bodyPost_ret (v := .tuple #[Tok.no.v, .bool false]) (results4 rfl hcell rfl rfl) rfl ⟨rfl, hW⟩
          · rw [if_neg hbig] at hst
            have hb2 : ¬ (9223372036854775808 - ((x.toNat : Int) - 48)) / 10 < (n : Int) := by omega
            have HN := Lib.hid hst
            have hn2 : 10 * n + (x.toNat - 48) ≤ 9223372036854775808 := by omega
            have hval : (10 * (n : Int) + ((x.toNat : Int) - 48)) = ((10 * n + (x.toNat - 48) : Nat) : Int) := by omega
            have HV := Lib.hid hval
            clear hst hdr hx HA hbig hdg hval
            go_wp2_with fail
            exact ⟨⟨10 * n + (x.toNat - 48), k + 1, by rw [HV.out], by go_num, hn2, by omega, HN⟩, by simp [intOf]; omega⟩
        · rw [if_neg hdg] at hst
          have hRn : R = none := by rw [← HR.out, numD, hst]
          subst hRn
          by_cases hlo : x.toNat < 48
          · obtain ⟨W, hW9, hWw⟩ : ∃ W : Int, 9 < W ∧ IntKind.u64.wrap ((x.toNat : Int) - 48) = W := ⟨_, by rw [IntKind.wrap_u64]; omega, rfl⟩
            clear hst hdr hx HA HR hdg
            go_wp2_with fail
            exact bodyPost_ret (v := .tuple #[Tok.no.v, .bool false]) (results4 rfl hcell rfl rfl) rfl ⟨rfl, hW⟩
          · have hx48 : (48 : Int) ≤ (x.toNat : Int) := by omega
            have hx57 : 9 < (x.toNat : Int) - 48 := by omega
            clear hst hdr hx HA HR hdg
            go_wp2_with fail
            exact bodyPost_ret (v := .tuple #[Tok.no.v, .bool false]) (results4 rfl hcell rfl rfl) rfl ⟨rfl, hW⟩
      · have hv : valR 0 (B D) = some n := by
          rw [HA.out, List.drop_of_length_le (by rw [B_length]; omega)]
          rfl
        have hRe := HR.out
        rw [numD, hv] at hRe
        simp only [B_length] at hRe
        by_cases h1 : 1 < D.size
        · obtain ⟨y, hy⟩ : ∃ y, (B D)[0]? = some y := ⟨_, List.getElem?_eq_getElem (by rw [B_length]; omega)⟩
          have hyc : ∀ h, D[0]'h = y := fun h => byte_at D 0 h y hy
          rw [List.head?_eq_getElem?, hy] at hRe
          by_cases h48 : y = 48
          · have e1 : ((y.toNat : Int) == 48) = true := by rw [h48]; rfl
            have hRn : R = none := by rw [← hRe, h48]; simp [h1]
            subst hRn
            clear hRe hv HA HR hy h48
            go_wp2_with fail
            exact bodyPost_ret (v := .tuple #[Tok.no.v, .bool false]) (results4 rfl hcell rfl rfl) rfl ⟨rfl, hW⟩
          · have e1 : ((y.toNat : Int) == 48) = false := by
              have : y.toNat ≠ 48 := fun e => h48 (UInt8.toNat_inj.1 (e.trans (by decide)))
              simp; omega
            have hRe2 : R = if n = 0 then none else some (-(n : Int)) := by rw [← hRe]; simp [h48]
            clear hRe hv HA HR hy h48
            by_cases hn0 : n = 0
            · rw [if_pos hn0] at hRe2
              subst hRe2
              subst hn0
              go_wp2_with fail
              exact bodyPost_ret (v := .tuple #[Tok.no.v, .bool false]) (results4 rfl hcell rfl rfl) rfl ⟨rfl, hW⟩
            · rw [if_neg hn0] at hRe2
              subst hRe2
              have hn1 : 1 ≤ n := by omega
              have hn1b : ((n : Int) == 0) = false := by simp; omega
              go_wp2_with fail
              refine bodyPost_ret (v := .tuple #[(optTok (some (-(n : Int)))).v, .bool true]) (results4 rfl (B := w.heap.size) ?_ rfl rfl) rfl ⟨rfl, ?_⟩
              · unfold Cell4
                rw [heap_alloc_new]
                rw [show -((n : Int) - 1) - 1 = -(n : Int) by omega]
                rfl
              · exact (Below.refl w.heap.size w).alloc (Nat.le_refl _) _
        · have hRe2 : R = if n = 0 then none else some (-(n : Int)) := by rw [← hRe]; simp [h1]
          clear hRe hv HA HR
          by_cases hn0 : n = 0
          · rw [if_pos hn0] at hRe2
            subst hRe2
            subst hn0
            go_wp2_with fail
            exact bodyPost_ret (v := .tuple #[Tok.no.v, .bool false]) (results4 rfl hcell rfl rfl) rfl ⟨rfl, hW⟩
          · rw [if_neg hn0] at hRe2
            subst hRe2
            have hn1 : 1 ≤ n := by omega
            have hn1b : ((n : Int) == 0) = false := by simp; omega
            go_wp2_with fail
            refine bodyPost_ret (v := .tuple #[(optTok (some (-(n : Int)))).v, .bool true]) (results4 rfl (B := w.heap.size) ?_ rfl rfl) rfl ⟨rfl, ?_⟩
            · unfold Cell4
              rw [heap_alloc_new]
              rw [show -((n : Int) - 1) - 1 = -(n : Int) by omega]
              rfl
            · exact (Below.refl w.heap.size w).alloc (Nat.le_refl _) _
  · have hm : ((c.toNat : Int) == 45) = false := by
      have : c.toNat ≠ 45 := fun e => h45 (UInt8.toNat_inj.1 (e.trans (by decide)))
      simp; omega
    have hRD : numD false (B s) = R := by
      rw [← hR]
      unfold numR
      split
      · rename_i d' hd'
        rw [hcd] at hd'
        injection hd' with e1 _
        exact absurd e1 h45
      · rfl
    have HR := Lib.hid hRD
    clear hR hcd h45 hRD
    go_enter Tryd.func41, Tryd.ntmps41
    go_wp2_with fail
    clear hc0
    go_loop [6, 7] (fun v t => ∃ (n k : Nat), v = .int .u64 n ∧ t = .int .i64 k ∧ n ≤ 9223372036854775808 ∧ k ≤ s.size ∧ Hid (valR 0 (B s) = valR n ((B s).drop k))) (fun _ t => s.size - (intOf t).toNat)
    case atStart => exact ⟨0, 0, rfl, rfl, by omega, Nat.zero_le _, Lib.hid rfl⟩
    case round =>
      obtain ⟨n, k, rfl, rfl, hn, hk, HA⟩ := hrel
      by_cases hlt : k < s.size
      · obtain ⟨x, hx⟩ : ∃ x, (B s)[k]? = some x := ⟨_, List.getElem?_eq_getElem (by rw [B_length]; exact hlt)⟩
        have hxc : ∀ h, s[k]'h = x := fun h => byte_at s k h x hx
        have hdr : (B s).drop k = x :: (B s).drop (k + 1) := by
          rw [List.drop_eq_getElem_cons (by rw [B_length]; exact hlt)]
          congr 1
          exact Option.some.inj ((List.getElem?_eq_getElem _).symm.trans hx)
        have hst := HA.out
        rw [hdr, valR] at hst
        have hx256 := x.toNat_lt
        by_cases hdg : 48 ≤ x.toNat ∧ x.toNat ≤ 57
        · rw [if_pos hdg] at hst
          have hx48 : (48 : Int) ≤ (x.toNat : Int) := by omega
          have hx57 : (x.toNat : Int) ≤ 57 := by omega
          by_cases hbig : (9223372036854775808 - (x.toNat - 48)) / 10 < n
          · rw [if_pos hbig] at hst
            have hb2 : (9223372036854775808 - ((x.toNat : Int) - 48)) / 10 < (n : Int) := by omega
            have hRn : R = none := by rw [← HR.out, numD, hst]
            subst hRn
            clear hst hdr hx HA HR hbig hdg
            go_wp2_with fail
            exact bodyPost_ret (v := .tuple #[Tok.no.v, .bool false]) (results4 rfl hcell rfl rfl) rfl ⟨rfl, hW⟩
          · rw [if_neg hbig] at hst
            have hb2 : ¬ (9223372036854775808 - ((x.toNat : Int) - 48)) / 10 < (n : Int) := by omega
            have HN := Lib.hid hst
            have hn2 : 10 * n + (x.toNat - 48) ≤ 9223372036854775808 := by omega
            have hval : (10 * (n : Int) + ((x.toNat : Int) - 48)) = ((10 * n + (x.toNat - 48) : Nat) : Int) := by omega
            have HV := Lib.hid hval
            clear hst hdr hx HA hbig hdg hval
            go_wp2_with fail
            exact ⟨⟨10 * n + (x.toNat - 48), k + 1, by rw [HV.out], by go_num, hn2, by omega, HN⟩, by simp [intOf]; omega⟩
        · rw [if_neg hdg] at hst
          have hRn : R = none := by rw [← HR.out, numD, hst]
          subst hRn
          by_cases hlo : x.toNat < 48
          · obtain ⟨W, hW9, hWw⟩ : ∃ W : Int, 9 < W ∧ IntKind.u64.wrap ((x.toNat : Int) - 48) = W := ⟨_, by rw [IntKind.wrap_u64]; omega, rfl⟩
            clear hst hdr hx HA HR hdg
            go_wp2_with fail
            exact bodyPost_ret (v := .tuple #[Tok.no.v, .bool false]) (results4 rfl hcell rfl rfl) rfl ⟨rfl, hW⟩
          · have hx48 : (48 : Int) ≤ (x.toNat : Int) := by omega
            have hx57 : 9 < (x.toNat : Int) - 48 := by omega
            clear hst hdr hx HA HR hdg
            go_wp2_with fail
            exact bodyPost_ret (v := .tuple #[Tok.no.v, .bool false]) (results4 rfl hcell rfl rfl) rfl ⟨rfl, hW⟩
      · have hv : valR 0 (B s) = some n := by
          rw [HA.out, List.drop_of_length_le (by rw [B_length]; omega)]
          rfl
        have hRe := HR.out
        rw [numD, hv] at hRe
        simp only [B_length] at hRe
        by_cases h1 : 1 < s.size
        · obtain ⟨y, hy⟩ : ∃ y, (B s)[0]? = some y := ⟨_, List.getElem?_eq_getElem (by rw [B_length]; omega)⟩
          have hyc : ∀ h, s[0]'h = y := fun h => byte_at s 0 h y hy
          rw [List.head?_eq_getElem?, hy] at hRe
          by_cases h48 : y = 48
          · have e1 : ((y.toNat : Int) == 48) = true := by rw [h48]; rfl
            have hRn : R = none := by rw [← hRe, h48]; simp [h1]
            subst hRn
            clear hRe hv HA HR hy h48
            go_wp2_with fail
            exact bodyPost_ret (v := .tuple #[Tok.no.v, .bool false]) (results4 rfl hcell rfl rfl) rfl ⟨rfl, hW⟩
          · have e1 : ((y.toNat : Int) == 48) = false := by
              have : y.toNat ≠ 48 := fun e => h48 (UInt8.toNat_inj.1 (e.trans (by decide)))
              simp; omega
            have hRe2 : R = if 9223372036854775807 < n then none else some (n : Int) := by rw [← hRe]; simp [h48]
            clear hRe hv HA HR hy h48
            by_cases hn0 : 9223372036854775807 < n
            · rw [if_pos hn0] at hRe2
              subst hRe2
              have hn0b : (9223372036854775807 : Int) < (n : Int) := by omega
              go_wp2_with fail
              exact bodyPost_ret (v := .tuple #[Tok.no.v, .bool false]) (results4 rfl hcell rfl rfl) rfl ⟨rfl, hW⟩
            · rw [if_neg hn0] at hRe2
              subst hRe2
              have hn0b : ¬ (9223372036854775807 : Int) < (n : Int) := by omega
              have hn1 : n ≤ 9223372036854775807 := by omega
              go_wp2_with fail
              refine bodyPost_ret (v := .tuple #[(optTok (some (n : Int))).v, .bool true]) (results4 rfl (B := w.heap.size) ?_ rfl rfl) rfl ⟨rfl, ?_⟩
              · unfold Cell4
                rw [heap_alloc_new]
                rfl
              · exact (Below.refl w.heap.size w).alloc (Nat.le_refl _) _
        · have hRe2 : R = if 9223372036854775807 < n then none else some (n : Int) := by rw [← hRe]; simp [h1]
          clear hRe hv HA HR
          by_cases hn0 : 9223372036854775807 < n
          · rw [if_pos hn0] at hRe2
            subst hRe2
            have hn0b : (9223372036854775807 : Int) < (n : Int) := by omega
            go_wp2_with fail
            exact bodyPost_ret (v := .tuple #[Tok.no.v, .bool false]) (results4 rfl hcell rfl rfl) rfl ⟨rfl, hW⟩
          · rw [if_neg hn0] at hRe2
            subst hRe2
            have hn0b : ¬ (9223372036854775807 : Int) < (n : Int) := by omega
            have hn1 : n ≤ 9223372036854775807 := by omega
            go_wp2_with fail
            refine bodyPost_ret (v := .tuple #[(optTok (some (n : Int))).v, .bool true]) (results4 rfl (B := w.heap.size) ?_ rfl rfl) rfl ⟨rfl, ?_⟩
            · unfold Cell4
              rw [heap_alloc_new]
              rfl
            · exact (Below.refl w.heap.size w).alloc (Nat.le_refl _) _
end Go.Proofs.YtfndfhhimhcakaaDoor.lx
