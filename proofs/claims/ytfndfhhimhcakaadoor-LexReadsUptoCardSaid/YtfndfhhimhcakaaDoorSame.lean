/-
  potsherdref02.Same: whether two rows of tokens are one. No condition but that the rows lie there.
-/
import Derived.Test.YtfndfhhimhcakaaDoorRows4
namespace Go.Proofs.YtfndfhhimhcakaaDoor.lx
open Go.RowKit

theorem Row.drewN {ao : Option Addr} {L : List Tok} {w : World} (h : Row ao L w) (n : Nat) : Row ao L (w.drewN n) := h.below (below_drewN (Below.refl _ _) n)
theorem take_step {A C : List Tok} {k : Nat} {x : Tok} (h : A.take k = C.take k) (hx : A[k]? = some x) (hy : C[k]? = some x) : A.take (k + 1) = C.take (k + 1) := by
  rw [List.take_add_one, List.take_add_one, h, hx, hy]

set_option maxHeartbeats 4000000 in
set_option maxRecDepth 100000 in
theorem Same_any (A C : List Tok) (ao co : Option Addr) (ca cc : Nat) (w : World) (hA : Row ao A w) (hC : Row co C w) (h1 : A.length ≤ 1099511627776) :
    Calls Tryd.prog 9 #[.slice ao A.length ca, .slice co C.length cc] w fun e w' => e = .returned (.bool (decide (A = C))) ∧ ∃ n, w' = w.drewN n := by
  by_cases hl : A.length = C.length
  · have hlb : ((A.length : Int) != (C.length : Int)) = false := by simp [hl]
    have hl1 : A.length ≤ C.length := by omega
    have hl2 : C.length ≤ A.length := by omega
    clear hl
    go_enter Tryd.func9, Tryd.ntmps9
    go_wp2_with fail
    go_loopw [13] (fun v wr => ∃ k n : Nat, v = .int .i64 k ∧ k ≤ A.length ∧ wr = w.drewN n ∧ Hid (A.take k = C.take k)) (fun v _ => A.length - (intOf v).toNat)
    case atStart => exact ⟨0, 0, rfl, Nat.zero_le _, rfl, Lib.hid rfl⟩
    case round =>
      obtain ⟨k, n, rfl, hk, rfl, HT⟩ := hrel
      by_cases hlt : k < A.length
      · obtain ⟨x, hx⟩ : ∃ x, A[k]? = some x := ⟨_, List.getElem?_eq_getElem hlt⟩
        obtain ⟨y, hy⟩ : ∃ y, C[k]? = some y := ⟨_, List.getElem?_eq_getElem (by omega)⟩
        obtain ⟨g, rfl, a0, a1, a2, a3⟩ := hA.at hx
        obtain ⟨g', rfl, b0, b1, b2, b3⟩ := hC.at hy
        have hlt2 : k < C.length := by omega
        by_cases hxy : x = y
        · subst hxy
          have hcmp : ∀ W, (binOp .neq 24 (.agg #[.int .u8 x.k, .string x.s, .int .i64 x.n, .int .i64 x.a]) (.agg #[.int .u8 x.k, .string x.s, .int .i64 x.n, .int .i64 x.a])).run Tryd.prog W = .ok (.bool false) W := fun W => by
            have := tok_neq x x W
            simpa [Tok.v] using this
          have HN := Lib.hid (take_step HT.out hx hy)
          clear hx hy
          go_wp2_with fail
          go_quiet (fail)
          go_wp2_with fail
          go_roundw
          case rel => exact ⟨k + 1, _, by go_num, by omega, rfl, HN⟩
          case measure => simp [intOf]; omega
        · have hcmp : ∀ W, (binOp .neq 24 (.agg #[.int .u8 x.k, .string x.s, .int .i64 x.n, .int .i64 x.a]) (.agg #[.int .u8 y.k, .string y.s, .int .i64 y.n, .int .i64 y.a])).run Tryd.prog W = .ok (.bool true) W := fun W => by
            have := tok_neq x y W
            simpa [Tok.v, hxy] using this
          have hne : decide (A = C) = false := by
            rw [decide_eq_false_iff_not]
            intro e
            rw [e, hy] at hx
            exact hxy (Option.some.inj hx).symm
          have HNE := Lib.hid hne
          clear hx hy hne hxy
          go_wp2_with fail
          go_quiet (fail)
          go_wp2_with fail
          go_ret
          exact ⟨ret_bool HNE.out.symm, _, World.drewN_drewN _ _ _⟩
      · have he : decide (A = C) = true := by
          rw [decide_eq_true_iff]
          have := HT.out
          rwa [List.take_of_length_le (by omega), List.take_of_length_le (by omega)] at this
        have HE := Lib.hid he
        clear he
        go_wp2_with fail
        go_ret
        exact ⟨ret_bool HE.out.symm, n, rfl⟩
  · have hlb : ((A.length : Int) != (C.length : Int)) = true := by simp; omega
    have hne : decide (A = C) = false := by
      rw [decide_eq_false_iff_not]
      intro e
      exact hl (congrArg List.length e)
    have HNE := Lib.hid hne
    clear hne hl
    go_enter Tryd.func9, Tryd.ntmps9
    go_wp2_with fail
    go_ret
    exact ⟨ret_bool HNE.out.symm, 0, rfl⟩
end Go.Proofs.YtfndfhhimhcakaaDoor.lx
