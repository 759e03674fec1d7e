/-
  The reference's escape. Conditions: the row lies there; its runes are runes.
-/
import Derived.Test.YtfndfhhimhcakaaDoorREnds
namespace Go.Proofs.YtfndfhhimhcakaaDoor.lx
open Go.RowKit

/-- an escape's rune, and how many glyphs it has; 0: it is none -/
def escN (gs : List G) : Int × Int := match escG gs with
  | (some x, rest) => (x, ((gs.length - rest.length : Nat) : Int))
  | (none, _) => (0, 0)
abbrev hx (g : G) : Bool := isHexR g.1
theorem escN_nil : escN [] = (0, 0) := rfl
theorem escN_other (g : G) (gs : List G) (h : g.1 ≠ 117) : escN (g :: gs) = match escR g.1 with | some x => (x, 1) | none => (0, 0) := by
  unfold escN
  rw [escG_cons, if_neg h]
  cases escR g.1 with
  | none => rfl
  | some x =>
    simp only [List.length_cons]
    rw [show gs.length + 1 - gs.length = 1 by omega]
    rfl
theorem escN_one (g : G) (h : g.1 = 117) : escN [g] = (0, 0) := by
  unfold escN
  rw [escG_cons, if_pos h]
  rfl
theorem escN_bad (g g1 : G) (R : List G) (h : g.1 = 117) (h1 : g1.1 ≠ 123) : escN (g :: g1 :: R) = (0, 0) := by
  unfold escN
  rw [escG_cons, if_pos h, codeG, if_neg h1]
theorem escN_code (g g1 : G) (R : List G) (h : g.1 = 117) (h1 : g1.1 = 123) : escN (g :: g1 :: R) = match R.dropWhile hx with
    | [] => (0, 0)
    | e :: rest => if e.1 = 125 ∧ 1 ≤ (R.takeWhile hx).length ∧ (R.takeWhile hx).length ≤ 6 ∧ Lib.validRune (hexG (R.takeWhile hx)) = true
        then (((hexG (R.takeWhile hx) : Nat) : Int), (((g :: g1 :: R).length - rest.length : Nat) : Int)) else (0, 0) := by
  unfold escN
  rw [escG_cons, if_pos h, codeG, if_pos h1]
  cases R.dropWhile hx with
  | nil => rfl
  | cons e rest =>
    simp only
    by_cases hc : e.1 = 125 ∧ 1 ≤ (R.takeWhile hx).length ∧ (R.takeWhile hx).length ≤ 6 ∧ Lib.validRune (hexG (R.takeWhile hx)) = true
    · rw [if_pos hc, if_pos hc]
    · rw [if_neg hc, if_neg hc]

theorem hexG_snoc (D : List G) (g : G) : hexG (D ++ [g]) = 16 * hexG D + hexR g.1 := by simp [hexG, List.foldl_append]
theorem hexR_lt (r : Int) (h : isHexR r = true) : hexR r < 16 := by
  simp [isHexR] at h
  unfold hexR
  split <;> omega
/-- where the loop over the digits stands -/
def EscAt (gs : List G) (n v : Nat) : Prop :=
  v = hexG ((gs.drop 2).take (n - 2)) ∧ v < 16 ^ (n - 2) ∧ (gs.drop 2).takeWhile hx = (gs.drop 2).take (n - 2) ++ (gs.drop n).takeWhile hx ∧ (gs.drop 2).dropWhile hx = (gs.drop n).dropWhile hx
theorem EscAt.start (gs : List G) : EscAt gs 2 0 := ⟨rfl, by decide, rfl, rfl⟩
theorem EscAt.step {gs : List G} {n v : Nat} {g : G} (h : EscAt gs n v) (h2 : 2 ≤ n) (hg : gs[n]? = some g) (hh : isHexR g.1 = true) : EscAt gs (n + 1) (16 * v + hexR g.1) := by
  obtain ⟨a, b, c, d⟩ := h
  have hlt := (List.getElem?_eq_some_iff.1 hg).1
  have hd : gs.drop n = g :: gs.drop (n + 1) := by
    rw [List.drop_eq_getElem_cons hlt]
    congr 1
    exact Option.some.inj ((List.getElem?_eq_getElem hlt).symm.trans hg)
  have ht : (gs.drop 2).take (n + 1 - 2) = (gs.drop 2).take (n - 2) ++ [g] := by
    rw [show n + 1 - 2 = n - 2 + 1 by omega, List.take_add_one, List.getElem?_drop, show 2 + (n - 2) = n by omega, hg]
    rfl
  have hl := hexR_lt g.1 hh
  refine ⟨?_, ?_, ?_, ?_⟩
  · rw [ht, hexG_snoc, ← a]
  · rw [show n + 1 - 2 = n - 2 + 1 by omega, Nat.pow_succ]
    omega
  · rw [ht, c, hd, List.takeWhile_cons, if_pos hh]
    simp
  · rw [d, hd, List.dropWhile_cons, if_pos hh]
theorem EscAt.bound {gs : List G} {n v : Nat} (h : EscAt gs n v) (hn : n ≤ 9) : v < 268435456 := by
  have h1 := h.2.1
  have h2 : 16 ^ (n - 2) ≤ 16 ^ 7 := Nat.pow_le_pow_right (by decide) (by omega)
  have : (16 : Nat) ^ 7 = 268435456 := by decide
  omega
theorem EscAt.bound8 {gs : List G} {n v : Nat} (h : EscAt gs n v) (hn : n ≤ 8) : v < 16777216 := by
  have h1 := h.2.1
  have h2 : 16 ^ (n - 2) ≤ 16 ^ 6 := Nat.pow_le_pow_right (by decide) (by omega)
  have : (16 : Nat) ^ 6 = 16777216 := by decide
  omega
theorem EscAt.long {g0 g1 : G} {R : List G} {v : Nat} (h : EscAt (g0 :: g1 :: R) 9 v) (h0 : g0.1 = 117) (h1 : g1.1 = 123) (hl : 9 ≤ (g0 :: g1 :: R).length) : escN (g0 :: g1 :: R) = (0, 0) := by
  rw [escN_code _ _ _ h0 h1]
  obtain ⟨_, _, c, _⟩ := h
  have hlen : 7 ≤ (R.takeWhile hx).length := by
    have := congrArg List.length c
    simp only [List.drop_succ_cons, List.drop_zero, List.length_append, List.length_take] at this
    simp only [List.length_cons] at hl
    omega
  cases R.dropWhile hx with
  | nil => rfl
  | cons e rest => simp only; rw [if_neg (by omega)]
theorem EscAt.out {g0 g1 : G} {R : List G} {n v : Nat} (h : EscAt (g0 :: g1 :: R) n v) (h0 : g0.1 = 117) (h1 : g1.1 = 123) (hn : (g0 :: g1 :: R).length ≤ n) : escN (g0 :: g1 :: R) = (0, 0) := by
  rw [escN_code _ _ _ h0 h1]
  obtain ⟨_, _, _, d⟩ := h
  rw [List.drop_of_length_le hn] at d
  simp only [List.drop_succ_cons, List.drop_zero, List.dropWhile_nil] at d
  rw [d]
theorem EscAt.stop {g0 g1 g : G} {R : List G} {n v : Nat} (h : EscAt (g0 :: g1 :: R) n v) (h0 : g0.1 = 117) (h1 : g1.1 = 123) (h2 : 2 ≤ n) (hg : (g0 :: g1 :: R)[n]? = some g) (hh : isHexR g.1 = false) :
    escN (g0 :: g1 :: R) = if g.1 = 125 ∧ 3 ≤ n ∧ n ≤ 8 ∧ Lib.validRune (v : Int) = true then ((v : Int), ((n + 1 : Nat) : Int)) else (0, 0) := by
  rw [escN_code _ _ _ h0 h1]
  obtain ⟨a, _, c, d⟩ := h
  have hlt := (List.getElem?_eq_some_iff.1 hg).1
  have hd : (g0 :: g1 :: R).drop n = g :: (g0 :: g1 :: R).drop (n + 1) := by
    rw [List.drop_eq_getElem_cons hlt]
    congr 1
    exact Option.some.inj ((List.getElem?_eq_getElem hlt).symm.trans hg)
  rw [hd, List.takeWhile_cons, if_neg (by simp [hx, hh]), List.append_nil] at c
  rw [hd, List.dropWhile_cons, if_neg (by simp [hx, hh])] at d
  simp only [List.drop_succ_cons, List.drop_zero] at a c d
  rw [c, ← a]
  rw [show R.dropWhile hx = g :: R.drop (n + 1 - 2) by
    rw [d]
    obtain ⟨m, rfl⟩ : ∃ m, n = m + 2 := ⟨n - 2, by omega⟩
    rfl]
  simp only [List.length_take, List.length_cons, List.length_drop] at hlt ⊢
  have e1 : min (n - 2) R.length = n - 2 := by omega
  rw [e1]
  have e2 : R.length + 1 + 1 - (R.length - (n + 1 - 2)) = n + 1 := by omega
  rw [e2]
  by_cases hc : g.1 = 125 ∧ 3 ≤ n ∧ n ≤ 8 ∧ Lib.validRune (v : Int) = true
  · rw [if_pos hc, if_pos ⟨hc.1, by omega, by omega, hc.2.2.2⟩]
  · rw [if_neg hc, if_neg]
    intro hh
    exact hc ⟨hh.1, by omega, by omega, hh.2.2.2⟩

set_option maxHeartbeats 16000000 in
set_option maxRecDepth 100000 in
theorem rescape_any (gs : List G) (ao : Option Addr) (cap : Nat) (w : World) (hR : GRow ao gs w) (hl : gs.length ≤ 1048576) (hv : ∀ g ∈ gs, validR g.1) :
    Calls Tryd.prog 38 #[.slice ao gs.length cap] w fun e w' => e = .returned (.tuple #[.int .i32 (escN gs).1, .int .i64 (escN gs).2]) ∧ w = w' := by
  obtain ⟨⟨X, Y⟩, hE⟩ : ∃ E, escN gs = E := ⟨_, rfl⟩
  rw [hE]
  simp only
  obtain ⟨N, hN⟩ : ∃ N, gs.length = N := ⟨_, rfl⟩
  rw [hN]
  have HV := Lib.hid hv
  clear hv
  match gs, hR, hl, HV, hE, hN with
  | [], hR, hl, HV, hE, hN =>
    rw [escN_nil] at hE
    injection hE with h1 h2
    subst h1 h2
    obtain rfl : N = 0 := by rw [← hN]; rfl
    clear HV hl hR hN
    go_enter Tryd.func38, Tryd.ntmps38
    go_wp2_with fail
    go_ret2
    exact ⟨rfl, rfl⟩
  | g :: R, hR, hl, HV, hE, hN =>
    obtain ⟨b, o, rfl, c0, c1⟩ := hR.at (i := 0) (g := g) rfl
    have hpos : 0 < N := by rw [← hN]; simp
    have hne : ((N : Int) == 0) = false := by simp; omega
    have hN1 : N ≤ 1048576 := by rw [← hN]; exact hl
    obtain ⟨r, ok⟩ := g
    simp only [Nat.zero_mul, Nat.add_zero] at c0 c1
    by_cases h117 : r = 117
    · subst h117
      match R, hR, hl, HV, hE, hN with
      | [], hR, hl, HV, hE, hN =>
        rw [escN_one _ rfl] at hE
        injection hE with h1 h2
        subst h1 h2
        have hN2 : N < 2 := by rw [← hN]; simp
        clear HV hl hR hN
        go_enter Tryd.func38, Tryd.ntmps38
        go_wp2_with fail
        go_ret2
        exact ⟨rfl, rfl⟩
      | g1 :: R, hR, hl, HV, hE, hN =>
        obtain ⟨b', o', hbo, d0, d1⟩ := hR.at (i := 1) (g := g1) rfl
        injection hbo with hbo; injection hbo with e1 e2; subst e1; subst e2
        obtain ⟨r1, ok1⟩ := g1
        simp only [Nat.one_mul] at d0 d1
        have hN2 : ¬ N < 2 := by rw [← hN]; simp
        have hN3 : 1 < N := by omega
        by_cases h123 : r1 = 123
        · subst h123
          clear d1 c1
          have HE := Lib.hid hE
          have HN := Lib.hid hN
          clear hE hN
          go_enter Tryd.func38, Tryd.ntmps38
          go_wp2_with fail
          go_loop [4, 5] (fun v u => ∃ n x : Nat, v = .int .i32 x ∧ u = .int .i64 n ∧ 2 ≤ n ∧ n ≤ 9 ∧ n ≤ N ∧ Hid (EscAt ((117, ok) :: (123, ok1) :: R) n x) ∧ x < 268435456) (fun _ u => N - (intOf u).toNat)
          case atStart => exact ⟨2, 0, rfl, rfl, Nat.le_refl _, by omega, by omega, Lib.hid (EscAt.start _), by decide⟩
          case round =>
            obtain ⟨n, x, rfl, rfl, hn2, hn9, hnN', HA, hx⟩ := hrel
            by_cases hlt : n < N
            · obtain ⟨g, hg⟩ : ∃ g, ((117, ok) :: (123, ok1) :: R)[n]? = some g := ⟨_, List.getElem?_eq_getElem (by rw [HN.out]; exact hlt)⟩
              obtain ⟨b', o', hbo, f0, f1⟩ := hR.at hg
              injection hbo with hbo; injection hbo with e1 e2; subst e1; subst e2
              obtain ⟨rn, okn⟩ := g
              have hval := HV.out _ (List.mem_of_getElem? hg)
              have hr0 : 0 ≤ rn := hval.1
              have hr1 : rn ≤ 1114111 := by have := hval.2; simp only at this; omega
              have hhx := fun w => rhex_any rn w hr0 hr1
              simp only at f0 f1
              by_cases hh : isHexR rn = true
              · have hH : hexV rn = ((hexR rn : Nat) : Int) := by rw [hexV, if_pos hh]
                have hH16 := hexR_lt rn hh
                by_cases hn : n < 9
                · have hb8 := HA.out.bound8 (by omega)
                  have HNX := Lib.hid (HA.out.step hn2 hg hh)
                  have hb9 := HNX.out.bound (by omega)
                  rw [hH] at hhx
                  obtain ⟨h, hheq⟩ : ∃ h, hexR rn = h := ⟨_, rfl⟩
                  rw [hheq] at hhx hH16 HNX hb9
                  clear hH hheq hh hval hg f1 HA hR
                  go_wp2_with (go_at_call 53; refine (hhx _).mono ?_; rintro e w2 ⟨rfl, rfl⟩)
                  go_round
                  case rel => exact ⟨n + 1, 16 * x + h, by go_num, by go_num, by omega, by omega, by omega, HNX, hb9⟩
                  case measure => simp [intOf]; omega
                · obtain rfl : n = 9 := by omega
                  have hz := HA.out.long rfl rfl (by rw [HN.out]; omega)
                  rw [hz] at HE
                  have hX : X = 0 ∧ Y = 0 := by have := HE.out; injection this with h1 h2; exact ⟨h1.symm, h2.symm⟩
                  obtain ⟨rfl, rfl⟩ := hX
                  rw [hH] at hhx
                  obtain ⟨h, hheq⟩ : ∃ h, hexR rn = h := ⟨_, rfl⟩
                  rw [hheq] at hhx hH16
                  clear hH hheq hh hval hg f1 HA hR hz
                  go_wp2_with (go_at_call 53; refine (hhx _).mono ?_; rintro e w2 ⟨rfl, rfl⟩)
                  go_ret2
                  exact ⟨rfl, rfl⟩
              · have hH : hexV rn = 16 := by rw [hexV, if_neg hh]
                have hz := HA.out.stop rfl rfl hn2 hg (by simpa using hh)
                have hez := HE.out
                rw [hz] at hez
                rw [hH] at hhx
                simp only at hez
                have hnN : ((n : Int) == (N : Int)) = false := by simp; omega
                clear hH hh hval hg f1 HA hR hz HE
                by_cases hc : rn = 125 ∧ 3 ≤ n ∧ n ≤ 8 ∧ Lib.validRune (x : Int) = true
                · rw [if_pos hc] at hez
                  injection hez with h1 h2
                  obtain ⟨h3, h4, h5, h6⟩ := hc
                  subst h3
                  have hvr : (0 ≤ (x : Int) ∧ (x : Int) < 0xD800) ∨ (0xDFFF < (x : Int) ∧ (x : Int) ≤ 0x10FFFF) := by simpa [Lib.validRune] using h6
                  have hm : x ≤ 1114111 := by omega
                  have HX1 := Lib.hid h1
                  have HX2 := Lib.hid h2
                  clear h1 h2 h6
                  by_cases h55 : 55296 ≤ x
                  · have h57 : 57343 < x := by omega
                    clear hvr
                    go_wp2_with (go_at_call 53; refine (hhx _).mono ?_; rintro e w2 ⟨rfl, rfl⟩)
                    go_ret2
                    exact ⟨by rw [← HX1.out, ← HX2.out]; rfl, rfl⟩
                  · clear hvr
                    go_wp2_with (go_at_call 53; refine (hhx _).mono ?_; rintro e w2 ⟨rfl, rfl⟩)
                    go_ret2
                    exact ⟨by rw [← HX1.out, ← HX2.out]; rfl, rfl⟩
                · rw [if_neg hc] at hez
                  have hX : X = 0 ∧ Y = 0 := by injection hez with h1 h2; exact ⟨h1.symm, h2.symm⟩
                  obtain ⟨rfl, rfl⟩ := hX
                  clear hez
                  by_cases h3 : n < 3
                  · clear hc
                    go_wp2_with (go_at_call 53; refine (hhx _).mono ?_; rintro e w2 ⟨rfl, rfl⟩)
                    go_ret2
                    exact ⟨rfl, rfl⟩
                  · by_cases h8 : 8 < n
                    · clear hc
                      go_wp2_with (go_at_call 53; refine (hhx _).mono ?_; rintro e w2 ⟨rfl, rfl⟩)
                      go_ret2
                      exact ⟨rfl, rfl⟩
                    · by_cases h125 : rn = 125
                      · subst h125
                        have hvr : ¬ ((0 ≤ (x : Int) ∧ (x : Int) < 0xD800) ∨ (0xDFFF < (x : Int) ∧ (x : Int) ≤ 0x10FFFF)) := by
                          intro hh
                          exact hc ⟨rfl, by omega, by omega, by simpa [Lib.validRune] using hh⟩
                        clear hc
                        by_cases hbig : 1114111 < x
                        · clear hvr
                          go_wp2_with (go_at_call 53; refine (hhx _).mono ?_; rintro e w2 ⟨rfl, rfl⟩)
                          go_ret2
                          exact ⟨rfl, rfl⟩
                        · have h55 : 55296 ≤ x := by omega
                          have h57 : x ≤ 57343 := by omega
                          clear hvr
                          go_wp2_with (go_at_call 53; refine (hhx _).mono ?_; rintro e w2 ⟨rfl, rfl⟩)
                          go_ret2
                          exact ⟨rfl, rfl⟩
                      · have e125 : (rn != 125) = true := by simp [h125]
                        clear hc h125
                        go_wp2_with (go_at_call 53; refine (hhx _).mono ?_; rintro e w2 ⟨rfl, rfl⟩)
                        go_ret2
                        exact ⟨rfl, rfl⟩
            · have hz := HA.out.out rfl rfl (by rw [HN.out]; omega)
              rw [hz] at HE
              have hX : X = 0 ∧ Y = 0 := by have := HE.out; injection this with h1 h2; exact ⟨h1.symm, h2.symm⟩
              obtain ⟨rfl, rfl⟩ := hX
              have hnN : ((n : Int) == (N : Int)) = true := by simp; omega
              clear HA hR hz HE
              by_cases h3 : n < 3
              · skip
                go_wp2_with fail
                go_ret2
                exact ⟨rfl, rfl⟩
              · by_cases h8 : 8 < n
                · skip
                  go_wp2_with fail
                  go_ret2
                  exact ⟨rfl, rfl⟩
                · skip
                  go_wp2_with fail
                  go_ret2
                  exact ⟨rfl, rfl⟩
        · rw [escN_bad _ _ _ rfl h123] at hE
          injection hE with h1 h2
          subst h1 h2
          have e7 : (r1 != 123) = true := by simp [h123]
          clear HV hl hR hN h123 d1
          go_enter Tryd.func38, Tryd.ntmps38
          go_wp2_with fail
          go_ret2
          exact ⟨rfl, rfl⟩
    · rw [escN_other _ _ h117] at hE
      have e7 : (r != 117) = true := by simp [h117]
      by_cases h34 : r = 34
      · subst h34
        injection hE with h1 h2
        subst h1 h2
        clear HV hl hR hN h117 e7
        go_enter Tryd.func38, Tryd.ntmps38
        go_wp2_with fail
        go_ret2
        exact ⟨rfl, rfl⟩
      · have e34 : (r == 34) = false := by simp [h34]
        by_cases h92 : r = 92
        · subst h92
          injection hE with h1 h2
          subst h1 h2
          clear HV hl hR hN h117 e7 e34 h34
          go_enter Tryd.func38, Tryd.ntmps38
          go_wp2_with fail
          go_ret2
          exact ⟨rfl, rfl⟩
        · have e92 : (r == 92) = false := by simp [h92]
          by_cases h110 : r = 110
          · subst h110
            injection hE with h1 h2
            subst h1 h2
            clear HV hl hR hN h117 e7 e34 h34 e92 h92
            go_enter Tryd.func38, Tryd.ntmps38
            go_wp2_with fail
            go_ret2
            exact ⟨rfl, rfl⟩
          · have e110 : (r == 110) = false := by simp [h110]
            by_cases h116 : r = 116
            · subst h116
              injection hE with h1 h2
              subst h1 h2
              clear HV hl hR hN h117 e7 e34 h34 e92 h92 e110 h110
              go_enter Tryd.func38, Tryd.ntmps38
              go_wp2_with fail
              go_ret2
              exact ⟨rfl, rfl⟩
            · have e116 : (r == 116) = false := by simp [h116]
              have hX : X = 0 ∧ Y = 0 := by
                have : escR r = none := by simp [escR, h34, h92, h110, h116]
                rw [this] at hE
                injection hE with h1 h2
                exact ⟨h1.symm, h2.symm⟩
              obtain ⟨rfl, rfl⟩ := hX
              clear HV hl hR hN h117 h34 h92 h110 h116 hE
              go_enter Tryd.func38, Tryd.ntmps38
              go_wp2_with fail
              go_ret2
              exact ⟨rfl, rfl⟩
end Go.Proofs.YtfndfhhimhcakaaDoor.lx
