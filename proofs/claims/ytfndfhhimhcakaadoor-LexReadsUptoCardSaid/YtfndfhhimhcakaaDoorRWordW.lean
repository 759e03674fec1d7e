/-
  The reference's word, walked. Conditions: the row lies there; its runes are runes; it begins with no end.
-/
import Derived.Test.YtfndfhhimhcakaaDoorRWord
namespace Go.Proofs.YtfndfhhimhcakaaDoor.lx
open Go.RowKit

theorem flat_one : ∀ gs : List G, gs.length ≤ (runeB gs).length
  | [] => Nat.le_refl _
  | g :: gs => by
    have h1 := flat_one gs
    have h2 : 1 ≤ (Lib.encodeRune g.1).length := by simpa [Lib.encodeRune] using (Lib.encodeRuneZ_length g.1).1
    show _ ≤ (Lib.encodeRune g.1 ++ runeB gs).length
    rw [List.length_append, List.length_cons]
    omega
theorem below4 {w w' : World} {B : Nat} (h : Below B w w') (t : Tok) : Below B w (put4 B t w') :=
  (((h.setCell (p := ⟨B, 0, none⟩) (Nat.le_refl _) (.int .u8 t.k)).setCell (p := ⟨B, 1, none⟩) (Nat.le_refl _) (.string t.s)).setCell (p := ⟨B, 2, none⟩) (Nat.le_refl _) (.int .i64 t.n)).setCell (p := ⟨B, 3, none⟩) (Nat.le_refl _) (.int .i64 t.a)
theorem wordG_yes {ds : List G} (h : ds.all (·.2) = true) : wordG ds = wordTok true ⟨(runeB ds).toArray⟩ := by rw [wordG, if_pos h]
theorem wordG_no {ds : List G} (h : ds.all (·.2) = false) : wordG ds = (Tok.no, 9) := by rw [wordG, if_neg (by simp [h])]
theorem wordTok_num {s : ByteArray} (h : numStart (B s) = true) : wordTok true s = match numR (B s) with | some z => (⟨4, ⟨#[]⟩, z, 0⟩, 0) | none => (Tok.no, 13) := by
  have e := numR_tok s h
  rw [wordTok, if_neg (by simp), if_pos h]
  exact e
theorem wordTok_long {s : ByteArray} (h : numStart (B s) = false) (h2 : 64 < s.size) : wordTok true s = (Tok.no, 13) := by
  rw [wordTok, if_neg (by simp), if_neg (by rw [show s.data.toList = B s from rfl, h]; simp), if_pos h2]
theorem wordTok_atom {s : ByteArray} (h : numStart (B s) = false) (h2 : ¬ 64 < s.size) : wordTok true s = (⟨3, s, 0, 0⟩, 0) := by
  rw [wordTok, if_neg (by simp), if_neg (by rw [show s.data.toList = B s from rfl, h]; simp), if_neg h2]

set_option maxHeartbeats 32000000 in
set_option maxRecDepth 100000 in
theorem rword_any (l : List G) (ao : Option Addr) (cap : Nat) (w : World) (hR : GRow ao l w) (hv : okR l) (hl : l.length ≤ 4096) (hc : l.length ≤ cap) (hm : cap ≤ 9223372036854775807) (hne : ∃ g gs, l = g :: gs ∧ endR g.1 = false) :
    Calls Tryd.prog 24 #[.slice ao l.length cap] w fun e w' => e = .returned (.tuple #[(wordG (bareG l)).1.v, .int .i64 (if (wordG (bareG l)).2 = 0 then ((bareG l).length : Int) else 0), .int .i64 (wordG (bareG l)).2]) ∧ Below w.heap.size w w' := by
  obtain ⟨g, gs, hlg, hend⟩ := hne
  have hg0 : l[0]? = some g := by rw [hlg]; rfl
  have hN1 : 1 ≤ (bareG l).length := by rw [hlg, bareG_cons, if_neg (by simp [hend])]; simp
  have htake := bare_take l
  have hNl : (bareG l).length ≤ l.length := (List.takeWhile_sublist _).length_le
  have hb1 : 1 < (bareG l).length → ∃ h, l[1]? = some h ∧ (bareG l)[1]? = some h := by
    intro hh
    obtain ⟨h, hh2⟩ : ∃ h, (bareG l)[1]? = some h := ⟨_, List.getElem?_eq_getElem hh⟩
    refine ⟨h, ?_, hh2⟩
    rw [htake, List.getElem?_take, if_pos hh] at hh2
    exact hh2
  have hb0 : (bareG l)[0]? = some g := by
    rw [htake, List.getElem?_take, if_pos (by omega)]
    exact hg0
  obtain ⟨ds, hds⟩ : ∃ ds, bareG l = ds := ⟨_, rfl⟩
  have hen := fun w2 hR2 => ends_any l ao cap w2 hR2 (by omega) hc hm
  rw [hds] at hen hN1 hNl hb1 hb0 htake ⊢
  obtain ⟨N, hN⟩ : ∃ N, ds.length = N := ⟨_, rfl⟩
  rw [hN] at hen hN1 hNl hb1 htake ⊢
  have hdv : ∀ g ∈ ds, validR g.1 := fun g hg => by rw [htake] at hg; exact (hv g (List.mem_of_mem_take hg)).1
  have hcell := cell4_fresh w
  have hW : Below w.heap.size w (w.alloc (.cells #[.int .u8 0, .string ⟨#[]⟩, .int .i64 0, .int .i64 0] 24)) := (Below.refl w.heap.size w).alloc (Nat.le_refl _) _
  have hRW := hR.below hW
  have hil := fun w2 hR2 => ill_len ds N hN ao cap w2 hR2 (by omega)
  have htx := fun w2 hR2 => rtext_len ds N hN ao cap w2 hR2 (by omega) (fun g hg => (hdv g hg).1)
  have hRd : ∀ w2, GRow ao l w2 → GRow ao ds w2 := fun w2 h2 => by rw [htake]; exact h2.take N
  obtain ⟨b, o, rfl, c0, _⟩ := hR.at hg0
  simp only [Nat.zero_mul, Nat.add_zero] at c0
  clear hlg hg0 hend
  have HRD := Lib.hid hRd
  have HDV := Lib.hid hdv
  clear hRd hdv htake hds
  cases hall : ds.all (·.2) with
  | false =>
    rw [wordG_no hall]
    rw [hall] at hil
    clear hb0 hb1 hall hv htx
    go_enter Tryd.func24, Tryd.ntmps24
    go_wp2_with (go_at_call 39; refine (hen _ hRW).mono ?_; rintro e w2 ⟨rfl, rfl⟩; refine Hid.out ?_)
    refine Lib.hid ?_
    have hRi := HRD.out _ hRW
    go_wp2_with (go_at_call 37; refine (hil _ hRi).mono ?_; rintro e w3 ⟨rfl, hb3⟩; refine Hid.out ?_)
    refine Lib.hid ?_
    have hcell3 := hcell.below hb3 (by simp)
    have hbc := below_self hW hb3
    have r0 := hcell3.c0
    have r1 := hcell3.c1
    have r2 := hcell3.c2
    have r3 := hcell3.c3
    have fr := hcell3.f
    have h4 := put4_cell hcell3 Tok.no
    have hb4 := below4 hbc Tok.no
    clear hen hil hRi hb3
    go_wp2_with fail
    refine bodyPost_ret (v := .tuple #[Tok.no.v, .int .i64 0, .int .i64 9]) (results43 rfl h4 rfl rfl rfl) rfl ⟨rfl, hb4⟩
  | true =>
    rw [hall] at hil
    rw [wordG_yes hall]
    have hns := numStart_gl ds HDV.out
    have hrl := runeB_len ds
    obtain ⟨S, hS⟩ : ∃ S : ByteArray, (⟨(runeB ds).toArray⟩ : ByteArray) = S := ⟨_, rfl⟩
    have hBS : B S = runeB ds := by rw [← hS]
    have hSz : S.size = (runeB ds).length := by rw [← B_length, hBS]
    have hSz1 : S.size ≤ 16384 := by omega
    rw [hS] at htx ⊢
    rw [← hBS] at hns
    obtain ⟨r, ok⟩ := g
    simp only at c0
    obtain ⟨K, hK⟩ : ∃ K, wordTok true S = K := ⟨_, rfl⟩
    rw [hK]
    obtain ⟨C, hC⟩ : ∃ C : Int, (if K.2 = 0 then (N : Int) else 0) = C := ⟨_, rfl⟩
    rw [hC]
    have HC := Lib.hid hC
    clear hC
    have hne : S.size ≠ 0 := by
      rw [hSz]
      intro h0
      have := flat_one ds
      omega
    clear hrl hSz hS hv hall
    have hdsc : ∃ dt, ds = (r, ok) :: dt := by
      cases hh : ds with
      | nil => rw [hh] at hb0; cases hb0
      | cons x dt => rw [hh] at hb0; exact ⟨dt, by rw [Option.some.inj hb0]⟩
    by_cases hnum : numG ds = true
    · have hKn := wordTok_num (hns.trans hnum)
      rw [hK] at hKn
      have HK := Lib.hid hKn
      by_cases hd0 : digR r = true
      · have hdg := fun w => rdigit_any r w
        rw [show decide (48 ≤ r ∧ r ≤ 57) = true from hd0] at hdg
        clear hK hKn hns hnum hBS hb0 hb1 hd0 hdsc
        go_enter Tryd.func24, Tryd.ntmps24
        go_wp2_with (go_at_call 39; refine (hen _ hRW).mono ?_; rintro e w2 ⟨rfl, rfl⟩; refine Hid.out ?_)
        refine Lib.hid ?_
        have hRi := HRD.out _ hRW
        go_wp2_with (go_at_call 37; refine (hil _ hRi).mono ?_; rintro e w3 ⟨rfl, hb3⟩; refine Hid.out ?_)
        refine Lib.hid ?_
        have hcell3 := hcell.below hb3 (by simp)
        have hbc := below_self hW hb3
        have hRj := HRD.out _ (hRW.below hb3)
        clear hen hil hRi
        go_wp2_with (go_at_call 36; refine (htx _ hRj).mono ?_; rintro e w4 ⟨rfl, hb4⟩; refine Hid.out ?_)
        refine Lib.hid ?_
        have hcell4 := hcell3.below hb4 (by have := hbc.size; have := hb3.size; simp at this; omega)
        have hbd := below_self hbc hb4
        have k0 := keep_cell (below_self hb3 hb4) (keep_cell hW c0)
        clear hcell3 hbc hRj htx hb3 hb4 hcell hW
        have r0 := hcell4.c0
        have r1 := hcell4.c1
        have r2 := hcell4.c2
        have r3 := hcell4.c3
        have fr := hcell4.f
        go_wp2_with (go_at_call 40; refine (hdg _).mono ?_; rintro e w5 ⟨rfl, rfl⟩; refine Hid.out ?_)
        refine Lib.hid ?_
        have hnm := rnumber_any S w4 hne (by omega)
        have hKw := HK.out
        cases hz : numR (B S) with
        | none =>
          rw [hz] at hnm hKw
          simp only [optTok, Tok.no, Tok.v, Option.isSome_none] at hnm
          have HKW := Lib.hid hKw
          clear hKw hz HK
          go_wp2_with (go_at_call 41; refine hnm.mono ?_; rintro e w5 ⟨rfl, hb5⟩; refine Hid.out ?_)
          refine Lib.hid ?_
          have hcell5 := hcell4.below hb5 (Array.getElem?_eq_some_iff.1 hcell4).1
          have hbe := (below_self hbd hb5)
          have hcell6 : Cell4 w.heap.size Tok.no (w5.alloc (.cells #[.int .u8 0, .string ⟨#[]⟩, .int .i64 0, .int .i64 0] 24)) := (Lib.alloc_old _ _ _ (Array.getElem?_eq_some_iff.1 hcell5).1).trans hcell5
          have hbf := hbe.alloc hbe.size (.cells #[.int .u8 0, .string ⟨#[]⟩, .int .i64 0, .int .i64 0] 24)
          have h4 := put4_cell hcell6 Tok.no
          have hb6 := below4 hbf Tok.no
          have q0 := hcell6.c0
          have q1 := hcell6.c1
          have q2 := hcell6.c2
          have q3 := hcell6.c3
          have qf := hcell6.f
          clear r0 r1 r2 r3 fr hcell4 hcell5 hbd hb5 hnm hbe
          go_wp2_with fail
          refine bodyPost_ret (v := .tuple #[Tok.no.v, .int .i64 0, .int .i64 13]) (results43 rfl h4 rfl rfl rfl) rfl ⟨tok_ret (by rw [HKW.out]) (by rw [← HC.out, HKW.out]; rfl) (by rw [HKW.out]), hb6⟩
        | some z =>
          rw [hz] at hnm hKw
          simp only [optTok, Tok.v, Option.isSome_some] at hnm
          have HKW := Lib.hid hKw
          clear hKw hz HK
          go_wp2_with (go_at_call 41; refine hnm.mono ?_; rintro e w5 ⟨rfl, hb5⟩; refine Hid.out ?_)
          refine Lib.hid ?_
          have hcell5 := hcell4.below hb5 (Array.getElem?_eq_some_iff.1 hcell4).1
          have hbe := (below_self hbd hb5)
          have hcell6 : Cell4 w.heap.size Tok.no (w5.alloc (.cells #[.int .u8 4, .string ⟨#[]⟩, .int .i64 z, .int .i64 0] 24)) := (Lib.alloc_old _ _ _ (Array.getElem?_eq_some_iff.1 hcell5).1).trans hcell5
          have hbf := hbe.alloc hbe.size (.cells #[.int .u8 4, .string ⟨#[]⟩, .int .i64 z, .int .i64 0] 24)
          have h4 := put4_cell hcell6 ⟨4, ⟨#[]⟩, z, 0⟩
          have hb6 := below4 hbf ⟨4, ⟨#[]⟩, z, 0⟩
          have q0 := hcell6.c0
          have q1 := hcell6.c1
          have q2 := hcell6.c2
          have q3 := hcell6.c3
          have qf := hcell6.f
          clear r0 r1 r2 r3 fr hcell4 hcell5 hbd hb5 hnm hbe
          go_wp2_with fail
          refine bodyPost_ret (v := .tuple #[(⟨4, ⟨#[]⟩, z, 0⟩ : Tok).v, .int .i64 N, .int .i64 0]) (results43 rfl h4 rfl rfl rfl) rfl ⟨tok_ret (by rw [HKW.out]) (by rw [← HC.out, HKW.out]; rfl) (by rw [HKW.out]), hb6⟩
      · have hdg := fun w => rdigit_any r w
        have hd0' : digR r = false := by simpa using hd0
        rw [show decide (48 ≤ r ∧ r ≤ 57) = false from hd0'] at hdg
        obtain ⟨dt, hdt⟩ := hdsc
        rw [hdt, numG_cons] at hnum
        simp only [hd0', Bool.false_or, Bool.and_eq_true] at hnum
        obtain ⟨h45, hnum⟩ := hnum
        obtain ⟨h, hl1, hd1⟩ := hb1 (by rw [← hN, hdt]; cases dt with | nil => cases hnum | cons x xs => simp)
        have hd2 : digR h.1 = true := by
          rw [hdt] at hd1
          cases dt with
          | nil => cases hnum
          | cons x xs => rw [← Option.some.inj hd1]; exact hnum
        have hN2 : (1 : Int) < (N : Int) := by
          have : 1 < N := by rw [← hN, hdt]; cases dt with | nil => cases hnum | cons x xs => simp
          omega
        obtain ⟨b', o', hbo, c1, _⟩ := hR.at hl1
        injection hbo with hbo; injection hbo with e1 e2; subst e1; subst e2
        obtain ⟨rh, okh⟩ := h
        simp only [Nat.one_mul] at c1 hd2
        have hdg2 := fun w => rdigit_any rh w
        rw [show decide (48 ≤ rh ∧ rh ≤ 57) = true from hd2] at hdg2
        clear hK hKn hns hnum hBS hb0 hb1 hd0 hd0' hd1 hd2 hl1 hdt
        go_enter Tryd.func24, Tryd.ntmps24
        go_wp2_with (go_at_call 39; refine (hen _ hRW).mono ?_; rintro e w2 ⟨rfl, rfl⟩; refine Hid.out ?_)
        refine Lib.hid ?_
        have hRi := HRD.out _ hRW
        go_wp2_with (go_at_call 37; refine (hil _ hRi).mono ?_; rintro e w3 ⟨rfl, hb3⟩; refine Hid.out ?_)
        refine Lib.hid ?_
        have hcell3 := hcell.below hb3 (by simp)
        have hbc := below_self hW hb3
        have hRj := HRD.out _ (hRW.below hb3)
        clear hen hil hRi
        go_wp2_with (go_at_call 36; refine (htx _ hRj).mono ?_; rintro e w4 ⟨rfl, hb4⟩; refine Hid.out ?_)
        refine Lib.hid ?_
        have hcell4 := hcell3.below hb4 (by have := hbc.size; have := hb3.size; simp at this; omega)
        have hbd := below_self hbc hb4
        have k0 := keep_cell (below_self hb3 hb4) (keep_cell hW c0)
        have k1 := keep_cell (below_self hb3 hb4) (keep_cell hW c1)
        clear hcell3 hbc hRj htx hb3 hb4 hcell hW
        have r0 := hcell4.c0
        have r1 := hcell4.c1
        have r2 := hcell4.c2
        have r3 := hcell4.c3
        have fr := hcell4.f
        go_wp2_with (go_at_call 40; refine (hdg _).mono ?_; rintro e w5 ⟨rfl, rfl⟩; refine Hid.out ?_)
        refine Lib.hid ?_
        go_wp2_with (go_at_call 40; refine (hdg2 _).mono ?_; rintro e w5 ⟨rfl, rfl⟩; refine Hid.out ?_)
        refine Lib.hid ?_
        have hnm := rnumber_any S w4 hne (by omega)
        have hKw := HK.out
        cases hz : numR (B S) with
        | none =>
          rw [hz] at hnm hKw
          simp only [optTok, Tok.no, Tok.v, Option.isSome_none] at hnm
          have HKW := Lib.hid hKw
          clear hKw hz HK
          go_wp2_with (go_at_call 41; refine hnm.mono ?_; rintro e w5 ⟨rfl, hb5⟩; refine Hid.out ?_)
          refine Lib.hid ?_
          have hcell5 := hcell4.below hb5 (Array.getElem?_eq_some_iff.1 hcell4).1
          have hbe := (below_self hbd hb5)
          have hcell6 : Cell4 w.heap.size Tok.no (w5.alloc (.cells #[.int .u8 0, .string ⟨#[]⟩, .int .i64 0, .int .i64 0] 24)) := (Lib.alloc_old _ _ _ (Array.getElem?_eq_some_iff.1 hcell5).1).trans hcell5
          have hbf := hbe.alloc hbe.size (.cells #[.int .u8 0, .string ⟨#[]⟩, .int .i64 0, .int .i64 0] 24)
          have h4 := put4_cell hcell6 Tok.no
          have hb6 := below4 hbf Tok.no
          have q0 := hcell6.c0
          have q1 := hcell6.c1
          have q2 := hcell6.c2
          have q3 := hcell6.c3
          have qf := hcell6.f
          clear r0 r1 r2 r3 fr hcell4 hcell5 hbd hb5 hnm hbe
          go_wp2_with fail
          refine bodyPost_ret (v := .tuple #[Tok.no.v, .int .i64 0, .int .i64 13]) (results43 rfl h4 rfl rfl rfl) rfl ⟨tok_ret (by rw [HKW.out]) (by rw [← HC.out, HKW.out]; rfl) (by rw [HKW.out]), hb6⟩
        | some z =>
          rw [hz] at hnm hKw
          simp only [optTok, Tok.v, Option.isSome_some] at hnm
          have HKW := Lib.hid hKw
          clear hKw hz HK
          go_wp2_with (go_at_call 41; refine hnm.mono ?_; rintro e w5 ⟨rfl, hb5⟩; refine Hid.out ?_)
          refine Lib.hid ?_
          have hcell5 := hcell4.below hb5 (Array.getElem?_eq_some_iff.1 hcell4).1
          have hbe := (below_self hbd hb5)
          have hcell6 : Cell4 w.heap.size Tok.no (w5.alloc (.cells #[.int .u8 4, .string ⟨#[]⟩, .int .i64 z, .int .i64 0] 24)) := (Lib.alloc_old _ _ _ (Array.getElem?_eq_some_iff.1 hcell5).1).trans hcell5
          have hbf := hbe.alloc hbe.size (.cells #[.int .u8 4, .string ⟨#[]⟩, .int .i64 z, .int .i64 0] 24)
          have h4 := put4_cell hcell6 ⟨4, ⟨#[]⟩, z, 0⟩
          have hb6 := below4 hbf ⟨4, ⟨#[]⟩, z, 0⟩
          have q0 := hcell6.c0
          have q1 := hcell6.c1
          have q2 := hcell6.c2
          have q3 := hcell6.c3
          have qf := hcell6.f
          clear r0 r1 r2 r3 fr hcell4 hcell5 hbd hb5 hnm hbe
          go_wp2_with fail
          refine bodyPost_ret (v := .tuple #[(⟨4, ⟨#[]⟩, z, 0⟩ : Tok).v, .int .i64 N, .int .i64 0]) (results43 rfl h4 rfl rfl rfl) rfl ⟨tok_ret (by rw [HKW.out]) (by rw [← HC.out, HKW.out]; rfl) (by rw [HKW.out]), hb6⟩
    · have hnum' : numG ds = false := by simpa using hnum
      obtain ⟨dt, hdt⟩ := hdsc
      have hng := hnum'
      rw [hdt, numG_cons] at hng
      simp only [Bool.or_eq_false_iff] at hng
      obtain ⟨hd0, hng⟩ := hng
      have hdg := fun w => rdigit_any r w
      rw [show decide (48 ≤ r ∧ r ≤ 57) = false from hd0] at hdg
      by_cases h45 : r = 45
      · have e45 : (r == 45) = true := by simp [h45]
        rw [e45] at hng
        by_cases hN2 : 1 < N
        · obtain ⟨h, hl1, hd1⟩ := hb1 hN2
          have hd2 : digR h.1 = false := by
            rw [hdt] at hd1
            cases dt with
            | nil => cases hd1
            | cons x xs => rw [← Option.some.inj hd1]; simpa using hng
          have hN2I : (1 : Int) < (N : Int) := by omega
          obtain ⟨b', o', hbo, c1, _⟩ := hR.at hl1
          injection hbo with hbo; injection hbo with e1 e2; subst e1; subst e2
          obtain ⟨rh, okh⟩ := h
          simp only [Nat.one_mul] at c1 hd2
          have hdg2 := fun w => rdigit_any rh w
          rw [show decide (48 ≤ rh ∧ rh ≤ 57) = false from hd2] at hdg2
          clear hng hnum' hd0 hd1 hd2 hl1 hdt h45
          by_cases h64 : 64 < S.size
          · have hKn := wordTok_long (s := S) (hns.trans (by simpa using hnum)) h64
            rw [hK] at hKn
            have HKW := Lib.hid hKn
            have h64I : (64 : Int) < (S.size : Int) := by omega
            clear hK hKn hns hnum hBS hb0 hb1
            go_enter Tryd.func24, Tryd.ntmps24
            go_wp2_with (go_at_call 39; refine (hen _ hRW).mono ?_; rintro e w2 ⟨rfl, rfl⟩; refine Hid.out ?_)
            refine Lib.hid ?_
            have hRi := HRD.out _ hRW
            go_wp2_with (go_at_call 37; refine (hil _ hRi).mono ?_; rintro e w3 ⟨rfl, hb3⟩; refine Hid.out ?_)
            refine Lib.hid ?_
            have hcell3 := hcell.below hb3 (by simp)
            have hbc := below_self hW hb3
            have hRj := HRD.out _ (hRW.below hb3)
            clear hen hil hRi
            go_wp2_with (go_at_call 36; refine (htx _ hRj).mono ?_; rintro e w4 ⟨rfl, hb4⟩; refine Hid.out ?_)
            refine Lib.hid ?_
            have hcell4 := hcell3.below hb4 (by have := hbc.size; have := hb3.size; simp at this; omega)
            have hbd := below_self hbc hb4
            have k0 := keep_cell (below_self hb3 hb4) (keep_cell hW c0)
            have k1 := keep_cell (below_self hb3 hb4) (keep_cell hW c1)
            clear hcell3 hbc hRj htx hb3 hb4 hcell hW
            have r0 := hcell4.c0
            have r1 := hcell4.c1
            have r2 := hcell4.c2
            have r3 := hcell4.c3
            have fr := hcell4.f
            have h4 := put4_cell hcell4 Tok.no
            have hb6 := below4 hbd Tok.no
            go_wp2_with (go_at_call 40; refine (hdg _).mono ?_; rintro e w5 ⟨rfl, rfl⟩; refine Hid.out ?_)
            refine Lib.hid ?_
            go_wp2_with (go_at_call 40; refine (hdg2 _).mono ?_; rintro e w5 ⟨rfl, rfl⟩; refine Hid.out ?_)
            refine Lib.hid ?_
            go_wp2_with fail
            refine bodyPost_ret (v := .tuple #[Tok.no.v, .int .i64 0, .int .i64 13]) (results43 rfl h4 rfl rfl rfl) rfl ⟨tok_ret (by rw [HKW.out]) (by rw [← HC.out, HKW.out]; rfl) (by rw [HKW.out]), hb6⟩
          · have hKn := wordTok_atom (s := S) (hns.trans (by simpa using hnum)) h64
            rw [hK] at hKn
            have HKW := Lib.hid hKn
            have h64I : ¬ (64 : Int) < (S.size : Int) := by omega
            clear hK hKn hns hnum hBS hb0 hb1
            go_enter Tryd.func24, Tryd.ntmps24
            go_wp2_with (go_at_call 39; refine (hen _ hRW).mono ?_; rintro e w2 ⟨rfl, rfl⟩; refine Hid.out ?_)
            refine Lib.hid ?_
            have hRi := HRD.out _ hRW
            go_wp2_with (go_at_call 37; refine (hil _ hRi).mono ?_; rintro e w3 ⟨rfl, hb3⟩; refine Hid.out ?_)
            refine Lib.hid ?_
            have hcell3 := hcell.below hb3 (by simp)
            have hbc := below_self hW hb3
            have hRj := HRD.out _ (hRW.below hb3)
            clear hen hil hRi
            go_wp2_with (go_at_call 36; refine (htx _ hRj).mono ?_; rintro e w4 ⟨rfl, hb4⟩; refine Hid.out ?_)
            refine Lib.hid ?_
            have hcell4 := hcell3.below hb4 (by have := hbc.size; have := hb3.size; simp at this; omega)
            have hbd := below_self hbc hb4
            have k0 := keep_cell (below_self hb3 hb4) (keep_cell hW c0)
            have k1 := keep_cell (below_self hb3 hb4) (keep_cell hW c1)
            clear hcell3 hbc hRj htx hb3 hb4 hcell hW
            have r0 := hcell4.c0
            have r1 := hcell4.c1
            have r2 := hcell4.c2
            have r3 := hcell4.c3
            have fr := hcell4.f
            have h4 := put4_cell hcell4 ⟨3, S, 0, 0⟩
            have hb6 := below4 hbd ⟨3, S, 0, 0⟩
            go_wp2_with (go_at_call 40; refine (hdg _).mono ?_; rintro e w5 ⟨rfl, rfl⟩; refine Hid.out ?_)
            refine Lib.hid ?_
            go_wp2_with (go_at_call 40; refine (hdg2 _).mono ?_; rintro e w5 ⟨rfl, rfl⟩; refine Hid.out ?_)
            refine Lib.hid ?_
            go_wp2_with fail
            refine bodyPost_ret (v := .tuple #[(⟨3, S, 0, 0⟩ : Tok).v, .int .i64 N, .int .i64 0]) (results43 rfl h4 rfl rfl rfl) rfl ⟨tok_ret (by rw [HKW.out]) (by rw [← HC.out, HKW.out]; rfl) (by rw [HKW.out]), hb6⟩
        · have hN2I : ¬ (1 : Int) < (N : Int) := by omega
          clear hng hnum' hd0 hdt h45
          by_cases h64 : 64 < S.size
          · have hKn := wordTok_long (s := S) (hns.trans (by simpa using hnum)) h64
            rw [hK] at hKn
            have HKW := Lib.hid hKn
            have h64I : (64 : Int) < (S.size : Int) := by omega
            clear hK hKn hns hnum hBS hb0 hb1
            go_enter Tryd.func24, Tryd.ntmps24
            go_wp2_with (go_at_call 39; refine (hen _ hRW).mono ?_; rintro e w2 ⟨rfl, rfl⟩; refine Hid.out ?_)
            refine Lib.hid ?_
            have hRi := HRD.out _ hRW
            go_wp2_with (go_at_call 37; refine (hil _ hRi).mono ?_; rintro e w3 ⟨rfl, hb3⟩; refine Hid.out ?_)
            refine Lib.hid ?_
            have hcell3 := hcell.below hb3 (by simp)
            have hbc := below_self hW hb3
            have hRj := HRD.out _ (hRW.below hb3)
            clear hen hil hRi
            go_wp2_with (go_at_call 36; refine (htx _ hRj).mono ?_; rintro e w4 ⟨rfl, hb4⟩; refine Hid.out ?_)
            refine Lib.hid ?_
            have hcell4 := hcell3.below hb4 (by have := hbc.size; have := hb3.size; simp at this; omega)
            have hbd := below_self hbc hb4
            have k0 := keep_cell (below_self hb3 hb4) (keep_cell hW c0)
            clear hcell3 hbc hRj htx hb3 hb4 hcell hW
            have r0 := hcell4.c0
            have r1 := hcell4.c1
            have r2 := hcell4.c2
            have r3 := hcell4.c3
            have fr := hcell4.f
            have h4 := put4_cell hcell4 Tok.no
            have hb6 := below4 hbd Tok.no
            go_wp2_with (go_at_call 40; refine (hdg _).mono ?_; rintro e w5 ⟨rfl, rfl⟩; refine Hid.out ?_)
            refine Lib.hid ?_
            go_wp2_with fail
            refine bodyPost_ret (v := .tuple #[Tok.no.v, .int .i64 0, .int .i64 13]) (results43 rfl h4 rfl rfl rfl) rfl ⟨tok_ret (by rw [HKW.out]) (by rw [← HC.out, HKW.out]; rfl) (by rw [HKW.out]), hb6⟩
          · have hKn := wordTok_atom (s := S) (hns.trans (by simpa using hnum)) h64
            rw [hK] at hKn
            have HKW := Lib.hid hKn
            have h64I : ¬ (64 : Int) < (S.size : Int) := by omega
            clear hK hKn hns hnum hBS hb0 hb1
            go_enter Tryd.func24, Tryd.ntmps24
            go_wp2_with (go_at_call 39; refine (hen _ hRW).mono ?_; rintro e w2 ⟨rfl, rfl⟩; refine Hid.out ?_)
            refine Lib.hid ?_
            have hRi := HRD.out _ hRW
            go_wp2_with (go_at_call 37; refine (hil _ hRi).mono ?_; rintro e w3 ⟨rfl, hb3⟩; refine Hid.out ?_)
            refine Lib.hid ?_
            have hcell3 := hcell.below hb3 (by simp)
            have hbc := below_self hW hb3
            have hRj := HRD.out _ (hRW.below hb3)
            clear hen hil hRi
            go_wp2_with (go_at_call 36; refine (htx _ hRj).mono ?_; rintro e w4 ⟨rfl, hb4⟩; refine Hid.out ?_)
            refine Lib.hid ?_
            have hcell4 := hcell3.below hb4 (by have := hbc.size; have := hb3.size; simp at this; omega)
            have hbd := below_self hbc hb4
            have k0 := keep_cell (below_self hb3 hb4) (keep_cell hW c0)
            clear hcell3 hbc hRj htx hb3 hb4 hcell hW
            have r0 := hcell4.c0
            have r1 := hcell4.c1
            have r2 := hcell4.c2
            have r3 := hcell4.c3
            have fr := hcell4.f
            have h4 := put4_cell hcell4 ⟨3, S, 0, 0⟩
            have hb6 := below4 hbd ⟨3, S, 0, 0⟩
            go_wp2_with (go_at_call 40; refine (hdg _).mono ?_; rintro e w5 ⟨rfl, rfl⟩; refine Hid.out ?_)
            refine Lib.hid ?_
            go_wp2_with fail
            refine bodyPost_ret (v := .tuple #[(⟨3, S, 0, 0⟩ : Tok).v, .int .i64 N, .int .i64 0]) (results43 rfl h4 rfl rfl rfl) rfl ⟨tok_ret (by rw [HKW.out]) (by rw [← HC.out, HKW.out]; rfl) (by rw [HKW.out]), hb6⟩
      · have e45 : (r == 45) = false := by simp [h45]
        clear hng hnum' hd0 hdt h45
        by_cases h64 : 64 < S.size
        · have hKn := wordTok_long (s := S) (hns.trans (by simpa using hnum)) h64
          rw [hK] at hKn
          have HKW := Lib.hid hKn
          have h64I : (64 : Int) < (S.size : Int) := by omega
          clear hK hKn hns hnum hBS hb0 hb1
          go_enter Tryd.func24, Tryd.ntmps24
          go_wp2_with (go_at_call 39; refine (hen _ hRW).mono ?_; rintro e w2 ⟨rfl, rfl⟩; refine Hid.out ?_)
          refine Lib.hid ?_
          have hRi := HRD.out _ hRW
          go_wp2_with (go_at_call 37; refine (hil _ hRi).mono ?_; rintro e w3 ⟨rfl, hb3⟩; refine Hid.out ?_)
          refine Lib.hid ?_
          have hcell3 := hcell.below hb3 (by simp)
          have hbc := below_self hW hb3
          have hRj := HRD.out _ (hRW.below hb3)
          clear hen hil hRi
          go_wp2_with (go_at_call 36; refine (htx _ hRj).mono ?_; rintro e w4 ⟨rfl, hb4⟩; refine Hid.out ?_)
          refine Lib.hid ?_
          have hcell4 := hcell3.below hb4 (by have := hbc.size; have := hb3.size; simp at this; omega)
          have hbd := below_self hbc hb4
          have k0 := keep_cell (below_self hb3 hb4) (keep_cell hW c0)
          clear hcell3 hbc hRj htx hb3 hb4 hcell hW
          have r0 := hcell4.c0
          have r1 := hcell4.c1
          have r2 := hcell4.c2
          have r3 := hcell4.c3
          have fr := hcell4.f
          have h4 := put4_cell hcell4 Tok.no
          have hb6 := below4 hbd Tok.no
          go_wp2_with (go_at_call 40; refine (hdg _).mono ?_; rintro e w5 ⟨rfl, rfl⟩; refine Hid.out ?_)
          refine Lib.hid ?_
          go_wp2_with fail
          refine bodyPost_ret (v := .tuple #[Tok.no.v, .int .i64 0, .int .i64 13]) (results43 rfl h4 rfl rfl rfl) rfl ⟨tok_ret (by rw [HKW.out]) (by rw [← HC.out, HKW.out]; rfl) (by rw [HKW.out]), hb6⟩
        · have hKn := wordTok_atom (s := S) (hns.trans (by simpa using hnum)) h64
          rw [hK] at hKn
          have HKW := Lib.hid hKn
          have h64I : ¬ (64 : Int) < (S.size : Int) := by omega
          clear hK hKn hns hnum hBS hb0 hb1
          go_enter Tryd.func24, Tryd.ntmps24
          go_wp2_with (go_at_call 39; refine (hen _ hRW).mono ?_; rintro e w2 ⟨rfl, rfl⟩; refine Hid.out ?_)
          refine Lib.hid ?_
          have hRi := HRD.out _ hRW
          go_wp2_with (go_at_call 37; refine (hil _ hRi).mono ?_; rintro e w3 ⟨rfl, hb3⟩; refine Hid.out ?_)
          refine Lib.hid ?_
          have hcell3 := hcell.below hb3 (by simp)
          have hbc := below_self hW hb3
          have hRj := HRD.out _ (hRW.below hb3)
          clear hen hil hRi
          go_wp2_with (go_at_call 36; refine (htx _ hRj).mono ?_; rintro e w4 ⟨rfl, hb4⟩; refine Hid.out ?_)
          refine Lib.hid ?_
          have hcell4 := hcell3.below hb4 (by have := hbc.size; have := hb3.size; simp at this; omega)
          have hbd := below_self hbc hb4
          have k0 := keep_cell (below_self hb3 hb4) (keep_cell hW c0)
          clear hcell3 hbc hRj htx hb3 hb4 hcell hW
          have r0 := hcell4.c0
          have r1 := hcell4.c1
          have r2 := hcell4.c2
          have r3 := hcell4.c3
          have fr := hcell4.f
          have h4 := put4_cell hcell4 ⟨3, S, 0, 0⟩
          have hb6 := below4 hbd ⟨3, S, 0, 0⟩
          go_wp2_with (go_at_call 40; refine (hdg _).mono ?_; rintro e w5 ⟨rfl, rfl⟩; refine Hid.out ?_)
          refine Lib.hid ?_
          go_wp2_with fail
          refine bodyPost_ret (v := .tuple #[(⟨3, S, 0, 0⟩ : Tok).v, .int .i64 N, .int .i64 0]) (results43 rfl h4 rfl rfl rfl) rfl ⟨tok_ret (by rw [HKW.out]) (by rw [← HC.out, HKW.out]; rfl) (by rw [HKW.out]), hb6⟩
end Go.Proofs.YtfndfhhimhcakaaDoor.lx
