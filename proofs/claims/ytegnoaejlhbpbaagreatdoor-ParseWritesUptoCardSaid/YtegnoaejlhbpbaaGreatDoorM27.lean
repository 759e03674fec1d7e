/-
  The reference's Right, as the program's. Conditions: the steps lie there, their texts are no great ones. The reference's Check, as the program's. Conditions: the query lies there, its texts are no great ones. (Printed by wip/mkprcheck.py.)
-/
import Derived.Test.YtegnoaejlhbpbaaGreatDoorM26
import Derived.Test.YtegnoaejlhbpbaaGreatDoorM25
namespace Go.Proofs.YtegnoaejlhbpbaaGreatDoor.lx
open Go.RowKit
set_option linter.unusedVariables false
set_option linter.unusedSimpArgs false

/-- how many values lie there behind so many steps; none: it is refused -/
def fwd (L : List Stp) : Nat → Option Int
  | 0 => some 0
  | p + 1 => (fwd L p).bind fun n => if (takesR (stpAt L p)).2 = true ∧ ¬ n < (takesR (stpAt L p)).1 then some (n + (1 - (takesR (stpAt L p)).1)) else none
theorem fwd_succ {L : List Stp} {p : Nat} {n : Int} (h : fwd L p = some n) : fwd L (p + 1) = if (takesR (stpAt L p)).2 = true ∧ ¬ n < (takesR (stpAt L p)).1 then some (n + (1 - (takesR (stpAt L p)).1)) else none := by rw [fwd, h]; rfl
theorem fwd_none {L : List Stp} {p : Nat} (h : fwd L p = none) : ∀ q, p ≤ q → fwd L q = none := by
  intro q hq
  induction q with
  | zero => rw [show p = 0 by omega] at h; exact h
  | succ q ih =>
    by_cases e : p = q + 1
    · rw [← e]; exact h
    · rw [fwd, ih (by omega)]; rfl
theorem fwd_range {L : List Stp} : ∀ {p : Nat} {n : Int}, fwd L p = some n → 0 ≤ n ∧ n ≤ p ∧ (0 < p → 1 ≤ n)
  | 0, n, h => by injection h with h; subst h; exact ⟨Int.le_refl _, Int.le_refl _, fun h => absurd h (Nat.lt_irrefl _)⟩
  | p + 1, n, h => by
    cases hp : fwd L p with
    | none => rw [fwd, hp] at h; cases h
    | some m =>
      rw [fwd_succ hp] at h
      obtain ⟨a, b, _⟩ := fwd_range hp
      have hr := takesR_range (stpAt L p)
      split at h
      · injection h with h
        omega
      · cases h
def rightF (L : List Stp) : Bool := fwd L L.length == some 1 && decide (L.length ≤ 64)
theorem fwd_back {L : List Stp} (h : fwd L L.length = some 1) : ∀ d, d ≤ L.length → rrun L (downL L.length d) = fwd L (L.length - d) := by
  intro d
  induction d with
  | zero => intro _; rw [Nat.sub_zero, h]; rfl
  | succ d ih =>
    intro hd
    rw [down_succ, rrun_snoc, ih (by omega), show L.length - 1 - d = L.length - (d + 1) by omega]
    obtain ⟨p, hp⟩ : ∃ p, L.length - (d + 1) = p := ⟨_, rfl⟩
    rw [hp, show L.length - d = p + 1 by omega]
    cases hq : fwd L p with
    | none =>
      have := fwd_none hq L.length (by omega)
      rw [h] at this
      cases this
    | some n =>
      cases hq2 : fwd L (p + 1) with
      | none =>
        have := fwd_none hq2 L.length (by omega)
        rw [h] at this
        cases this
      | some m =>
        have e := fwd_succ hq
        rw [hq2] at e
        obtain ⟨a, b, c⟩ := fwd_range hq
        split at e
        · rename_i hc
          injection e with e
          simp only [rstep, Option.bind_some]
          rw [if_pos ⟨hc.1, by omega, fun hh => by have := c hh.2; omega⟩]
          congr 1
          omega
        · cases e
theorem right_fwd {L : List Stp} (h : rightR L = true) : ∀ p, p ≤ L.length → ∃ m, rrun L (downL L.length (L.length - p)) = some m ∧ fwd L p = some m := by
  obtain ⟨h0, h64, hm⟩ := right_m h
  intro p
  induction p with
  | zero =>
    intro _
    obtain ⟨m, h1, h2, _⟩ := hm 0 (Nat.zero_le _)
    rw [h2 rfl] at h1
    exact ⟨0, h1, rfl⟩
  | succ p ih =>
    intro hp
    obtain ⟨m, h1, h2⟩ := ih (by omega)
    obtain ⟨m', g1, _, g2, _⟩ := hm (p + 1) hp
    obtain ⟨hok, he⟩ := right_step (by omega) h1 g1
    have := g2 (by omega)
    refine ⟨m', g1, ?_⟩
    rw [fwd_succ h2, if_pos ⟨hok, by omega⟩]
    congr 1
    omega
theorem rightF_eq (L : List Stp) : rightF L = rightR L := by
  cases hr : rightR L with
  | true =>
    obtain ⟨h0, h64, hm⟩ := right_m hr
    obtain ⟨m, h1, h2⟩ := right_fwd hr L.length (Nat.le_refl _)
    obtain ⟨m', g1, _, _, g2⟩ := hm L.length (Nat.le_refl _)
    rw [h1] at g1
    injection g1 with g1
    have h3 := g2 rfl
    unfold rightF
    rw [h2, g1, h3, decide_eq_true h64]
    rfl
  | false =>
    cases hf : rightF L with
    | false => rfl
    | true =>
      exfalso
      unfold rightF at hf
      rw [Bool.and_eq_true, decide_eq_true_eq, beq_iff_eq] at hf
      obtain ⟨h1, h64⟩ := hf
      have h0 : L.length ≠ 0 := fun e => by rw [e] at h1; cases h1
      have := fwd_back h1 L.length (Nat.le_refl _)
      rw [Nat.sub_self] at this
      unfold rightR at hr
      rw [if_neg (by omega), this, show fwd L 0 = some 0 from rfl] at hr
      exact absurd hr (by decide)

set_option maxHeartbeats 4000000 in
set_option maxRecDepth 100000 in
theorem rRight_any {ao : Option Addr} {cap : Nat} {L : List Stp} {w : World} (hR : StpRow ao L w) (hok : StpsOk L) (hlen : L.length ≤ 1099511627776) :
    Calls Tryz.prog 17 #[.slice ao L.length cap] w fun e w' => e = .returned (.bool (rightR L)) ∧ Below w.heap.size w w' := by
  rw [← rightF_eq]
  obtain ⟨N, hN⟩ : ∃ N, rightF L = N := ⟨_, rfl⟩
  rw [hN]
  have HN := Lib.hid hN
  have HR := Lib.hid hR
  have HOK := Lib.hid hok
  clear hN hR hok
  go_enter Tryz.func17, Tryz.ntmps17
  go_wp2_with fail
  go_loopw [3, 10] (fun v i wr => ∃ (k : Nat) (n : Int), i = .int .i64 k ∧ v = .int .i64 n ∧ k ≤ L.length ∧ 0 ≤ n ∧ n ≤ k ∧ Hid (fwd L k = some n) ∧ Hid (Below w.heap.size w wr)) (fun _ i _ => L.length - (intOf i).toNat)
  case atStart => exact ⟨0, 0, rfl, rfl, Nat.zero_le _, Int.le_refl _, Int.le_refl _, Lib.hid rfl, Lib.hid (Below.refl _ _)⟩
  case round =>
    obtain ⟨k, n, rfl, rfl, hk, hn0, hnk, HF, HB⟩ := hrel
    by_cases hlt : k < L.length
    · obtain ⟨b, o, rfl, hc⟩ := (HR.out.self HB.out).resolve_left (by omega)
      have ht := stpAt_some hlt
      obtain ⟨c0, c1, c2⟩ := hc k _ ht
      have hto := HOK.out _ (List.mem_of_getElem? ht)
      have HT := Lib.hid fun w => rTakes_any (stpAt L k) w (by omega) hto.2
      have hsu := fwd_succ HF.out
      have hrg := takesR_range (stpAt L k)
      unfold Stp.v at HT
      generalize stpAt L k = t at *
      generalize takesR t = T at *
      obtain ⟨tk, tok⟩ := T
      obtain ⟨sk, ss, sn⟩ := t
      simp only at *
      have HS := Lib.hid hsu
      clear hc ht hto hsu
      go_wp2_with (go_at_call 12; refine (HT.out _).mono ?_; rintro e w2 ⟨rfl, hb2⟩; refine Hid.out ?_)
      refine Lib.hid ?_
      have HB2 := Lib.hid (((HB.out.alloc HB.out.size (.cells #[.int .u8 sk, .string ss, .int .i64 sn] 29))).trans (hb2.mono (by have := HB.out.size; rw [alloc_sz]; omega)))
      clear hb2 c0 c1 c2
      cases tok with
      | false =>
        have HX := Lib.hid (show N = false by
          rw [← HN.out]
          unfold rightF
          rw [fwd_none (by rw [HS.out, if_neg (by simp)]) L.length (by omega)]
          rfl)
        go_wp2_with fail
        go_ret
        exact ⟨ret_bool HX.out.symm, HB2.out⟩
      | true =>
        by_cases hnl : n < tk
        · have HX := Lib.hid (show N = false by
            rw [← HN.out]
            unfold rightF
            rw [fwd_none (by rw [HS.out, if_neg (by omega)]) L.length (by omega)]
            rfl)
          go_wp2_with fail
          go_ret
          exact ⟨ret_bool HX.out.symm, HB2.out⟩
        · have HX := Lib.hid (show fwd L (k + 1) = some (n + (1 - tk)) by rw [HS.out, if_pos ⟨rfl, by omega⟩])
          have hw1 := IntWalk.i64_in (1 - tk) (by omega)
          have hw2 := IntWalk.i64_in (n + (1 - tk)) (by omega)
          go_wp2_with fail
          go_roundw
          case rel => exact ⟨k + 1, _, by go_num, rfl, by omega, by omega, by omega, HX, HB2⟩
          case measure => simp [intOf]; omega
    · obtain rfl : k = L.length := by omega
      have hN2 : N = (n == 1 && decide (L.length ≤ 64)) := by
        rw [← HN.out]
        unfold rightF
        rw [HF.out]
        rfl
      clear HF HN
      by_cases h1 : n = 1
      · by_cases h64 : L.length ≤ 64
        · have hX := Lib.hid (show N = true by rw [hN2, h1, decide_eq_true h64]; rfl)
          have hI : (L.length : Int) ≤ 64 := by omega
          have e1 : (n == 1) = true := by simp [h1]
          clear hN2 h1
          go_wp2_with fail
          go_ret
          exact ⟨ret_bool hX.out.symm, HB.out⟩
        · have hX := Lib.hid (show N = false by rw [hN2, decide_eq_false h64, Bool.and_false])
          have hI : ¬ (L.length : Int) ≤ 64 := by omega
          have e1 : (n == 1) = true := by simp [h1]
          clear hN2 h1
          go_wp2_with fail
          go_ret
          exact ⟨ret_bool hX.out.symm, HB.out⟩
      · have e1 : (n == 1) = false := by simp [h1]
        have hX := Lib.hid (show N = false by rw [hN2, e1, Bool.false_and])
        clear hN2 h1
        go_wp2_with fail
        go_ret
        exact ⟨ret_bool hX.out.symm, HB.out⟩
end Go.Proofs.YtegnoaejlhbpbaaGreatDoor.lx
namespace Go.Proofs.YtegnoaejlhbpbaaGreatDoor.lx
open Go.RowKit
set_option linter.unusedVariables false
set_option linter.unusedSimpArgs false

/-- the first part of what Check asks, the second -/
def chk1 (q : Qry) : Bool := nameR q.table && decide (q.items.length ≤ 8) && decide (q.group.length ≤ 8) && (decide (q.wher.length = 0) || rightR q.wher) && (decide (q.group.length = 0) || decide (0 < q.items.length))
def chk2 (q : Qry) : Bool := if emptyS q.join = true then chk1 q && emptyS q.left && emptyS q.right else chk1 q && nameR q.join && !(q.join.toList == q.table.toList) && columnR q.left && columnR q.right
theorem all_and_c (c : Bool) : ∀ L : List ByteArray, (L.all fun g => columnR g && c) = (L.all columnR && (decide (L.length = 0) || c))
  | [] => rfl
  | g :: L => by
    rw [List.all_cons, List.all_cons, all_and_c c L]
    cases c <;> cases columnR g <;> simp
theorem name_empty {s : ByteArray} (h : emptyS s = true) : nameR s = false := by
  rw [empty_of h]
  exact name_no (.inl rfl)
theorem chk_eq (q : Qry) : checkR q = if (chk2 q && q.items.all itemOkR && q.group.all columnR) = true then 0 else 13 := by
  have hb : (chk2 q && q.items.all itemOkR && q.group.all columnR) = (okR q && decide (q.items.length ≤ 8) && decide (q.group.length ≤ 8)) := by
    unfold okR frontR
    rw [all_and_c]
    unfold chk2 chk1 singleR doubleR
    generalize decide (q.items.length ≤ 8) = a8
    generalize decide (q.group.length ≤ 8) = g8
    generalize decide (q.wher.length = 0) = w0
    generalize decide (q.group.length = 0) = g0
    generalize decide (0 < q.items.length) = i0
    generalize rightR q.wher = wr
    generalize q.items.all itemOkR = ia
    generalize q.group.all columnR = ga
    generalize nameR q.table = nt
    cases ej : emptyS q.join with
    | true =>
      rw [name_empty ej, if_pos rfl]
      generalize emptyS q.left = el
      generalize emptyS q.right = er
      cases nt <;> cases a8 <;> cases g8 <;> cases el <;> cases er <;> cases ia <;> cases ga <;> cases w0 <;> cases wr <;> cases g0 <;> cases i0 <;> simp
    | false =>
      rw [if_neg (by decide)]
      generalize nameR q.join = nj
      generalize columnR q.left = cl
      generalize columnR q.right = cr
      generalize (q.join.toList == q.table.toList) = jt
      cases nt <;> cases a8 <;> cases g8 <;> cases nj <;> cases jt <;> cases cl <;> cases cr <;> cases ia <;> cases ga <;> simp [Bool.and_comm, Bool.and_left_comm]
  rw [hb]
  unfold checkR
  by_cases h1 : okR q = false ∨ 8 < q.items.length ∨ 8 < q.group.length
  · rw [if_pos h1, if_neg]
    intro h
    simp only [Bool.and_eq_true, decide_eq_true_eq] at h
    rcases h1 with h1 | h1 | h1
    · rw [h1] at h; exact absurd h.1.1 (by decide)
    · omega
    · omega
  · rw [if_neg h1, if_pos]
    simp only [Bool.and_eq_true, decide_eq_true_eq]
    refine ⟨⟨?_, by omega⟩, by omega⟩
    cases e : okR q with
    | true => rfl
    | false => exact absurd (.inl e) h1

set_option maxHeartbeats 8000000 in
set_option maxRecDepth 100000 in
theorem rCheck_any {q : Qry} {io wo go : Option Addr} {icap wcap gcap : Nat} {w : World} (hR : QryIn q io wo go w) (hok : QryOk q) (hil : q.items.length ≤ 1099511627776) (hwl : q.wher.length ≤ 1099511627776) (hgl : q.group.length ≤ 1099511627776) (hel : ∀ it ∈ q.items, it.e.length ≤ 1099511627776) :
    Calls Tryz.prog 15 #[.agg #[.slice io q.items.length icap, .string q.table, .string q.join, .string q.left, .string q.right, .slice wo q.wher.length wcap, .slice go q.group.length gcap]] w fun e w' => e = .returned (.int .i64 (checkR q)) ∧ Below w.heap.size w w' := by
  have hbV := (Below.refl w.heap.size w).alloc (Nat.le_refl _) (.cells #[.slice io q.items.length icap, .string q.table, .string q.join, .string q.left, .string q.right, .slice wo q.wher.length wcap, .slice go q.group.length gcap] 26)
  have hn := heap_alloc_new w (.cells #[.slice io q.items.length icap, .string q.table, .string q.join, .string q.left, .string q.right, .slice wo q.wher.length wcap, .slice go q.group.length gcap] 26)
  have HB := Lib.hid hbV
  have HR := Lib.hid (hR.self hbV)
  have HOK := Lib.hid hok
  have HEL := Lib.hid hel
  obtain ⟨R, hRe⟩ : ∃ R, checkR q = R := ⟨_, rfl⟩
  have HRE := Lib.hid ((chk_eq q).symm.trans hRe)
  rw [hRe]
  clear hR hok hbV hel hRe
  go_enter Tryz.func15, Tryz.ntmps15
  go_upto_region 1 with fail
  generalize w.alloc (.cells #[.slice io q.items.length icap, .string q.table, .string q.join, .string q.left, .string q.right, .slice wo q.wher.length wcap, .slice go q.group.length gcap] 26) = W1 at *
  have hcl : ∀ (j : Nat) v, #[Value.slice io q.items.length icap, .string q.table, .string q.join, .string q.left, .string q.right, .slice wo q.wher.length wcap, .slice go q.group.length gcap][j]? = some v → W1.cell? ⟨w.heap.size, j, none⟩ = some v := fun j v h => by rw [Lib.cell_of_heap hn]; exact h
  have k0 := hcl 0 _ rfl
  have k1 := hcl 1 _ rfl
  have k2 := hcl 2 _ rfl
  have k3 := hcl 3 _ rfl
  have k4 := hcl 4 _ rfl
  have k5 := hcl 5 _ rfl
  have k6 := hcl 6 _ rfl
  clear hcl hn
  have HNJ := Lib.hid fun w => rName_any q.join w (by have := HOK.out.join; omega)
  have HCL := Lib.hid fun w => rCol_any q.left w (by have := HOK.out.left; omega)
  have HCR := Lib.hid fun w => rCol_any q.right w (by have := HOK.out.right; omega)
  have HNT := Lib.hid fun w => rName_any q.table w (by have := HOK.out.table; omega)
  have HRW := Lib.hid fun w (hR : QryIn q io wo go w) => rRight_any (cap := wcap) hR.wher HOK.out.wher hwl
  obtain ⟨C1, hC1⟩ : ∃ C1, chk1 q = C1 := ⟨_, rfl⟩
  obtain ⟨C2, hC2⟩ : ∃ C2, chk2 q = C2 := ⟨_, rfl⟩
  have HC1 := Lib.hid hC1
  have HC2 := Lib.hid hC2
  clear hC1 hC2
  go_cut [3] (fun v wx => v = .bool C1 ∧ Below W1.heap.size W1 wx)
  case first =>
    have HD := HC1.out
    unfold chk1 at HD
    generalize nameR q.table = bt at *
    generalize rightR q.wher = br at *
    have HD := Lib.hid HD
    clear HC1 HC2 HNJ HCL HCR
    cases bt with
    | false =>
      go_wp2_with (go_at_call 37; refine (HNT.out _).mono ?_; rintro e w2 ⟨rfl, hb2⟩; refine Hid.out ?_)
      refine Lib.hid ?_
      have m0 := keep_cellP hb2 k0
      have m5 := keep_cellP hb2 k5
      have m6 := keep_cellP hb2 k6
      have HB2 := Lib.hid hb2
      have HR2 := Lib.hid (HR.out.self hb2)
      clear hb2 k0 k1 k2 k3 k4 k5 k6
      go_wp2_with fail
      go_meet
      exact ⟨congrArg Value.bool (by rw [← HD.out]; simp []), HB2.out⟩
    | true =>
      go_wp2_with (go_at_call 37; refine (HNT.out _).mono ?_; rintro e w2 ⟨rfl, hb2⟩; refine Hid.out ?_)
      refine Lib.hid ?_
      have m0 := keep_cellP hb2 k0
      have m5 := keep_cellP hb2 k5
      have m6 := keep_cellP hb2 k6
      have HB2 := Lib.hid hb2
      have HR2 := Lib.hid (HR.out.self hb2)
      clear hb2 k0 k1 k2 k3 k4 k5 k6
      by_cases h8 : q.items.length ≤ 8
      · have e8 : (q.items.length : Int) ≤ 8 := by omega
        by_cases g8 : q.group.length ≤ 8
        · have f8 : (q.group.length : Int) ≤ 8 := by omega
          by_cases hw0 : q.wher.length = 0
          · have ew : ((q.wher.length : Int) == 0) = true := beq_iff_eq.2 (by omega)
            have HW0 := Lib.hid hw0
            clear hw0
            by_cases hg0 : q.group.length = 0
            · have eg : ((q.group.length : Int) == 0) = true := beq_iff_eq.2 (by omega)
              have HG0 := Lib.hid hg0
              clear hg0
              go_wp2_with fail
              go_meet
              exact ⟨congrArg Value.bool (by rw [← HD.out]; simp [h8, g8, HW0.out, HG0.out]), HB2.out⟩
            · have eg : ((q.group.length : Int) == 0) = false := beq_eq_false_iff_ne.2 (by omega)
              by_cases hi0 : 0 < q.items.length
              · have ei : (0 : Int) < (q.items.length : Int) := by omega
                go_wp2_with fail
                go_meet
                exact ⟨congrArg Value.bool (by rw [← HD.out]; simp [h8, g8, HW0.out, hg0, hi0]), HB2.out⟩
              · have ei : ¬ (0 : Int) < (q.items.length : Int) := by omega
                go_wp2_with fail
                go_meet
                exact ⟨congrArg Value.bool (by rw [← HD.out]; simp [h8, g8, HW0.out, hg0, hi0]), HB2.out⟩
          · have ew : ((q.wher.length : Int) == 0) = false := beq_eq_false_iff_ne.2 (by omega)
            cases br with
            | false =>
              go_wp2_with (go_at_call 17; refine (HRW.out _ HR2.out).mono ?_; rintro e w3 ⟨rfl, hb3⟩; refine Hid.out ?_)
              refine Lib.hid ?_
              have p0 := keep_cellP hb3 m0
              have p6 := keep_cellP hb3 m6
              have HB3 := Lib.hid (below_self HB2.out hb3)
              clear hb3 m0 m5 m6
              go_wp2_with fail
              go_meet
              exact ⟨congrArg Value.bool (by rw [← HD.out]; simp [h8, g8, hw0]), HB3.out⟩
            | true =>
              go_wp2_with (go_at_call 17; refine (HRW.out _ HR2.out).mono ?_; rintro e w3 ⟨rfl, hb3⟩; refine Hid.out ?_)
              refine Lib.hid ?_
              have p0 := keep_cellP hb3 m0
              have p6 := keep_cellP hb3 m6
              have HB3 := Lib.hid (below_self HB2.out hb3)
              clear hb3 m0 m5 m6
              by_cases hg0 : q.group.length = 0
              · have eg : ((q.group.length : Int) == 0) = true := beq_iff_eq.2 (by omega)
                have HG0 := Lib.hid hg0
                clear hg0
                go_wp2_with fail
                go_meet
                exact ⟨congrArg Value.bool (by rw [← HD.out]; simp [h8, g8, hw0, HG0.out]), HB3.out⟩
              · have eg : ((q.group.length : Int) == 0) = false := beq_eq_false_iff_ne.2 (by omega)
                by_cases hi0 : 0 < q.items.length
                · have ei : (0 : Int) < (q.items.length : Int) := by omega
                  go_wp2_with fail
                  go_meet
                  exact ⟨congrArg Value.bool (by rw [← HD.out]; simp [h8, g8, hw0, hg0, hi0]), HB3.out⟩
                · have ei : ¬ (0 : Int) < (q.items.length : Int) := by omega
                  go_wp2_with fail
                  go_meet
                  exact ⟨congrArg Value.bool (by rw [← HD.out]; simp [h8, g8, hw0, hg0, hi0]), HB3.out⟩
        · have f8 : ¬ (q.group.length : Int) ≤ 8 := by omega
          go_wp2_with fail
          go_meet
          exact ⟨congrArg Value.bool (by rw [← HD.out]; simp [h8, g8]), HB2.out⟩
      · have e8 : ¬ (q.items.length : Int) ≤ 8 := by omega
        go_wp2_with fail
        go_meet
        exact ⟨congrArg Value.bool (by rw [← HD.out]; simp [h8]), HB2.out⟩
  case rest =>
  obtain ⟨rfl, hbc⟩ := hcut
  have c0 := keep_cellP hbc k0
  have c1 := keep_cellP hbc k1
  have c2 := keep_cellP hbc k2
  have c3 := keep_cellP hbc k3
  have c4 := keep_cellP hbc k4
  have c6 := keep_cellP hbc k6
  have HR2 := Lib.hid (HR.out.self hbc)
  have HB2 := Lib.hid (below_self HB.out hbc)
  have HC := Lib.hid (show chk2 q = if emptyS q.join = true then C1 && emptyS q.left && emptyS q.right else C1 && nameR q.join && !(q.join.toList == q.table.toList) && columnR q.left && columnR q.right by rw [← HC1.out]; rfl)
  clear hbc k0 k1 k2 k3 k4 k5 k6 HB HR HNT HRW HC1
  generalize hW2 : wc = W2 at *
  clear hW2
  have HD : Hid ((if emptyS q.join = true then C1 && emptyS q.left && emptyS q.right else C1 && nameR q.join && !(q.join.toList == q.table.toList) && columnR q.left && columnR q.right) = C2) := Lib.hid (HC.out.symm.trans HC2.out)
  clear HC
  go_upto_if 48 with fail
  go_cut [3] (fun v wx => v = .bool C2 ∧ Below W2.heap.size W2 wx)
  case first =>
    unfold emptyS at HD
    cases s2 : q.join.toList.isEmpty with
    | true =>
      have z2 : q.join.toList = [] := List.isEmpty_iff.1 s2
      rw [s2, if_pos rfl] at HD
      cases C1 <;> cases s3 : q.left.toList.isEmpty <;> cases s4 : q.right.toList.isEmpty
      all_goals
        rw [s3, s4] at HD
        go_wp2_with fail
        go_meet
        exact ⟨congrArg Value.bool HD.out, Below.refl _ _⟩
    | false =>
      have z2 : ¬ q.join.toList = [] := fun e => by rw [e] at s2; cases s2
      rw [s2, if_neg (by decide)] at HD
      generalize nameR q.join = bn at *
      generalize columnR q.left = bl at *
      generalize columnR q.right = br at *
      cases C1 with
      | false =>
        go_wp2_with fail
        go_meet
        exact ⟨congrArg Value.bool (by rw [← HD.out]; simp), Below.refl _ _⟩
      | true =>
        cases bn with
        | false =>
          go_wp2_with (go_at_call 37; refine (HNJ.out _).mono ?_; rintro e w2 ⟨rfl, hb2⟩; refine Hid.out ?_)
          refine Lib.hid ?_
          go_wp2_with fail
          go_meet
          exact ⟨congrArg Value.bool (by rw [← HD.out]; simp), hb2⟩
        | true =>
          go_wp2_with (go_at_call 37; refine (HNJ.out _).mono ?_; rintro e w2 ⟨rfl, hb2⟩; refine Hid.out ?_)
          refine Lib.hid ?_
          have m1 := keep_cellP hb2 c1
          have m2 := keep_cellP hb2 c2
          have m3 := keep_cellP hb2 c3
          have m4 := keep_cellP hb2 c4
          have HB3 := Lib.hid hb2
          clear hb2
          cases hne : (q.join.toList == q.table.toList) with
          | true =>
            rw [hne] at HD
            go_wp2_with fail
            go_meet
            exact ⟨congrArg Value.bool (by rw [← HD.out]; simp), HB3.out⟩
          | false =>
            rw [hne] at HD
            cases bl with
            | false =>
              go_wp2_with (go_at_call 34; refine (HCL.out _).mono ?_; rintro e w3 ⟨rfl, hb3⟩; refine Hid.out ?_)
              refine Lib.hid ?_
              go_wp2_with fail
              go_meet
              exact ⟨congrArg Value.bool (by rw [← HD.out]; simp), below_self HB3.out hb3⟩
            | true =>
              go_wp2_with (go_at_call 34; refine (HCL.out _).mono ?_; rintro e w3 ⟨rfl, hb3⟩; refine Hid.out ?_)
              refine Lib.hid ?_
              have n4 := keep_cellP hb3 m4
              have HB4 := Lib.hid (below_self HB3.out hb3)
              clear hb3
              go_wp2_with (go_at_call 34; refine (HCR.out _).mono ?_; rintro e w4 ⟨rfl, hb4⟩; refine Hid.out ?_)
              refine Lib.hid ?_
              go_wp2_with fail
              go_meet
              exact ⟨congrArg Value.bool (by rw [← HD.out]; simp), below_self HB4.out hb4⟩
  case rest =>
  obtain ⟨rfl, hbc⟩ := hcut
  have d0 := keep_cellP hbc c0
  have d6 := keep_cellP hbc c6
  have HR := Lib.hid (HR2.out.self hbc)
  have HB := Lib.hid (below_self HB2.out hbc)
  clear hbc c0 c1 c2 c3 c4 c6 HR2 HB2 HNJ HCL HCR HD
  generalize hW3 : wc = W3 at *
  clear hW3
  have HKG := Lib.hid fun wr (hb : Below W3.heap.size W3 wr) => keep_cellP hb d6
  clear d6
  go_wp2_with fail
  clear d0
  go_loopw [3, 86] (fun v i wr => ∃ k : Nat, i = .int .i64 k ∧ k ≤ q.items.length ∧ v = .bool (C2 && (q.items.take k).all itemOkR) ∧ Below W3.heap.size W3 wr) (fun _ i _ => q.items.length - (intOf i).toNat)
  case atStart => exact ⟨0, rfl, Nat.zero_le _, by simp, Below.refl _ _⟩
  case round =>
    obtain ⟨k, rfl, hk, rfl, hbr⟩ := hrel
    by_cases hlt : k < q.items.length
    · have hit : q.items[k]? = some q.items[k] := List.getElem?_eq_getElem hlt
      obtain ⟨b, o, rfl, hcs⟩ := (HR.out.self hbr).items.resolve_left (by omega)
      obtain ⟨eo, ec, i0, i1, hst⟩ := hcs k _ hit
      have hsn : (q.items.take (k + 1)).all itemOkR = ((q.items.take k).all itemOkR && itemOkR q.items[k]) := by
        rw [List.take_succ_eq_append_getElem hlt, List.all_append]; simp
      have HSN := Lib.hid hsn
      have hpo := HOK.out.items _ (List.getElem_mem hlt)
      have hle := HEL.out _ (List.getElem_mem hlt)
      generalize q.items[k] = it at *
      have hbA := (Below.refl wr.heap.size wr).alloc (Nat.le_refl _) (.cells #[.int .u8 it.agg, .slice eo it.e.length ec] 48)
      have HRI := Lib.hid (rRight_any (cap := ec) (hst.self hbA) hpo.e hle)
      have hn5 := heap_alloc_new wr (.cells #[.int .u8 it.agg, .slice eo it.e.length ec] 48)
      have HBA := Lib.hid (below_self hbr hbA)
      have hlo := hpo.lo
      have hhi := hpo.hi
      clear hsn hit hcs hst hpo hbA
      generalize (q.items.take k).all itemOkR = B at *
      obtain ⟨a, L⟩ := it
      simp only at *
      by_cases h5 : a < 5
      · have e5 : ¬ (5 : Int) ≤ a := by omega
        by_cases h1 : a = 1
        · have e1 : (a == 1) = true := by simp [h1]
          have n1 : (a != 1) = false := by simp [h1]
          by_cases h0 : 0 < L.length
          · have el : (0 : Int) < (L.length : Int) := by omega
            have HX := Lib.hid (show itemOkR ⟨a, L⟩ = false by unfold itemOkR; simp [h1]; intro e; rw [e] at h0; exact absurd h0 (by decide))
            clear h1
            go_wp2_with fail
            go_roundw
            case rel => exact ⟨k + 1, by go_num, by omega, congrArg Value.bool (by rw [HSN.out, HX.out]; simp), HBA.out⟩
            case measure => simp [intOf]; omega
          · have el : ¬ (0 : Int) < (L.length : Int) := by omega
            have HX := Lib.hid (show itemOkR ⟨a, L⟩ = true by unfold itemOkR; simp [h1]; exact List.eq_nil_of_length_eq_zero (by omega))
            clear h1
            go_wp2_with fail
            go_roundw
            case rel => exact ⟨k + 1, by go_num, by omega, congrArg Value.bool (by rw [HSN.out, HX.out]; simp), HBA.out⟩
            case measure => simp [intOf]; omega
        · have e1 : (a == 1) = false := by simp [h1]
          have n1 : (a != 1) = true := by simp [h1]
          have hio : itemOkR ⟨a, L⟩ = rightR L := by unfold itemOkR; simp [h1, h5]
          generalize rightR L = br at *
          have HX := Lib.hid hio
          clear hio
          cases br with
          | false =>
            go_wp2_with (go_at_call 17; refine HRI.out.mono ?_; rintro e w2 ⟨rfl, hb2⟩; refine Hid.out ?_)
            refine Lib.hid ?_
            have HB2 := Lib.hid (HBA.out.trans (hb2.mono HBA.out.size))
            clear hb2
            go_wp2_with fail
            go_roundw
            case rel => exact ⟨k + 1, by go_num, by omega, congrArg Value.bool (by rw [HSN.out, HX.out]; simp), HB2.out⟩
            case measure => simp [intOf]; omega
          | true =>
            go_wp2_with (go_at_call 17; refine HRI.out.mono ?_; rintro e w2 ⟨rfl, hb2⟩; refine Hid.out ?_)
            refine Lib.hid ?_
            have HB2 := Lib.hid (HBA.out.trans (hb2.mono HBA.out.size))
            clear hb2
            go_wp2_with fail
            go_roundw
            case rel => exact ⟨k + 1, by go_num, by omega, congrArg Value.bool (by rw [HSN.out, HX.out]; simp), HB2.out⟩
            case measure => simp [intOf]; omega
      · have e5 : (5 : Int) ≤ a := by omega
        have HX := Lib.hid (show itemOkR ⟨a, L⟩ = false by show (if a = 1 then decide (L.length = 0) else decide (a < 5) && rightR L) = false; rw [if_neg (by omega), decide_eq_false h5, Bool.false_and])
        go_wp2_with fail
        go_roundw
        case rel => exact ⟨k + 1, by go_num, by omega, congrArg Value.bool (by rw [HSN.out, HX.out]; simp), HBA.out⟩
        case measure => simp [intOf]; omega
    · obtain rfl : k = q.items.length := by omega
      have k6 := HKG.out _ hbr
      have HRG := Lib.hid (HR.out.self hbr)
      rw [List.take_length]
      generalize hI : q.items.all itemOkR = IA at *
      have HI := Lib.hid hI
      have HBR := Lib.hid hbr
      clear hI hbr
      go_wp2_with fail
      clear k6
      rename_i wr0
      go_loopw [3, 119] (fun v i wy => ∃ k : Nat, i = .int .i64 k ∧ k ≤ q.group.length ∧ v = .bool (C2 && IA && (q.group.take k).all columnR) ∧ Hid (Below W3.heap.size W3 wy)) (fun _ i _ => q.group.length - (intOf i).toNat)
      case atStart => exact ⟨0, rfl, Nat.zero_le _, by simp, HBR⟩
      case round =>
        obtain ⟨k, rfl, hk, rfl, HBY⟩ := hrel
        by_cases hlt : k < q.group.length
        · have hit : q.group[k]? = some q.group[k] := List.getElem?_eq_getElem hlt
          obtain ⟨b, o, rfl, hcs⟩ := (HR.out.self HBY.out).group.resolve_left (by omega)
          have c0 := hcs k _ hit
          have hsn : (q.group.take (k + 1)).all columnR = ((q.group.take k).all columnR && columnR q.group[k]) := by
            rw [List.take_succ_eq_append_getElem hlt, List.all_append]; simp
          have HSN := Lib.hid hsn
          have hpo := HOK.out.group _ (List.getElem_mem hlt)
          have HCO := Lib.hid fun w => rCol_any q.group[k] w (by omega)
          generalize q.group[k] = g at *
          clear hsn hit hcs
          generalize (q.group.take k).all columnR = B at *
          cases hFB : (C2 && IA && B) with
          | false =>
            have HFB := Lib.hid hFB
            clear hFB
            go_wp2_with fail
            go_roundw
            case rel => exact ⟨k + 1, by go_num, by omega, congrArg Value.bool (by rw [HSN.out, ← Bool.and_assoc, HFB.out]; rfl), HBY⟩
            case measure => simp [intOf]; omega
          | true =>
            have HFB := Lib.hid hFB
            clear hFB
            go_wp2_with (go_at_call 34; refine (HCO.out _).mono ?_; rintro e w2 ⟨rfl, hb2⟩; refine Hid.out ?_)
            refine Lib.hid ?_
            have HB2 := Lib.hid (HBY.out.trans (hb2.mono HBY.out.size))
            clear hb2
            go_wp2_with fail
            go_roundw
            case rel => exact ⟨k + 1, by go_num, by omega, congrArg Value.bool (by rw [HSN.out, ← Bool.and_assoc, HFB.out]; rfl), HB2⟩
            case measure => simp [intOf]; omega
        · obtain rfl : k = q.group.length := by omega
          rw [List.take_length]
          have hre := HRE.out
          rw [HC2.out] at hre
          generalize hg : (C2 && IA && q.group.all columnR) = Z at *
          cases Z with
          | true =>
            rw [if_pos rfl] at hre
            subst hre
            clear hg
            go_wp2_with fail
            go_ret
            exact ⟨rfl, HB.out.trans (HBY.out.mono HB.out.size)⟩
          | false =>
            rw [if_neg (by decide)] at hre
            subst hre
            clear hg
            go_wp2_with fail
            go_ret
            exact ⟨rfl, HB.out.trans (HBY.out.mono HB.out.size)⟩
end Go.Proofs.YtegnoaejlhbpbaaGreatDoor.lx
