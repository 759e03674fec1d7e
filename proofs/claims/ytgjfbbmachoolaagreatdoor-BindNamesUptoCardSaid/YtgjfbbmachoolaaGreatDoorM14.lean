/-
  bind's kindOf: what an expression comes to. Conditions: the package-level variables are laid; the steps and the columns lie there. bind's caught: an error's number with which something panics. Conditions: what is done ends so, and leaves the cell alone. value.Runes: how many runes a text has. Conditions: the text is no great one. Parse, for every text. Conditions: the package-level variables are laid.
-/
import Derived.Test.YtgjfbbmachoolaaGreatDoorM12
import Derived.ArgAppend
import Derived.Deep.RegionLaw
import Derived.WalkSpells
import Derived.WalkLawsBesides
import Derived.Test.YtgjfbbmachoolaaGreatDoorM11
import Derived.Test.YtgjfbbmachoolaaGreatDoorM01
import Derived.Test.YtgjfbbmachoolaaGreatDoorM04
namespace Go.Proofs.YtgjfbbmachoolaaGreatDoor.lx
open Go.RowKit
set_option linter.unusedVariables false
set_option linter.unusedSimpArgs false

theorem infoK : (Tryz.prog.info? 45).map (fun i => (i.zero, i.size, i.bytes)) = some (some (.int .u8 0), 1, 1) := by kernel_rfl
/-- append where there is no room, at the operation: wherever the slice lies -/
theorem wp_append_grows {P : Program} {o : Oper} {a : Act} {w : World} {K : Act → World → Prop} {Q : Exit → Act → World → Prop} (s x : Operand) (t : TypeId)
  (hop : o.op = Op.call { callee := Callee.builtin Builtin.append, args := #[s, x], argTypes := #[t, t] })
  (e : TypeId) (i : TypeInfo) (z : Value) (size bytes : Nat) (h1 : P.underlying t = some (.slice e)) (h2 : P.info? e = some i) (h3 : i.zero = some z) (h4 : i.size = size) (h5 : i.bytes = bytes) (h6 : z.cells.size = size) (h7 : 0 < size)
  (ao : Option Addr) (n cap : Nat) (olds : List Value) (hs : a.eval s = .slice ao n cap) (hnone : ao = none → n = 0 ∧ cap = 0) (hlo : olds.length = n * size) (holds : ∀ b, ao = some b → ∀ j u, olds[j]? = some u → w.cell? (b.add j) = some u)
  (ad : Addr) (m c : Nat) (news : List Value) (hx : a.eval x = .slice (some ad) m c) (hn : news.length = m * size) (hc : ∀ j u, news[j]? = some u → w.cell? (ad.add j) = some u) (h1c : ∀ u ∈ news, u.oneCell' = true)
  (hfull : cap < n + m) (b1 : n + m ≤ maxLen) (b2 : (n + m) * bytes ≤ 140737488355328)
  (hK : ∀ v' w', w'.ownsRow w.heap.size e size v' (n + m) (olds ++ news) → w.grownBy w' none → K (a.put o.dst v') w') : o.wp P a w K Q := by
 cases ao with
 | some b =>
  obtain ⟨v', w', hrun, r1, r2⟩ := run_append_arg_grows (P := P) w t o.type e i z size bytes h1 h2 h3 h4 h5 h6 h7 b n cap olds hlo (holds b rfl) ad m c news hn hc hfull b1 b2
  unfold Oper.wp
  simp [execOp, hop, resolve, invoke, builtin, hs, hx, hrun, Result.andThen]
  exact hK v' w' r1 r2
 | none =>
  obtain ⟨rfl, rfl⟩ := hnone rfl
  obtain rfl : olds = [] := List.eq_nil_of_length_eq_zero (by simpa using hlo)
  obtain ⟨v', w', hrun, r1, r2, _⟩ := run_append_own (P := P) w w.heap.size t o.type e i z size bytes h1 h2 h3 h4 h5 h6 h7 (.slice none 0 0) 0 [] (World.ownsRow_nil w _ e size) ad m c news hn hc h1c b1 b2 (Nat.le_refl _)
  unfold Oper.wp
  simp [execOp, hop, resolve, invoke, builtin, hs, hx, hrun, Result.andThen]
  exact hK v' w' r1 r2
theorem below_ownA {B : Nat} {w w1 w2 : World} {v : Value} (h : Below B w w1) (hg : w1.grownBy w2 v.ownBlock) (hv : ∀ k, v.ownBlock = some k → B ≤ k) (hB : B ≤ w1.heap.size) : Below B w w2 :=
 h.trans ⟨hg.os, hg.tape, hg.output, hg.size, fun k hk => hg.block k (by omega) (fun e => by have := hv k e.symm; omega)⟩
theorem kind_len {ao : Option Addr} {cap n : Nat} {k : Int} {L : List Int} {w : World} (hn : n = L.length) (hL : KRow ao L w) (hk : 0 ≤ k ∧ k ≤ 255) (h2 : ruleR k = none → k ≠ 9 → 2 ≤ L.length) (hlen : L.length ≤ 1099511627776) :
  Calls Tryz.prog 58 #[.int .u8 k, .slice ao n cap] w fun e w' => IntP .u8 (kindR k L) e ∧ Below w.heap.size w w' := by
 subst hn
 exact kind_any hL hk h2 hlen
theorem calls_bad {n : Nat} {args : Array Value} {w : World} {y : Int} {R : Ex Int} (hR : R = .no y) (h : Calls Tryz.prog n args w fun e w' => IntP .u8 R e ∧ Below w.heap.size w w') : Calls Tryz.prog n args w fun e w' => e = .panicked [flE y] ∧ Below w.heap.size w w' := by
 subst hR
 exact h
theorem calls_ok {n : Nat} {args : Array Value} {w : World} {y : Int} {R : Ex Int} (hR : R = .ok y) (h : Calls Tryz.prog n args w fun e w' => IntP .u8 R e ∧ Below w.heap.size w w') : Calls Tryz.prog n args w fun e w' => e = .returned (.int .u8 y) ∧ Below w.heap.size w w' := by
 subst hR
 exact h
theorem intP_no {y : Int} {R : Ex Int} (h : Ex.no y = R) : IntP .u8 R (.panicked [flE y]) := by subst h; rfl
theorem intP_ok {y : Int} {R : Ex Int} (h : Ex.ok y = R) : IntP .u8 R (.returned (.int .u8 y)) := by subst h; rfl
/-- what is right of a step's column -/
theorem inR_no {n : Nat} {x : Stp} (h : x.k ≠ 6) : inR n x = true := by simp [inR, h]
theorem inR_yes {n : Nat} {x : Stp} (h : x.k = 6) : inR n x = (emptyS x.s && decide (0 ≤ x.n) && decide (x.n < n)) := by simp [inR, h]
theorem all_no {p : Stp → Bool} {L : List Stp} {k : Nat} (hk : k < L.length) (h : p L[k] = false) : L.all p = false := by
 rw [List.all_eq_false]
 exact ⟨_, List.getElem_mem hk, by rw [h]; decide⟩

set_option maxHeartbeats 8000000 in
set_option maxRecDepth 100000 in
theorem kindOf_any {ao co : Option Addr} {cap ccap : Nat} {L : List Stp} {C : List Clm} {w : World} (hG : PGlob w) (hL : StpRow ao L w) (hok : StpsOk L) (hC : ColRow co C w) (hck : ∀ c ∈ C, 0 ≤ c.k ∧ c.k ≤ 255) (hlen : L.length ≤ 1099511627776) (hcl : C.length ≤ 4398046511104) :
  Calls Tryz.prog 37 #[.slice ao L.length cap, .slice co C.length ccap] w fun e w' => IntP .u8 (kindOfR L C) e ∧ Below w.heap.size w w' := by
 obtain ⟨R, hR⟩ : ∃ R, kindOfR L C = R := ⟨_, rfl⟩
 rw [hR]
 unfold kindOfR at hR
 have HR := Lib.hid hR
 have HL := Lib.hid hL
 have HK := Lib.hid hok
 have HG := Lib.hid hG
 have HC := Lib.hid hC
 have HCK := Lib.hid hck
 clear hR hL hok hG hC hck
 have HYM := Lib.hid fun w3 y (is : Bool) (hi : is = true) => bmust_yes (w := w3) (why := y) hi
 have HNM := Lib.hid fun w3 y (is : Bool) (hi : is = false) => bmust_no (w := w3) (why := y) hi
 go_enter Tryz.func37, Tryz.ntmps37
 go_wp2_with fail
 go_loopw [5, 20] (fun hv v wr => ∃ (k : Nat) (h : Int), v = .int .i64 k ∧ hv = .int .i64 h ∧ k ≤ L.length ∧ 0 ≤ h ∧ h ≤ k ∧ Below w.heap.size w wr ∧ Hid (heightR L 0 = heightR (L.drop k) h)) (fun _ v _ => L.length - (intOf v).toNat)
 case atStart => exact ⟨0, 0, rfl, rfl, Nat.zero_le _, Int.le_refl _, Int.le_refl _, Below.refl _ _, Lib.hid rfl⟩
 case round =>
  obtain ⟨k, h, rfl, rfl, hk, h0, hkh, hb, HT⟩ := hrel
  by_cases hlt : k < L.length
  ·
   have hx : L[k]? = some L[k] := List.getElem?_eq_getElem hlt
   have hsn : heightR (L.drop k) h = if (takesB L[k]).2 = true ∧ (takesB L[k]).1 ≤ h then heightR (L.drop (k + 1)) (h - ((takesB L[k]).1 - 1)) else none := by rw [List.drop_eq_getElem_cons hlt]; rfl
   obtain ⟨hs, hkk⟩ := HK.out _ (List.getElem_mem hlt)
   obtain ⟨b, o, rfl, c0, c1, c2⟩ := (HL.out.self hb).at hx
   obtain ⟨hr0, hr2⟩ := takesB_range L[k]
   generalize L[k] = x at *
   have HT2 := Lib.hid (HT.out.trans hsn)
   clear hsn hx HT
   go_upto_region 5 with fail
   have hbA := (Below.refl wr.heap.size wr).alloc (Nat.le_refl _) (.cells #[.int .u8 x.k, .string x.s, .int .i64 x.n] 50)
   have hn := heap_alloc_new wr (.cells #[.int .u8 x.k, .string x.s, .int .i64 x.n] 50)
   generalize wr.alloc (.cells #[.int .u8 x.k, .string x.s, .int .i64 x.n] 50) = W at *
   have d0 : W.cell? ⟨wr.heap.size, 0, none⟩ = some (.int .u8 x.k) := by rw [Lib.cell_of_heap hn]; rfl
   have d1 : W.cell? ⟨wr.heap.size, 1, none⟩ = some (.string x.s) := by rw [Lib.cell_of_heap hn]; rfl
   have d2 : W.cell? ⟨wr.heap.size, 2, none⟩ = some (.int .i64 x.n) := by rw [Lib.cell_of_heap hn]; rfl
   have HTK := Lib.hid (takesB_any x W ((HG.out.self hb).self hbA) hs hkk)
   have HB := Lib.hid (below_self hb hbA)
   clear c0 c1 c2 hn hbA
   generalize (takesB x).1 = kk at *
   generalize (takesB x).2 = ok at *
   cases ok with
   | false =>
    have HRR : Hid (Ex.no 13 = R) := Lib.hid (by have h9 : heightR L 0 = none := HT2.out.trans (if_neg (by simp)); have := HR.out; rwa [h9, if_pos (.inl (by simp))] at this)
    go_wp2_with (go_at_call 57; refine HTK.out.mono ?_; rintro e w2 ⟨rfl, hb2⟩; refine Hid.out ?_)
    refine Lib.hid ?_
    have HF := Lib.hid (below_self HB.out hb2)
    clear hb2
    go_wp2_with (go_at_call 26; refine (bmust_no rfl).mono ?_; rintro e w3 ⟨rfl, rfl⟩; exact ⟨rfl, intP_no HRR.out, HF.out⟩)
   | true =>
    by_cases hle : kk ≤ h
    ·
     have HT3 := Lib.hid (HT2.out.trans (if_pos ⟨rfl, hle⟩))
     go_wp2_with (go_at_call 57; refine HTK.out.mono ?_; rintro e w2 ⟨rfl, hb2⟩; refine Hid.out ?_)
     refine Lib.hid ?_
     have HF := Lib.hid (below_self HB.out hb2)
     clear hb2 HT2
     have HN := Lib.hid fun w3 y (is : Bool) (hi : is = true) => bmust_yes (w := w3) (why := y) hi
     go_wp2_with (go_at_call 26; go_loud (refine (HN.out _ _ _ (by first | (simp; done) | (simp; omega))).mono ?_; rintro e w3 ⟨rfl, rfl⟩; refine Hid.out ?_))
     refine Lib.hid ?_
     go_wp2_with fail
     exact ⟨⟨k + 1, h - (kk - 1), by go_num, by go_num, by omega, by omega, by omega, HF.out, HT3⟩, by simp [intOf]; omega⟩
    ·
     have HRR : Hid (Ex.no 13 = R) := Lib.hid (by have h9 : heightR L 0 = none := HT2.out.trans (if_neg (by simp; omega)); have := HR.out; rwa [h9, if_pos (.inl (by simp))] at this)
     go_wp2_with (go_at_call 57; refine HTK.out.mono ?_; rintro e w2 ⟨rfl, hb2⟩; refine Hid.out ?_)
     refine Lib.hid ?_
     have HF := Lib.hid (below_self HB.out hb2)
     clear hb2
     have HN := Lib.hid fun w3 y (is : Bool) (hi : is = false) => bmust_no (w := w3) (why := y) hi
     go_wp2_with (go_at_call 26; go_loud (refine (HN.out _ _ _ (by first | (simp; done) | (simp; omega))).mono ?_; rintro e w3 ⟨rfl, rfl⟩; exact ⟨rfl, intP_no HRR.out, HF.out⟩))
  ·
   obtain rfl : k = L.length := by omega
   have hh : heightR L 0 = some h := by rw [HT.out, List.drop_length]; rfl
   by_cases h1 : h = 1
   rotate_left
   ·
    have e1 : (h == 1) = false := beq_eq_false_iff_ne.2 h1
    have HRR : Hid (Ex.no 13 = R) := Lib.hid (by have := HR.out; rwa [hh, if_pos (.inl (by simpa using h1))] at this)
    clear hh h1
    go_wp2_with (go_at_call 26; refine (bmust_no rfl).mono ?_; rintro e w3 ⟨rfl, rfl⟩; exact ⟨rfl, intP_no HRR.out, hb⟩)
   subst h1
   by_cases h64 : (L.length : Int) ≤ 64
   rotate_left
   ·
    have HRR : Hid (Ex.no 13 = R) := Lib.hid (by have := HR.out; rwa [if_pos (.inr (by omega))] at this)
    clear hh
    have HN := Lib.hid fun w3 y (is : Bool) (hi : is = false) => bmust_no (w := w3) (why := y) hi
    go_wp2_with (go_at_call 26; go_loud (refine (HN.out _ _ _ (by first | (simp; done) | (simp; omega))).mono ?_; rintro e w3 ⟨rfl, rfl⟩; exact ⟨rfl, intP_no HRR.out, hb⟩))
   have HR2 := Lib.hid (by have := HR.out; rwa [if_neg (by rw [hh]; simp; omega)] at this)
   have HH := Lib.hid hh
   clear hh HR HT hlt hk hkh h0
   have HN := Lib.hid fun w3 y (is : Bool) (hi : is = true) => bmust_yes (w := w3) (why := y) hi
   go_wp2_with (go_at_call 26; go_loud (refine (HN.out _ _ _ (by first | (simp; done) | (simp; omega))).mono ?_; rintro e w3 ⟨rfl, rfl⟩; refine Hid.out ?_))
   refine Lib.hid ?_
   by_cases h16 : (C.length : Int) ≤ 16
   rotate_left
   ·
    have HRR : Hid (Ex.no 3 = R) := Lib.hid (by have := HR2.out; rwa [if_pos (by omega)] at this)
    have HN := Lib.hid fun w3 y (is : Bool) (hi : is = false) => bmust_no (w := w3) (why := y) hi
    go_wp2_with (go_at_call 26; go_loud (refine (HN.out _ _ _ (by first | (simp; done) | (simp; omega))).mono ?_; rintro e w3 ⟨rfl, rfl⟩; exact ⟨rfl, intP_no HRR.out, hb⟩))
   have HR3 := Lib.hid (by have := HR2.out; rwa [if_neg (by omega)] at this)
   clear HR2
   have HN := Lib.hid fun w3 y (is : Bool) (hi : is = true) => bmust_yes (w := w3) (why := y) hi
   go_wp2_with (go_at_call 26; go_loud (refine (HN.out _ _ _ (by first | (simp; done) | (simp; omega))).mono ?_; rintro e w3 ⟨rfl, rfl⟩; refine Hid.out ?_))
   refine Lib.hid ?_
   have HB1 := Lib.hid hb
   clear hb
   go_wp2_with fail
   go_loopw [55] (fun v wr => ∃ k : Nat, v = .int .i64 k ∧ k ≤ L.length ∧ Below w.heap.size w wr ∧ Hid ((L.take k).all (inR C.length) = true)) (fun v _ => L.length - (intOf v).toNat)
   case atStart => exact ⟨0, rfl, Nat.zero_le _, HB1.out, Lib.hid rfl⟩
   case round =>
    obtain ⟨k, rfl, hk, hb, HT⟩ := hrel
    by_cases hlt : k < L.length
    ·
     have hx : L[k]? = some L[k] := List.getElem?_eq_getElem hlt
     have hsn : (L.take (k + 1)).all (inR C.length) = inR C.length L[k] := by rw [List.take_succ_eq_append_getElem hlt, List.all_append, HT.out]; simp
     have hno := all_no (p := inR C.length) hlt
     obtain ⟨b, o, rfl, c0, c1, c2⟩ := (HL.out.self hb).at hx
     generalize L[k] = x at *
     have HSN := Lib.hid hsn
     have HNO := Lib.hid hno
     clear hsn hx HT hno
     go_upto_region 14 with fail
     have hbA := (Below.refl wr.heap.size wr).alloc (Nat.le_refl _) (.cells #[.int .u8 x.k, .string x.s, .int .i64 x.n] 50)
     have hn := heap_alloc_new wr (.cells #[.int .u8 x.k, .string x.s, .int .i64 x.n] 50)
     generalize wr.alloc (.cells #[.int .u8 x.k, .string x.s, .int .i64 x.n] 50) = W at *
     have d0 : W.cell? ⟨wr.heap.size, 0, none⟩ = some (.int .u8 x.k) := by rw [Lib.cell_of_heap hn]; rfl
     have d1 : W.cell? ⟨wr.heap.size, 1, none⟩ = some (.string x.s) := by rw [Lib.cell_of_heap hn]; rfl
     have d2 : W.cell? ⟨wr.heap.size, 2, none⟩ = some (.int .i64 x.n) := by rw [Lib.cell_of_heap hn]; rfl
     have HB := Lib.hid (below_self hb hbA)
     clear c0 c1 c2 hn hbA hb
     by_cases h6 : x.k = 6
     ·
      have hin := inR_yes h6 (n := C.length)
      rw [h6] at d0
      unfold emptyS at hin
      clear h6
      cases se : x.s.toList.isEmpty with
      | false =>
       rw [se] at hin
       have HRR : Hid (Ex.no 2 = R) := Lib.hid (by have := HR3.out; rwa [if_pos (HNO.out hin)] at this)
       clear hin
       go_wp2_with (go_at_call 26; refine (HNM.out _ _ _ (by first | (simp; done) | (simp; omega))).mono ?_; rintro e w3 ⟨rfl, rfl⟩; exact ⟨rfl, intP_no HRR.out, HB.out⟩)
      | true =>
       rw [se] at hin
       by_cases hn0 : 0 ≤ x.n
       ·
        by_cases hnc : x.n < C.length
        ·
         have HSN2 : Hid ((L.take (k + 1)).all (inR C.length) = true) := Lib.hid (HSN.out.trans (hin.trans (by simp [hn0, hnc])))
         clear hin
         go_wp2_with (go_at_call 26; refine (HYM.out _ _ _ (by first | (simp; done) | (simp; omega))).mono ?_; rintro e w3 ⟨rfl, rfl⟩; refine Hid.out ?_)
         refine Lib.hid ?_
         go_wp2_with fail
         exact ⟨⟨k + 1, by go_num, by omega, HB.out, HSN2⟩, by simp [intOf]; omega⟩
        ·
         have HRR : Hid (Ex.no 2 = R) := Lib.hid (by have := HR3.out; rwa [if_pos (HNO.out (hin.trans (by simp [hnc])))] at this)
         clear hin
         go_wp2_with (go_at_call 26; refine (HNM.out _ _ _ (by first | (simp; done) | (simp; omega))).mono ?_; rintro e w3 ⟨rfl, rfl⟩; exact ⟨rfl, intP_no HRR.out, HB.out⟩)
       ·
        have HRR : Hid (Ex.no 2 = R) := Lib.hid (by have := HR3.out; rwa [if_pos (HNO.out (hin.trans (by simp [hn0])))] at this)
        clear hin
        go_wp2_with (go_at_call 26; refine (HNM.out _ _ _ (by first | (simp; done) | (simp; omega))).mono ?_; rintro e w3 ⟨rfl, rfl⟩; exact ⟨rfl, intP_no HRR.out, HB.out⟩)
     ·
      have e6 : (x.k != 6) = true := by simp [h6]
      have HSN2 := Lib.hid (HSN.out.trans (inR_no h6))
      clear h6
      go_wp2_with (go_at_call 26; refine (HYM.out _ _ _ (by first | (simp; done) | (simp; omega))).mono ?_; rintro e w3 ⟨rfl, rfl⟩; refine Hid.out ?_)
      refine Lib.hid ?_
      go_wp2_with fail
      exact ⟨⟨k + 1, by go_num, by omega, HB.out, HSN2⟩, by simp [intOf]; omega⟩
    ·
     obtain rfl : k = L.length := by omega
     have hall := HT.out
     rw [List.take_length] at hall
     have HAL := Lib.hid hall
     have HR4 := Lib.hid (by have := HR3.out; rwa [if_neg (by rw [hall]; decide)] at this)
     have HB2 := Lib.hid hb
     clear hall HT hb hlt hk
     go_wp2_with fail
     go_loopw [12, 83] (fun sv v wr => ∃ (k : Nat) (st : List Int), v = .int .i64 k ∧ k ≤ L.length ∧ st.length ≤ k ∧ Below w.heap.size w wr ∧ wr.ownsRow w.heap.size 45 1 sv st.length (kCells st) ∧ Hid (heightR (L.drop k) st.length = some 1) ∧ Hid ((stackR C (L.drop k) st).then (fun st => .ok (st.getD 0 0)) = R)) (fun _ v _ => L.length - (intOf v).toNat)
     case atStart => exact ⟨0, [], rfl, Nat.zero_le _, Nat.le_refl _, HB2.out, World.ownsRow_nil _ _ _ _, Lib.hid HH.out, Lib.hid HR4.out⟩
     case round =>
      obtain ⟨k, st, rfl, hk, hsk, hb, hown, HT, HS⟩ := hrel
      by_cases hlt : k < L.length
      ·
       have hx : L[k]? = some L[k] := List.getElem?_eq_getElem hlt
       have hin : inR C.length L[k] = true := (List.all_eq_true.1 HAL.out) _ (List.getElem_mem hlt)
       obtain ⟨hs, hkk⟩ := HK.out _ (List.getElem_mem hlt)
       have ht := HT.out
       have hst := HS.out
       rw [List.drop_eq_getElem_cons hlt] at ht hst
       obtain ⟨b, o, rfl, c0, c1, c2⟩ := (HL.out.self hb).at hx
       obtain ⟨hr0, hr2⟩ := takesB_range L[k]
       have h2k := takesB_two (t := L[k]) hkk.1
       generalize L[k] = x at *
       rw [heightR] at ht
       rw [stackR] at hst
       clear hx HT HS
       obtain ⟨hta, htl, ht⟩ : (takesB x).2 = true ∧ (takesB x).1 ≤ st.length ∧ heightR (L.drop (k + 1)) (st.length - ((takesB x).1 - 1)) = some 1 := by
        split at ht
        ·
         rename_i h; exact ⟨h.1, h.2, ht⟩
        ·
         cases ht
       go_upto_region 20 with fail
       have hbA := (Below.refl wr.heap.size wr).alloc (Nat.le_refl _) (.cells #[.int .u8 x.k, .string x.s, .int .i64 x.n] 50)
       have hn := heap_alloc_new wr (.cells #[.int .u8 x.k, .string x.s, .int .i64 x.n] 50)
       have HOA := Lib.hid (own_keepA hown fun j hj hj2 => hbA.block j hj2)
       obtain ⟨so, scap, rfl⟩ := own_shape hown
       clear hown
       generalize wr.alloc (.cells #[.int .u8 x.k, .string x.s, .int .i64 x.n] 50) = W at *
       have d0 : W.cell? ⟨wr.heap.size, 0, none⟩ = some (.int .u8 x.k) := by rw [Lib.cell_of_heap hn]; rfl
       have d1 : W.cell? ⟨wr.heap.size, 1, none⟩ = some (.string x.s) := by rw [Lib.cell_of_heap hn]; rfl
       have d2 : W.cell? ⟨wr.heap.size, 2, none⟩ = some (.int .i64 x.n) := by rw [Lib.cell_of_heap hn]; rfl
       have HTK := Lib.hid (takesB_any x W ((HG.out.self hb).self hbA) hs hkk)
       have HBA := Lib.hid hbA
       have HBR := Lib.hid hb
       have HB := Lib.hid (below_self hb hbA)
       have hwW := HB.out.size
       clear c0 c1 c2 hn hbA hb
       by_cases h6 : x.k = 6
       ·
        rw [if_pos h6] at hst
        have ht6 : (takesB x).1 = 0 := by unfold takesB; rw [if_pos h6]
        rw [ht6] at ht
        rw [inR_yes h6] at hin
        rw [h6] at d0
        obtain ⟨m, hm⟩ : ∃ m : Nat, x.n = m := ⟨x.n.toNat, by simp at hin; omega⟩
        have hmc : m < C.length := by simp [hm] at hin; exact hin.2
        have hc : C[m]? = some C[m] := List.getElem?_eq_getElem hmc
        have hge : (C.getD x.n.toNat ⟨⟨#[]⟩, 0⟩).k = C[m].k := by rw [hm, Int.toNat_natCast, List.getD_eq_getElem?_getD, hc]; rfl
        rw [hge] at hst
        obtain ⟨cb, cf, rfl, k0, k1⟩ := (HC.out.self HB.out).at hc
        rw [hm] at d2
        generalize C[m] = cl at *
        have HT2 := Lib.hid ht
        have HS2 := Lib.hid hst
        have hmi : (m : Int) < C.length := by omega
        clear hin ht hst hge h6 ht6 hta htl hc h2k HTK d1 k0
        obtain ⟨i0, hi0, hz0, hz1, hz2⟩ := info_parts infoK
        have hoA := HOA.out
        go_wp2_with (at_builtin; refine wpList_append_own_at _ rfl _ _ 30 rfl w.heap.size 45 i0 _ 1 1 Tryz.underlying30 hi0 hz0 hz1 hz2 rfl (by decide) (.slice so st.length scap) st.length (kCells st) rfl (hoA.alloc _) ⟨W.heap.size, 0, none⟩ 1 1 [.int .u8 cl.k] rfl rfl ?c1 ?c2 ?c3 ?c4 ?c5 ?_)
        case c1 =>
         intro j u hj
         match j, hj with
         | 0, hj => simp at hj; subst hj; simp [Addr.add]
         | (j + 1), hj => simp at hj
        case c2 => intro u hu; simp at hu; rcases hu with rfl; rfl
        case c3 => unfold maxLen; omega
        case c4 => omega
        case c5 => simp; omega
        intro v' w5 hown5 hg5 _ _
        have HB5 := Lib.hid (below_ownA (below_self HB.out ((Below.refl W.heap.size W).alloc (Nat.le_refl _) (.cells #[.int .u8 cl.k] 45))) hg5 (own_base hoA) (by simp; omega))
        have HO5 := Lib.hid hown5
        clear hoA hg5 hi0 hz0 hz1 hz2 hown5
        go_wp2_with fail
        go_roundw
        case rel => exact ⟨k + 1, st ++ [cl.k], by go_num, by omega, by simp; omega, HB5.out, by simpa [kCells] using HO5.out, Lib.hid (by have := HT2.out; rw [List.length_append]; simpa using this), Lib.hid HS2.out⟩
        case measure => simp [intOf]; omega
       ·
        rw [if_neg h6] at hst
        have e6 : (x.k == 6) = false := by simp [h6]
        obtain ⟨kn, hkn⟩ : ∃ kn : Nat, (takesB x).1 = kn := ⟨(takesB x).1.toNat, by omega⟩
        have h2k := h2k h6 hta
        rw [hkn] at hst ht htl HTK h2k
        rw [hta] at HTK
        rw [Int.toNat_natCast] at hst
        obtain ⟨a, ha⟩ : ∃ a : Nat, st.length = a + kn := ⟨st.length - kn, by omega⟩
        have haI : IntKind.i64.wrap ((st.length : Int) - kn) = a := by rw [show (st.length : Int) - kn = a by omega]; exact IntWalk.i64_in _ (by omega)
        have HA := Lib.hid ha
        clear ha
        go_wp2_with (go_at_call 57; refine HTK.out.mono ?_; rintro e w2 ⟨rfl, hb2⟩; refine Hid.out ?_)
        refine Lib.hid ?_
        have HB2 := Lib.hid (below_self HB.out hb2)
        have HO2 := Lib.hid (own_keepA HOA.out fun j hj hj2 => hb2.block j hj2)
        have e0 := keep_cellP hb2 d0
        obtain ⟨hq1, hq2, hq3, hq4⟩ := own_two HO2.out
        obtain ⟨s1, s2, c2, hs1, hs2, HSP⟩ := slice_parts HA.out hq1 hq3 hq4
        have HSP := Lib.hid HSP
        have hda : (st.drop a).length = kn := by have := HA.out; rw [List.length_drop]; omega
        have htl2 : (st.take a).length = a := by have := HA.out; rw [List.length_take]; omega
        rw [show st.length - kn = a by have := HA.out; omega] at hst
        have HKD := Lib.hid fun (wx : World) (hb : Below w2.heap.size w2 wx) => kind_len (n := kn) (cap := c2) hda.symm (HSP.out _ st wx (own_keepA HO2.out fun j hj hj2 => hb.block j hj2)).2.2 hkk (fun h1 h2 => by have := h2k h1 h2; omega) (by omega)
        have hbx := hb2.size
        clear hq1 hq2 hq3 hq4 d0 d1 d2 hb2 HTK
        go_upto_region 24 with fail
        have ha := HA.out
        have ha64 : a ≤ 64 := by omega
        have HT2 : Hid (heightR (L.drop (k + 1)) ((a + 1 : Nat) : Int) = some 1) := Lib.hid (by rw [← ht]; congr 1; omega)
        have hsa : a ≤ k := by omega
        clear ha haI ht htl hsk
        generalize st.length = n at *
        cases hkr : kindR x.k (st.drop a) with
        | no y =>
         rw [hkr] at hst
         have HRR : Hid (Ex.no y = R) := Lib.hid hst
         have HKD := Lib.hid fun wx hb => calls_bad hkr (HKD.out wx hb)
         clear hkr hst
         refine wp_region_any (by kernel_rfl) ?_
         change wpAny _ _ _ _ _ _ _ (World.drew _)
         refine tkA (i := 0) (v := ?_) opAt0 ?_ ?_; rotate_left; intro wq; go_simp <;> with_reducible rfl; try simp only [Act.put, List.setIfInBounds_toArray, List.set_cons_zero, List.set_cons_succ]
         refine tkA (i := 1) (v := ?_) opAt1 ?_ ?_; rotate_left; intro wq; go_simp <;> with_reducible rfl; try simp only [Act.put, List.setIfInBounds_toArray, List.set_cons_zero, List.set_cons_succ]
         refine tkA (i := 2) (v := ?_) opAt2 ?_ ?_; rotate_left; intro wq; go_simp <;> with_reducible rfl; try simp only [Act.put, List.setIfInBounds_toArray, List.set_cons_zero, List.set_cons_succ]
         refine tkA (i := 3) (v := .slice s1 a a) opAt3 (fun wq => exec_slice rfl rfl rfl rfl rfl (hs1 wq)) ?_; try simp only [Act.put, List.setIfInBounds_toArray, List.set_cons_zero, List.set_cons_succ]
         refine tkA (i := 4) (v := ?_) opAt4 ?_ ?_; rotate_left; intro wq; go_simp <;> with_reducible rfl; try simp only [Act.put, List.setIfInBounds_toArray, List.set_cons_zero, List.set_cons_succ]
         refine tkA (i := 6) (v := ?_) opAt6 ?_ ?_; rotate_left; intro wq; go_simp <;> with_reducible rfl; try simp only [Act.put, List.setIfInBounds_toArray, List.set_cons_zero, List.set_cons_succ]
         refine tkA (i := 7) (v := ?_) opAt7 ?_ ?_; rotate_left; intro wq; go_simp <;> with_reducible rfl; try simp only [Act.put, List.setIfInBounds_toArray, List.set_cons_zero, List.set_cons_succ]
         refine tkA (i := 8) (v := .slice s2 kn c2) opAt8 (fun wq => exec_slice rfl rfl rfl rfl rfl (hs2 wq)) ?_; try simp only [Act.put, List.setIfInBounds_toArray, List.set_cons_zero, List.set_cons_succ]
         refine wpAny_ready (rs := [5]) (by kernel_rfl) (by simp) (AllReady.cons opAt5 (fun K hK => ?_) AllReady.nil)
         go_simp
         refine hK _ _ ?_
         clear hK K
         try simp only [Act.put, List.setIfInBounds_toArray, List.set_cons_zero, List.set_cons_succ]
         refine wpAny_ready (rs := [9]) (by kernel_rfl) (by simp) (AllReady.cons opAt9 (fun K hK => ?_) AllReady.nil)
         go_simp
         go_at_call 58
         refine (HKD.out _ (Below.refl _ _).drew).mono ?_
         rintro e w3 ⟨rfl, hb3⟩
         exact ⟨rfl, intP_no HRR.out, below_self (bdn HB2.out 1) hb3⟩
        | ok m =>
         rw [hkr] at hst
         have HS2 := Lib.hid hst
         have HKD := Lib.hid fun wx hb => calls_ok hkr (HKD.out wx hb)
         clear hkr hst
         refine wp_region_any (by kernel_rfl) ?_
         change wpAny _ _ _ _ _ _ _ (World.drew _)
         refine tkA (i := 0) (v := ?_) opAt0 ?_ ?_; rotate_left; intro wq; go_simp <;> with_reducible rfl; try simp only [Act.put, List.setIfInBounds_toArray, List.set_cons_zero, List.set_cons_succ]
         refine tkA (i := 1) (v := ?_) opAt1 ?_ ?_; rotate_left; intro wq; go_simp <;> with_reducible rfl; try simp only [Act.put, List.setIfInBounds_toArray, List.set_cons_zero, List.set_cons_succ]
         refine tkA (i := 2) (v := ?_) opAt2 ?_ ?_; rotate_left; intro wq; go_simp <;> with_reducible rfl; try simp only [Act.put, List.setIfInBounds_toArray, List.set_cons_zero, List.set_cons_succ]
         refine tkA (i := 3) (v := .slice s1 a a) opAt3 (fun wq => exec_slice rfl rfl rfl rfl rfl (hs1 wq)) ?_; try simp only [Act.put, List.setIfInBounds_toArray, List.set_cons_zero, List.set_cons_succ]
         refine tkA (i := 4) (v := ?_) opAt4 ?_ ?_; rotate_left; intro wq; go_simp <;> with_reducible rfl; try simp only [Act.put, List.setIfInBounds_toArray, List.set_cons_zero, List.set_cons_succ]
         refine tkA (i := 6) (v := ?_) opAt6 ?_ ?_; rotate_left; intro wq; go_simp <;> with_reducible rfl; try simp only [Act.put, List.setIfInBounds_toArray, List.set_cons_zero, List.set_cons_succ]
         refine tkA (i := 7) (v := ?_) opAt7 ?_ ?_; rotate_left; intro wq; go_simp <;> with_reducible rfl; try simp only [Act.put, List.setIfInBounds_toArray, List.set_cons_zero, List.set_cons_succ]
         refine tkA (i := 8) (v := .slice s2 kn c2) opAt8 (fun wq => exec_slice rfl rfl rfl rfl rfl (hs2 wq)) ?_; try simp only [Act.put, List.setIfInBounds_toArray, List.set_cons_zero, List.set_cons_succ]
         refine wpAny_ready (rs := [5]) (by kernel_rfl) (by simp) (AllReady.cons opAt5 (fun K hK => ?_) AllReady.nil)
         go_simp
         refine hK _ _ ?_
         clear hK K
         try simp only [Act.put, List.setIfInBounds_toArray, List.set_cons_zero, List.set_cons_succ]
         refine wpAny_ready (rs := [9]) (by kernel_rfl) (by simp) (AllReady.cons opAt9 (fun K hK => ?_) AllReady.nil)
         go_simp
         go_at_call 58
         refine (HKD.out _ (Below.refl _ _).drew).mono ?_
         rintro e w3 ⟨rfl, hb3⟩
         refine hK _ _ ?_
         clear hK K
         try simp only [Act.put, List.setIfInBounds_toArray, List.set_cons_zero, List.set_cons_succ]
         have HO3 := Lib.hid (own_keepA HO2.out fun j hj hj2 => (show w3.heap[j]? = w2.heap[j]? from hb3.block j hj2))
         have HB3 : Hid (Below w.heap.size w w3) := Lib.hid (below_self (bdn HB2.out 1) hb3)
         clear hb3
         refine wpAny_ready (rs := [10]) (by kernel_rfl) (by simp) (AllReady.cons opAt10 (fun K hK => ?_) AllReady.nil)
         go_simp
         refine hK _ _ ?_
         clear hK K
         try simp only [Act.put, List.setIfInBounds_toArray, List.set_cons_zero, List.set_cons_succ]
         refine wpAny_ready (rs := [11]) (by kernel_rfl) (by simp) (AllReady.cons opAt11 (fun K hK => ?_) AllReady.nil)
         rw [if_pos (by kernel_rfl)]
         obtain ⟨i0, hi0, hz0, hz1, hz2⟩ := info_parts infoK
         obtain ⟨p1, p2, _⟩ := HSP.out _ st _ (HO3.out.alloc (.cells #[.int .u8 m] 45))
         have hw3 := HB3.out.size
         refine wp_append_grows (.tmp 111) (.tmp 118) 30 rfl 45 i0 _ 1 1 Tryz.underlying30 hi0 hz0 hz1 hz2 rfl (by decide) s1 a a (kCells (st.take a)) (by simp [Act.eval]) (fun h => ⟨p1 h, p1 h⟩) (by unfold kCells; rw [List.length_map, htl2]; omega) p2 ⟨w3.heap.size, 0, none⟩ 1 1 [.int .u8 m] (by simp [Act.eval]) rfl ?c1 ?c2 (by omega) (by unfold maxLen; omega) (by omega) ?_
         case c1 =>
          intro j u hj
          match j, hj with
          | 0, hj => simp at hj; subst hj; simp [Addr.add]
          | (j + 1), hj => simp at hj
         case c2 => intro u hu; simp at hu; rcases hu with rfl; rfl
         intro v' w5 hown5 hg5
         have HB5 := Lib.hid (below_none (below_self HB3.out ((Below.refl w3.heap.size w3).alloc (Nat.le_refl _) (.cells #[.int .u8 m] 45))) hg5 (by simp; omega))
         have HO5 := Lib.hid (own_mono hown5 (C := w.heap.size) (by simp; omega))
         refine hK _ _ ?_
         clear hK K hown5 hg5 p1 p2 hi0 hz0 hz1 hz2
         try simp only [Act.put, List.setIfInBounds_toArray, List.set_cons_zero, List.set_cons_succ]
         refine tkA (i := 12) (v := ?_) opAt12 ?_ ?_; rotate_left; intro wq; go_simp <;> with_reducible rfl; try simp only [Act.put, List.setIfInBounds_toArray, List.set_cons_zero, List.set_cons_succ]
         refine wpAny_done (by kernel_rfl) ?_ _
         go_wp2_with fail
         go_roundw
         case rel => exact ⟨k + 1, st.take a ++ [m], by go_num, by omega, by rw [List.length_append, htl2]; simp; omega, HB5.out, (by rw [List.length_append, htl2]; unfold kCells; rw [List.map_append]; exact HO5.out), Lib.hid (by have := HT2.out; rw [List.length_append, htl2]; exact this), Lib.hid HS2.out⟩
         case measure => simp [intOf]; omega
      ·
       obtain rfl : k = L.length := by omega
       have ht := HT.out
       have hst := HS.out
       rw [List.drop_length] at ht hst
       rw [heightR] at ht
       rw [stackR] at hst
       have h1 : st.length = 1 := by injection ht with ht; omega
       obtain ⟨x, rfl⟩ := List.length_eq_one_iff.1 h1
       have HRR : Hid (Ex.ok x = R) := Lib.hid hst
       obtain ⟨ao, c, rfl, _, h0⟩ := own_cells hown
       obtain ⟨g, rfl, _, _, hc⟩ := h0.resolve_left (by simp)
       have k0 := hc 0 _ rfl
       clear ht hst HT HS h1 hown h0 hc hlt hsk hk
       go_wp2_with fail
       go_ret
       exact ⟨intP_ok HRR.out, hb⟩
end Go.Proofs.YtgjfbbmachoolaaGreatDoor.lx
namespace Go.Proofs.YtgjfbbmachoolaaGreatDoor.lx
open Go.RowKit
set_option linter.unusedVariables false
set_option linter.unusedSimpArgs false

/-- the error's number in memory -/
def ErrAt (Q : Nat) (y : Int) (w : World) : Prop := w.heap[Q]? = some (.cells #[.int .i64 y] 33 (0, 0))
theorem ErrAt.set {Q : Nat} {y : Int} {w : World} (h : ErrAt Q y w) (z : Int) : ErrAt Q z (w.setCell ⟨Q, 0, none⟩ (.int .i64 z)) := by
 have h1 : Boxed w Q 33 (.int .i64 y) := h
 exact h1.set _
set_option maxHeartbeats 2000000 in
set_option maxRecDepth 100000 in
theorem bcatch_panicking {Q : Nat} {y v : Int} {older : List PanicEntry} {w : World} (h : ErrAt Q v w) :
  CallsD Tryz.prog 40 #[.pointer (some ⟨Q, 0, none⟩)] (.panicking (flE y :: older)) w fun e u' w' =>
   e = .returned (.tuple #[]) ∧ u' = .panicking ({ flE y with recovered := true } :: older) ∧ w' = w.setCell ⟨Q, 0, none⟩ (.int .i64 y) := by
 unfold flE
 refine callsD_of_wpS Tryz.func40 rfl fun c₀ cs hu => ?_
 apply wpS_seq
 apply wpS_region
 simp [wpOpsS, go_sem, recoverD, hu, Tryz.ntmps40, Exit.thenS]
 apply wpS_seq
 apply wpS_region
 simp [wpOpsS, go_sem, Exit.thenS]
 refine wpS_cond (t := true) (by simp [Act.eval, Array.replicate, go_sem]) ?_
 simp only [if_true]
 refine wpS_of_wp ?_
 have hta : ∀ w, (Instr.typeAssert (.iface 33 (.int .i64 y)) 20 33 true).run Tryz.prog w = .ok (.tuple #[.int .i64 y, .bool true]) w := fun w => by kernel_rfl
 simp only [Array.replicate_succ, Array.replicate_zero, List.push_toArray, List.append_toArray, List.nil_append, List.cons_append, List.setIfInBounds_toArray, List.set_cons_zero, List.set_cons_succ]
 have ky : w.cell? ⟨Q, 0, none⟩ = some (.int .i64 v) := by rw [Lib.cell_of_heap h]; rfl
 have kf : w.frozen? ⟨Q, 0, none⟩ = false := Lib.frozen_of_heap h 0
 go_wp2
 exact ⟨rfl, _, rfl, _, results_none rfl _ _ _, rfl, rfl, rfl⟩
set_option maxHeartbeats 2000000 in
set_option maxRecDepth 100000 in
theorem bcatch_idle (a : Value) (w : World) :
  CallsD Tryz.prog 40 #[a] .returning w fun e u' w' => e = .returned (.tuple #[]) ∧ u' = .returning ∧ w' = w := by
 refine callsD_of_wpS Tryz.func40 rfl fun c₀ cs hu => ?_
 apply wpS_seq
 apply wpS_region
 simp [wpOpsS, go_sem, recoverD, hu, Tryz.ntmps40, Exit.thenS]
 apply wpS_seq
 apply wpS_region
 simp [wpOpsS, go_sem, Exit.thenS]
 refine wpS_cond (t := false) (by simp [Act.eval, Array.replicate, go_sem]) ?_
 simp only [Bool.false_eq_true, if_false]
 refine wpS_of_wp (wp_skip ?_)
 cases c₀
 simp_all [bodyPostS, results, Tryz.results40]
theorem results_err {fn : Func} {p : Tmp} (hf : fn.results = #[.cell p 33]) {tmps : Array Value} {Q : Nat} {y : Int} {w : World} (hc : ErrAt Q y w) (hq : tmps.getD p undef = .pointer (some ⟨Q, 0, none⟩)) :
  (results fn tmps).run Tryz.prog w = .ok (.int .i64 y) w := by
 have hc : w.cell? ⟨Q, 0, none⟩ = some (.int .i64 y) := by rw [Lib.cell_of_heap hc]; rfl
 simp [results, hf, go_sem]
 rw [show tmps[p]?.getD undef = tmps.getD p undef by simp, hq]
 simp [go_sem, hc]
/-- what is caught -/
def CaughtP (R : Int → World → Prop) (w : World) (e : Ending) (w' : World) : Prop := ∃ y w1, e = .returned (.int .i64 y) ∧ R y w1 ∧ ErrAt w.heap.size 0 w1 ∧ w' = w1.setCell ⟨w.heap.size, 0, none⟩ (.int .i64 y)
/-- how something ends: with an error's number, or without -/
def EndsP (R : Int → World → Prop) (e : Ending) (w' : World) : Prop := (e = .returned (.tuple #[]) ∧ R 0 w') ∨ ∃ y, e = .panicked [flE y] ∧ R y w'

set_option maxHeartbeats 4000000 in
set_option maxRecDepth 100000 in
theorem caught_any {g : Nat} {caps : Array Value} {R : Int → World → Prop} {w : World} (hg : ∀ args w, (callFunc g args).run Tryz.prog w = .ok (.enter g args) w)
  (hdo : Calls Tryz.prog g caps (w.alloc (.cells #[.int .i64 0] 33)) fun e w' => EndsP R e w' ∧ ErrAt w.heap.size 0 w') :
  Calls Tryz.prog 19 #[.func (.func g) #[] caps] w fun e w' => CaughtP R w e w' := by
 have hmf : ∀ (fn : Fn) (first cap : Array Value) (w : World), (Instr.makeFunc fn first cap).run Tryz.prog w = .ok (.func fn first cap) w := fun _ _ _ _ => rfl
 have HD := Lib.hid hdo
 clear hdo
 go_enter_defers Tryz.func19, Tryz.ntmps19
 go_wp2_with (go_at_fn g; go_loud (refine HD.out.mono ?_; rintro e w2 ⟨⟨rfl, hr⟩ | ⟨y, rfl, hr⟩, hq⟩ <;> refine Hid.out ?_))
 all_goals refine Lib.hid ?_
 ·
  have cq : w2.cell? ⟨w.heap.size, 0, none⟩ = some (.int .i64 0) := by rw [Lib.cell_of_heap hq]; rfl
  have fq : w2.frozen? ⟨w.heap.size, 0, none⟩ = false := Lib.frozen_of_heap hq 0
  have HR := Lib.hid hr
  have HQ := Lib.hid hq
  clear hr hq
  go_wp2_with fail
  refine leaves_cons (f := 40) (args := #[.pointer (some ⟨w.heap.size, 0, none⟩)]) (by simp) (by simp [go_sem]) ?_
  refine (bcatch_idle _ _).mono ?_
  rintro e u' w5 ⟨rfl, rfl, rfl⟩
  show Leaves _ _ _ _ [] .returning _
  exact ⟨_, results_err rfl (HQ.out.set 0) rfl, 0, w2, rfl, HR.out, HQ.out, rfl⟩
 ·
  refine leaves_cons (f := 40) (args := #[.pointer (some ⟨w.heap.size, 0, none⟩)]) (by simp) (by simp [go_sem]) ?_
  refine (bcatch_panicking (older := []) hq).mono ?_
  rintro e u' w5 ⟨rfl, rfl, rfl⟩
  show Leaves _ _ _ _ [] .returning _
  exact ⟨_, results_err rfl (hq.set y) rfl, y, w2, rfl, hr, hq, rfl⟩
end Go.Proofs.YtgjfbbmachoolaaGreatDoor.lx
namespace Go.Proofs.YtgjfbbmachoolaaGreatDoor.lx
open Go.RowKit

set_option maxHeartbeats 2000000 in
set_option maxRecDepth 100000 in
theorem runes_any (s : ByteArray) (w : World) (hs : s.size ≤ 1099511627776) :
  Calls Tryz.prog 61 #[.string s] w fun e w' => e = .returned (.int .i64 (gl (B s)).length) ∧ Below w.heap.size w w' := by
 go_enter Tryz.func61, Tryz.ntmps61
 go_wp2_with fail
 go_loopw [3] (fun v wr => ∃ (pos k : Nat), v = .int .i64 k ∧ wr.heap[w.heap.size]? = some (.stringIter s pos) ∧ Below w.heap.size w wr ∧ Hid (k + (gl (B (s.extract pos s.size))).length = (gl (B s)).length) ∧ k ≤ pos ∧ pos ≤ s.size) (fun _ wr => s.size - wr.iterPos w.heap.size)
 case atStart =>
  refine ⟨0, 0, rfl, ?_, (Below.refl _ w).alloc (Nat.le_refl _) _, Lib.hid (by rw [all_rest]; simp), Nat.le_refl _, by omega⟩
  have := World.iter_heap w s 0
  simpa using this
 case round =>
  obtain ⟨pos, k, rfl, hit, hbr, HA, hkp, hps⟩ := hrel
  by_cases hp : pos < s.size
  ·
   have hnxt : ∀ ty, (Instr.next (.pointer (some ⟨w.heap.size, 0, none⟩)) true ty).run Tryz.prog wr = _ := fun ty => Lib.run_next_any_at wr w.heap.size s pos ty hit hp
   have hwd : 1 ≤ (Utf8.decode s pos).2 := by rw [← dn_rest s pos hp]; exact (dn_bounds _ (by rw [rest_size]; omega)).1
   have hwe : pos + (Utf8.decode s pos).2 ≤ s.size := by
    have := (dn_bounds (s.extract pos s.size) (by rw [rest_size]; omega)).2.2
    rw [dn_rest s pos hp, rest_size] at this
    omega
   have hg : (gl (B (s.extract pos s.size))).length = (gl (B (s.extract (pos + (Utf8.decode s pos).2) s.size))).length + 1 := by
    rw [glB_cons (by rw [rest_size]; omega), adv_rest s pos hp, List.length_cons]
   obtain ⟨q, hq⟩ : ∃ q, pos + (Utf8.decode s pos).2 = q := ⟨_, rfl⟩
   have hit2 := Lib.iterAt_heap wr w.heap.size s pos q hit
   have hbr2 := Lib.below_iterAt hbr (k := w.heap.size) (Nat.le_refl _) s q
   rw [hq] at hnxt hwe hg
   have HM : Hid (s.size - q < s.size - wr.iterPos w.heap.size) := Lib.hid (by simp only [World.iterPos, hit]; omega)
   have HN : Hid (k + 1 + (gl (B (s.extract q s.size))).length = (gl (B s)).length) := Lib.hid (by have := HA.out; omega)
   have hpq : pos + 1 ≤ q := by omega
   clear HA hq hwd hbr hg
   go_wp2_with fail
   exact ⟨⟨q, k + 1, by go_num, hit2, hbr2, HN, by omega, hwe⟩, by simp only [World.iterPos, hit2]; exact HM.out⟩
  ·
   have hnxt : ∀ ty, (Instr.next (.pointer (some ⟨w.heap.size, 0, none⟩)) true ty).run Tryz.prog wr = _ := fun ty => Lib.run_next_end_at wr w.heap.size s pos ty hit hp
   have HF : Hid ((k : Int) = ((gl (B s)).length : Int)) := Lib.hid (by
    have := HA.out
    rw [glB_nil (by rw [rest_size]; omega)] at this
    simp at this
    omega)
   clear HA
   go_wp2_with fail
   go_ret
   exact ⟨ret_int HF.out, hbr⟩
end Go.Proofs.YtgjfbbmachoolaaGreatDoor.lx
namespace Go.Proofs.YtgjfbbmachoolaaGreatDoor.lx
open Go.RowKit

/-- what Parse computes -/
def parseR (s : ByteArray) : Qry × Int × Int :=
 if (lexR s).2.1 ≠ 0 then (Qry.none, (lexR s).2.1, (lexR s).2.2)
 else match queryR (gl (B s)).length (lexR s).1 with
  | .bad y p => (Qry.none, y, p)
  | .ok q => if checkR q ≠ 0 then (Qry.none, 13, 0) else (q, 0, 0)
/-- what it comes to -/
def ParseP (w : World) (R : Qry × Int × Int) (e : Ending) (w' : World) : Prop :=
 ∃ v, e = .returned (.tuple #[v, .int .i64 R.2.1, .int .i64 R.2.2]) ∧ QryV w.heap.size R.1 v w' ∧ Below w.heap.size w w'
theorem results3 {fn : Func} {a b c : Tmp} (hf : fn.results = #[.cell a 26, .cell b 33, .cell c 3]) {tmps : Array Value} {Q : Nat} {v : Array Value} {y p : Int} {w : World} (h : PHas Q v y p w) (hv : v.size = 7)
  (ha : tmps.getD a undef = .pointer (some ⟨Q, 0, none⟩)) (hb : tmps.getD b undef = .pointer (some ⟨Q + 1, 0, none⟩)) (hc : tmps.getD c undef = .pointer (some ⟨Q + 2, 0, none⟩)) :
  (results fn tmps).run Tryz.prog w = .ok (.tuple #[.agg v, .int .i64 y, .int .i64 p]) w := by
 have cy : w.cell? ⟨Q + 1, 0, none⟩ = some (.int .i64 y) := by rw [Lib.cell_of_heap h.y]; rfl
 have cp : w.cell? ⟨Q + 2, 0, none⟩ = some (.int .i64 p) := by rw [Lib.cell_of_heap h.p]; rfl
 have hq := run_loadVar_row (P := Tryz.prog) w Q 26 26 v (0, 0) _ h.q Tryz.underlying26 rfl (by rw [show (Tryz.prog.info? 26).map (·.size) = some 7 by kernel_rfl, hv])
 have e : (results fn tmps).run Tryz.prog w = ((asAddr (tmps.getD a undef)).run Tryz.prog w).andThen fun a w₁ => ((loadVar 26 a).run Tryz.prog w₁).andThen fun x w₂ =>
   ((asAddr (tmps.getD b undef)).run Tryz.prog w₂).andThen fun b w₃ => ((loadVar 33 b).run Tryz.prog w₃).andThen fun y w₄ => ((asAddr (tmps.getD c undef)).run Tryz.prog w₄).andThen fun c w₅ => ((loadVar 3 c).run Tryz.prog w₅).andThen fun z w₆ => .ok (.tuple #[x, y, z]) w₆ := by
  simp only [results, hf]
  simp [Sem.run_bind, Result.andThen]
 rw [e, ha, hb, hc]
 simp [asAddr, hq, Result.andThen]
 simp [go_sem, cy, cp]

theorem own_cap {w : World} {B n : Nat} {e : TypeId} {size : Nat} {ao : Option Addr} {cap : Nat} {xs : List Value} (h : w.ownsRow B e size (.slice ao n cap) n xs) : n ≤ cap ∧ cap ≤ 9223372036854775807 := by
 rcases h.2 with ⟨hv, h0⟩ | ⟨g, c, cur, hv, _, _, h1, h2, _⟩
 ·
  injection hv with _ _ hc
  subst hc
  exact ⟨by omega, by decide⟩
 ·
  injection hv with _ _ hc
  subst hc
  exact ⟨h1, h2⟩
theorem trow_below {A : Nat} {ao : Option Addr} {L : List Tok} {w w' : World} (h : TRow A ao L w) (hb : Below A w w') : TRow A ao L w' := h.kept fun k hk => hb.block k hk
theorem PHas.below {Q : Nat} {v : Array Value} {y p : Int} {w w' : World} (h : PHas Q v y p w) (hb : Below w.heap.size w w') : PHas Q v y p w' :=
 ⟨(hb.block _ (Array.getElem?_eq_some_iff.1 h.q).1).trans h.q, (hb.block _ (Array.getElem?_eq_some_iff.1 h.y).1).trans h.y, (hb.block _ (Array.getElem?_eq_some_iff.1 h.p).1).trans h.p⟩
theorem PHas.gb {Q A : Nat} {v : Array Value} {y p : Int} {w w' : World} (h : PHas Q v y p w) (hg : w.grownBy w' (some A)) (hA : Q + 2 < A) : PHas Q v y p w' :=
 ⟨(hg.block _ (Array.getElem?_eq_some_iff.1 h.q).1 (by intro e; injection e; omega)).trans h.q, (hg.block _ (Array.getElem?_eq_some_iff.1 h.y).1 (by intro e; injection e; omega)).trans h.y, (hg.block _ (Array.getElem?_eq_some_iff.1 h.p).1 (by intro e; injection e; omega)).trans h.p⟩
theorem PHas.res {Q : Nat} {a b c d e f g : Value} {y p : Int} {w : World} (h : PHas Q #[a, b, c, d, e, f, g] y p w) : PRes Q w := ⟨⟨_, _, _, _, _, _, _, h.q⟩, ⟨_, h.y⟩, ⟨_, h.p⟩⟩
theorem below_gbB {B A : Nat} {w w1 w2 : World} (h : Below B w w1) (hg : w1.grownBy w2 (some A)) (hA : B ≤ A) (hB : B ≤ w1.heap.size) : Below B w w2 :=
 h.trans ⟨hg.os, hg.tape, hg.output, hg.size, fun k hk => hg.block k (by omega) (by intro e; injection e; omega)⟩
theorem has7 {Q : Nat} {a b c d e f g a' b' c' d' e' f' g' : Value} {y p : Int} {w : World} (h : PHas Q #[a', b', c', d', e', f', g'] y p w) : PHas Q #[a, b, c, d, e, f, g] y p (set7 Q a b c d e f g w) :=
 ⟨set7_at h.q, (set7_ne (by omega)).trans h.y, (set7_ne (by omega)).trans h.p⟩
theorem below7 {Q : Nat} {a b c d e f g : Value} {w w' : World} (h : Below Q w w') : Below Q w (set7 Q a b c d e f g w') := by
 unfold set7
 exact ((((((h.setCell (p := ⟨Q, 0, none⟩) (Nat.le_refl _) _).setCell (p := ⟨Q, 1, none⟩) (Nat.le_refl _) _).setCell (p := ⟨Q, 2, none⟩) (Nat.le_refl _) _).setCell (p := ⟨Q, 3, none⟩) (Nat.le_refl _) _).setCell (p := ⟨Q, 4, none⟩) (Nat.le_refl _) _).setCell (p := ⟨Q, 5, none⟩) (Nat.le_refl _) _).setCell (p := ⟨Q, 6, none⟩) (Nat.le_refl _) _
theorem below2 {Q : Nat} {y p : Value} {w w' : World} (h : Below Q w w') : Below Q w ((w'.setCell ⟨Q + 1, 0, none⟩ y).setCell ⟨Q + 1 + 1, 0, none⟩ p) :=
 (h.setCell (p := ⟨Q + 1, 0, none⟩) (Nat.le_succ _) _).setCell (p := ⟨Q + 1 + 1, 0, none⟩) (by show Q ≤ Q + 1 + 1; omega) _
theorem PHas.drew {Q : Nat} {v : Array Value} {y p : Int} {w : World} (h : PHas Q v y p w) : PHas Q v y p w.drew := ⟨h.q, h.y, h.p⟩
theorem ParseP.none {w : World} {y p : Int} {R : Qry × Int × Int} {w' : World} (h : (Qry.none, y, p) = R) (hb : Below w.heap.size w w') : ParseP w R (.returned (.tuple #[.agg zeroQ, .int .i64 y, .int .i64 p])) w' := by
 subst h
 exact ⟨_, rfl, ⟨_, _, _, rfl, IO.nil _ _, World.ownsRow_nil _ _ _ _, World.ownsRow_nil _ _ _ _⟩, hb⟩
theorem ParseP.some {w : World} {q : Qry} {v : Value} {R : Qry × Int × Int} {w' : World} (h : (q, (0 : Int), (0 : Int)) = R) (hv : QryV w.heap.size q v w') (hb : Below w.heap.size w w') : ParseP w R (.returned (.tuple #[v, .int .i64 0, .int .i64 0])) w' := by
 subst h
 exact ⟨_, rfl, hv, hb⟩
theorem kept9 {Q k : Nat} {a b c d e f g y p : Value} {w : World} (hk : Q + 2 < k) : (((set7 Q a b c d e f g w).setCell ⟨Q + 1, 0, none⟩ y).setCell ⟨Q + 1 + 1, 0, none⟩ p).heap[k]? = w.heap[k]? :=
 (Below.heap_setCell _ _ _ _ (by show k ≠ Q + 1 + 1; omega)).trans ((Below.heap_setCell _ _ _ _ (by show k ≠ Q + 1; omega)).trans (set7_ne (by omega)))
theorem phas_set {Q : Nat} {v : Array Value} {y p : Int} {w : World} (h : PHas Q v y p w) (y' p' : Int) : PHas Q v y' p' ((w.setCell ⟨Q + 1, 0, none⟩ (.int .i64 y')).setCell ⟨Q + 1 + 1, 0, none⟩ (.int .i64 p')) := by
 refine ⟨?_, ?_, ?_⟩
 ·
  exact (Below.heap_setCell _ _ _ _ (by show Q ≠ Q + 1 + 1; omega)).trans ((Below.heap_setCell _ _ _ _ (by show Q ≠ Q + 1; omega)).trans h.q)
 ·
  refine (Below.heap_setCell _ _ _ _ (by show Q + 1 ≠ Q + 1 + 1; omega)).trans ?_
  have h1 : Boxed w (Q + 1) 33 (.int .i64 y) := h.y
  exact h1.set _
 ·
  have h1 : Boxed (w.setCell ⟨Q + 1, 0, none⟩ (.int .i64 y')) (Q + 2) 3 (.int .i64 p) := (Below.heap_setCell _ _ _ _ (by show Q + 2 ≠ Q + 1; omega)).trans h.p
  exact h1.set _
theorem row_set {B Q : Nat} {lo : Option Addr} {lcap : Nat} {L : List Tok} {w : World} {u v : Value} (h : Row lo L w) (ho : w.ownsRow B 144 4 (.slice lo L.length lcap) L.length (tokCells L)) (hB : Q + 2 < B) : Row lo L ((w.setCell ⟨Q + 1, 0, none⟩ u).setCell ⟨Q + 1 + 1, 0, none⟩ v) := by
 rcases h with h | ⟨g, h1, h2⟩
 ·
  exact .inl h
 ·
  subst h1
  have hg := own_base ho g rfl
  refine .inr ⟨g, rfl, fun j x hx => ?_⟩
  have e : ((w.setCell ⟨Q + 1, 0, none⟩ u).setCell ⟨Q + 1 + 1, 0, none⟩ v).heap[g]? = w.heap[g]? := (Below.heap_setCell _ _ _ _ (by show g ≠ Q + 1 + 1; omega)).trans (Below.heap_setCell _ _ _ _ (by show g ≠ Q + 1; omega))
  exact (World.cell?_of_block (a := ⟨g, j, none⟩) e).trans (h2 j x hx)

set_option maxHeartbeats 4000000 in
set_option maxRecDepth 100000 in
theorem Parse_any (s : ByteArray) (w : World) (hG : PGlob w) (hs : s.size ≤ 9223372036854775807) :
  Calls Tryz.prog 39 #[.string s] w fun e w' => ParseP w (parseR s) e w' := by
 obtain ⟨R, hR⟩ : ∃ R, parseR s = R := ⟨_, rfl⟩
 rw [hR]
 unfold parseR at hR
 have hmf : ∀ (fn : Fn) (first cap : Array Value) (w : World), (Instr.makeFunc fn first cap).run Tryz.prog w = .ok (.func fn first cap) w := fun _ _ _ _ => rfl
 go_enter_defers Tryz.func39, Tryz.ntmps39
 go_wp2_with fail
 have hb0 : Below w.heap.size w (((w.alloc (.cells zeroQ 26)).alloc (.cells #[.int .i64 0] 33)).alloc (.cells #[.int .i64 0] 3)) := (((Below.refl _ w).alloc (Nat.le_refl _) _).alloc (by simp) _).alloc (by simp; omega) _
 have hp0 : PHas w.heap.size zeroQ 0 0 (((w.alloc (.cells zeroQ 26)).alloc (.cells #[.int .i64 0] 33)).alloc (.cells #[.int .i64 0] 3)) := by
  have e1 : (w.alloc (.cells zeroQ 26)).heap.size = w.heap.size + 1 := alloc_sz _ _
  have e2 : ((w.alloc (.cells zeroQ 26)).alloc (.cells #[.int .i64 0] 33)).heap.size = w.heap.size + 2 := by rw [alloc_sz, e1]
  refine ⟨?_, ?_, ?_⟩
  ·
   rw [heap_alloc_old _ _ (by rw [e2]; omega), heap_alloc_old _ _ (by rw [e1]; omega)]
   exact heap_alloc_new _ _
  ·
   rw [heap_alloc_old _ _ (by rw [e2]; omega), ← e1]
   exact heap_alloc_new _ _
  ·
   rw [← e2]
   exact heap_alloc_new _ _
 obtain ⟨W0, hW0⟩ : ∃ W0, ((w.alloc (.cells zeroQ 26)).alloc (.cells #[.int .i64 0] 33)).alloc (.cells #[.int .i64 0] 3) = W0 := ⟨_, rfl⟩
 have hW0' := hW0
 unfold zeroQ at hW0'
 rw [hW0'] 
 rw [hW0] at hb0 hp0
 have HG0 := Lib.hid (hG.self hb0)
 have hG0 := Lib.hid hG
 have HB0 := Lib.hid hb0
 have HP0 := Lib.hid hp0
 have HLX := Lib.hid (Lex_any s W0 HG0.out.glob hs)
 have hsm := lexR_small s
 clear hG hb0 hp0 hW0 hW0'
 obtain ⟨L, hL⟩ : ∃ L, (lexR s).1 = L := ⟨_, rfl⟩
 obtain ⟨wy, hwy⟩ : ∃ wy, (lexR s).2.1 = wy := ⟨_, rfl⟩
 obtain ⟨wa, hwa⟩ : ∃ wa, (lexR s).2.2 = wa := ⟨_, rfl⟩
 have hlex : lexR s = (L, wy, wa) := by rw [← hL, ← hwy, ← hwa]
 rw [hL, hwy, hwa] at hR HLX
 rw [hL] at hsm
 have HSM := Lib.hid hsm
 have HLE := Lib.hid hlex
 clear hL hwy hwa hlex hsm
 go_wp2_with (go_at_call 59; refine HLX.out.mono ?_; rintro e w1 ⟨lv, rfl, hlo, hb1⟩; refine Hid.out ?_)
 refine Lib.hid ?_
 have HP1 : Hid (PHas w.heap.size zeroQ 0 0 w1) := Lib.hid ⟨(hb1.block _ (Array.getElem?_eq_some_iff.1 HP0.out.q).1).trans HP0.out.q, (hb1.block _ (Array.getElem?_eq_some_iff.1 HP0.out.y).1).trans HP0.out.y, (hb1.block _ (Array.getElem?_eq_some_iff.1 HP0.out.p).1).trans HP0.out.p⟩
 have HB1 := Lib.hid (below_self HB0.out hb1)
 have HG1 := Lib.hid (HG0.out.self hb1)
 have HLO := Lib.hid hlo
 obtain ⟨lo, lcap, hlv, hrow⟩ := own_row hlo
 subst hlv
 have HCP : Hid (L.length ≤ lcap ∧ lcap ≤ 9223372036854775807) := Lib.hid (own_cap hlo)
 have cy : w1.cell? ⟨w.heap.size + 1, 0, none⟩ = some (.int .i64 0) := by rw [Lib.cell_of_heap HP1.out.y]; rfl
 have fy : w1.frozen? ⟨w.heap.size + 1, 0, none⟩ = false := Lib.frozen_of_heap HP1.out.y 0
 have cp : w1.cell? ⟨w.heap.size + 1 + 1, 0, none⟩ = some (.int .i64 0) := by rw [Lib.cell_of_heap HP1.out.p]; rfl
 have fp : w1.frozen? ⟨w.heap.size + 1 + 1, 0, none⟩ = false := Lib.frozen_of_heap HP1.out.p 0
 have HRW := Lib.hid hrow
 clear hb1 hlo hrow HLX
 have HP2 : Hid (PHas w.heap.size zeroQ wy wa ((w1.setCell ⟨w.heap.size + 1, 0, none⟩ (.int .i64 wy)).setCell ⟨w.heap.size + 1 + 1, 0, none⟩ (.int .i64 wa))) := Lib.hid (phas_set HP1.out wy wa)
 have HB2 : Hid (Below w.heap.size w ((w1.setCell ⟨w.heap.size + 1, 0, none⟩ (.int .i64 wy)).setCell ⟨w.heap.size + 1 + 1, 0, none⟩ (.int .i64 wa))) := Lib.hid ((HB1.out.setCell (p := ⟨w.heap.size + 1, 0, none⟩) (Nat.le_succ _) _).setCell (p := ⟨w.heap.size + 1 + 1, 0, none⟩) (by show w.heap.size ≤ w.heap.size + 1 + 1; omega) _)
 have HRW2 : Hid (Row lo L ((w1.setCell ⟨w.heap.size + 1, 0, none⟩ (.int .i64 wy)).setCell ⟨w.heap.size + 1 + 1, 0, none⟩ (.int .i64 wa))) := Lib.hid (row_set HRW.out HLO.out (by have := (Array.getElem?_eq_some_iff.1 HP0.out.p).1; omega))
 clear HP1 HB1 HRW HLO HP0
 by_cases hy : wy = 0
 ·
  subst hy
  have hsz : s.size ≤ 2048 := by
   by_cases h : 2048 < s.size
   ·
    have := HLE.out; rw [lexR, if_pos h] at this; cases this
   ·
    omega
  rw [if_neg (by decide)] at hR
  have HR := Lib.hid hR
  have HRN := Lib.hid fun w => runes_any s w (by omega)
  generalize ((gl (B s)).length : Int) = fin at *
  clear hR hsz
  go_wp2_with (go_at_call 61; refine (HRN.out _).mono ?_; rintro e w3 ⟨rfl, hb3⟩; refine Hid.out ?_)
  refine Lib.hid ?_
  clear cy cp fy fp
  generalize (w1.setCell ⟨w.heap.size + 1, 0, none⟩ (.int .i64 0)).setCell ⟨w.heap.size + 1 + 1, 0, none⟩ (.int .i64 wa) = W2 at *
  have HG2 := Lib.hid (hG0.out.self HB2.out)
  have hbA := (Below.refl w3.heap.size w3).alloc (Nat.le_refl _) (.cells #[.slice lo L.length lcap, .int .i64 fin, .int .i64 0, .slice none 0 0] 119)
  have HAT : Hid (AtW w3.heap.size L fin 0 (.slice none 0 0) (w3.alloc (.cells #[.slice lo L.length lcap, .int .i64 fin, .int .i64 0, .slice none 0 0] 119))) :=
   Lib.hid ⟨lo, lcap, heap_alloc_new _ _, HCP.out.1, HCP.out.2, trow_below (trow_of (HRW2.out.below hb3) (Nat.le_refl _)) hbA⟩
  have HB3 := Lib.hid (below_self (below_self HB2.out hb3) hbA)
  have HP3 := Lib.hid (HP2.out.below (below_self hb3 hbA))
  have HQ := Lib.hid (query_any HAT.out (hG0.out.self HB3.out) (by have := (hG0.out.self HB2.out).glob.size; have := hb3.size; omega) (fun t ht => Nat.lt_of_le_of_lt (HSM.out.1 t ht).1 (by decide)) (Nat.le_trans HSM.out.2 (by decide)))
  have hA2 : w.heap.size + 2 < w3.heap.size := by have := (Array.getElem?_eq_some_iff.1 HP2.out.p).1; have := hb3.size; omega
  clear hb3 hbA
  obtain ⟨QR, hQR⟩ : ∃ QR, queryR fin L = QR := ⟨_, rfl⟩
  rw [hQR] at HQ HR
  have HQR := Lib.hid hQR
  clear hQR
  cases QR with
  | bad y p =>
   have HR2 := Lib.hid HR.out
   go_wp2_with (go_at_call 62; refine HQ.out.mono ?_; rintro e w4 ⟨rfl, hg4⟩; refine Hid.out ?_)
   refine Lib.hid ?_
   have hp4 := HP3.out.gb hg4 hA2
   refine leaves_cons (f := 60) (args := #[.pointer (some ⟨w.heap.size, 0, none⟩), .pointer (some ⟨w.heap.size + 1, 0, none⟩), .pointer (some ⟨w.heap.size + 1 + 1, 0, none⟩)]) (by simp) (by simp [go_sem]) ?_
   refine (catch_panicking (older := []) hp4.res).mono ?_
   rintro e u' w5 ⟨rfl, rfl, hp5, hb5⟩
   show Leaves _ _ _ _ [] .returning _
   exact ⟨_, results3 rfl hp5 rfl rfl rfl rfl, ParseP.none HR2.out ((below_gbB HB3.out hg4 (by omega) HB3.out.size).trans hb5)⟩
  | ok q =>
   have HR2 := Lib.hid HR.out
   have HGQ := Lib.hid (queryR_good HQR.out HSM.out.1)
   go_wp2_with (go_at_call 62; refine HQ.out.mono ?_; rintro e w4 ⟨⟨v, rfl, hv⟩, hg4⟩; refine Hid.out ?_)
   refine Lib.hid ?_
   have hBA : w.heap.size + 2 < w3.heap.size + 1 := by omega
   rw [alloc_sz] at hv
   obtain ⟨io, ic, wo, wc, go, gc, hve, _⟩ := hv.read
   subst hve
   have HP4 := Lib.hid (HP3.out.gb hg4 hA2)
   have HP5 := Lib.hid (has7 (a := .slice io q.items.length ic) (b := .string q.table) (c := .string q.join) (d := .string q.left) (e := .string q.right) (f := .slice wo q.wher.length wc) (g := .slice go q.group.length gc) HP4.out)
   have HV5 := Lib.hid (hv.kept (w' := set7 w.heap.size (.slice io q.items.length ic) (.string q.table) (.string q.join) (.string q.left) (.string q.right) (.slice wo q.wher.length wc) (.slice go q.group.length gc) w4) fun k hk _ => set7_ne (by omega))
   have HB5 : Hid (Below w.heap.size w (set7 w.heap.size (.slice io q.items.length ic) (.string q.table) (.string q.join) (.string q.left) (.string q.right) (.slice wo q.wher.length wc) (.slice go q.group.length gc) w4)) := Lib.hid (below7 (below_gbB HB3.out hg4 (by omega) HB3.out.size))
   have HG5 := Lib.hid (hG0.out.self HB5.out)
   have HCK : Hid (Calls Tryz.prog 22 #[.agg #[.slice io q.items.length ic, .string q.table, .string q.join, .string q.left, .string q.right, .slice wo q.wher.length wc, .slice go q.group.length gc]] (set7 w.heap.size (.slice io q.items.length ic) (.string q.table) (.string q.join) (.string q.left) (.string q.right) (.slice wo q.wher.length wc) (.slice go q.group.length gc) w4) fun e w' => e = .returned (.int .i64 (checkR q)) ∧ Below (set7 w.heap.size (.slice io q.items.length ic) (.string q.table) (.string q.join) (.string q.left) (.string q.right) (.slice wo q.wher.length wc) (.slice go q.group.length gc) w4).heap.size (set7 w.heap.size (.slice io q.items.length ic) (.string q.table) (.string q.join) (.string q.left) (.string q.right) (.slice wo q.wher.length wc) (.slice go q.group.length gc) w4) w') := Lib.hid (by
    obtain ⟨io', ic', wo', wc', go', gc', he, hin⟩ := HV5.out.read
    injection he with he
    simp only [Array.mk.injEq, List.cons.injEq, Value.slice.injEq, and_true, true_and] at he
    obtain ⟨⟨rfl, rfl⟩, ⟨rfl, rfl⟩, rfl, rfl⟩ := he
    exact check_any HG5.out hin HGQ.out.ok)
   have k0 : w4.cell? ⟨w.heap.size, 0, none⟩ = some (.slice none 0 0) := by rw [Lib.cell_of_heap HP4.out.q]; rfl
   have k1 : w4.cell? ⟨w.heap.size, 1, none⟩ = some (.string ⟨#[]⟩) := by rw [Lib.cell_of_heap HP4.out.q]; rfl
   have k2 : w4.cell? ⟨w.heap.size, 2, none⟩ = some (.string ⟨#[]⟩) := by rw [Lib.cell_of_heap HP4.out.q]; rfl
   have k3 : w4.cell? ⟨w.heap.size, 3, none⟩ = some (.string ⟨#[]⟩) := by rw [Lib.cell_of_heap HP4.out.q]; rfl
   have k4 : w4.cell? ⟨w.heap.size, 4, none⟩ = some (.string ⟨#[]⟩) := by rw [Lib.cell_of_heap HP4.out.q]; rfl
   have k5 : w4.cell? ⟨w.heap.size, 5, none⟩ = some (.slice none 0 0) := by rw [Lib.cell_of_heap HP4.out.q]; rfl
   have k6 : w4.cell? ⟨w.heap.size, 6, none⟩ = some (.slice none 0 0) := by rw [Lib.cell_of_heap HP4.out.q]; rfl
   have kf : ∀ j, w4.frozen? ⟨w.heap.size, j, none⟩ = false := Lib.frozen_of_heap HP4.out.q
   clear hv hg4
   by_cases hck : checkR q = 0
   ·
    have HR3 : Hid ((q, 0, 0) = R) := Lib.hid (by have := HR2.out; rwa [if_neg (by simp [hck])] at this)
    rw [hck] at HCK
    unfold set7 at HCK
    go_wp2_with (go_at_call 22; refine HCK.out.mono ?_; rintro e w6 ⟨rfl, hb6⟩; refine Hid.out ?_)
    refine Lib.hid ?_
    have HP6 := Lib.hid (HP5.out.below hb6)
    have HB6 := Lib.hid (below_self HB5.out hb6)
    have HV6 := Lib.hid (HV5.out.kept (w' := w6) fun k hk hk2 => hb6.block k hk2)
    have m0 : w6.cell? ⟨w.heap.size, 0, none⟩ = some (.slice io q.items.length ic) := by rw [Lib.cell_of_heap HP6.out.q]; rfl
    have m1 : w6.cell? ⟨w.heap.size, 1, none⟩ = some (.string q.table) := by rw [Lib.cell_of_heap HP6.out.q]; rfl
    have m2 : w6.cell? ⟨w.heap.size, 2, none⟩ = some (.string q.join) := by rw [Lib.cell_of_heap HP6.out.q]; rfl
    have m3 : w6.cell? ⟨w.heap.size, 3, none⟩ = some (.string q.left) := by rw [Lib.cell_of_heap HP6.out.q]; rfl
    have m4 : w6.cell? ⟨w.heap.size, 4, none⟩ = some (.string q.right) := by rw [Lib.cell_of_heap HP6.out.q]; rfl
    have m5 : w6.cell? ⟨w.heap.size, 5, none⟩ = some (.slice wo q.wher.length wc) := by rw [Lib.cell_of_heap HP6.out.q]; rfl
    have m6 : w6.cell? ⟨w.heap.size, 6, none⟩ = some (.slice go q.group.length gc) := by rw [Lib.cell_of_heap HP6.out.q]; rfl
    have my : w6.cell? ⟨w.heap.size + 1, 0, none⟩ = some (.int .i64 0) := by rw [Lib.cell_of_heap HP6.out.y]; rfl
    have mp : w6.cell? ⟨w.heap.size + 1 + 1, 0, none⟩ = some (.int .i64 wa) := by rw [Lib.cell_of_heap HP6.out.p]; rfl
    have mf : ∀ j, w6.frozen? ⟨w.heap.size, j, none⟩ = false := Lib.frozen_of_heap HP6.out.q
    have mfy : w6.frozen? ⟨w.heap.size + 1, 0, none⟩ = false := Lib.frozen_of_heap HP6.out.y 0
    have mfp : w6.frozen? ⟨w.heap.size + 1 + 1, 0, none⟩ = false := Lib.frozen_of_heap HP6.out.p 0
    clear hb6
    go_wp2_with fail
    refine leaves_cons (f := 60) (args := #[.pointer (some ⟨w.heap.size, 0, none⟩), .pointer (some ⟨w.heap.size + 1, 0, none⟩), .pointer (some ⟨w.heap.size + 1 + 1, 0, none⟩)]) (by simp) (by simp [go_sem]) ?_
    refine (catch_idle _ _ _ _).mono ?_
    rintro e u' w7 ⟨rfl, rfl, rfl⟩
    show Leaves _ _ _ _ [] .returning _
    exact ⟨_, results3 rfl (phas_set (has7 HP6.out) 0 0) rfl rfl rfl rfl, ParseP.some HR3.out ((HV6.out.kept fun k hk _ => kept9 (by omega)).le (by omega)) (below2 (below7 HB6.out))⟩
   ·
    have HR3 : Hid ((Qry.none, 13, 0) = R) := Lib.hid (by have := HR2.out; rwa [if_pos hck] at this)
    have ec : (checkR q == 0) = false := beq_eq_false_iff_ne.2 hck
    have en : (checkR q != 0) = true := by rw [bne, ec]; rfl
    generalize checkR q = CK at *
    clear hck
    unfold set7 at HCK
    go_wp2_with (go_at_call 22; refine HCK.out.mono ?_; rintro e w6 ⟨rfl, hb6⟩; refine Hid.out ?_)
    refine Lib.hid ?_
    have HP6 := Lib.hid (HP5.out.below hb6)
    have HB6 := Lib.hid (below_self HB5.out hb6)
    have HV6 := Lib.hid (HV5.out.kept (w' := w6) fun k hk hk2 => hb6.block k hk2)
    have m0 : w6.cell? ⟨w.heap.size, 0, none⟩ = some (.slice io q.items.length ic) := by rw [Lib.cell_of_heap HP6.out.q]; rfl
    have m1 : w6.cell? ⟨w.heap.size, 1, none⟩ = some (.string q.table) := by rw [Lib.cell_of_heap HP6.out.q]; rfl
    have m2 : w6.cell? ⟨w.heap.size, 2, none⟩ = some (.string q.join) := by rw [Lib.cell_of_heap HP6.out.q]; rfl
    have m3 : w6.cell? ⟨w.heap.size, 3, none⟩ = some (.string q.left) := by rw [Lib.cell_of_heap HP6.out.q]; rfl
    have m4 : w6.cell? ⟨w.heap.size, 4, none⟩ = some (.string q.right) := by rw [Lib.cell_of_heap HP6.out.q]; rfl
    have m5 : w6.cell? ⟨w.heap.size, 5, none⟩ = some (.slice wo q.wher.length wc) := by rw [Lib.cell_of_heap HP6.out.q]; rfl
    have m6 : w6.cell? ⟨w.heap.size, 6, none⟩ = some (.slice go q.group.length gc) := by rw [Lib.cell_of_heap HP6.out.q]; rfl
    have my : w6.cell? ⟨w.heap.size + 1, 0, none⟩ = some (.int .i64 0) := by rw [Lib.cell_of_heap HP6.out.y]; rfl
    have mp : w6.cell? ⟨w.heap.size + 1 + 1, 0, none⟩ = some (.int .i64 wa) := by rw [Lib.cell_of_heap HP6.out.p]; rfl
    have mf : ∀ j, w6.frozen? ⟨w.heap.size, j, none⟩ = false := Lib.frozen_of_heap HP6.out.q
    have mfy : w6.frozen? ⟨w.heap.size + 1, 0, none⟩ = false := Lib.frozen_of_heap HP6.out.y 0
    have mfp : w6.frozen? ⟨w.heap.size + 1 + 1, 0, none⟩ = false := Lib.frozen_of_heap HP6.out.p 0
    clear hb6
    go_wp2_with fail
    refine leaves_cons (f := 60) (args := #[.pointer (some ⟨w.heap.size, 0, none⟩), .pointer (some ⟨w.heap.size + 1, 0, none⟩), .pointer (some ⟨w.heap.size + 1 + 1, 0, none⟩)]) (by simp) (by simp [go_sem]) ?_
    refine (catch_idle _ _ _ _).mono ?_
    rintro e u' w7 ⟨rfl, rfl, rfl⟩
    show Leaves _ _ _ _ [] .returning _
    exact ⟨_, results3 rfl (phas_set (has7 HP6.out) 13 0) rfl rfl rfl rfl, ParseP.none HR3.out (below2 (below7 HB6.out))⟩
 ·
  rw [if_pos hy] at hR
  have HR := Lib.hid hR
  have e0 : (wy == 0) = false := beq_eq_false_iff_ne.2 hy
  have e1 : (wy != 0) = true := by rw [bne, e0]; rfl
  clear hR hy
  go_wp2_with fail
  generalize (w1.setCell ⟨w.heap.size + 1, 0, none⟩ (.int .i64 wy)).setCell ⟨w.heap.size + 1 + 1, 0, none⟩ (.int .i64 wa) = W2 at *
  clear cy cp fy fp
  have k0 : W2.cell? ⟨w.heap.size, 0, none⟩ = some (.slice none 0 0) := by rw [Lib.cell_of_heap HP2.out.q]; rfl
  have k1 : W2.cell? ⟨w.heap.size, 1, none⟩ = some (.string ⟨#[]⟩) := by rw [Lib.cell_of_heap HP2.out.q]; rfl
  have k2 : W2.cell? ⟨w.heap.size, 2, none⟩ = some (.string ⟨#[]⟩) := by rw [Lib.cell_of_heap HP2.out.q]; rfl
  have k3 : W2.cell? ⟨w.heap.size, 3, none⟩ = some (.string ⟨#[]⟩) := by rw [Lib.cell_of_heap HP2.out.q]; rfl
  have k4 : W2.cell? ⟨w.heap.size, 4, none⟩ = some (.string ⟨#[]⟩) := by rw [Lib.cell_of_heap HP2.out.q]; rfl
  have k5 : W2.cell? ⟨w.heap.size, 5, none⟩ = some (.slice none 0 0) := by rw [Lib.cell_of_heap HP2.out.q]; rfl
  have k6 : W2.cell? ⟨w.heap.size, 6, none⟩ = some (.slice none 0 0) := by rw [Lib.cell_of_heap HP2.out.q]; rfl
  have cy : W2.cell? ⟨w.heap.size + 1, 0, none⟩ = some (.int .i64 wy) := by rw [Lib.cell_of_heap HP2.out.y]; rfl
  have cp : W2.cell? ⟨w.heap.size + 1 + 1, 0, none⟩ = some (.int .i64 wa) := by rw [Lib.cell_of_heap HP2.out.p]; rfl
  have kf : ∀ j, W2.frozen? ⟨w.heap.size, j, none⟩ = false := Lib.frozen_of_heap HP2.out.q
  have fy : W2.frozen? ⟨w.heap.size + 1, 0, none⟩ = false := Lib.frozen_of_heap HP2.out.y 0
  have fp : W2.frozen? ⟨w.heap.size + 1 + 1, 0, none⟩ = false := Lib.frozen_of_heap HP2.out.p 0
  go_region
  go_wp2_with fail
  exact ⟨_, results3 rfl (phas_set (has7 HP2.out) wy wa).drew rfl rfl rfl rfl, ParseP.none HR.out (below2 (below7 HB2.out)).drew⟩
end Go.Proofs.YtgjfbbmachoolaaGreatDoor.lx
