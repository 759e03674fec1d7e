/-
  The reference's operators, word and Show, as the program's. Conditions: the steps lie there, their texts are no great ones, their numbers are of 64 bits. (Printed by wip/mkprshow.py.)
-/
import Derived.Test.YtegnoaejlhbpbaaGreatDoorM27
import Derived.Test.YtegnoaejlhbpbaaGreatDoorM22
import Derived.Deep.RegionWith
namespace Go.Proofs.YtegnoaejlhbpbaaGreatDoor.lx
open Go.RowKit
set_option linter.unusedVariables false
set_option linter.unusedSimpArgs false

set_option maxRecDepth 100000 in
theorem rops_any (w : World) :
    Calls Tryz.prog 30 #[] w fun e w' => e = .returned (.slice (some ⟨w.heap.size, 0, none⟩) 15 15) ∧ SBlk w.heap.size opsL w' ∧ Below w.heap.size w w' := by
  go_enter Tryz.func30, Tryz.ntmps30
  go_wp2_with fail
  go_ret
  refine ⟨rfl, sblk_new w opsL _ _ ?_, (Below.refl _ w).alloc (Nat.le_refl _) _⟩
  intro j hj
  have hj15 : j < 15 := hj
  have : ∀ k : Fin 15, (#[Value.string ⟨#[110, 101, 103]⟩, Value.string ⟨#[110, 111, 116]⟩, Value.string ⟨#[110, 117, 108, 108, 63]⟩, Value.string ⟨#[108, 101, 110, 103, 116, 104]⟩, Value.string ⟨#[43]⟩, Value.string ⟨#[45]⟩, Value.string ⟨#[42]⟩, Value.string ⟨#[61]⟩, Value.string ⟨#[60, 62]⟩, Value.string ⟨#[60]⟩, Value.string ⟨#[60, 61]⟩, Value.string ⟨#[62]⟩, Value.string ⟨#[62, 61]⟩, Value.string ⟨#[97, 110, 100]⟩, Value.string ⟨#[111, 114]⟩] : Array Value)[k.val]? = some (.string (opsL.getD k.val ByteArray.empty)) := by
    intro k
    match k with
    | ⟨0, _⟩ => rfl | ⟨1, _⟩ => rfl | ⟨2, _⟩ => rfl | ⟨3, _⟩ => rfl | ⟨4, _⟩ => rfl | ⟨5, _⟩ => rfl | ⟨6, _⟩ => rfl | ⟨7, _⟩ => rfl
    | ⟨8, _⟩ => rfl | ⟨9, _⟩ => rfl | ⟨10, _⟩ => rfl | ⟨11, _⟩ => rfl | ⟨12, _⟩ => rfl | ⟨13, _⟩ => rfl | ⟨14, _⟩ => rfl
  exact this ⟨j, hj15⟩
set_option maxRecDepth 100000 in
theorem rword_any (k : Int) (w : World) (h0 : 0 ≤ k) (h4 : k ≤ 4) :
    Calls Tryz.prog 24 #[.int .u8 k] w fun e w' => e = .returned (.string (wordT k)) ∧ Below w.heap.size w w' := by
  rcases (by omega : k = 0 ∨ k = 1 ∨ k = 2 ∨ k = 3 ∨ k = 4) with rfl | rfl | rfl | rfl | rfl
  all_goals
    go_enter Tryz.func24, Tryz.ntmps24
    go_wp2_with fail
    go_ret
    exact ⟨rfl, (Below.refl _ w).alloc (Nat.le_refl _) _⟩

/-! ### the stack -/
/-- the stack, its top last -/
def stk (L : List Stp) (k : Nat) : List ByteArray := ((L.take k).foldl shwStep []).reverse
def txtOf (s : Stp) (args : List ByteArray) : ByteArray := if (takesR s).1 = 0 then leafT s else bracketT (opT s.k :: args)
theorem Sgs.sizes {L : List Stp} (hn : NumOk L) (hl : L.length ≤ 64) {e : Nat} {st : List ByteArray} (h : Sgs L e st) : ∀ t ∈ st, t.size ≤ 103424 := by
  induction h with
  | nil => exact fun _ h => by cases h
  | cons _ hs ih =>
    obtain ⟨_, h2, h3⟩ := hs.size hn
    intro x hx
    rcases List.mem_cons.1 hx with rfl | hx
    · have : ∀ d, d ≤ 64 → d * 1616 ≤ 103424 := fun d hd => by omega
      exact Nat.le_trans h3 (this _ (by omega))
    · exact ih x hx
theorem stk_zero (L : List Stp) : stk L 0 = [] := rfl
theorem stk_small {L : List Stp} (h : rightR L = true) (hn : NumOk L) {k : Nat} (hk : k ≤ L.length) : (stk L k).length ≤ 65 ∧ ∀ t ∈ stk L k, t.size ≤ 103424 := by
  obtain ⟨_, h64, _⟩ := right_m h
  obtain ⟨m, h1, h2, h3⟩ := right_sgs h k hk
  have hr := rrun_range h1
  have hd : (downL L.length (L.length - k)).length = L.length - k := by simp [downL]
  unfold stk
  rw [List.length_reverse]
  refine ⟨by omega, fun t ht => h2.sizes hn h64 t (List.mem_reverse.1 ht)⟩
theorem stk_step {L : List Stp} (h : rightR L = true) {k : Nat} (hk : k < L.length) :
    (takesR (stpAt L k)).2 = true ∧ ∃ base args, stk L k = base ++ args ∧ (args.length : Int) = (takesR (stpAt L k)).1 ∧ stk L (k + 1) = base ++ [txtOf (stpAt L k) args] := by
  obtain ⟨_, _, hm⟩ := right_m h
  obtain ⟨m, h1, h2, h3⟩ := right_sgs h k (by omega)
  obtain ⟨m', g1, _, g2, _⟩ := hm (k + 1) hk
  obtain ⟨hok, he⟩ := right_step hk h1 g1
  have hge := g2 (by omega)
  have hr := takesR_range (stpAt L k)
  have ht : L.take (k + 1) = L.take k ++ [stpAt L k] := by
    rw [List.take_succ_eq_append_getElem hk]
    congr 2
    have := stpAt_some hk
    rw [List.getElem?_eq_getElem hk] at this
    injection this
  refine ⟨hok, ?_⟩
  unfold stk
  rw [ht, List.foldl_append]
  generalize (L.take k).foldl shwStep [] = st at *
  simp only [List.foldl_cons, List.foldl_nil]
  unfold shwStep txtOf
  by_cases h0 : (takesR (stpAt L k)).1 = 0
  · simp only [if_pos h0]
    exact ⟨st.reverse, [], by simp, by rw [h0]; rfl, by simp⟩
  simp only [if_neg h0]
  cases st with
  | nil => simp at h3; omega
  | cons u st =>
    simp only
    by_cases h1' : (takesR (stpAt L k)).1 = 1
    · simp only [if_pos h1']
      exact ⟨st.reverse, [u], by simp, by rw [h1']; rfl, by simp⟩
    · simp only [if_neg h1']
      cases st with
      | nil => simp at h3; omega
      | cons t st =>
        exact ⟨st.reverse, [t, u], by simp, by simp; omega, by simp⟩
theorem stk_done {L : List Stp} (h : rightR L = true) : stk L L.length = [showT L] := by
  obtain ⟨m, h1, h2, h3⟩ := right_sgs h L.length (Nat.le_refl _)
  obtain ⟨_, _, hm⟩ := right_m h
  obtain ⟨m', g1, _, _, g2⟩ := hm L.length (Nat.le_refl _)
  rw [h1] at g1
  injection g1 with g1
  have h4 := g2 rfl
  unfold stk showT
  rw [List.take_length] at h3 ⊢
  generalize L.foldl shwStep [] = st at *
  cases st with
  | nil => simp at h3; omega
  | cons t st =>
    cases st with
    | nil => rfl
    | cons _ _ => simp at h3; omega
theorem acc_step {F p : ByteArray} {op : ByteArray} {A : List ByteArray} (h : B F = 40 :: (B op ++ sfxL A)) : B (F ++ (⟨#[32]⟩ ++ p)) = 40 :: (B op ++ sfxL (A ++ [p])) := by
  rw [B_append, B_append, h]
  simp [sfxL]
  rfl
theorem acc_done {F op : ByteArray} {A : List ByteArray} (h : B F = 40 :: (B op ++ sfxL A)) : F ++ ⟨#[41]⟩ = bracketT (op :: A) := by
  have e : B (F ++ ⟨#[41]⟩) = B (bracketT (op :: A)) := by
    rw [B_append, h, B_bracket]
    have e1 : joinT (op :: A) = B op ++ sfxL A := by
      have := joinT_app op [] A
      rw [List.nil_append] at this
      rw [this]
      congr 1
      unfold joinT
      simp [Lib.join]
    rw [e1]
    simp
  rw [← mkB (F ++ ⟨#[41]⟩), e, mkB]
theorem acc_zero (op : ByteArray) : B (⟨#[40]⟩ ++ op) = 40 :: (B op ++ sfxL []) := by rw [B_append]; simp [sfxL]; rfl
theorem leafT_null {s : ByteArray} {n : Int} : leafT ⟨1, s, n⟩ = nullB ∧ leafT ⟨2, s, n⟩ = trueB ∧ leafT ⟨3, s, n⟩ = falseB ∧ leafT ⟨4, s, n⟩ = ⟨(Lib.itoa n).toArray⟩ ∧ leafT ⟨5, s, n⟩ = quotF s ∧ leafT ⟨6, s, n⟩ = s := ⟨rfl, rfl, rfl, rfl, rfl, rfl⟩
theorem lies_one {w : World} {a : Value} {t : TypeId} (ha : a.oneCell' = true) : Lies 1 (some ⟨w.heap.size, 0, none⟩) 1 [a] (w.alloc (.cells #[a] t)) := by
  refine ⟨rfl, fun u hu => by rw [List.mem_singleton.1 hu]; exact ha, .inr ⟨_, _, rfl, fun j u hj => ?_⟩⟩
  rw [Lib.cell_of_heap (heap_alloc_new w (.cells #[a] t)), Nat.zero_add]
  match j, hj with
  | 0, hj => exact hj
  | (j + 1), hj => simp at hj
theorem lies_next {size m : Nat} {ao : Option Addr} {news : List Value} {w w' : World} (h : Lies size ao m news w) (hb : Below w.heap.size w w') : Lies size ao m news w' := by
  refine ⟨h.1, h.2.1, ?_⟩
  rcases h.2.2 with h0 | ⟨b, o, h1, h2⟩
  · exact .inl h0
  · exact .inr ⟨b, o, h1, fun j u hj => keep_cellP hb (h2 j u hj)⟩
theorem own_row_lies {w : World} {B n : Nat} {so : Option Addr} {sc : Nat} {base args : List ByteArray} (h : w.ownsRow B 9 1 (.slice so n sc) n ((base ++ args).map Value.string)) (hn : n = (base ++ args).length) :
    Lies 1 so base.length (base.map Value.string) w ∧ n ≤ sc ∧ (args ≠ [] → ∃ g, so = some ⟨g, 0, none⟩ ∧ ∀ j u, args[j]? = some u → w.cell? ⟨g, base.length + j, none⟩ = some (.string u)) := by
  obtain ⟨ao, cap, hv, hle, h0⟩ := own_cells h
  injection hv with e1 e2 e3
  subst e1 e3
  refine ⟨⟨by simp, fun u hu => by obtain ⟨s, _, rfl⟩ := List.mem_map.1 hu; rfl, ?_⟩, hle, fun hA => ?_⟩
  · rcases h0 with h0 | ⟨g, hg, _, _, hc⟩
    · left
      rw [h0, List.length_append] at hn
      omega
    · refine .inr ⟨g, 0, hg, fun j u hj => ?_⟩
      rw [Nat.zero_add]
      refine hc j u ?_
      rw [List.map_append, List.getElem?_append_left (List.getElem?_eq_some_iff.1 hj).1]
      exact hj
  · rcases h0 with h0 | ⟨g, hg, _, _, hc⟩
    · exfalso
      rw [h0, List.length_append] at hn
      cases args with
      | nil => exact hA rfl
      | cons a l => simp at hn
    · refine ⟨g, hg, fun j u hj => hc _ _ ?_⟩
      rw [List.map_append, List.getElem?_append_right (by simp), List.length_map, Nat.add_sub_cancel_left, List.getElem?_map, hj]
      rfl

set_option maxHeartbeats 16000000 in
set_option maxRecDepth 100000 in
theorem rShow_any3 {ao : Option Addr} {cap : Nat} {L : List Stp} {w : World} (hR : StpRow ao L w) (hok : StpsOk L) (hnum : NumOk L) (hlen : L.length ≤ 1099511627776) :
    Calls Tryz.prog 10 #[.slice ao L.length cap] w fun e w' => e = .returned (.tuple #[.string (showR L).1, .int .i64 (showR L).2]) ∧ Below w.heap.size w w' := by
  have hRI := rRight_any (cap := cap) hR hok hlen
  cases hr : rightR L with
  | false =>
    have hs : showR L = (⟨#[]⟩, 13) := by unfold showR; rw [hr]; rfl
    rw [hs]
    rw [hr] at hRI
    have HRI := Lib.hid hRI
    clear hRI hR hok hnum hr hs
    go_enter Tryz.func10, Tryz.ntmps10
    go_wp2_with (go_at_call 17; refine HRI.out.mono ?_; rintro e w2 ⟨rfl, hb2⟩; refine Hid.out ?_)
    refine Lib.hid ?_
    have HB2 := Lib.hid hb2
    clear hb2
    go_wp2_with fail
    go_ret2
    exact ⟨rfl, HB2.out⟩
  | true =>
  have hs : showR L = (showT L, 0) := by unfold showR; rw [hr]; rfl
  have h64 := right_len hr
  rw [hs]
  rw [hr] at hRI
  have HRI := Lib.hid hRI
  have HRT := Lib.hid hr
  have HNUM := Lib.hid hnum
  have HOK := Lib.hid hok
  have HROW := Lib.hid hR
  obtain ⟨T, hT⟩ : ∃ T, showT L = T := ⟨_, rfl⟩
  have HT := Lib.hid hT
  rw [hT]
  clear hRI hR hok hnum hr hs hT
  go_enter Tryz.func10, Tryz.ntmps10
  go_wp2_with (go_at_call 17; refine HRI.out.mono ?_; rintro e w1 ⟨rfl, hb1⟩; refine Hid.out ?_)
  refine Lib.hid ?_
  have HB1 := Lib.hid hb1
  have HROW1 := Lib.hid (HROW.out.self hb1)
  clear hb1 HROW
  go_wp2_with fail
  go_loopw [4, 18] (fun v i wr => ∃ (k n : Nat) (so : Option Addr) (sc : Nat), i = .int .i64 k ∧ v = .slice so n sc ∧ k ≤ L.length ∧ n ≤ 65 ∧ Hid (n = (stk L k).length ∧ wr.ownsRow w1.heap.size 9 1 (.slice so n sc) n ((stk L k).map Value.string)) ∧ Hid (Below w1.heap.size w1 wr)) (fun _ i _ => L.length - (intOf i).toNat)
  case atStart => exact ⟨0, 0, none, 0, rfl, rfl, Nat.zero_le _, Nat.zero_le _, Lib.hid ⟨rfl, World.ownsRow_nil _ _ _ _⟩, Lib.hid (Below.refl _ _)⟩
  case round =>
    obtain ⟨k, n, so, sc, rfl, rfl, hk, hn65, HS, HBR⟩ := hrel
    by_cases hlt : k < L.length
    · have ht := stpAt_some hlt
      obtain ⟨b, o, rfl, hc⟩ := (HROW1.out.self HBR.out).resolve_left (by omega)
      obtain ⟨c0, c1, c2⟩ := hc k _ ht
      have hto := HOK.out _ (List.mem_of_getElem? ht)
      have hnm := HNUM.out.at k
      obtain ⟨hok, base, args, hst, hal, hst2⟩ := stk_step HRT.out hlt
      have hsm := stk_small HRT.out HNUM.out (k := k) hk
      have hsm2 := stk_small HRT.out HNUM.out (k := k + 1) (by omega)
      have HTK := Lib.hid fun w => rTakes_any (stpAt L k) w (by omega) hto.2
      obtain ⟨hn, hown⟩ := HS.out
      rw [hst] at hn hown hsm
      rw [hst2] at hsm2
      generalize hs : stpAt L k = s at *
      clear hs
      have HST2 := Lib.hid hst2
      have HOWN := Lib.hid hown
      have HN := Lib.hid hn
      have HTX := Lib.hid (hsm2.2 (txtOf s args) (by simp))
      have hbl : base.length ≤ 64 := by have := hsm2.1; rw [List.length_append] at this; simp at this; omega
      have HAS := Lib.hid fun u (hu : u ∈ args) => hsm.2 u (List.mem_append_right _ hu)
      have hnl : n = base.length + args.length := by rw [hn, List.length_append]
      have hrg := takesR_range s
      obtain ⟨tk, htk⟩ : ∃ tk, (takesR s).1 = tk := ⟨_, rfl⟩
      have htr : takesR s = (tk, true) := by rw [← htk, ← hok]
      rw [htr] at HTK
      rw [htk] at hal hrg
      have HTR := Lib.hid htr
      clear hst hst2 hsm hsm2 hown hn HS hc ht hok htk htr
      obtain ⟨sk, ss, sn⟩ := s
      unfold Stp.v at HTK
      simp only at c0 c1 c2 hto hnm HTK
      obtain ⟨bl, hble⟩ : ∃ bl, base.length = bl := ⟨_, rfl⟩
      have HBL := Lib.hid hble
      rw [hble] at hbl hnl
      have HNL := Lib.hid hnl
      have HAL0 := Lib.hid hal
      clear hble hnl hal
      have hbA := (Below.refl wr.heap.size wr).alloc (Nat.le_refl _) (.cells #[.int .u8 sk, .string ss, .int .i64 sn] 29)
      have hnA := heap_alloc_new wr (.cells #[.int .u8 sk, .string ss, .int .i64 sn] 29)
      have HBA := Lib.hid (HBR.out.trans (hbA.mono HBR.out.size))
      have HOA := Lib.hid (own_keepA HOWN.out fun k _ hk => hbA.block k hk)
      have hlA := (Array.getElem?_eq_some_iff.1 hnA).1
      have HNA := Lib.hid hnA
      clear hbA hnA HOWN HBR
      go_upto_region 7 with fail
      generalize wr.alloc (.cells #[.int .u8 sk, .string ss, .int .i64 sn] 29) = WA at *
      clear c0 c1 c2
      have d0 : WA.cell? ⟨wr.heap.size, 0, none⟩ = some (.int .u8 sk) := by rw [Lib.cell_of_heap HNA.out]; rfl
      have d1 : WA.cell? ⟨wr.heap.size, 1, none⟩ = some (.string ss) := by rw [Lib.cell_of_heap HNA.out]; rfl
      have d2 : WA.cell? ⟨wr.heap.size, 2, none⟩ = some (.int .i64 sn) := by rw [Lib.cell_of_heap HNA.out]; rfl
      go_wp2_with (go_at_call 12; refine (HTK.out _).mono ?_; rintro e wb ⟨rfl, hbb⟩; refine Hid.out ?_)
      refine Lib.hid ?_
      have HBB := Lib.hid (HBA.out.trans (hbb.mono HBA.out.size))
      have HOB := Lib.hid (own_keepA HOA.out fun k _ hk => hbb.block k hk)
      have hnB := (hbb.block _ hlA).trans HNA.out
      have hlB := Nat.lt_of_lt_of_le hlA hbb.size
      clear hbb HBA HOA HNA d0 d1 d2
      have d0 : wb.cell? ⟨wr.heap.size, 0, none⟩ = some (.int .u8 sk) := by rw [Lib.cell_of_heap hnB]; rfl
      have d1 : wb.cell? ⟨wr.heap.size, 1, none⟩ = some (.string ss) := by rw [Lib.cell_of_heap hnB]; rfl
      have d2 : wb.cell? ⟨wr.heap.size, 2, none⟩ = some (.int .i64 sn) := by rw [Lib.cell_of_heap hnB]; rfl
      have HNB := Lib.hid hnB
      clear hnB
      clear HTK HROW1 HRI
      by_cases h0 : tk = 0
      · obtain rfl : args = [] := List.eq_nil_of_length_eq_zero (by have := HAL0.out; omega)
        obtain rfl : bl = n := by simpa using HNL.out.symm
        clear HAL0 hrg HNL HAS
        have hlf := takes_leaf (show takesR ⟨sk, ss, sn⟩ = (0, true) by rw [HTR.out, h0])
        have htq : txtOf ⟨sk, ss, sn⟩ [] = leafT ⟨sk, ss, sn⟩ := by unfold txtOf; rw [HTR.out, h0, if_pos rfl]
        rw [htq] at HTX
        subst h0
        simp only at hlf
        have hkk : sk = 1 ∨ sk = 2 ∨ sk = 3 ∨ sk = 4 ∨ sk = 5 ∧ ss.size ≤ 256 ∨ sk = 6 := by rcases hlf with ⟨a, _⟩ | ⟨a, _⟩ | ⟨a, _, b, _⟩ | ⟨a, _⟩ <;> omega
        clear hlf
        rcases hkk with rfl | rfl | rfl | rfl | ⟨rfl, h256⟩ | rfl
        · skip
          have HTQ := Lib.hid (show Value.string (txtOf ⟨1, ss, sn⟩ []) = Value.string ⟨#[110, 117, 108, 108]⟩ by rw [htq]; rfl)
          clear htq
          obtain ⟨hly, hle, _⟩ := own_row_lies HOB.out HN.out
          have hLS : Lies 1 so base.length (base.map Value.string) (wb.alloc (.cells #[] 9)) := lies_next hly ((Below.refl _ _).alloc (Nat.le_refl _) _)
          rw [HBL.out] at hLS
          obtain ⟨i0, hi0, hz0, hz1, hz2⟩ := info_parts infoStr
          go_wp2_with (at_builtin; refine wpList_append_lying rfl _ _ 24 rfl wb.heap.size 9 i0 _ 1 16 Tryz.underlying24 hi0 hz0 hz1 hz2 rfl (by decide) (.slice (some ⟨wb.heap.size, 0, none⟩) 0 0) 0 [] rfl own_empty so bl sc (base.map Value.string) rfl hLS ?z1a ?z1b ?z1c ?_)
          case z1a => unfold maxLen; omega
          case z1b => omega
          try (case z1c => simp)
          intro v9 w9 hown9 hg9 _
          obtain ⟨so9, cap9, rfl⟩ := own_shape hown9
          have hb9 := below_own ((Below.refl wb.heap.size wb).alloc (Nat.le_refl _) _) hg9 (fun k hk => by have e : wb.heap.size = k := Option.some.inj hk; omega) (by simp)
          have HB9 := Lib.hid (HBB.out.trans (hb9.mono HBB.out.size))
          have HO9 := Lib.hid (own_le (B' := w1.heap.size) hown9 HBB.out.size)
          clear hown9 hg9 hb9 hLS hly
          have hbT := (Below.refl w9.heap.size w9).alloc (Nat.le_refl _) (.cells #[Value.string ⟨#[110, 117, 108, 108]⟩] 9)
          have hOT := own_keepA HO9.out fun k _ hk => hbT.block k hk
          have hLT : Lies 1 (some ⟨w9.heap.size, 0, none⟩) 1 [Value.string ⟨#[110, 117, 108, 108]⟩] (w9.alloc (.cells #[Value.string ⟨#[110, 117, 108, 108]⟩] 9)) := lies_one rfl
          have hw19 : w1.heap.size ≤ w9.heap.size := HB9.out.size
          go_wp2_with (at_builtin; refine wpList_append_lying rfl _ _ 24 rfl w1.heap.size 9 i0 _ 1 16 Tryz.underlying24 hi0 hz0 hz1 hz2 rfl (by decide) (.slice so9 bl cap9) bl (base.map Value.string) rfl hOT (some ⟨w9.heap.size, 0, none⟩) 1 1 [Value.string ⟨#[110, 117, 108, 108]⟩] rfl hLT ?z1d ?z1e ?z1f ?_)
          case z1d => unfold maxLen; omega
          case z1e => omega
          try (case z1f => rw [alloc_sz]; omega)
          intro v10 w10 hown10 hg10 _
          obtain ⟨so10, cap10, rfl⟩ := own_shape hown10
          have HB10 := Lib.hid (below_own (HB9.out.alloc hw19 _) hg10 (own_base hOT) (by rw [alloc_sz]; omega))
          have HX10 := Lib.hid (show bl + 1 = (stk L (k + 1)).length ∧ w10.ownsRow w1.heap.size 9 1 (.slice so10 (bl + 1) cap10) (bl + 1) ((stk L (k + 1)).map Value.string) from by
            rw [HST2.out]
            refine ⟨by rw [List.length_append, HBL.out]; simp, ?_⟩
            have e : ((base ++ [txtOf ⟨1, ss, sn⟩ []]).map Value.string) = base.map Value.string ++ [Value.string ⟨#[110, 117, 108, 108]⟩] := by rw [List.map_append, ← HTQ.out]; rfl
            rw [e]
            exact hown10)
          clear hown10 hg10 hOT hLT hbT hi0 hz0 hz1 hz2
          go_wp2_with fail
          go_roundw
          case rel => exact ⟨k + 1, _, _, _, by go_num, rfl, by omega, by omega, HX10, HB10⟩
          case measure => simp [intOf]; omega
        · skip
          have HTQ := Lib.hid (show Value.string (txtOf ⟨2, ss, sn⟩ []) = Value.string ⟨#[116, 114, 117, 101]⟩ by rw [htq]; rfl)
          clear htq
          obtain ⟨hly, hle, _⟩ := own_row_lies HOB.out HN.out
          have hLS : Lies 1 so base.length (base.map Value.string) (wb.alloc (.cells #[] 9)) := lies_next hly ((Below.refl _ _).alloc (Nat.le_refl _) _)
          rw [HBL.out] at hLS
          obtain ⟨i0, hi0, hz0, hz1, hz2⟩ := info_parts infoStr
          go_wp2_with (at_builtin; refine wpList_append_lying rfl _ _ 24 rfl wb.heap.size 9 i0 _ 1 16 Tryz.underlying24 hi0 hz0 hz1 hz2 rfl (by decide) (.slice (some ⟨wb.heap.size, 0, none⟩) 0 0) 0 [] rfl own_empty so bl sc (base.map Value.string) rfl hLS ?z2a ?z2b ?z2c ?_)
          case z2a => unfold maxLen; omega
          case z2b => omega
          try (case z2c => simp)
          intro v9 w9 hown9 hg9 _
          obtain ⟨so9, cap9, rfl⟩ := own_shape hown9
          have hb9 := below_own ((Below.refl wb.heap.size wb).alloc (Nat.le_refl _) _) hg9 (fun k hk => by have e : wb.heap.size = k := Option.some.inj hk; omega) (by simp)
          have HB9 := Lib.hid (HBB.out.trans (hb9.mono HBB.out.size))
          have HO9 := Lib.hid (own_le (B' := w1.heap.size) hown9 HBB.out.size)
          clear hown9 hg9 hb9 hLS hly
          have hbT := (Below.refl w9.heap.size w9).alloc (Nat.le_refl _) (.cells #[Value.string ⟨#[116, 114, 117, 101]⟩] 9)
          have hOT := own_keepA HO9.out fun k _ hk => hbT.block k hk
          have hLT : Lies 1 (some ⟨w9.heap.size, 0, none⟩) 1 [Value.string ⟨#[116, 114, 117, 101]⟩] (w9.alloc (.cells #[Value.string ⟨#[116, 114, 117, 101]⟩] 9)) := lies_one rfl
          have hw19 : w1.heap.size ≤ w9.heap.size := HB9.out.size
          go_wp2_with (at_builtin; refine wpList_append_lying rfl _ _ 24 rfl w1.heap.size 9 i0 _ 1 16 Tryz.underlying24 hi0 hz0 hz1 hz2 rfl (by decide) (.slice so9 bl cap9) bl (base.map Value.string) rfl hOT (some ⟨w9.heap.size, 0, none⟩) 1 1 [Value.string ⟨#[116, 114, 117, 101]⟩] rfl hLT ?z2d ?z2e ?z2f ?_)
          case z2d => unfold maxLen; omega
          case z2e => omega
          try (case z2f => rw [alloc_sz]; omega)
          intro v10 w10 hown10 hg10 _
          obtain ⟨so10, cap10, rfl⟩ := own_shape hown10
          have HB10 := Lib.hid (below_own (HB9.out.alloc hw19 _) hg10 (own_base hOT) (by rw [alloc_sz]; omega))
          have HX10 := Lib.hid (show bl + 1 = (stk L (k + 1)).length ∧ w10.ownsRow w1.heap.size 9 1 (.slice so10 (bl + 1) cap10) (bl + 1) ((stk L (k + 1)).map Value.string) from by
            rw [HST2.out]
            refine ⟨by rw [List.length_append, HBL.out]; simp, ?_⟩
            have e : ((base ++ [txtOf ⟨2, ss, sn⟩ []]).map Value.string) = base.map Value.string ++ [Value.string ⟨#[116, 114, 117, 101]⟩] := by rw [List.map_append, ← HTQ.out]; rfl
            rw [e]
            exact hown10)
          clear hown10 hg10 hOT hLT hbT hi0 hz0 hz1 hz2
          go_wp2_with fail
          go_roundw
          case rel => exact ⟨k + 1, _, _, _, by go_num, rfl, by omega, by omega, HX10, HB10⟩
          case measure => simp [intOf]; omega
        · skip
          have HTQ := Lib.hid (show Value.string (txtOf ⟨3, ss, sn⟩ []) = Value.string ⟨#[102, 97, 108, 115, 101]⟩ by rw [htq]; rfl)
          clear htq
          obtain ⟨hly, hle, _⟩ := own_row_lies HOB.out HN.out
          have hLS : Lies 1 so base.length (base.map Value.string) (wb.alloc (.cells #[] 9)) := lies_next hly ((Below.refl _ _).alloc (Nat.le_refl _) _)
          rw [HBL.out] at hLS
          obtain ⟨i0, hi0, hz0, hz1, hz2⟩ := info_parts infoStr
          go_wp2_with (at_builtin; refine wpList_append_lying rfl _ _ 24 rfl wb.heap.size 9 i0 _ 1 16 Tryz.underlying24 hi0 hz0 hz1 hz2 rfl (by decide) (.slice (some ⟨wb.heap.size, 0, none⟩) 0 0) 0 [] rfl own_empty so bl sc (base.map Value.string) rfl hLS ?z3a ?z3b ?z3c ?_)
          case z3a => unfold maxLen; omega
          case z3b => omega
          try (case z3c => simp)
          intro v9 w9 hown9 hg9 _
          obtain ⟨so9, cap9, rfl⟩ := own_shape hown9
          have hb9 := below_own ((Below.refl wb.heap.size wb).alloc (Nat.le_refl _) _) hg9 (fun k hk => by have e : wb.heap.size = k := Option.some.inj hk; omega) (by simp)
          have HB9 := Lib.hid (HBB.out.trans (hb9.mono HBB.out.size))
          have HO9 := Lib.hid (own_le (B' := w1.heap.size) hown9 HBB.out.size)
          clear hown9 hg9 hb9 hLS hly
          have hbT := (Below.refl w9.heap.size w9).alloc (Nat.le_refl _) (.cells #[Value.string ⟨#[102, 97, 108, 115, 101]⟩] 9)
          have hOT := own_keepA HO9.out fun k _ hk => hbT.block k hk
          have hLT : Lies 1 (some ⟨w9.heap.size, 0, none⟩) 1 [Value.string ⟨#[102, 97, 108, 115, 101]⟩] (w9.alloc (.cells #[Value.string ⟨#[102, 97, 108, 115, 101]⟩] 9)) := lies_one rfl
          have hw19 : w1.heap.size ≤ w9.heap.size := HB9.out.size
          go_wp2_with (at_builtin; refine wpList_append_lying rfl _ _ 24 rfl w1.heap.size 9 i0 _ 1 16 Tryz.underlying24 hi0 hz0 hz1 hz2 rfl (by decide) (.slice so9 bl cap9) bl (base.map Value.string) rfl hOT (some ⟨w9.heap.size, 0, none⟩) 1 1 [Value.string ⟨#[102, 97, 108, 115, 101]⟩] rfl hLT ?z3d ?z3e ?z3f ?_)
          case z3d => unfold maxLen; omega
          case z3e => omega
          try (case z3f => rw [alloc_sz]; omega)
          intro v10 w10 hown10 hg10 _
          obtain ⟨so10, cap10, rfl⟩ := own_shape hown10
          have HB10 := Lib.hid (below_own (HB9.out.alloc hw19 _) hg10 (own_base hOT) (by rw [alloc_sz]; omega))
          have HX10 := Lib.hid (show bl + 1 = (stk L (k + 1)).length ∧ w10.ownsRow w1.heap.size 9 1 (.slice so10 (bl + 1) cap10) (bl + 1) ((stk L (k + 1)).map Value.string) from by
            rw [HST2.out]
            refine ⟨by rw [List.length_append, HBL.out]; simp, ?_⟩
            have e : ((base ++ [txtOf ⟨3, ss, sn⟩ []]).map Value.string) = base.map Value.string ++ [Value.string ⟨#[102, 97, 108, 115, 101]⟩] := by rw [List.map_append, ← HTQ.out]; rfl
            rw [e]
            exact hown10)
          clear hown10 hg10 hOT hLT hbT hi0 hz0 hz1 hz2
          go_wp2_with fail
          go_roundw
          case rel => exact ⟨k + 1, _, _, _, by go_num, rfl, by omega, by omega, HX10, HB10⟩
          case measure => simp [intOf]; omega
        · skip
          have HTQ := Lib.hid (show Value.string (txtOf ⟨4, ss, sn⟩ []) = Value.string ⟨(Lib.itoa sn).toArray⟩ by rw [htq]; rfl)
          clear htq
          have HNU := Lib.hid (rNumber_any sn wb hnm.1 hnm.2)
          go_wp2_with (go_at_call 28; refine HNU.out.mono ?_; rintro e w2 ⟨rfl, rfl⟩; refine Hid.out ?_)
          refine Lib.hid ?_
          generalize (⟨(Lib.itoa sn).toArray⟩ : ByteArray) = X at *
          obtain ⟨hly, hle, _⟩ := own_row_lies HOB.out HN.out
          have hLS : Lies 1 so base.length (base.map Value.string) (wb.alloc (.cells #[] 9)) := lies_next hly ((Below.refl _ _).alloc (Nat.le_refl _) _)
          rw [HBL.out] at hLS
          obtain ⟨i0, hi0, hz0, hz1, hz2⟩ := info_parts infoStr
          go_wp2_with (at_builtin; refine wpList_append_lying rfl _ _ 24 rfl wb.heap.size 9 i0 _ 1 16 Tryz.underlying24 hi0 hz0 hz1 hz2 rfl (by decide) (.slice (some ⟨wb.heap.size, 0, none⟩) 0 0) 0 [] rfl own_empty so bl sc (base.map Value.string) rfl hLS ?z4a ?z4b ?z4c ?_)
          case z4a => unfold maxLen; omega
          case z4b => omega
          try (case z4c => simp)
          intro v9 w9 hown9 hg9 _
          obtain ⟨so9, cap9, rfl⟩ := own_shape hown9
          have hb9 := below_own ((Below.refl wb.heap.size wb).alloc (Nat.le_refl _) _) hg9 (fun k hk => by have e : wb.heap.size = k := Option.some.inj hk; omega) (by simp)
          have HB9 := Lib.hid (HBB.out.trans (hb9.mono HBB.out.size))
          have HO9 := Lib.hid (own_le (B' := w1.heap.size) hown9 HBB.out.size)
          clear hown9 hg9 hb9 hLS hly
          have hbT := (Below.refl w9.heap.size w9).alloc (Nat.le_refl _) (.cells #[Value.string X] 9)
          have hOT := own_keepA HO9.out fun k _ hk => hbT.block k hk
          have hLT : Lies 1 (some ⟨w9.heap.size, 0, none⟩) 1 [Value.string X] (w9.alloc (.cells #[Value.string X] 9)) := lies_one rfl
          have hw19 : w1.heap.size ≤ w9.heap.size := HB9.out.size
          go_wp2_with (at_builtin; refine wpList_append_lying rfl _ _ 24 rfl w1.heap.size 9 i0 _ 1 16 Tryz.underlying24 hi0 hz0 hz1 hz2 rfl (by decide) (.slice so9 bl cap9) bl (base.map Value.string) rfl hOT (some ⟨w9.heap.size, 0, none⟩) 1 1 [Value.string X] rfl hLT ?z4d ?z4e ?z4f ?_)
          case z4d => unfold maxLen; omega
          case z4e => omega
          try (case z4f => rw [alloc_sz]; omega)
          intro v10 w10 hown10 hg10 _
          obtain ⟨so10, cap10, rfl⟩ := own_shape hown10
          have HB10 := Lib.hid (below_own (HB9.out.alloc hw19 _) hg10 (own_base hOT) (by rw [alloc_sz]; omega))
          have HX10 := Lib.hid (show bl + 1 = (stk L (k + 1)).length ∧ w10.ownsRow w1.heap.size 9 1 (.slice so10 (bl + 1) cap10) (bl + 1) ((stk L (k + 1)).map Value.string) from by
            rw [HST2.out]
            refine ⟨by rw [List.length_append, HBL.out]; simp, ?_⟩
            have e : ((base ++ [txtOf ⟨4, ss, sn⟩ []]).map Value.string) = base.map Value.string ++ [Value.string X] := by rw [List.map_append, ← HTQ.out]; rfl
            rw [e]
            exact hown10)
          clear hown10 hg10 hOT hLT hbT hi0 hz0 hz1 hz2
          go_wp2_with fail
          go_roundw
          case rel => exact ⟨k + 1, _, _, _, by go_num, rfl, by omega, by omega, HX10, HB10⟩
          case measure => simp [intOf]; omega
        · skip
          have HTQ := Lib.hid (show Value.string (txtOf ⟨5, ss, sn⟩ []) = Value.string (quotF ss) by rw [htq]; rfl)
          clear htq
          have HQU := Lib.hid (rQuoted_any ss wb (by omega))
          go_wp2_with (go_at_call 29; refine HQU.out.mono ?_; rintro e w2 ⟨rfl, hb2⟩; refine Hid.out ?_)
          refine Lib.hid ?_
          have HB2 := Lib.hid (HBB.out.trans (hb2.mono HBB.out.size))
          have HO2 := Lib.hid (own_keepA HOB.out fun k _ hk => hb2.block k hk)
          clear hb2 HBB HOB HNB d0 d1 d2
          generalize quotF ss = X at *
          obtain ⟨hly, hle, _⟩ := own_row_lies HO2.out HN.out
          have hLS : Lies 1 so base.length (base.map Value.string) (w2.alloc (.cells #[] 9)) := lies_next hly ((Below.refl _ _).alloc (Nat.le_refl _) _)
          rw [HBL.out] at hLS
          obtain ⟨i0, hi0, hz0, hz1, hz2⟩ := info_parts infoStr
          go_wp2_with (at_builtin; refine wpList_append_lying rfl _ _ 24 rfl w2.heap.size 9 i0 _ 1 16 Tryz.underlying24 hi0 hz0 hz1 hz2 rfl (by decide) (.slice (some ⟨w2.heap.size, 0, none⟩) 0 0) 0 [] rfl own_empty so bl sc (base.map Value.string) rfl hLS ?z5a ?z5b ?z5c ?_)
          case z5a => unfold maxLen; omega
          case z5b => omega
          try (case z5c => simp)
          intro v9 w9 hown9 hg9 _
          obtain ⟨so9, cap9, rfl⟩ := own_shape hown9
          have hb9 := below_own ((Below.refl w2.heap.size w2).alloc (Nat.le_refl _) _) hg9 (fun k hk => by have e : w2.heap.size = k := Option.some.inj hk; omega) (by simp)
          have HB9 := Lib.hid (HB2.out.trans (hb9.mono HB2.out.size))
          have HO9 := Lib.hid (own_le (B' := w1.heap.size) hown9 HB2.out.size)
          clear hown9 hg9 hb9 hLS hly
          have hbT := (Below.refl w9.heap.size w9).alloc (Nat.le_refl _) (.cells #[Value.string X] 9)
          have hOT := own_keepA HO9.out fun k _ hk => hbT.block k hk
          have hLT : Lies 1 (some ⟨w9.heap.size, 0, none⟩) 1 [Value.string X] (w9.alloc (.cells #[Value.string X] 9)) := lies_one rfl
          have hw19 : w1.heap.size ≤ w9.heap.size := HB9.out.size
          go_wp2_with (at_builtin; refine wpList_append_lying rfl _ _ 24 rfl w1.heap.size 9 i0 _ 1 16 Tryz.underlying24 hi0 hz0 hz1 hz2 rfl (by decide) (.slice so9 bl cap9) bl (base.map Value.string) rfl hOT (some ⟨w9.heap.size, 0, none⟩) 1 1 [Value.string X] rfl hLT ?z5d ?z5e ?z5f ?_)
          case z5d => unfold maxLen; omega
          case z5e => omega
          try (case z5f => rw [alloc_sz]; omega)
          intro v10 w10 hown10 hg10 _
          obtain ⟨so10, cap10, rfl⟩ := own_shape hown10
          have HB10 := Lib.hid (below_own (HB9.out.alloc hw19 _) hg10 (own_base hOT) (by rw [alloc_sz]; omega))
          have HX10 := Lib.hid (show bl + 1 = (stk L (k + 1)).length ∧ w10.ownsRow w1.heap.size 9 1 (.slice so10 (bl + 1) cap10) (bl + 1) ((stk L (k + 1)).map Value.string) from by
            rw [HST2.out]
            refine ⟨by rw [List.length_append, HBL.out]; simp, ?_⟩
            have e : ((base ++ [txtOf ⟨5, ss, sn⟩ []]).map Value.string) = base.map Value.string ++ [Value.string X] := by rw [List.map_append, ← HTQ.out]; rfl
            rw [e]
            exact hown10)
          clear hown10 hg10 hOT hLT hbT hi0 hz0 hz1 hz2
          go_wp2_with fail
          go_roundw
          case rel => exact ⟨k + 1, _, _, _, by go_num, rfl, by omega, by omega, HX10, HB10⟩
          case measure => simp [intOf]; omega
        · skip
          have HTQ := Lib.hid (show Value.string (txtOf ⟨6, ss, sn⟩ []) = Value.string ss by rw [htq]; rfl)
          clear htq
          obtain ⟨hly, hle, _⟩ := own_row_lies HOB.out HN.out
          have hLS : Lies 1 so base.length (base.map Value.string) (wb.alloc (.cells #[] 9)) := lies_next hly ((Below.refl _ _).alloc (Nat.le_refl _) _)
          rw [HBL.out] at hLS
          obtain ⟨i0, hi0, hz0, hz1, hz2⟩ := info_parts infoStr
          go_wp2_with (at_builtin; refine wpList_append_lying rfl _ _ 24 rfl wb.heap.size 9 i0 _ 1 16 Tryz.underlying24 hi0 hz0 hz1 hz2 rfl (by decide) (.slice (some ⟨wb.heap.size, 0, none⟩) 0 0) 0 [] rfl own_empty so bl sc (base.map Value.string) rfl hLS ?z6a ?z6b ?z6c ?_)
          case z6a => unfold maxLen; omega
          case z6b => omega
          try (case z6c => simp)
          intro v9 w9 hown9 hg9 _
          obtain ⟨so9, cap9, rfl⟩ := own_shape hown9
          have hb9 := below_own ((Below.refl wb.heap.size wb).alloc (Nat.le_refl _) _) hg9 (fun k hk => by have e : wb.heap.size = k := Option.some.inj hk; omega) (by simp)
          have HB9 := Lib.hid (HBB.out.trans (hb9.mono HBB.out.size))
          have HO9 := Lib.hid (own_le (B' := w1.heap.size) hown9 HBB.out.size)
          clear hown9 hg9 hb9 hLS hly
          have hbT := (Below.refl w9.heap.size w9).alloc (Nat.le_refl _) (.cells #[Value.string ss] 9)
          have hOT := own_keepA HO9.out fun k _ hk => hbT.block k hk
          have hLT : Lies 1 (some ⟨w9.heap.size, 0, none⟩) 1 [Value.string ss] (w9.alloc (.cells #[Value.string ss] 9)) := lies_one rfl
          have hw19 : w1.heap.size ≤ w9.heap.size := HB9.out.size
          go_wp2_with (at_builtin; refine wpList_append_lying rfl _ _ 24 rfl w1.heap.size 9 i0 _ 1 16 Tryz.underlying24 hi0 hz0 hz1 hz2 rfl (by decide) (.slice so9 bl cap9) bl (base.map Value.string) rfl hOT (some ⟨w9.heap.size, 0, none⟩) 1 1 [Value.string ss] rfl hLT ?z6d ?z6e ?z6f ?_)
          case z6d => unfold maxLen; omega
          case z6e => omega
          try (case z6f => rw [alloc_sz]; omega)
          intro v10 w10 hown10 hg10 _
          obtain ⟨so10, cap10, rfl⟩ := own_shape hown10
          have HB10 := Lib.hid (below_own (HB9.out.alloc hw19 _) hg10 (own_base hOT) (by rw [alloc_sz]; omega))
          have HX10 := Lib.hid (show bl + 1 = (stk L (k + 1)).length ∧ w10.ownsRow w1.heap.size 9 1 (.slice so10 (bl + 1) cap10) (bl + 1) ((stk L (k + 1)).map Value.string) from by
            rw [HST2.out]
            refine ⟨by rw [List.length_append, HBL.out]; simp, ?_⟩
            have e : ((base ++ [txtOf ⟨6, ss, sn⟩ []]).map Value.string) = base.map Value.string ++ [Value.string ss] := by rw [List.map_append, ← HTQ.out]; rfl
            rw [e]
            exact hown10)
          clear hown10 hg10 hOT hLT hbT hi0 hz0 hz1 hz2
          go_wp2_with fail
          go_roundw
          case rel => exact ⟨k + 1, _, _, _, by go_num, rfl, by omega, by omega, HX10, HB10⟩
          case measure => simp [intOf]; omega
      · have hkr := takes_kind HTR.out (by omega) hto.2.1
        simp only at hkr
        have q1 : (sk == 1) = false := by simp; omega
        have q2 : (sk == 2) = false := by simp; omega
        have q3 : (sk == 3) = false := by simp; omega
        have q4 : (sk == 4) = false := by simp; omega
        have q5 : (sk == 5) = false := by simp; omega
        have q6 : (sk == 6) = false := by simp; omega
        have htq : txtOf ⟨sk, ss, sn⟩ args = bracketT (opT sk :: args) := by unfold txtOf; rw [HTR.out, if_neg h0]
        have HTQ0 := Lib.hid htq
        clear htq
        have hop6 := opT_size sk
        rcases (by omega : tk = 1 ∨ tk = 2) with rfl | rfl
        · obtain rfl : n = bl + 1 := by have := HNL.out; have := HAL0.out; omega
          have HAL := Lib.hid (show args.length = 1 by have := HAL0.out; omega)
          clear HAL0 HNL h0 hrg
          go_upto_region 11 with fail
          go_cut [10] from 33 to 39 (fun v wx => v = .string (⟨#[40]⟩ ++ opT sk) ∧ Hid (Below wb.heap.size wb wx))
          case first =>
            have HD := Lib.hid fun w5 (hb : Below wb.heap.size wb w5) => (Lib.cell_of_heap ((hb.block _ hlB).trans HNB.out) 0).trans (rfl : _ = some (Value.int .u8 sk))
            obtain ⟨j, hj⟩ : ∃ j : Nat, sk - 7 = j := ⟨(sk - 7).toNat, by omega⟩
            have hj14 : j < 15 := by omega
            have hwr : IntKind.u8.wrap (sk - 7) = (j : Int) := by rw [IntKind.wrap_u8]; omega
            have hj0 : (0 : Int) ≤ j := by omega
            have hj1 : (j : Int) < 15 := by omega
            have HJ := Lib.hid hj
            clear hj
            go_region_with (go_at_call 30; refine (rops_any _).mono ?_; rintro en w5 ⟨rfl, hS, hb5⟩; have HB5 := Lib.hid (show Below wb.heap.size wb w5 by first | exact hb5 | exact below_self (Below.refl _ _).drew hb5 | exact below_self (Below.refl _ _).drew.drew hb5); have g5 := HD.out w5 HB5.out; have g8 : w5.cell? ⟨wb.heap.size, j, none⟩ = some (.string (opT sk)) := ops_at hS HJ.out hj14; clear hS hb5)
            all_goals
              go_wp2_with fail
              go_meet
              first
                | exact ⟨rfl, HB5⟩
                | exact ⟨rfl, Lib.hid (bdn HB5.out 1)⟩
          case rest =>
            obtain ⟨rfl, HBC⟩ := hcut
            have HBX := Lib.hid (HBB.out.trans (HBC.out.mono HBB.out.size))
            have HOX := Lib.hid (own_keepA HOB.out fun k _ hk => HBC.out.block k hk)
            clear HBC HBB HOB HNB d0 d1 d2 hlB
            obtain ⟨_, hsc, hca⟩ := own_row_lies HOX.out HN.out
            obtain ⟨g, rfl, hcc⟩ := hca (fun e => by have := HAL.out; rw [e] at this; cases this)
            rw [HBL.out] at hcc
            have HCC := Lib.hid hcc
            clear hcc
            have hbs : bl < sc := by omega
            have hbi : (bl : Int) ≤ (sc : Int) := by omega
            go_wp2_with fail
            go_loopw [10, 44] (fun v i wx => ∃ (j : Nat) (F : ByteArray), i = .int .i64 j ∧ v = .string F ∧ j ≤ 1 ∧ F.size ≤ 7 + j * 103425 ∧ Hid (B F = 40 :: (B (opT sk) ++ sfxL (args.take j))) ∧ wx = wc) (fun _ i _ => 1 - (intOf i).toNat)
            case atStart => exact ⟨0, _, rfl, rfl, Nat.zero_le _, by rw [ByteArray.size_append]; have : (ByteArray.mk #[40]).size = 1 := rfl; omega, Lib.hid (acc_zero _), rfl⟩
            case round =>
              obtain ⟨j, F, rfl, rfl, hj, hF, HF, hwx⟩ := hrel
              obtain rfl : wc = _ := hwx.symm
              by_cases hjl : j < 1
              · obtain ⟨x, hx⟩ : ∃ x, args[j]? = some x := ⟨_, List.getElem?_eq_getElem (by have := HAL.out; omega)⟩
                have cj := HCC.out j x hx
                have hxs := HAS.out x (List.mem_of_getElem? hx)
                have HF2 := Lib.hid (show B (F ++ (⟨#[32]⟩ ++ x)) = 40 :: (B (opT sk) ++ sfxL (args.take (j + 1))) by
                  have e : args.take (j + 1) = args.take j ++ [x] := by rw [List.take_add_one, hx]; rfl
                  rw [e]
                  exact acc_step HF.out)
                have hF2 : (F ++ (⟨#[32]⟩ ++ x)).size ≤ 7 + (j + 1) * 103425 := by
                  rw [ByteArray.size_append, ByteArray.size_append]
                  have : (ByteArray.mk #[32]).size = 1 := rfl
                  omega
                clear hx
                go_wp2_with fail
                go_roundw
                case rel => exact ⟨j + 1, _, by go_num, rfl, by omega, hF2, HF2, trivial⟩
                case measure => simp [intOf]; omega
              · obtain rfl : j = 1 := by omega
                have HTQ := Lib.hid (show Value.string (txtOf ⟨sk, ss, sn⟩ args) = Value.string (F ++ ⟨#[41]⟩) by
                  have h := HF.out
                  rw [List.take_of_length_le (by have := HAL.out; omega)] at h
                  rw [HTQ0.out, acc_done h])
                clear HF HCC
                obtain ⟨hly, hle, _⟩ := own_row_lies HOX.out HN.out
                have hLS : Lies 1 (some ⟨g, 0, none⟩) base.length (base.map Value.string) (wc.alloc (.cells #[] 9)) := lies_next hly ((Below.refl _ _).alloc (Nat.le_refl _) _)
                rw [HBL.out] at hLS
                obtain ⟨i0, hi0, hz0, hz1, hz2⟩ := info_parts infoStr
                go_wp2_with (at_builtin; refine wpList_append_lying rfl _ _ 24 rfl wc.heap.size 9 i0 _ 1 16 Tryz.underlying24 hi0 hz0 hz1 hz2 rfl (by decide) (.slice (some ⟨wc.heap.size, 0, none⟩) 0 0) 0 [] rfl own_empty (some ⟨g, 0, none⟩) bl sc (base.map Value.string) rfl hLS ?z7a ?z7b ?z7c ?_)
                case z7a => unfold maxLen; omega
                case z7b => omega
                try (case z7c => simp)
                intro v9 w9 hown9 hg9 _
                obtain ⟨so9, cap9, rfl⟩ := own_shape hown9
                have hb9 := below_own ((Below.refl wc.heap.size wc).alloc (Nat.le_refl _) _) hg9 (fun k hk => by have e : wc.heap.size = k := Option.some.inj hk; omega) (by simp)
                have HB9 := Lib.hid (HBX.out.trans (hb9.mono HBX.out.size))
                have HO9 := Lib.hid (own_le (B' := w1.heap.size) hown9 HBX.out.size)
                clear hown9 hg9 hb9 hLS hly
                have hbT := (Below.refl w9.heap.size w9).alloc (Nat.le_refl _) (.cells #[Value.string (F ++ ⟨#[41]⟩)] 9)
                have hOT := own_keepA HO9.out fun k _ hk => hbT.block k hk
                have hLT : Lies 1 (some ⟨w9.heap.size, 0, none⟩) 1 [Value.string (F ++ ⟨#[41]⟩)] (w9.alloc (.cells #[Value.string (F ++ ⟨#[41]⟩)] 9)) := lies_one rfl
                have hw19 : w1.heap.size ≤ w9.heap.size := HB9.out.size
                go_wp2_with (at_builtin; refine wpList_append_lying rfl _ _ 24 rfl w1.heap.size 9 i0 _ 1 16 Tryz.underlying24 hi0 hz0 hz1 hz2 rfl (by decide) (.slice so9 bl cap9) bl (base.map Value.string) rfl hOT (some ⟨w9.heap.size, 0, none⟩) 1 1 [Value.string (F ++ ⟨#[41]⟩)] rfl hLT ?z7d ?z7e ?z7f ?_)
                case z7d => unfold maxLen; omega
                case z7e => omega
                try (case z7f => rw [alloc_sz]; omega)
                intro v10 w10 hown10 hg10 _
                obtain ⟨so10, cap10, rfl⟩ := own_shape hown10
                have HB10 := Lib.hid (below_own (HB9.out.alloc hw19 _) hg10 (own_base hOT) (by rw [alloc_sz]; omega))
                have HX10 := Lib.hid (show bl + 1 = (stk L (k + 1)).length ∧ w10.ownsRow w1.heap.size 9 1 (.slice so10 (bl + 1) cap10) (bl + 1) ((stk L (k + 1)).map Value.string) from by
                  rw [HST2.out]
                  refine ⟨by rw [List.length_append, HBL.out]; simp, ?_⟩
                  have e : ((base ++ [txtOf ⟨sk, ss, sn⟩ args]).map Value.string) = base.map Value.string ++ [Value.string (F ++ ⟨#[41]⟩)] := by rw [List.map_append, ← HTQ.out]; rfl
                  rw [e]
                  exact hown10)
                clear hown10 hg10 hOT hLT hbT hi0 hz0 hz1 hz2
                go_wp2_with fail
                go_roundw
                case rel => exact ⟨k + 1, _, _, _, by go_num, rfl, by omega, by omega, HX10, HB10⟩
                case measure => simp [intOf]; omega
        · obtain rfl : n = bl + 2 := by have := HNL.out; have := HAL0.out; omega
          have HAL := Lib.hid (show args.length = 2 by have := HAL0.out; omega)
          clear HAL0 HNL h0 hrg
          go_upto_region 11 with fail
          go_cut [10] from 33 to 39 (fun v wx => v = .string (⟨#[40]⟩ ++ opT sk) ∧ Hid (Below wb.heap.size wb wx))
          case first =>
            have HD := Lib.hid fun w5 (hb : Below wb.heap.size wb w5) => (Lib.cell_of_heap ((hb.block _ hlB).trans HNB.out) 0).trans (rfl : _ = some (Value.int .u8 sk))
            obtain ⟨j, hj⟩ : ∃ j : Nat, sk - 7 = j := ⟨(sk - 7).toNat, by omega⟩
            have hj14 : j < 15 := by omega
            have hwr : IntKind.u8.wrap (sk - 7) = (j : Int) := by rw [IntKind.wrap_u8]; omega
            have hj0 : (0 : Int) ≤ j := by omega
            have hj1 : (j : Int) < 15 := by omega
            have HJ := Lib.hid hj
            clear hj
            go_region_with (go_at_call 30; refine (rops_any _).mono ?_; rintro en w5 ⟨rfl, hS, hb5⟩; have HB5 := Lib.hid (show Below wb.heap.size wb w5 by first | exact hb5 | exact below_self (Below.refl _ _).drew hb5 | exact below_self (Below.refl _ _).drew.drew hb5); have g5 := HD.out w5 HB5.out; have g8 : w5.cell? ⟨wb.heap.size, j, none⟩ = some (.string (opT sk)) := ops_at hS HJ.out hj14; clear hS hb5)
            all_goals
              go_wp2_with fail
              go_meet
              first
                | exact ⟨rfl, HB5⟩
                | exact ⟨rfl, Lib.hid (bdn HB5.out 1)⟩
          case rest =>
            obtain ⟨rfl, HBC⟩ := hcut
            have HBX := Lib.hid (HBB.out.trans (HBC.out.mono HBB.out.size))
            have HOX := Lib.hid (own_keepA HOB.out fun k _ hk => HBC.out.block k hk)
            clear HBC HBB HOB HNB d0 d1 d2 hlB
            obtain ⟨_, hsc, hca⟩ := own_row_lies HOX.out HN.out
            obtain ⟨g, rfl, hcc⟩ := hca (fun e => by have := HAL.out; rw [e] at this; cases this)
            rw [HBL.out] at hcc
            have HCC := Lib.hid hcc
            clear hcc
            have hbs : bl < sc := by omega
            have hbi : (bl : Int) ≤ (sc : Int) := by omega
            go_wp2_with fail
            go_loopw [10, 44] (fun v i wx => ∃ (j : Nat) (F : ByteArray), i = .int .i64 j ∧ v = .string F ∧ j ≤ 2 ∧ F.size ≤ 7 + j * 103425 ∧ Hid (B F = 40 :: (B (opT sk) ++ sfxL (args.take j))) ∧ wx = wc) (fun _ i _ => 2 - (intOf i).toNat)
            case atStart => exact ⟨0, _, rfl, rfl, Nat.zero_le _, by rw [ByteArray.size_append]; have : (ByteArray.mk #[40]).size = 1 := rfl; omega, Lib.hid (acc_zero _), rfl⟩
            case round =>
              obtain ⟨j, F, rfl, rfl, hj, hF, HF, hwx⟩ := hrel
              obtain rfl : wc = _ := hwx.symm
              by_cases hjl : j < 2
              · obtain ⟨x, hx⟩ : ∃ x, args[j]? = some x := ⟨_, List.getElem?_eq_getElem (by have := HAL.out; omega)⟩
                have cj := HCC.out j x hx
                have hxs := HAS.out x (List.mem_of_getElem? hx)
                have HF2 := Lib.hid (show B (F ++ (⟨#[32]⟩ ++ x)) = 40 :: (B (opT sk) ++ sfxL (args.take (j + 1))) by
                  have e : args.take (j + 1) = args.take j ++ [x] := by rw [List.take_add_one, hx]; rfl
                  rw [e]
                  exact acc_step HF.out)
                have hF2 : (F ++ (⟨#[32]⟩ ++ x)).size ≤ 7 + (j + 1) * 103425 := by
                  rw [ByteArray.size_append, ByteArray.size_append]
                  have : (ByteArray.mk #[32]).size = 1 := rfl
                  omega
                clear hx
                go_wp2_with fail
                go_roundw
                case rel => exact ⟨j + 1, _, by go_num, rfl, by omega, hF2, HF2, trivial⟩
                case measure => simp [intOf]; omega
              · obtain rfl : j = 2 := by omega
                have HTQ := Lib.hid (show Value.string (txtOf ⟨sk, ss, sn⟩ args) = Value.string (F ++ ⟨#[41]⟩) by
                  have h := HF.out
                  rw [List.take_of_length_le (by have := HAL.out; omega)] at h
                  rw [HTQ0.out, acc_done h])
                clear HF HCC
                obtain ⟨hly, hle, _⟩ := own_row_lies HOX.out HN.out
                have hLS : Lies 1 (some ⟨g, 0, none⟩) base.length (base.map Value.string) (wc.alloc (.cells #[] 9)) := lies_next hly ((Below.refl _ _).alloc (Nat.le_refl _) _)
                rw [HBL.out] at hLS
                obtain ⟨i0, hi0, hz0, hz1, hz2⟩ := info_parts infoStr
                go_wp2_with (at_builtin; refine wpList_append_lying rfl _ _ 24 rfl wc.heap.size 9 i0 _ 1 16 Tryz.underlying24 hi0 hz0 hz1 hz2 rfl (by decide) (.slice (some ⟨wc.heap.size, 0, none⟩) 0 0) 0 [] rfl own_empty (some ⟨g, 0, none⟩) bl sc (base.map Value.string) rfl hLS ?z8a ?z8b ?z8c ?_)
                case z8a => unfold maxLen; omega
                case z8b => omega
                try (case z8c => simp)
                intro v9 w9 hown9 hg9 _
                obtain ⟨so9, cap9, rfl⟩ := own_shape hown9
                have hb9 := below_own ((Below.refl wc.heap.size wc).alloc (Nat.le_refl _) _) hg9 (fun k hk => by have e : wc.heap.size = k := Option.some.inj hk; omega) (by simp)
                have HB9 := Lib.hid (HBX.out.trans (hb9.mono HBX.out.size))
                have HO9 := Lib.hid (own_le (B' := w1.heap.size) hown9 HBX.out.size)
                clear hown9 hg9 hb9 hLS hly
                have hbT := (Below.refl w9.heap.size w9).alloc (Nat.le_refl _) (.cells #[Value.string (F ++ ⟨#[41]⟩)] 9)
                have hOT := own_keepA HO9.out fun k _ hk => hbT.block k hk
                have hLT : Lies 1 (some ⟨w9.heap.size, 0, none⟩) 1 [Value.string (F ++ ⟨#[41]⟩)] (w9.alloc (.cells #[Value.string (F ++ ⟨#[41]⟩)] 9)) := lies_one rfl
                have hw19 : w1.heap.size ≤ w9.heap.size := HB9.out.size
                go_wp2_with (at_builtin; refine wpList_append_lying rfl _ _ 24 rfl w1.heap.size 9 i0 _ 1 16 Tryz.underlying24 hi0 hz0 hz1 hz2 rfl (by decide) (.slice so9 bl cap9) bl (base.map Value.string) rfl hOT (some ⟨w9.heap.size, 0, none⟩) 1 1 [Value.string (F ++ ⟨#[41]⟩)] rfl hLT ?z8d ?z8e ?z8f ?_)
                case z8d => unfold maxLen; omega
                case z8e => omega
                try (case z8f => rw [alloc_sz]; omega)
                intro v10 w10 hown10 hg10 _
                obtain ⟨so10, cap10, rfl⟩ := own_shape hown10
                have HB10 := Lib.hid (below_own (HB9.out.alloc hw19 _) hg10 (own_base hOT) (by rw [alloc_sz]; omega))
                have HX10 := Lib.hid (show bl + 1 = (stk L (k + 1)).length ∧ w10.ownsRow w1.heap.size 9 1 (.slice so10 (bl + 1) cap10) (bl + 1) ((stk L (k + 1)).map Value.string) from by
                  rw [HST2.out]
                  refine ⟨by rw [List.length_append, HBL.out]; simp, ?_⟩
                  have e : ((base ++ [txtOf ⟨sk, ss, sn⟩ args]).map Value.string) = base.map Value.string ++ [Value.string (F ++ ⟨#[41]⟩)] := by rw [List.map_append, ← HTQ.out]; rfl
                  rw [e]
                  exact hown10)
                clear hown10 hg10 hOT hLT hbT hi0 hz0 hz1 hz2
                go_wp2_with fail
                go_roundw
                case rel => exact ⟨k + 1, _, _, _, by go_num, rfl, by omega, by omega, HX10, HB10⟩
                case measure => simp [intOf]; omega
    · obtain rfl : k = L.length := by omega
      obtain ⟨hn, hown⟩ := HS.out
      rw [stk_done HRT.out, HT.out] at hn hown
      obtain rfl : n = 1 := hn
      obtain ⟨ao', cap', hv, _, h1⟩ := own_cells hown
      obtain ⟨g, hg, _, _, hcg⟩ := h1.resolve_left (by decide)
      injection hv with e1 e2 e3
      subst e1 e3 hg
      have cg := hcg 0 _ rfl
      clear hown hcg HS h1
      go_wp2_with fail
      go_ret2
      exact ⟨rfl, HB1.out.trans (HBR.out.mono HB1.out.size)⟩
end Go.Proofs.YtegnoaejlhbpbaaGreatDoor.lx
