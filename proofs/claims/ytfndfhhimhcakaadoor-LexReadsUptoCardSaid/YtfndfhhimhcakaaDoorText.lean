/-
  The lexer's text (a quoted text), for every tape. Conditions: as for code; the rest is at most 2^40 bytes.
-/
import Derived.Test.YtfndfhhimhcakaaDoorEscape
import Derived.Test.YtfndfhhimhcakaaDoorBuilder
namespace Go.Proofs.YtfndfhhimhcakaaDoor.lx
open Go.RowKit

structure Tok where
  k : Int
  s : ByteArray
  n : Int
  a : Int
def Tok.v (t : Tok) : Value := .agg #[.int .u8 t.k, .string t.s, .int .i64 t.n, .int .i64 t.a]
def Tok.no : Tok := ⟨0, ⟨#[]⟩, 0, 0⟩

theorem adv_le (l : ByteArray) : (adv l).size ≤ l.size := by rw [adv_size]; omega
theorem escF_size (l : ByteArray) (p : Nat) : (escF l p).2.1.size ≤ l.size ∧ p ≤ (escF l p).2.2 ∧ (escF l p).2.2 + (escF l p).2.1.size ≤ p + l.size := by
  have h1 := adv_size l
  have h2 := dn_le l
  have hst : (stepP l p = p + 1 ∧ 1 ≤ dn l) ∨ (stepP l p = p ∧ dn l = 0) := by
    unfold stepP
    split
    · exact .inl ⟨rfl, by omega⟩
    · exact .inr ⟨rfl, by omega⟩
  unfold escF
  split
  · split
    · simp only; omega
    · rename_i n m hc
      simp only
      have h3 : ((adv l).extract (m + 1) (adv l).size).size = (adv l).size - (m + 1) := by simp [ByteArray.size_extract]
      have hm : m < (adv l).size := by
        have hx := idx_lt (adv l).data.toList 125
        rw [← Lib.size_eq] at hx
        unfold codeF at hc
        split at hc
        · cases hc
        split at hc
        · cases hc
        split at hc
        · cases hc
        split at hc
        · cases hc
        split at hc
        · cases hc
        simp only [Option.some.injEq, Prod.mk.injEq] at hc
        omega
      omega
  · simp only; omega

theorem escF_range (l : ByteArray) (p : Nat) : 0 ≤ (escF l p).1.getD 0 ∧ (escF l p).1.getD 0 ≤ 1114111 := by
  unfold escF
  split
  · split
    · simp
    · rename_i n m hc
      simp only [Option.getD_some]
      unfold codeF at hc
      split at hc
      · cases hc
      split at hc
      · cases hc
      split at hc
      · cases hc
      split at hc
      · cases hc
      split at hc
      · cases hc
      rename_i hv
      simp only [Option.some.injEq, Prod.mk.injEq] at hc
      obtain ⟨rfl, _⟩ := hc
      simp only [Lib.validRune, Bool.not_eq_false, decide_eq_true_eq] at hv
      omega
  · simp only
    unfold escR
    repeat' split
    all_goals simp

/-- what a quoted text is, behind its first mark: its token or why there is none; what is left, and where -/
def textF (fine : Bool) (acc : List UInt8) (l : ByteArray) (p : Nat) : (Tok × Int) × ByteArray × Nat :=
  if h : l.size = 0 then ((Tok.no, 13), l, p)
  else if dr l = 34 then
    ((if fine = false then (Tok.no, 9) else if 256 < acc.length then (Tok.no, 4) else (⟨5, ⟨acc.toArray⟩, 0, 0⟩, 0)), adv l, p + 1)
  else if dr l = 92 then
    if (escF (adv l) (p + 1)).1.isSome = true then textF fine (acc ++ Lib.encodeRune ((escF (adv l) (p + 1)).1.getD 0)) (escF (adv l) (p + 1)).2.1 (escF (adv l) (p + 1)).2.2
    else ((Tok.no, 13), (escF (adv l) (p + 1)).2.1, (escF (adv l) (p + 1)).2.2)
  else textF (fine && stepOk l) (acc ++ Lib.encodeRune (dr l)) (adv l) (p + 1)
termination_by l.size
decreasing_by
  · exact Nat.lt_of_le_of_lt (escF_size (adv l) (p + 1)).1 (adv_lt l h)
  · exact adv_lt l h

theorem textF_end {fine : Bool} {acc : List UInt8} {l : ByteArray} {p : Nat} (h : l.size = 0) : textF fine acc l p = ((Tok.no, 13), l, p) := by rw [textF, dif_pos h]
theorem textF_close {fine : Bool} {acc : List UInt8} {l : ByteArray} {p : Nat} (h : l.size ≠ 0) (hr : dr l = 34) : textF fine acc l p = ((if fine = false then (Tok.no, 9) else if 256 < acc.length then (Tok.no, 4) else (⟨5, ⟨acc.toArray⟩, 0, 0⟩, 0)), adv l, p + 1) := by rw [textF, dif_neg h, if_pos hr]
theorem textF_esc {fine : Bool} {acc : List UInt8} {l : ByteArray} {p : Nat} (h : l.size ≠ 0) (hr : dr l = 92) (hs : (escF (adv l) (p + 1)).1.isSome = true) : textF fine acc l p = textF fine (acc ++ Lib.encodeRune ((escF (adv l) (p + 1)).1.getD 0)) (escF (adv l) (p + 1)).2.1 (escF (adv l) (p + 1)).2.2 := by
  rw [textF, dif_neg h, if_neg (by omega), if_pos hr, if_pos hs]
theorem textF_bad {fine : Bool} {acc : List UInt8} {l : ByteArray} {p : Nat} (h : l.size ≠ 0) (hr : dr l = 92) (hs : (escF (adv l) (p + 1)).1.isSome = false) : textF fine acc l p = ((Tok.no, 13), (escF (adv l) (p + 1)).2.1, (escF (adv l) (p + 1)).2.2) := by
  rw [textF, dif_neg h, if_neg (by omega), if_pos hr, if_neg (by simp [hs])]
theorem textF_rune {fine : Bool} {acc : List UInt8} {l : ByteArray} {p : Nat} (h : l.size ≠ 0) (hr : dr l ≠ 34) (hr2 : dr l ≠ 92) : textF fine acc l p = textF (fine && stepOk l) (acc ++ Lib.encodeRune (dr l)) (adv l) (p + 1) := by
  rw [textF, dif_neg h, if_neg hr, if_neg hr2]

theorem BuilderAtF_keep {T e : TypeId} {B b : Nat} {p : Value} {bs : List Value} {w w' : World} (h : Lib.BuilderAtF T e B b p bs w) (hk : ∀ k, B ≤ k → k < w.heap.size → w'.heap[k]? = w.heap[k]?) : Lib.BuilderAtF T e B b p bs w' := by
  obtain ⟨hB, v, hb, hown, hne⟩ := h
  have hlt : b < w.heap.size := (Array.getElem?_eq_some_iff.1 hb).1
  refine ⟨hB, v, (hk b hB hlt).trans hb, ⟨hown.1, ?_⟩, hne⟩
  rcases hown.2 with hn | ⟨g, cap, cur, fz, rfl, hbg, hg, rest⟩
  · exact .inl hn
  · exact .inr ⟨g, cap, cur, fz, rfl, hbg, (hk g hbg (Array.getElem?_eq_some_iff.1 hg).1).trans hg, rest⟩
theorem IsBuilderF_keep {T e : TypeId} {B b : Nat} {bs : List Value} {w w' : World} (h : Lib.IsBuilderF T e B b bs w) (hk : ∀ k, B ≤ k → k < w.heap.size → w'.heap[k]? = w.heap[k]?) : Lib.IsBuilderF T e B b bs w' :=
  h.elim (fun x => .inl (BuilderAtF_keep x hk)) (fun x => .inr (BuilderAtF_keep x hk))
theorem IsBuilderF_gb {T e : TypeId} {B b tb : Nat} {bs : List Value} {w w' : World} (h : Lib.IsBuilderF T e B b bs w) (hg : w.grownBy w' (some tb)) (ht : tb < B) : Lib.IsBuilderF T e B b bs w' :=
  IsBuilderF_keep h fun k hB hk => hg.block k hk (by intro e; injection e; omega)
theorem IsBuilderF_below {T e : TypeId} {B b : Nat} {bs : List Value} {w w' : World} (h : Lib.IsBuilderF T e B b bs w) (hb : Below w.heap.size w w') : Lib.IsBuilderF T e B b bs w' :=
  IsBuilderF_keep h fun k _ hk => hb.block k hk
theorem gb_then_below {w w1 w2 : World} {r : Option Nat} {B : Nat} (h : w.grownBy w1 r) (k : Below B w1 w2) (hB : w.heap.size ≤ B) : w.grownBy w2 r :=
  ⟨k.os.trans h.os, k.tape.trans h.tape, k.output.trans h.output, Nat.le_trans h.size k.size, fun i hi hne => (k.block i (by omega)).trans (h.block i hi hne)⟩
theorem encodeRune_len (r : Int) : (Lib.encodeRune r).length ≤ 4 := by
  have := (Lib.encodeRuneZ_length r).2
  simpa [Lib.encodeRune] using this

/-- a block of a token's four cells -/
def Cell4 (B : Nat) (t : Tok) (w : World) : Prop := w.heap[B]? = some (.cells #[.int .u8 t.k, .string t.s, .int .i64 t.n, .int .i64 t.a] 24 (0, 0))

abbrev put4 (B : Nat) (t : Tok) (w : World) : World := (((w.setCell ⟨B, 0, none⟩ (.int .u8 t.k)).setCell ⟨B, 1, none⟩ (.string t.s)).setCell ⟨B, 2, none⟩ (.int .i64 t.n)).setCell ⟨B, 3, none⟩ (.int .i64 t.a)
theorem put4_cell {B : Nat} {t0 : Tok} {w : World} (h : Cell4 B t0 w) (t : Tok) : Cell4 B t (put4 B t w) := by
  unfold Cell4 at *
  simp [World.setCell, Array.getElem?_modify, h]
theorem put4_other (B : Nat) (t : Tok) (w : World) (k : Nat) (hk : k ≠ B) : (put4 B t w).heap[k]? = w.heap[k]? := by
  show ((((w.setCell _ _).setCell _ _).setCell _ _).setCell _ _).heap[k]? = _
  rw [Below.heap_setCell _ _ _ _ hk, Below.heap_setCell _ _ _ _ hk, Below.heap_setCell _ _ _ _ hk, Below.heap_setCell _ _ _ _ hk]
theorem put4_gb {B : Nat} {w w1 : World} {r : Option Nat} (t : Tok) (h : w.grownBy w1 r) (hB : w.heap.size ≤ B) : w.grownBy (put4 B t w1) r :=
  ⟨h.os, h.tape, h.output, by have := h.size; simpa [World.setCell] using this, fun k hk hne => (put4_other B t w1 k (by omega)).trans (h.block k hk hne)⟩
theorem Cell4.c0 {B : Nat} {t : Tok} {w : World} (h : Cell4 B t w) : w.cell? ⟨B, 0, none⟩ = some (.int .u8 t.k) := by rw [Lib.cell_of_heap h]; rfl
theorem Cell4.c1 {B : Nat} {t : Tok} {w : World} (h : Cell4 B t w) : w.cell? ⟨B, 1, none⟩ = some (.string t.s) := by rw [Lib.cell_of_heap h]; rfl
theorem Cell4.c2 {B : Nat} {t : Tok} {w : World} (h : Cell4 B t w) : w.cell? ⟨B, 2, none⟩ = some (.int .i64 t.n) := by rw [Lib.cell_of_heap h]; rfl
theorem Cell4.c3 {B : Nat} {t : Tok} {w : World} (h : Cell4 B t w) : w.cell? ⟨B, 3, none⟩ = some (.int .i64 t.a) := by rw [Lib.cell_of_heap h]; rfl
theorem Cell4.f {B : Nat} {t : Tok} {w : World} (h : Cell4 B t w) (j : Nat) : w.frozen? ⟨B, j, none⟩ = false := Lib.frozen_of_heap h j
theorem Cell4.below {B : Nat} {t : Tok} {w w' : World} (h : Cell4 B t w) {C : Nat} (hb : Below C w w') (hB : B < C) : Cell4 B t w' := (hb.block B hB).trans h
theorem Cell4.gb {B tb : Nat} {t : Tok} {w w' : World} (h : Cell4 B t w) (hb : w.grownBy w' (some tb)) (hB : B ≠ tb) : Cell4 B t w' := (hb.block B (Array.getElem?_eq_some_iff.1 h).1 (by intro e; injection e; omega)).trans h
theorem put4_tape {B b : Nat} {t : Tok} {l : ByteArray} {p : Nat} {w : World} (h : Tape b l p w) (hne : b ≠ B) : Tape b l p (put4 B t w) := (put4_other B t w b hne).trans h

theorem load4 {B : Nat} {t : Tok} {w : World} (h : Cell4 B t w) : (loadVar 24 ⟨B, 0, none⟩).run Tryd.prog w = .ok t.v w := by
  simp [go_sem, h.c0, h.c1, h.c2, h.c3, Tok.v]
theorem results4 {fn : Func} {q u : Tmp} (hf : fn.results = #[.cell q 24, .tmp u]) {tmps : Array Value} {B : Nat} {t : Tok} {w : World} {x : Value} (h : Cell4 B t w)
    (hq : tmps.getD q undef = .pointer (some ⟨B, 0, none⟩)) (hu : tmps.getD u undef = x) : (results fn tmps).run Tryd.prog w = .ok (.tuple #[t.v, x]) w := by
  rw [results_cell_tmp hf, hq, hu]
  simp [go_sem, h.c0, h.c1, h.c2, h.c3, Tok.v]

set_option maxHeartbeats 8000000 in
set_option maxRecDepth 100000 in
theorem text_any (b : Nat) (l : ByteArray) (p : Nat) (w : World) (hG : Glob w) (hb8 : 8 ≤ b) (h : Tape b l p w) (hl : p + l.size + 1 ≤ 1099511627776) (h0 : l.size ≠ 0) :
    Calls Tryd.prog 21 #[.pointer (some ⟨b, 0, none⟩)] w fun e w' => e = .returned (.tuple #[(textF (stepOk l) [] (adv l) (p + 1)).1.1.v, .int .i64 (textF (stepOk l) [] (adv l) (p + 1)).1.2]) ∧
      Tape b (textF (stepOk l) [] (adv l) (p + 1)).2.1 (textF (stepOk l) [] (adv l) (p + 1)).2.2 w' ∧ w.grownBy w' (some b) := by
  obtain ⟨R, hR⟩ : ∃ R, textF (stepOk l) [] (adv l) (p + 1) = R := ⟨_, rfl⟩
  rw [hR]
  have HR := Lib.hid hR
  clear hR
  have hblt := h.lt
  have hW1 : Tape b l p ((w.alloc (.cells #[.int .u8 0, .string ⟨#[]⟩, .int .i64 0, .int .i64 0] 24)).alloc (.cells #[.pointer none, .slice none 0 0] 54)) :=
    h.below (((Below.refl w.heap.size w).alloc (Nat.le_refl _) _).alloc (by simp) _) hblt
  have hW2 : Below w.heap.size w ((w.alloc (.cells #[.int .u8 0, .string ⟨#[]⟩, .int .i64 0, .int .i64 0] 24)).alloc (.cells #[.pointer none, .slice none 0 0] 54)) := ((Below.refl w.heap.size w).alloc (Nat.le_refl _) _).alloc (by simp) _
  have hW3 : Cell4 w.heap.size Tok.no ((w.alloc (.cells #[.int .u8 0, .string ⟨#[]⟩, .int .i64 0, .int .i64 0] 24)).alloc (.cells #[.pointer none, .slice none 0 0] 54)) := by
    unfold Cell4
    rw [Lib.alloc_old _ _ _ (by simp), heap_alloc_new]
    rfl
  have hW4 : Lib.IsBuilderF 54 5 (w.heap.size + 1) (w.heap.size + 1) (Lib.byteCells []) ((w.alloc (.cells #[.int .u8 0, .string ⟨#[]⟩, .int .i64 0, .int .i64 0] 24)).alloc (.cells #[.pointer none, .slice none 0 0] 54)) := by
    have := Lib.IsBuilderF.of (Lib.fresh_isBuilder 54 5 (w.alloc (.cells #[.int .u8 0, .string ⟨#[]⟩, .int .i64 0, .int .i64 0] 24)))
    have hs : (w.alloc (.cells #[.int .u8 0, .string ⟨#[]⟩, .int .i64 0, .int .i64 0] 24)).heap.size = w.heap.size + 1 := by simp
    rw [hs] at this
    exact this
  have hGW := hG.self hW2
  go_enter Tryd.func21, Tryd.ntmps21
  go_wp2_with (go_at_call 20; refine (step_any b l p _ hGW hW1 (by omega)).mono ?_)
  rintro e w1 ⟨rfl, ht1, hg1⟩
  rw [stepP_pos p h0] at ht1
  have hgb1 : w.grownBy w1 (some b) := gb_trans (gb_of_below hW2 _) hg1
  have hbl1 := IsBuilderF_gb hW4 hg1 (by omega)
  have hc41 : Cell4 w.heap.size Tok.no w1 := (hg1.block w.heap.size (by simp; omega) (by intro e; injection e; omega)).trans hW3
  have hadv := adv_size l
  have hadl := adv_le l
  clear hW1 hW2 hW3 hW4 hGW hg1
  go_wp2_with fail
  go_loopw [5] (fun v wr => ∃ (fine : Bool) (acc : List UInt8) (l' : ByteArray) (p' : Nat), v = .bool fine ∧ Tape b l' p' wr ∧ Lib.IsBuilderF 54 5 (w.heap.size + 1) (w.heap.size + 1) (Lib.byteCells acc) wr ∧ Cell4 w.heap.size Tok.no wr ∧ w.grownBy wr (some b) ∧ Hid (textF fine acc l' p' = R) ∧ p' + l'.size + 1 ≤ 1099511627776 ∧ acc.length + 4 * l'.size ≤ 4398046511104 ∧ w.heap.size + 1 < wr.heap.size) (fun _ wr => tlen b wr)
  case atStart =>
    exact ⟨stepOk l, [], adv l, p + 1, rfl, ht1, hbl1, hc41, hgb1, HR, by have := dn_bounds l h0; omega, by simp; omega, by have := hgb1.size; have hh : w.heap.size + 1 < w1.heap.size := (hbl1.elim (fun x => x.lt) (fun x => x.lt)); exact hh⟩
  case round =>
    clear ht1 hbl1 hc41 hgb1 HR hadv hadl h0 hl h w1
    obtain ⟨fine, acc, l', p', rfl, ht, hbl, hc4, hgb, HS, hp, hacc, hsz⟩ := hrel
    have hGr := hG.gb hb8 hgb
    have c0 := ht.c0
    by_cases h0 : l'.size = 0
    · have he : l'.toList = [] := by
        rw [Lib.toList_data]; exact List.eq_nil_of_length_eq_zero (by rw [← Lib.size_eq]; exact h0)
      have hi : (!l'.toList.isEmpty) = false := by rw [he]; rfl
      have hfin : R = ((Tok.no, 13), l', p') := by rw [← HS.out]; exact textF_end h0
      have HF := Lib.hid hfin
      clear hfin
      have r0 := hc4.c0
      have r1 := hc4.c1
      have r2 := hc4.c2
      have r3 := hc4.c3
      have fr := hc4.f
      have h4 := put4_cell hc4 Tok.no
      have ht4 := put4_tape (t := Tok.no) ht (by omega : b ≠ w.heap.size)
      have hg4 := put4_gb Tok.no hgb (Nat.le_refl _)
      have d0 := h4.c0
      have d1 := h4.c1
      have d2 := h4.c2
      have d3 := h4.c3
      go_wp2
      refine bodyPost_ret (v := .tuple #[Tok.no.v, .int .i64 13]) ?_ rfl ⟨by rw [HF.out], by rw [HF.out]; exact ht4, hg4⟩
      exact results4 rfl h4 rfl rfl
    · have he : ¬ l'.toList = [] := by
        intro he
        rw [Lib.toList_data] at he
        exact h0 (by rw [Lib.size_eq, he]; rfl)
      have hi : (!l'.toList.isEmpty) = true := by simp [he]
      have hlt := adv_lt l' h0
      have hdb := dn_bounds l' h0
      have had := adv_size l'
      have hm : tlen b wr = l'.size := tlen_of ht
      have HM := Lib.hid hm
      have HA := Lib.hid had
      have hpa : p' + 1 + (adv l').size + 1 ≤ 1099511627776 := by omega
      have hlena : acc.length + 4 + 4 * (adv l').size ≤ 4398046511104 := by omega
      have hdr := dr_le l'
      clear hm had
      by_cases h34 : dr l' = 34
      · have hfin : R = ((if fine = false then (Tok.no, 9) else if 256 < acc.length then (Tok.no, 4) else (⟨5, ⟨acc.toArray⟩, 0, 0⟩, 0)), adv l', p' + 1) := by rw [← HS.out]; exact textF_close h0 h34
        have h34b : (dr l' == 34) = true := by simp [h34]
        have HF := Lib.hid hfin
        clear hfin h34
        go_wp2_with (go_at_call 19; refine (peek_any b l' p' _ hGr ht).mono ?_)
        rintro e w2 ⟨rfl, hb2⟩
        have hG2 := hGr.self hb2
        have ht2 := ht.below hb2 ht.lt
        go_wp2_with (go_at_call 20; refine (step_any b l' p' _ hG2 ht2 (by omega)).mono ?_)
        rintro e w3 ⟨rfl, ht3, hg3⟩
        rw [stepP_pos p' h0] at ht3
        have hbl3 := IsBuilderF_gb (IsBuilderF_below hbl hb2) hg3 (by omega)
        have hc43 := (hc4.below hb2 (by omega)).gb hg3 (by omega)
        have hgb3 := gb_trans (gb_trans hgb (gb_of_below hb2 _)) hg3
        have hsz3 : w.heap.size + 1 < w3.heap.size := by have := hb2.size; have := hg3.size; omega
        clear ht ht2 hbl hc4 hgb hg3 hb2 hG2 hGr c0
        have r0 := hc43.c0
        have r1 := hc43.c1
        have r2 := hc43.c2
        have r3 := hc43.c3
        have fr := hc43.f
        cases fine with
        | false =>
          have h4 := put4_cell hc43 Tok.no
          have ht4 := put4_tape (t := Tok.no) ht3 (by omega : b ≠ w.heap.size)
          have hg4 := put4_gb Tok.no hgb3 (Nat.le_refl _)
          go_wp2_with fail
          refine bodyPost_ret (v := .tuple #[Tok.no.v, .int .i64 9]) ?_ rfl ⟨by rw [HF.out]; rfl, by rw [HF.out]; exact ht4, hg4⟩
          exact results4 rfl h4 rfl rfl
        | true =>
          by_cases hlong : 256 < acc.length
          · have hlI : (256 : Int) < ((Lib.byteCells acc).length : Nat) := by rw [Lib.byteCells_length]; omega
            have h4 := put4_cell hc43 Tok.no
            have ht4 := put4_tape (t := Tok.no) ht3 (by omega : b ≠ w.heap.size)
            have hg4 := put4_gb Tok.no hgb3 (Nat.le_refl _)
            go_wp2_with (go_at_call 31; refine (Tryd.Builder_Len_f _ _ _ _ hbl3).mono ?_; rintro e w4 ⟨rfl, rfl⟩)
            refine bodyPost_ret (v := .tuple #[Tok.no.v, .int .i64 4]) ?_ rfl ⟨by rw [HF.out, if_neg (by simp), if_pos hlong], by rw [HF.out]; exact ht4, hg4⟩
            exact results4 rfl h4 rfl rfl
          · have hlI : ¬ (256 : Int) < ((Lib.byteCells acc).length : Nat) := by rw [Lib.byteCells_length]; omega
            go_wp2_with (first | (go_at_call 31; refine (Tryd.Builder_Len_f _ _ _ _ hbl3).mono ?_; rintro e w4 ⟨rfl, rfl⟩) | (go_at_call 29; refine (Tryd.Builder_String_any_k _ _ acc _ hbl3 (by omega)).mono ?_))
            rintro e w4 ⟨rfl, _, hb4, _⟩
            have ht5 := ht3.below hb4 (by omega)
            have hc5 := hc43.below hb4 (by omega)
            have hgb5 := gb_then_below hgb3 hb4 (by omega)
            clear r0 r1 r2 r3 fr ht3 hc43 hgb3 hbl3
            have r0 := hc5.c0
            have r1 := hc5.c1
            have r2 := hc5.c2
            have r3 := hc5.c3
            have fr := hc5.f
            have h4 := put4_cell hc5 ⟨5, ⟨acc.toArray⟩, 0, 0⟩
            have ht4 := put4_tape (t := ⟨5, ⟨acc.toArray⟩, 0, 0⟩) ht5 (by omega : b ≠ w.heap.size)
            have hg4 := put4_gb ⟨5, ⟨acc.toArray⟩, 0, 0⟩ hgb5 (Nat.le_refl _)
            go_wp2_with fail
            refine bodyPost_ret (v := .tuple #[Tok.v ⟨5, ⟨acc.toArray⟩, 0, 0⟩, .int .i64 0]) ?_ rfl ⟨by rw [HF.out, if_neg (by simp), if_neg hlong], by rw [HF.out]; exact ht4, hg4⟩
            exact results4 rfl h4 rfl rfl
      · have h34b : (dr l' == 34) = false := by simp [h34]
        by_cases h92 : dr l' = 92
        · have h92b : (dr l' == 92) = true := by simp [h92]
          cases hes : (escF (adv l') (p' + 1)).1.isSome with
          | false =>
            have hfin : R = ((Tok.no, 13), (escF (adv l') (p' + 1)).2.1, (escF (adv l') (p' + 1)).2.2) := by rw [← HS.out]; exact textF_bad h0 h92 hes
            have HF := Lib.hid hfin
            have HE := Lib.hid hes
            clear hfin h34 h92 hes
            go_wp2_with (go_at_call 19; refine (peek_any b l' p' _ hGr ht).mono ?_)
            rintro e w2 ⟨rfl, hb2⟩
            have hG2 := hGr.self hb2
            have ht2 := ht.below hb2 ht.lt
            go_wp2_with (go_at_call 20; refine (step_any b l' p' _ hG2 ht2 (by omega)).mono ?_)
            rintro e w3 ⟨rfl, ht3, hg3⟩
            rw [stepP_pos p' h0] at ht3
            have hG3 := hG2.gb hb8 hg3
            have hc43 := (hc4.below hb2 (by omega)).gb hg3 (by omega)
            have hgb3 := gb_trans (gb_trans hgb (gb_of_below hb2 _)) hg3
            clear ht ht2 hbl hc4 hgb hg3 hb2 hG2 hGr c0
            go_wp2_with (go_at_call 32; refine (escape_any b _ _ _ hG3 hb8 ht3 (by omega)).mono ?_)
            rintro e w4 ⟨rfl, ht4', hg4'⟩
            rw [HE.out]
            have hc5 := hc43.gb hg4' (by omega)
            have hgb5 := gb_trans hgb3 hg4'
            clear ht3 hc43 hgb3 hg4' hG3
            have r0 := hc5.c0
            have r1 := hc5.c1
            have r2 := hc5.c2
            have r3 := hc5.c3
            have fr := hc5.f
            have h4 := put4_cell hc5 Tok.no
            have ht4 := put4_tape (t := Tok.no) ht4' (by omega : b ≠ w.heap.size)
            have hg4 := put4_gb Tok.no hgb5 (Nat.le_refl _)
            go_wp2_with fail
            refine bodyPost_ret (v := .tuple #[Tok.no.v, .int .i64 13]) ?_ rfl ⟨by rw [HF.out], by rw [HF.out]; exact ht4, hg4⟩
            exact results4 rfl h4 rfl rfl
          | true =>
            have hnext : textF fine (acc ++ Lib.encodeRune ((escF (adv l') (p' + 1)).1.getD 0)) (escF (adv l') (p' + 1)).2.1 (escF (adv l') (p' + 1)).2.2 = R := by rw [← HS.out]; exact (textF_esc h0 h92 hes).symm
            have HN := Lib.hid hnext
            have HE := Lib.hid hes
            have hesz := escF_size (adv l') (p' + 1)
            have hxr : -2147483648 ≤ (escF (adv l') (p' + 1)).1.getD 0 ∧ (escF (adv l') (p' + 1)).1.getD 0 ≤ 2147483647 := by have := escF_range (adv l') (p' + 1); omega
            clear hnext h34 h92 hes
            go_wp2_with (go_at_call 19; refine (peek_any b l' p' _ hGr ht).mono ?_)
            rintro e w2 ⟨rfl, hb2⟩
            have hG2 := hGr.self hb2
            have ht2 := ht.below hb2 ht.lt
            go_wp2_with (go_at_call 20; refine (step_any b l' p' _ hG2 ht2 (by omega)).mono ?_)
            rintro e w3 ⟨rfl, ht3, hg3⟩
            rw [stepP_pos p' h0] at ht3
            have hG3 := hG2.gb hb8 hg3
            have hbl3 := IsBuilderF_gb (IsBuilderF_below hbl hb2) hg3 (by omega)
            have hc43 := (hc4.below hb2 (by omega)).gb hg3 (by omega)
            have hgb3 := gb_trans (gb_trans hgb (gb_of_below hb2 _)) hg3
            have hsz3 : w.heap.size + 1 < w3.heap.size := by have := hb2.size; have := hg3.size; omega
            clear ht ht2 hbl hc4 hgb hg3 hb2 hG2 hGr c0
            go_wp2_with (go_at_call 32; refine (escape_any b _ _ _ hG3 hb8 ht3 (by omega)).mono ?_)
            rintro e w4 ⟨rfl, ht5, hg5⟩
            rw [HE.out]
            have hbl5 := IsBuilderF_gb hbl3 hg5 (by omega)
            have hc5 := hc43.gb hg5 (by omega)
            have hgb5 := gb_trans hgb3 hg5
            have hsz5 : w.heap.size + 1 < w4.heap.size := by have := hg5.size; omega
            clear ht3 hc43 hgb3 hg5 hG3 hbl3 hsz3
            obtain ⟨X, hX⟩ : ∃ X, escF (adv l') (p' + 1) = X := ⟨_, rfl⟩
            rw [hX] at HN hesz hxr ht5 ⊢
            clear hX HE
            go_wp2_with (go_at_call 27; refine (WriteRune_k _ _ (Lib.byteCells acc) _ hxr.1 hxr.2 _ hbl5 (by rw [Lib.byteCells_length]; omega) (by omega)).mono ?_)
            rintro e w6 ⟨rfl, hbl6, hb6, _⟩
            have ht6 := ht5.below hb6 (by omega)
            have hc6 := hc5.below hb6 (by omega)
            have hgb6 := gb_then_below hgb5 hb6 (by omega)
            have hsz6 : w.heap.size + 1 < w6.heap.size := by have := hb6.size; omega
            have hen := encodeRune_len (X.1.getD 0)
            rw [← Lib.byteCells_encodeRune, ← Lib.byteCells_append] at hbl6
            clear ht5 hc5 hgb5 hbl5 hb6 hsz5
            go_wp2
            go_roundw
            case rel => exact ⟨fine, acc ++ Lib.encodeRune (X.1.getD 0), X.2.1, X.2.2, rfl, ht6, Or.inr hbl6, hc6, hgb6, HN, by omega, by simp; omega, hsz6⟩
            case measure => rw [HM.out, tlen_of ht6]; omega
        · have h92b : (dr l' == 92) = false := by simp [h92]
          have hnext : textF (fine && stepOk l') (acc ++ Lib.encodeRune (dr l')) (adv l') (p' + 1) = R := by rw [← HS.out]; exact (textF_rune h0 h34 h92).symm
          have HN := Lib.hid hnext
          clear hnext h34 h92
          go_wp2_with (go_at_call 19; refine (peek_any b l' p' _ hGr ht).mono ?_)
          rintro e w2 ⟨rfl, hb2⟩
          have hG2 := hGr.self hb2
          have ht2 := ht.below hb2 ht.lt
          go_wp2_with (go_at_call 20; refine (step_any b l' p' _ hG2 ht2 (by omega)).mono ?_)
          rintro e w3 ⟨rfl, ht3, hg3⟩
          rw [stepP_pos p' h0] at ht3
          have hbl3 := IsBuilderF_gb (IsBuilderF_below hbl hb2) hg3 (by omega)
          have hc43 := (hc4.below hb2 (by omega)).gb hg3 (by omega)
          have hgb3 := gb_trans (gb_trans hgb (gb_of_below hb2 _)) hg3
          have hsz3 : w.heap.size + 1 < w3.heap.size := by have := hb2.size; have := hg3.size; omega
          clear ht ht2 hbl hc4 hgb hg3 hb2 hG2 hGr c0
          cases fine
          all_goals
            go_wp2_with (go_at_call 27; refine (WriteRune_k _ _ (Lib.byteCells acc) (dr l') (by omega) (by omega) _ hbl3 (by rw [Lib.byteCells_length]; omega) (by omega)).mono ?_)
            rintro e w6 ⟨rfl, hbl6, hb6, _⟩
            have ht6 := ht3.below hb6 (by omega)
            have hc6 := hc43.below hb6 (by omega)
            have hgb6 := gb_then_below hgb3 hb6 (by omega)
            have hsz6 : w.heap.size + 1 < w6.heap.size := by have := hb6.size; omega
            have hen := encodeRune_len (dr l')
            rw [← Lib.byteCells_encodeRune, ← Lib.byteCells_append] at hbl6
            go_wp2
            go_roundw
            case rel => exact ⟨_, acc ++ Lib.encodeRune (dr l'), adv l', p' + 1, rfl, ht6, Or.inr hbl6, hc6, hgb6, HN, by omega, by simp; omega, hsz6⟩
            case measure => rw [HM.out, tlen_of ht6]; omega
end Go.Proofs.YtfndfhhimhcakaaDoor.lx
