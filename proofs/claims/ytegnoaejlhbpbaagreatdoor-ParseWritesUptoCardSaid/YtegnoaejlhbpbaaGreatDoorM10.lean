/-
  The parser's some of columns. Conditions: the walk lies there; the package-level variables are laid; the tokens' texts are no great ones. The parser's some of columns, walked. Conditions: the walk lies there; the package-level variables are laid; the tokens' texts are no great ones. The parser's some of items: where its loop stands; items in memory of the call's own. No condition. The parser's some of items, walked. Conditions: the walk lies there; the package-level variables are laid; the tokens' texts are no great ones.
-/
import Derived.Test.YtegnoaejlhbpbaaGreatDoorM09
namespace Go.Proofs.YtegnoaejlhbpbaaGreatDoor.lx
open Go.RowKit

theorem infoStr : (Tryz.prog.info? 9).map (fun i => (i.zero, i.size, i.bytes)) = some (some (.string ⟨#[]⟩), 1, 16) := by kernel_rfl
/-- what some comes to -/
def SomeP (A : Nat) (fin : Int) (w : World) (R : Res (List Tok × Int × List ByteArray)) (e : Ending) (w' : World) : Prop :=
  match R with
  | .ok x => (∃ v sv', e = .returned v ∧ AtW A x.1 fin x.2.1 sv' w' ∧ w'.ownsRow w.heap.size 9 1 v x.2.2.length (x.2.2.map Value.string)) ∧ w.grownBy w' (some A)
  | .bad y p => e = .panicked [flt y p] ∧ w.grownBy w' (some A)
/-- the loop of some: where it stands -/
structure SmS (A : Nat) (fin : Int) (R : Res (List Tok × Int × List ByteArray)) (out : List ByteArray) (l : List Tok) (op : Int) (sv : Value) (w wr : World) : Prop where
  it : ItS A l fin op sv w wr
  op_ : OpOk op
  sz : ∀ t ∈ l, t.s.size < 4294967281
  o8 : out.length ≤ 8
  run : ∃ m, l.length + 1 ≤ m ∧ someR (atomR columnR fin) fin m out l op = R
theorem SmS.next {A : Nat} {fin : Int} {R : Res (List Tok × Int × List ByteArray)} {out : List ByteArray} {l : List Tok} {op : Int} {sv : Value} {w wr w' : World} (h : SmS A fin R out l op sv w wr) (hb : Below wr.heap.size wr w') : SmS A fin R out l op sv w w' := ⟨h.it.next hb, h.op_, h.sz, h.o8, h.run⟩
theorem SmS.stop {A : Nat} {fin : Int} {R : Res (List Tok × Int × List ByteArray)} {out : List ByteArray} {l : List Tok} {op : Int} {sv : Value} {w wr : World} (h : SmS A fin R out l op sv w wr) (h0 : out.length ≠ 0) (hc : closesR l fin = true) : R = .ok (l, op, out) := by
  obtain ⟨m, hm, hr⟩ := h.run
  obtain ⟨m, rfl⟩ : ∃ k, m = k + 1 := ⟨m - 1, by omega⟩
  rw [someR, if_neg (by rw [hc]; simp; exact fun e => h0 (by rw [e]; rfl))] at hr
  exact hr.symm
theorem SmS.many {A : Nat} {fin : Int} {R : Res (List Tok × Int × List ByteArray)} {out : List ByteArray} {l : List Tok} {op : Int} {sv : Value} {w wr : World} (h : SmS A fin R out l op sv w wr) (h0 : out.length = 0 ∨ closesR l fin = false) (h8 : ¬ out.length < 8) : R = .bad 3 (tokAt l fin).a := by
  obtain ⟨m, hm, hr⟩ := h.run
  obtain ⟨m, rfl⟩ : ∃ k, m = k + 1 := ⟨m - 1, by omega⟩
  rw [someR, if_pos h0, if_neg h8] at hr
  exact hr.symm
theorem SmS.bad {A : Nat} {fin y q : Int} {R : Res (List Tok × Int × List ByteArray)} {out : List ByteArray} {l : List Tok} {op : Int} {sv : Value} {w wr : World} (h : SmS A fin R out l op sv w wr) (h0 : out.length = 0 ∨ closesR l fin = false) (h8 : out.length < 8) (ha : atomR columnR fin l op = .bad y q) : R = .bad y q := by
  obtain ⟨m, hm, hr⟩ := h.run
  obtain ⟨m, rfl⟩ : ∃ k, m = k + 1 := ⟨m - 1, by omega⟩
  rw [someR, if_pos h0, if_pos h8, ha] at hr
  exact hr.symm
theorem SmS.go {A : Nat} {fin : Int} {R : Res (List Tok × Int × List ByteArray)} {out : List ByteArray} {l : List Tok} {op : Int} {sv : Value} {w wr w' : World} {s : List Tok × Int × ByteArray} (h : SmS A fin R out l op sv w wr) (h0 : out.length = 0 ∨ closesR l fin = false) (h8 : out.length < 8) (ha : atomR columnR fin l op = .ok s)
    (hi : ItS A s.1 fin s.2.1 sv w w') : SmS A fin R (out ++ [s.2.2]) s.1 s.2.1 sv w w' ∧ s.1.length < l.length := by
  obtain ⟨m, hm, hr⟩ := h.run
  obtain ⟨m, rfl⟩ : ∃ k, m = k + 1 := ⟨m - 1, by omega⟩
  rw [someR, if_pos h0, if_pos h8, ha] at hr
  unfold atomR at ha
  cases ht : takeR fin 3 columnR l op with
  | bad y q => rw [ht] at ha; cases ha
  | ok x =>
    obtain ⟨l', op'⟩ := x
    rw [ht] at ha
    injection ha with ha
    subst ha
    obtain ⟨a1, _, _, a4, _⟩ := takeR_ok ht (by decide)
    have e1 : op' = op := takeR_op ht
    exact ⟨⟨hi, by rw [e1]; exact h.op_, fun t ht => h.sz t (by rw [a1] at ht; exact List.mem_of_mem_tail ht), by rw [List.length_append]; simp; omega, ⟨m, by simp only; omega, hr⟩⟩, by simp only; omega⟩
end Go.Proofs.YtegnoaejlhbpbaaGreatDoor.lx
namespace Go.Proofs.YtegnoaejlhbpbaaGreatDoor.lx
open Go.RowKit

theorem ItS.app {A : Nat} {l : List Tok} {fin op : Int} {sv v : Value} {w wr w' : World} {o : Obj} (h : ItS A l fin op sv w wr) (hg : (wr.alloc o).grownBy w' v.ownBlock) (hb : ∀ k, v.ownBlock = some k → w.heap.size ≤ k) : ItS A l fin op sv w w' := by
  have h1 := h.next ((Below.refl wr.heap.size wr).alloc (Nat.le_refl _) o)
  have hk : ∀ k, k < w.heap.size → w'.heap[k]? = (wr.alloc o).heap[k]? := fun k hk => hg.block k (by have := h1.gb.size; omega) (fun e => by have := hb k e.symm; omega)
  have hA := h.hAw
  exact ⟨h1.at_.kept fun k hk' => hk k (by omega), ⟨hg.os.trans h1.gb.os, hg.tape.trans h1.gb.tape, hg.output.trans h1.gb.output, Nat.le_trans h1.gb.size hg.size, fun k hk' hne => (hk k hk').trans (h1.gb.block k hk' hne)⟩, h1.glob.of hg.size fun k hk' => hk k (by have := h.hA8; omega), h.hA8, h.hAw⟩

set_option maxHeartbeats 2000000 in
set_option maxRecDepth 100000 in
theorem someStr_any {A : Nat} {l : List Tok} {fin op : Int} {sv : Value} {w : World} (h : AtW A l fin op sv w) (hG : PGlob w) (hA8 : 11 ≤ A) (hop : OpOk op) (hs : ∀ t ∈ l, t.s.size < 4294967281) :
    Calls Tryz.prog 66 #[.pointer (some ⟨A, 0, none⟩), .func (.func 62) #[.pointer (some ⟨A, 0, none⟩)] #[]] w fun e w' => SomeP A fin w (someR (atomR columnR fin) fin (l.length + 2) [] l op) e w' := by
  obtain ⟨R, hR⟩ : ∃ R, someR (atomR columnR fin) fin (l.length + 2) [] l op = R := ⟨_, rfl⟩
  rw [hR]
  have HS0 : Hid (SmS A fin R [] l op sv w w) := Lib.hid ⟨⟨h, gb_refl _ _, hG, hA8, h.lt⟩, hop, hs, by decide, ⟨_, by omega, hR⟩⟩
  have hlt := h.lt
  clear h hG hs hR
  go_enter Tryz.func66, Tryz.ntmps66
  go_wp2_with fail
  go_loopw [5] (fun v wr => ∃ (out : List ByteArray) (l' : List Tok) (op' : Int), Hid (SmS A fin R out l' op' sv w wr) ∧ wr.ownsRow w.heap.size 9 1 v out.length (out.map Value.string)) (fun _ wr => wlen A wr)
  case atStart => exact ⟨[], l, op, HS0, World.ownsRow_nil _ _ _ _⟩
  case round =>
    clear HS0
    obtain ⟨out, l', op', HS, hown⟩ := hrel
    have HW0 := Lib.hid (wlen_of HS.out.it.at_)
    obtain ⟨so, scap, rfl⟩ := own_shape hown
    have ho8 := HS.out.o8
    have hbase := Lib.hid (own_base hown)
    have HO := Lib.hid hown
    clear hown
    by_cases h0 : out.length = 0
    · obtain rfl : out = [] := List.eq_nil_of_length_eq_zero h0
      clear h0
      have HCD : Hid (([] : List ByteArray).length = 0 ∨ closesR l' fin = false) := Lib.hid (.inl rfl)
      by_cases h8 : 0 < 8
      · have h8I : (0 : Int) < 8 := by omega
        have hcol := wcolumn_any HS.out.it.at_ HS.out.it.glob HS.out.sz
        cases ha : atomR columnR fin l' op' with
        | bad y q =>
          rw [ha] at hcol
          have HRB := Lib.hid (HS.out.bad HCD.out (show ([] : List ByteArray).length < 8 by decide) ha)
          have HCO := Lib.hid hcol
          clear hcol ha
          go_wp2_with (go_at_call 71; refine (must_yes (by first | rfl | (simp; omega))).mono ?_; rintro e w3 ⟨rfl, rfl⟩; refine Hid.out ?_)
          refine Lib.hid ?_
          go_wp2_with (go_at_call 62; refine HCO.out.mono ?_; rintro e w4 ⟨rfl, hg⟩; refine Hid.out ?_)
          refine Lib.hid ?_
          exact ⟨rfl, by rw [HRB.out]; exact ⟨rfl, gb_trans HS.out.it.gb hg⟩⟩
        | ok s =>
          rw [ha] at hcol
          have HCO := Lib.hid hcol
          have HA := Lib.hid ha
          clear hcol ha
          go_wp2_with (go_at_call 71; refine (must_yes (by first | rfl | (simp; omega))).mono ?_; rintro e w3 ⟨rfl, rfl⟩; refine Hid.out ?_)
          refine Lib.hid ?_
          go_wp2_with (go_at_call 62; refine HCO.out.mono ?_; rintro e w4 ⟨rfl, ha4, hg4⟩; refine Hid.out ?_)
          refine Lib.hid ?_
          have HI4 := Lib.hid (HS.out.it.step ha4 hg4)
          have hown4 := (own_keepA HO.out fun k hk hk2 => hg4.block k hk2 (by intro e; injection e; omega))
          have hsz4 : w.heap.size ≤ w4.heap.size := HI4.out.gb.size
          clear ha4 hg4
          obtain ⟨i0, hi0, hz0, hz1, hz2⟩ := info_parts infoStr
          go_wp2_with (at_builtin; refine wpList_append_own_at _ rfl _ _ 24 rfl w.heap.size 9 i0 _ 1 16 Tryz.underlying24 hi0 hz0 hz1 hz2 rfl (by decide) (.slice so 0 scap) 0 [] rfl (hown4.alloc _) ⟨w4.heap.size, 0, none⟩ 1 1 [.string s.2.2] rfl rfl ?c1 ?c2 ?c3 ?c4 ?c5 ?_)
          case c1 =>
            intro j u hj
            match j, hj with
            | 0, hj => simp at hj; subst hj; simp [Addr.add]
            | (j + 1), hj => simp at hj
          case c2 => intro u hu; simp at hu; rcases hu with rfl; rfl
          case c3 => unfold maxLen; omega
          case c4 => omega
          case c5 => simp; omega
          intro v' w5 hown5 hg5 _ _
          have HI5 := Lib.hid (HI4.out.app (o := .cells #[.string s.2.2] 9) hg5 (fun k hk => hbase.out k hk))
          have HN := Lib.hid (HS.out.go HCD.out (show ([] : List ByteArray).length < 8 by decide) HA.out HI5.out)
          have HW5 := Lib.hid (wlen_of HI5.out.at_)
          clear hg5 hown4 hi0 hz0 hz1 hz2
          go_wp2_with fail
          go_roundw
          case rel => exact ⟨[] ++ [s.2.2], s.1, s.2.1, Lib.hid HN.out.1, by simpa using hown5⟩
          case measure => rw [HW0.out, HW5.out]; exact HN.out.2
      · exact absurd (by decide) h8
    · have e0 : ((out.length : Int) == 0) = false := by rw [beq_eq_false_iff_ne]; omega
      have hcc := closes_any HS.out.it.at_
      cases hcl : closesR l' fin with
      | true =>
        rw [show ((tokAt l' fin).k == 2) = true from hcl] at hcc
        have HRS := Lib.hid (HS.out.stop h0 hcl)
        have HCC := Lib.hid hcc
        clear hcc hcl
        go_wp2_with (go_at_call 88; refine HCC.out.mono ?_; rintro e w3 ⟨rfl, hb3⟩; refine Hid.out ?_)
        refine Lib.hid ?_
        have HN := Lib.hid (HS.out.next hb3)
        have HO3 := Lib.hid (own_bel HO.out hb3)
        clear hb3
        go_wp2_with fail
        go_ret
        rw [HRS.out]
        exact ⟨⟨_, _, rfl, HN.out.it.at_, HO3.out⟩, HN.out.it.gb⟩
      | false =>
        rw [show ((tokAt l' fin).k == 2) = false from hcl] at hcc
        have HCL := Lib.hid hcl
        have HCC := Lib.hid hcc
        clear hcc hcl
        go_wp2_with (go_at_call 88; refine HCC.out.mono ?_; rintro e w2 ⟨rfl, hb2⟩; refine Hid.out ?_)
        refine Lib.hid ?_
        have HSn := Lib.hid (HS.out.next hb2)
        have HOn := Lib.hid (own_bel HO.out hb2)
        clear HS HO hb2
        have HS := HSn
        have HO := HOn
        have HCD : Hid (out.length = 0 ∨ closesR l' fin = false) := Lib.hid (.inr HCL.out)
        by_cases h8 : out.length < 8
        · have h8I : (out.length : Int) < 8 := by omega
          have hcol := wcolumn_any HS.out.it.at_ HS.out.it.glob HS.out.sz
          cases ha : atomR columnR fin l' op' with
          | bad y q =>
            rw [ha] at hcol
            have HRB := Lib.hid (HS.out.bad HCD.out h8 ha)
            have HCO := Lib.hid hcol
            clear hcol ha
            go_wp2_with (go_at_call 71; refine (must_yes (by first | rfl | (simp; omega))).mono ?_; rintro e w3 ⟨rfl, rfl⟩; refine Hid.out ?_)
            refine Lib.hid ?_
            go_wp2_with (go_at_call 62; refine HCO.out.mono ?_; rintro e w4 ⟨rfl, hg⟩; refine Hid.out ?_)
            refine Lib.hid ?_
            exact ⟨rfl, by rw [HRB.out]; exact ⟨rfl, gb_trans HS.out.it.gb hg⟩⟩
          | ok s =>
            rw [ha] at hcol
            have HCO := Lib.hid hcol
            have HA := Lib.hid ha
            clear hcol ha
            go_wp2_with (go_at_call 71; refine (must_yes (by first | rfl | (simp; omega))).mono ?_; rintro e w3 ⟨rfl, rfl⟩; refine Hid.out ?_)
            refine Lib.hid ?_
            go_wp2_with (go_at_call 62; refine HCO.out.mono ?_; rintro e w4 ⟨rfl, ha4, hg4⟩; refine Hid.out ?_)
            refine Lib.hid ?_
            have HI4 := Lib.hid (HS.out.it.step ha4 hg4)
            have hown4 := (own_keepA HO.out fun k hk hk2 => hg4.block k hk2 (by intro e; injection e; omega))
            have hsz4 : w.heap.size ≤ w4.heap.size := HI4.out.gb.size
            clear ha4 hg4
            obtain ⟨i0, hi0, hz0, hz1, hz2⟩ := info_parts infoStr
            go_wp2_with (at_builtin; refine wpList_append_own_at _ rfl _ _ 24 rfl w.heap.size 9 i0 _ 1 16 Tryz.underlying24 hi0 hz0 hz1 hz2 rfl (by decide) (.slice so out.length scap) out.length (out.map Value.string) rfl (hown4.alloc _) ⟨w4.heap.size, 0, none⟩ 1 1 [.string s.2.2] rfl rfl ?c1 ?c2 ?c3 ?c4 ?c5 ?_)
            case c1 =>
              intro j u hj
              match j, hj with
              | 0, hj => simp at hj; subst hj; simp [Addr.add]
              | (j + 1), hj => simp at hj
            case c2 => intro u hu; simp at hu; rcases hu with rfl; rfl
            case c3 => unfold maxLen; omega
            case c4 => omega
            case c5 => simp; omega
            intro v' w5 hown5 hg5 _ _
            have HI5 := Lib.hid (HI4.out.app (o := .cells #[.string s.2.2] 9) hg5 (fun k hk => hbase.out k hk))
            have HN := Lib.hid (HS.out.go HCD.out h8 HA.out HI5.out)
            have HW5 := Lib.hid (wlen_of HI5.out.at_)
            clear hg5 hown4 hi0 hz0 hz1 hz2
            go_wp2_with fail
            go_roundw
            case rel => exact ⟨out ++ [s.2.2], s.1, s.2.1, Lib.hid HN.out.1, by simpa using hown5⟩
            case measure => rw [HW0.out, HW5.out]; exact HN.out.2
        · have h8I : ¬ (out.length : Int) < 8 := by omega
          have HRM := Lib.hid (HS.out.many HCD.out h8)
          have HD8 : Hid (decide ((out.length : Int) < 8) = false) := Lib.hid (decide_eq_false h8I)
          go_wp2_with (go_at_call 71; refine (must_no (by first | exact HD8.out | rfl | (simp; omega)) HS.out.it.at_).mono ?_; rintro e w3 ⟨rfl, hb3⟩; refine Hid.out ?_)
          refine Lib.hid ?_
          exact ⟨rfl, by rw [HRM.out]; exact ⟨rfl, gb_trans HS.out.it.gb (below_gb hb3)⟩⟩
end Go.Proofs.YtegnoaejlhbpbaaGreatDoor.lx
namespace Go.Proofs.YtegnoaejlhbpbaaGreatDoor.lx
open Go.RowKit

theorem suf_trans {α : Type} {a b c : List α} (h : a <:+ b) (k : b <:+ c) : a <:+ c := h.trans k
theorem take_suf {fin k : Int} {p : ByteArray → Bool} {l l' : List Tok} {op op' : Int} (h : takeR fin k p l op = .ok (l', op')) (hk : k ≠ 0) : l' <:+ l ∧ l'.length < l.length := by
  obtain ⟨a, _, _, b, _⟩ := takeR_ok h hk
  exact ⟨by rw [a]; exact List.tail_suffix l, by omega⟩
theorem itemR_ok {fin : Int} {l : List Tok} {op : Int} {s : List Tok × Int × Itm} (h : itemR fin l op = .ok s) : s.1 <:+ l ∧ s.1.length < l.length ∧ s.2.2.e.length ≤ 64 ∧ s.2.1 = op ∧ 0 ≤ s.2.2.agg ∧ s.2.2.agg ≤ 4 := by
  unfold itemR at h
  by_cases hi : Lib.idxOfS wordsL (headR l) < 1
  · rw [if_pos hi] at h
    cases hw : wholeR fin l op with
    | bad y q => rw [hw] at h; cases h
    | ok x =>
      rw [hw] at h
      injection h with h
      subst h
      obtain ⟨a, b, c, d⟩ := exprR_ok fin _ _ _ _ _ hw
      exact ⟨a, b, c, d, Int.le_refl _, by simp only; omega⟩
  rw [if_neg hi] at h
  obtain ⟨X, hX⟩ : ∃ X, Lib.idxOfS wordsL (headR l) = X := ⟨_, rfl⟩
  have hX4 : X ≤ 4 := by
    have h1 := idx_range wordsL (headR l) 0
    have h2 : wordsL.length = 5 := rfl
    unfold Lib.idxOfS at hX
    omega
  rw [hX] at h hi
  cases h1 : takeR fin 1 (fun _ => true) l op with
  | bad y q => rw [h1] at h; cases h
  | ok x =>
    obtain ⟨l1, op1⟩ := x
    rw [h1] at h
    simp only [Res.then] at h
    cases h2 : takeR fin 3 (fun _ => true) l1 op1 with
    | bad y q => rw [h2] at h; cases h
    | ok x =>
      obtain ⟨l2, op2⟩ := x
      rw [h2] at h
      simp only at h
      obtain ⟨a1, b1⟩ := take_suf h1 (by decide)
      obtain ⟨a2, b2⟩ := take_suf h2 (by decide)
      have o1 := takeR_op h1
      have o2 := takeR_op h2
      rw [if_pos rfl] at o1
      rw [if_neg (by decide), if_neg (by decide)] at o2
      by_cases hX1 : X = 1
      · rw [if_pos hX1] at h
        simp only at h
        cases h4 : takeR fin 2 (fun _ => true) l2 op2 with
        | bad y q => rw [h4] at h; cases h
        | ok x =>
          obtain ⟨l4, op4⟩ := x
          rw [h4] at h
          injection h with h
          subst h
          obtain ⟨a4, b4⟩ := take_suf h4 (by decide)
          have o4 := takeR_op h4
          rw [if_neg (by decide), if_pos rfl] at o4
          exact ⟨a4.trans (a2.trans a1), by simp only; omega, by simp, by simp only; omega, by simp only; omega, hX4⟩
      · rw [if_neg hX1] at h
        cases h3 : wholeR fin l2 op2 with
        | bad y q => rw [h3] at h; cases h
        | ok x =>
          obtain ⟨l3, op3, e3⟩ := x
          rw [h3] at h
          simp only at h
          obtain ⟨a3, b3, c3, d3⟩ := exprR_ok fin _ _ _ _ _ h3
          simp only at a3 b3 c3 d3
          cases h4 : takeR fin 2 (fun _ => true) l3 op3 with
          | bad y q => rw [h4] at h; cases h
          | ok x =>
            obtain ⟨l4, op4⟩ := x
            rw [h4] at h
            injection h with h
            subst h
            obtain ⟨a4, b4⟩ := take_suf h4 (by decide)
            have o4 := takeR_op h4
            rw [if_neg (by decide), if_pos rfl] at o4
            exact ⟨a4.trans (a3.trans (a2.trans a1)), by simp only; omega, by simp only; omega, by simp only; omega, by simp only; omega, hX4⟩

/-- the cells of items -/
def itmCells : List Itm → List Value → List Value
  | it :: its, v :: vs => .int .u8 it.agg :: v :: itmCells its vs
  | _, _ => []
theorem itmCells_length : ∀ (its : List Itm) (vs : List Value), vs.length = its.length → (itmCells its vs).length = its.length * 2
  | [], [], _ => rfl
  | it :: its, v :: vs, h => by
    have := itmCells_length its vs (by simpa using h)
    simp only [itmCells, List.length_cons, this]
    omega
theorem itmCells_snoc : ∀ (its : List Itm) (vs : List Value) (it : Itm) (v : Value), vs.length = its.length → itmCells (its ++ [it]) (vs ++ [v]) = itmCells its vs ++ [.int .u8 it.agg, v]
  | [], [], _, _, _ => rfl
  | x :: its, y :: vs, it, v, h => by
    have := itmCells_snoc its vs it v (by simpa using h)
    simp only [List.cons_append, itmCells, this]
/-- items of the call's own -/
def IO (B : Nat) (w : World) (its : List Itm) (iv : Value) : Prop :=
  ∃ vs : List Value, vs.length = its.length ∧ w.ownsRow B 48 2 iv its.length (itmCells its vs) ∧
    ∀ (i : Nat) it v, its[i]? = some it → vs[i]? = some v → w.ownsRow B 29 3 v it.e.length (stpCells it.e) ∧ ∀ k, v.ownBlock = some k → iv.ownBlock ≠ some k
theorem IO.nil (B : Nat) (w : World) : IO B w [] (.slice none 0 0) := ⟨[], rfl, World.ownsRow_nil _ _ _ _, fun i it v h => by simp at h⟩
theorem IO.kept {B : Nat} {w w' : World} {its : List Itm} {iv : Value} (h : IO B w its iv) (hb : ∀ k, B ≤ k → k < w.heap.size → w'.heap[k]? = w.heap[k]?) : IO B w' its iv := by
  obtain ⟨vs, h1, h2, h3⟩ := h
  exact ⟨vs, h1, own_keepA h2 hb, fun i it v a b => ⟨own_keepA (h3 i it v a b).1 hb, (h3 i it v a b).2⟩⟩
/-- an item more -/
theorem IO.app {B C : Nat} {w4 w5 : World} {its : List Itm} {vs : List Value} {iv v v' : Value} {it : Itm} {o : Obj} (hC : B ≤ C) (hl : vs.length = its.length) (hlt : ∀ k, iv.ownBlock = some k → k < C)
    (hex : ∀ (i : Nat) it v, its[i]? = some it → vs[i]? = some v → w4.ownsRow B 29 3 v it.e.length (stpCells it.e) ∧ ∀ k, v.ownBlock = some k → iv.ownBlock ≠ some k)
    (hv : w4.ownsRow C 29 3 v it.e.length (stpCells it.e)) (hg : (w4.alloc o).grownBy w5 iv.ownBlock) (h5 : w5.ownsRow B 48 2 v' (its.length + 1) (itmCells its vs ++ [.int .u8 it.agg, v]))
    (hb : v'.ownBlock = iv.ownBlock ∨ v'.ownBlock = some (w4.heap.size + 1)) : IO B w5 (its ++ [it]) v' := by
  have keep : ∀ {x : Value} {n : Nat} {xs : List Value} {D : Nat}, w4.ownsRow D 29 3 x n xs → (∀ k, x.ownBlock = some k → iv.ownBlock ≠ some k) → w5.ownsRow D 29 3 x n xs := by
    intro x n xs D hx hne
    refine ⟨hx.1, ?_⟩
    rcases hx.2 with hn | ⟨g, cap, cur, e, hg', hc, rest⟩
    · exact .inl hn
    · refine .inr ⟨g, cap, cur, e, hg', ?_, rest⟩
      have hgl := (Array.getElem?_eq_some_iff.1 hc).1
      have h1 := hg.block g (by rw [alloc_sz]; omega) (fun e2 => hne g (by rw [e]; rfl) e2.symm)
      rw [h1]
      exact (heap_alloc_old _ _ hgl).trans hc
  have fresh : ∀ {x : Value} {n : Nat} {xs : List Value} {D : Nat}, w4.ownsRow D 29 3 x n xs → (∀ k, x.ownBlock = some k → iv.ownBlock ≠ some k) → ∀ k, x.ownBlock = some k → v'.ownBlock ≠ some k := by
    intro x n xs D hx hne k hk e
    have h1 := own_lt hx k hk
    rcases hb with hb | hb
    · exact hne k hk (hb ▸ e)
    · rw [hb] at e
      injection e with e
      omega
  have hvne : ∀ k, v.ownBlock = some k → iv.ownBlock ≠ some k := fun k hk e => by have := hlt k e; have := own_base hv k hk; omega
  refine ⟨vs ++ [v], by simp [hl], ?_, fun i it' u ha hbb => ?_⟩
  · rw [itmCells_snoc _ _ _ _ hl, List.length_append]
    exact h5
  · by_cases hi : i < its.length
    · rw [List.getElem?_append_left hi] at ha
      rw [List.getElem?_append_left (by omega)] at hbb
      obtain ⟨h1, h2⟩ := hex i it' u ha hbb
      exact ⟨keep h1 h2, fresh h1 h2⟩
    · rw [List.getElem?_append_right (by omega)] at ha
      rw [List.getElem?_append_right (by omega), hl] at hbb
      have e1 : i - its.length = 0 := by
        by_cases e : i - its.length = 0
        · exact e
        · obtain ⟨m, hm⟩ : ∃ m, i - its.length = m + 1 := ⟨i - its.length - 1, by omega⟩
          rw [hm] at ha; simp at ha
      rw [e1] at ha hbb
      simp at ha hbb
      subst ha
      subst hbb
      exact ⟨own_le (keep hv hvne) hC, fresh hv hvne⟩

/-- the loop of some: where it stands -/
structure SmI (A : Nat) (fin : Int) (R : Res (List Tok × Int × List Itm)) (out : List Itm) (l : List Tok) (op : Int) (sv : Value) (w wr : World) : Prop where
  it : ItS A l fin op sv w wr
  op_ : OpOk op
  sz : ∀ t ∈ l, t.s.size < 4294967281
  ll : l.length ≤ 1099511627776
  o8 : out.length ≤ 8
  run : ∃ m, l.length + 1 ≤ m ∧ someR (itemR fin) fin m out l op = R
theorem SmI.next {A : Nat} {fin : Int} {R : Res (List Tok × Int × List Itm)} {out : List Itm} {l : List Tok} {op : Int} {sv : Value} {w wr w' : World} (h : SmI A fin R out l op sv w wr) (hb : Below wr.heap.size wr w') : SmI A fin R out l op sv w w' := ⟨h.it.next hb, h.op_, h.sz, h.ll, h.o8, h.run⟩
theorem SmI.stop {A : Nat} {fin : Int} {R : Res (List Tok × Int × List Itm)} {out : List Itm} {l : List Tok} {op : Int} {sv : Value} {w wr : World} (h : SmI A fin R out l op sv w wr) (h0 : out.length ≠ 0) (hc : closesR l fin = true) : R = .ok (l, op, out) := by
  obtain ⟨m, hm, hr⟩ := h.run
  obtain ⟨m, rfl⟩ : ∃ k, m = k + 1 := ⟨m - 1, by omega⟩
  rw [someR, if_neg (by rw [hc]; simp; exact fun e => h0 (by rw [e]; rfl))] at hr
  exact hr.symm
theorem SmI.many {A : Nat} {fin : Int} {R : Res (List Tok × Int × List Itm)} {out : List Itm} {l : List Tok} {op : Int} {sv : Value} {w wr : World} (h : SmI A fin R out l op sv w wr) (h0 : out.length = 0 ∨ closesR l fin = false) (h8 : ¬ out.length < 8) : R = .bad 3 (tokAt l fin).a := by
  obtain ⟨m, hm, hr⟩ := h.run
  obtain ⟨m, rfl⟩ : ∃ k, m = k + 1 := ⟨m - 1, by omega⟩
  rw [someR, if_pos h0, if_neg h8] at hr
  exact hr.symm
theorem SmI.bad {A : Nat} {fin y q : Int} {R : Res (List Tok × Int × List Itm)} {out : List Itm} {l : List Tok} {op : Int} {sv : Value} {w wr : World} (h : SmI A fin R out l op sv w wr) (h0 : out.length = 0 ∨ closesR l fin = false) (h8 : out.length < 8) (ha : itemR fin l op = .bad y q) : R = .bad y q := by
  obtain ⟨m, hm, hr⟩ := h.run
  obtain ⟨m, rfl⟩ : ∃ k, m = k + 1 := ⟨m - 1, by omega⟩
  rw [someR, if_pos h0, if_pos h8, ha] at hr
  exact hr.symm
theorem SmI.go {A : Nat} {fin : Int} {R : Res (List Tok × Int × List Itm)} {out : List Itm} {l : List Tok} {op : Int} {sv sv' : Value} {w wr w' : World} {s : List Tok × Int × Itm} (h : SmI A fin R out l op sv w wr) (h0 : out.length = 0 ∨ closesR l fin = false) (h8 : out.length < 8) (ha : itemR fin l op = .ok s)
    (hi : ItS A s.1 fin s.2.1 sv' w w') : SmI A fin R (out ++ [s.2.2]) s.1 s.2.1 sv' w w' ∧ s.1.length < l.length := by
  obtain ⟨m, hm, hr⟩ := h.run
  obtain ⟨m, rfl⟩ : ∃ k, m = k + 1 := ⟨m - 1, by omega⟩
  rw [someR, if_pos h0, if_pos h8, ha] at hr
  obtain ⟨a1, a2, _, a3, _⟩ := itemR_ok ha
  exact ⟨⟨hi, by rw [a3]; exact h.op_, fun t ht => h.sz t (a1.subset ht), by have := h.ll; omega, by rw [List.length_append]; simp; omega, ⟨m, by omega, hr⟩⟩, a2⟩
end Go.Proofs.YtegnoaejlhbpbaaGreatDoor.lx
namespace Go.Proofs.YtegnoaejlhbpbaaGreatDoor.lx
open Go.RowKit

theorem infoItm : (Tryz.prog.info? 48).map (fun i => (i.zero, i.size, i.bytes)) = some (some (.agg #[.int .u8 0, .slice none 0 0]), 2, 32) := by kernel_rfl
/-- what some comes to -/
def ItemsP (A : Nat) (fin : Int) (w : World) (R : Res (List Tok × Int × List Itm)) (e : Ending) (w' : World) : Prop :=
  match R with
  | .ok x => (∃ v sv', e = .returned v ∧ AtW A x.1 fin x.2.1 sv' w' ∧ IO w.heap.size w' x.2.2 v) ∧ w.grownBy w' (some A)
  | .bad y p => e = .panicked [flt y p] ∧ w.grownBy w' (some A)
theorem IO.bel {B : Nat} {w w' : World} {its : List Itm} {iv : Value} (h : IO B w its iv) (hb : Below w.heap.size w w') : IO B w' its iv := h.kept fun k _ hk => hb.block k hk

set_option maxHeartbeats 2000000 in
set_option maxRecDepth 100000 in
theorem someItm_any {A : Nat} {l : List Tok} {fin op : Int} {sv : Value} {w : World} (h : AtW A l fin op sv w) (hG : PGlob w) (hA8 : 11 ≤ A) (hop : OpOk op) (hs : ∀ t ∈ l, t.s.size < 4294967281) (hll : l.length ≤ 1099511627776) :
    Calls Tryz.prog 68 #[.pointer (some ⟨A, 0, none⟩), .func (.func 69) #[.pointer (some ⟨A, 0, none⟩)] #[]] w fun e w' => ItemsP A fin w (someR (itemR fin) fin (l.length + 2) [] l op) e w' := by
  obtain ⟨R, hR⟩ : ∃ R, someR (itemR fin) fin (l.length + 2) [] l op = R := ⟨_, rfl⟩
  rw [hR]
  have HS0 : Hid (SmI A fin R [] l op sv w w) := Lib.hid ⟨⟨h, gb_refl _ _, hG, hA8, h.lt⟩, hop, hs, hll, by decide, ⟨_, by omega, hR⟩⟩
  have hlt := h.lt
  clear h hG hs hR
  go_enter Tryz.func68, Tryz.ntmps68
  go_wp2_with fail
  go_loopw [5] (fun v wr => ∃ (out : List Itm) (l' : List Tok) (op' : Int) (sv' : Value), Hid (SmI A fin R out l' op' sv' w wr) ∧ Hid (IO w.heap.size wr out v)) (fun _ wr => wlen A wr)
  case atStart => exact ⟨[], l, op, sv, HS0, Lib.hid (IO.nil _ _)⟩
  case round =>
    clear HS0
    obtain ⟨out, l', op', sv', HS, HIO⟩ := hrel
    have HW0 := Lib.hid (wlen_of HS.out.it.at_)
    have hio := HIO.out
    obtain ⟨vs, hvl, hown, hex⟩ := hio
    obtain ⟨so, scap, rfl⟩ := own_shape hown
    have ho8 := HS.out.o8
    have hbase := Lib.hid (own_base hown)
    have HO := Lib.hid hown
    have HVL := Lib.hid hvl
    have HEX := Lib.hid hex
    clear hown hvl hex
    by_cases h0 : out.length = 0
    · obtain rfl : out = [] := List.eq_nil_of_length_eq_zero h0
      clear h0
      have HCD : Hid (([] : List Itm).length = 0 ∨ closesR l' fin = false) := Lib.hid (.inl rfl)
      by_cases h8 : 0 < 8
      · have h8I : (0 : Int) < 8 := by omega
        have H8 : Hid (([] : List Itm).length < 8) := Lib.hid h8
        have hcol := item_any HS.out.it.at_ HS.out.it.glob HS.out.it.hA8 HS.out.op_ HS.out.sz HS.out.ll
        cases ha : itemR fin l' op' with
        | bad y q =>
          rw [ha] at hcol
          have HRB := Lib.hid (HS.out.bad HCD.out H8.out ha)
          have HCO := Lib.hid hcol
          clear hcol ha
          go_wp2_with (go_at_call 71; refine (must_yes (by first | rfl | (simp; omega))).mono ?_; rintro e w3 ⟨rfl, rfl⟩; refine Hid.out ?_)
          refine Lib.hid ?_
          go_wp2_with (go_at_call 69; refine HCO.out.mono ?_; rintro e w4 ⟨rfl, hg⟩; refine Hid.out ?_)
          refine Lib.hid ?_
          exact ⟨rfl, by rw [HRB.out]; exact ⟨rfl, gb_trans HS.out.it.gb hg⟩⟩
        | ok s =>
          rw [ha] at hcol
          have HCO := Lib.hid hcol
          have HA := Lib.hid ha
          clear hcol ha
          go_wp2_with (go_at_call 71; refine (must_yes (by first | rfl | (simp; omega))).mono ?_; rintro e w3 ⟨rfl, rfl⟩; refine Hid.out ?_)
          refine Lib.hid ?_
          go_wp2_with (go_at_call 69; refine HCO.out.mono ?_; rintro e w4 ⟨⟨v4, sv4, rfl, ha4, ho4⟩, hg4⟩; refine Hid.out ?_)
          refine Lib.hid ?_
          obtain ⟨eo, ecap, rfl⟩ := own_shape ho4
          have HI4 := Lib.hid (HS.out.it.step ha4 hg4)
          have hown4 := (own_keepA HO.out fun k hk hk2 => hg4.block k hk2 (by intro e; injection e; omega))
          have HEX4 := Lib.hid fun (i : Nat) it v (a : ([] : List Itm)[i]? = some it) (b : vs[i]? = some v) => And.intro (own_keepA (HEX.out i it v a b).1 fun k hk hk2 => hg4.block k hk2 (by intro e; injection e; omega)) (HEX.out i it v a b).2
          have HO4 := Lib.hid ho4
          have HOW4 := Lib.hid hown4
          have hsz4 : w.heap.size ≤ w4.heap.size := HI4.out.gb.size
          have HWS := Lib.hid HS.out.it.gb.size
          clear ha4 hg4 ho4
          obtain ⟨i0, hi0, hz0, hz1, hz2⟩ := info_parts infoItm
          go_wp2_with (at_builtin; refine wpList_append_own_at _ rfl _ _ 22 rfl w.heap.size 48 i0 _ 2 32 Tryz.underlying22 hi0 hz0 hz1 hz2 rfl (by decide) (.slice so 0 scap) 0 (itmCells [] vs) rfl (hown4.alloc _) ⟨w4.heap.size, 0, none⟩ 1 1 [.int .u8 s.2.2.agg, .slice eo s.2.2.e.length ecap] rfl rfl ?c1 ?c2 ?c3 ?c4 ?c5 ?_)
          case c1 =>
            intro j u hj
            match j, hj with
            | 0, hj => simp at hj; subst hj; simp [Addr.add]
            | 1, hj => simp at hj; subst hj; simp [Addr.add]
            | (j + 2), hj => simp at hj
          case c2 => intro u hu; simp at hu; rcases hu with rfl | rfl <;> rfl
          case c3 => unfold maxLen; omega
          case c4 => omega
          case c5 => simp; omega
          intro v' w5 hown5 hg5 _ hb5
          have HI5 := Lib.hid (HI4.out.app (o := .cells #[.int .u8 s.2.2.agg, .slice eo s.2.2.e.length ecap] 48) hg5 (fun k hk => hbase.out k hk))
          have HIO5 := Lib.hid (IO.app (its := ([] : List Itm)) (it := s.2.2) HWS.out HVL.out (own_lt HO.out) HEX4.out HO4.out hg5 hown5 hb5)
          have HN := Lib.hid (HS.out.go HCD.out H8.out HA.out HI5.out)
          have HW5 := Lib.hid (wlen_of HI5.out.at_)
          clear hg5 hown4 hown5 hb5 hi0 hz0 hz1 hz2
          go_wp2_with fail
          go_roundw
          case rel => exact ⟨([] : List Itm) ++ [s.2.2], s.1, s.2.1, _, Lib.hid HN.out.1, HIO5⟩
          case measure => rw [HW0.out, HW5.out]; exact HN.out.2
      · exact absurd (by decide) h8
    · have e0 : ((out.length : Int) == 0) = false := by rw [beq_eq_false_iff_ne]; omega
      have hcc := closes_any HS.out.it.at_
      cases hcl : closesR l' fin with
      | true =>
        rw [show ((tokAt l' fin).k == 2) = true from hcl] at hcc
        have HRS := Lib.hid (HS.out.stop h0 hcl)
        have HCC := Lib.hid hcc
        clear hcc hcl
        go_wp2_with (go_at_call 88; refine HCC.out.mono ?_; rintro e w3 ⟨rfl, hb3⟩; refine Hid.out ?_)
        refine Lib.hid ?_
        have HN := Lib.hid (HS.out.next hb3)
        have HO3 := Lib.hid (HIO.out.bel hb3)
        clear hb3
        go_wp2_with fail
        go_ret
        rw [HRS.out]
        exact ⟨⟨_, _, rfl, HN.out.it.at_, HO3.out⟩, HN.out.it.gb⟩
      | false =>
        rw [show ((tokAt l' fin).k == 2) = false from hcl] at hcc
        have HCL := Lib.hid hcl
        have HCC := Lib.hid hcc
        clear hcc hcl
        go_wp2_with (go_at_call 88; refine HCC.out.mono ?_; rintro e w2 ⟨rfl, hb2⟩; refine Hid.out ?_)
        refine Lib.hid ?_
        have HSn := Lib.hid (HS.out.next hb2)
        have HOn := Lib.hid (own_bel HO.out hb2)
        have HEXn := Lib.hid fun (i : Nat) it v (a : out[i]? = some it) (b : vs[i]? = some v) => And.intro (own_bel (HEX.out i it v a b).1 hb2) (HEX.out i it v a b).2
        clear HS HO HEX hb2 HIO
        have HS := HSn
        have HO := HOn
        have HEX := HEXn
        clear HSn HOn HEXn
        have HCD : Hid (out.length = 0 ∨ closesR l' fin = false) := Lib.hid (.inr HCL.out)
        by_cases h8 : out.length < 8
        · have h8I : (out.length : Int) < 8 := by omega
          have H8 : Hid (out.length < 8) := Lib.hid h8
          have hcol := item_any HS.out.it.at_ HS.out.it.glob HS.out.it.hA8 HS.out.op_ HS.out.sz HS.out.ll
          cases ha : itemR fin l' op' with
          | bad y q =>
            rw [ha] at hcol
            have HRB := Lib.hid (HS.out.bad HCD.out H8.out ha)
            have HCO := Lib.hid hcol
            clear hcol ha
            go_wp2_with (go_at_call 71; refine (must_yes (by first | rfl | (simp; omega))).mono ?_; rintro e w3 ⟨rfl, rfl⟩; refine Hid.out ?_)
            refine Lib.hid ?_
            go_wp2_with (go_at_call 69; refine HCO.out.mono ?_; rintro e w4 ⟨rfl, hg⟩; refine Hid.out ?_)
            refine Lib.hid ?_
            exact ⟨rfl, by rw [HRB.out]; exact ⟨rfl, gb_trans HS.out.it.gb hg⟩⟩
          | ok s =>
            rw [ha] at hcol
            have HCO := Lib.hid hcol
            have HA := Lib.hid ha
            clear hcol ha
            go_wp2_with (go_at_call 71; refine (must_yes (by first | rfl | (simp; omega))).mono ?_; rintro e w3 ⟨rfl, rfl⟩; refine Hid.out ?_)
            refine Lib.hid ?_
            go_wp2_with (go_at_call 69; refine HCO.out.mono ?_; rintro e w4 ⟨⟨v4, sv4, rfl, ha4, ho4⟩, hg4⟩; refine Hid.out ?_)
            refine Lib.hid ?_
            obtain ⟨eo, ecap, rfl⟩ := own_shape ho4
            have HI4 := Lib.hid (HS.out.it.step ha4 hg4)
            have hown4 := (own_keepA HO.out fun k hk hk2 => hg4.block k hk2 (by intro e; injection e; omega))
            have HEX4 := Lib.hid fun (i : Nat) it v (a : out[i]? = some it) (b : vs[i]? = some v) => And.intro (own_keepA (HEX.out i it v a b).1 fun k hk hk2 => hg4.block k hk2 (by intro e; injection e; omega)) (HEX.out i it v a b).2
            have HO4 := Lib.hid ho4
            have HOW4 := Lib.hid hown4
            have hsz4 : w.heap.size ≤ w4.heap.size := HI4.out.gb.size
            have HWS := Lib.hid HS.out.it.gb.size
            clear ha4 hg4 ho4
            obtain ⟨i0, hi0, hz0, hz1, hz2⟩ := info_parts infoItm
            go_wp2_with (at_builtin; refine wpList_append_own_at _ rfl _ _ 22 rfl w.heap.size 48 i0 _ 2 32 Tryz.underlying22 hi0 hz0 hz1 hz2 rfl (by decide) (.slice so out.length scap) out.length (itmCells out vs) rfl (hown4.alloc _) ⟨w4.heap.size, 0, none⟩ 1 1 [.int .u8 s.2.2.agg, .slice eo s.2.2.e.length ecap] rfl rfl ?c1 ?c2 ?c3 ?c4 ?c5 ?_)
            case c1 =>
              intro j u hj
              match j, hj with
              | 0, hj => simp at hj; subst hj; simp [Addr.add]
              | 1, hj => simp at hj; subst hj; simp [Addr.add]
              | (j + 2), hj => simp at hj
            case c2 => intro u hu; simp at hu; rcases hu with rfl | rfl <;> rfl
            case c3 => unfold maxLen; omega
            case c4 => omega
            case c5 => simp; omega
            intro v' w5 hown5 hg5 _ hb5
            have HI5 := Lib.hid (HI4.out.app (o := .cells #[.int .u8 s.2.2.agg, .slice eo s.2.2.e.length ecap] 48) hg5 (fun k hk => hbase.out k hk))
            have HIO5 := Lib.hid (IO.app (its := out) (it := s.2.2) HWS.out HVL.out (own_lt HO.out) HEX4.out HO4.out hg5 hown5 hb5)
            have HN := Lib.hid (HS.out.go HCD.out H8.out HA.out HI5.out)
            have HW5 := Lib.hid (wlen_of HI5.out.at_)
            clear hg5 hown4 hown5 hb5 hi0 hz0 hz1 hz2
            go_wp2_with fail
            go_roundw
            case rel => exact ⟨out ++ [s.2.2], s.1, s.2.1, _, Lib.hid HN.out.1, HIO5⟩
            case measure => rw [HW0.out, HW5.out]; exact HN.out.2
        · have h8I : ¬ (out.length : Int) < 8 := by omega
          have HRM := Lib.hid (HS.out.many HCD.out h8)
          have HD8 : Hid (decide ((out.length : Int) < 8) = false) := Lib.hid (decide_eq_false h8I)
          go_wp2_with (go_at_call 71; refine (must_no (by first | exact HD8.out | rfl | (simp; omega)) HS.out.it.at_).mono ?_; rintro e w3 ⟨rfl, hb3⟩; refine Hid.out ?_)
          refine Lib.hid ?_
          exact ⟨rfl, by rw [HRM.out]; exact ⟨rfl, gb_trans HS.out.it.gb (below_gb hb3)⟩⟩
end Go.Proofs.YtegnoaejlhbpbaaGreatDoor.lx
