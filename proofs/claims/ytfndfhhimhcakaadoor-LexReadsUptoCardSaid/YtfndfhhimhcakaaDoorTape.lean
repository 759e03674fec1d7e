/-
  The lexer's tape: what peek and step do, for every tape. Conditions: the tape's two cells lie in a block of their own, and the two tables of package unicode/utf8 are laid.
-/
import Derived.Test.YtfndfhhimhcakaaDoorBase
import Derived.WalkKit
import Derived.BigCall
import Derived.BigQuiet
import Derived.Deep.QuietTactic
import Derived.Handy
namespace Go.Proofs.YtfndfhhimhcakaaDoor.lx
open Go.RowKit

def dr (l : ByteArray) : Int := ((Lib.decodeGo l).1 : Nat)
def dn (l : ByteArray) : Nat := (Lib.decodeGo l).2

def Tape (b : Nat) (l : ByteArray) (p : Nat) (w : World) : Prop := w.heap[b]? = some (.cells #[.string l, .int .i64 p] 36 (0, 0))

theorem Tape.c0 {b : Nat} {l : ByteArray} {p : Nat} {w : World} (h : Tape b l p w) : w.cell? ⟨b, 0, none⟩ = some (.string l) := by
  unfold Tape at h; simp [World.cell?, h]
theorem Tape.c1 {b : Nat} {l : ByteArray} {p : Nat} {w : World} (h : Tape b l p w) : w.cell? ⟨b, 1, none⟩ = some (.int .i64 p) := by
  unfold Tape at h; simp [World.cell?, h]
theorem Tape.f {b : Nat} {l : ByteArray} {p : Nat} {w : World} (h : Tape b l p w) (o : Nat) : w.frozen? ⟨b, o, none⟩ = false := by
  unfold Tape at h; simp [World.frozen?, h]
theorem Tape.lt {b : Nat} {l : ByteArray} {p : Nat} {w : World} (h : Tape b l p w) : b < w.heap.size := (Array.getElem?_eq_some_iff.1 h).1
theorem Tape.below {b : Nat} {l : ByteArray} {p : Nat} {w w' : World} (h : Tape b l p w) {B : Nat} (hb : Below B w w') (hB : b < B) : Tape b l p w' := (hb.block b hB).trans h

set_option maxHeartbeats 400000 in
theorem peek_any (b : Nat) (l : ByteArray) (p : Nat) (w : World) (hG : Glob w) (h : Tape b l p w) :
    Calls Tryd.prog 19 #[.pointer (some ⟨b, 0, none⟩)] w fun e w' => e = .returned (.tuple #[.int .i32 (dr l), .int .i64 (dn l)]) ∧ Below w.heap.size w w' := by
  have c0 := h.c0
  go_enter Tryd.func19, Tryd.ntmps19
  go_wp2_with (go_at_call 30; refine (Tryd.utf8_DecodeRuneInString _ _ hG.utf).mono ?_; rintro e w' ⟨rfl, hb⟩)
  go_ret2
  exact ⟨rfl, hb⟩

def adv (l : ByteArray) : ByteArray := l.extract (dn l) l.size
def stepOk (l : ByteArray) : Bool := decide (1 < dn l) || (dn l == 1 && dr l != 65533)
def stepP (l : ByteArray) (p : Nat) : Nat := if 0 < dn l then p + 1 else p

theorem dn_bounds (l : ByteArray) (h : l.size ≠ 0) : 1 ≤ dn l ∧ dn l ≤ 4 ∧ dn l ≤ l.size := by
  unfold dn Lib.decodeGo
  rw [if_neg h, Lib.decode_at]
  unfold Lib.decodeN
  repeat' split
  all_goals simp only [Nat.sub_zero] at *
  all_goals omega
theorem dn_zero (l : ByteArray) (h : l.size = 0) : dn l = 0 ∧ dr l = 65533 := by
  unfold dn dr Lib.decodeGo
  rw [if_pos h]
  exact ⟨rfl, rfl⟩
theorem dn_le (l : ByteArray) : dn l ≤ l.size := by
  by_cases h : l.size = 0
  · rw [(dn_zero l h).1]; exact Nat.zero_le _
  · exact (dn_bounds l h).2.2
theorem dr_le (l : ByteArray) : 0 ≤ dr l ∧ dr l ≤ 1114111 := by
  unfold dr Lib.decodeGo
  split
  · simp
  rw [Lib.decode_at]
  unfold Lib.decodeN
  repeat' split
  all_goals simp only at *
  all_goals omega
theorem adv_size (l : ByteArray) : (adv l).size = l.size - dn l := by
  have := dn_le l
  simp [adv, ByteArray.size_extract]
theorem adv_lt (l : ByteArray) (h : l.size ≠ 0) : (adv l).size < l.size := by
  have := dn_bounds l h
  rw [adv_size]; omega

theorem stepOk_one {l : ByteArray} (h : dn l = 1) : stepOk l = (dr l != 65533) := by simp [stepOk, h]
theorem stepOk_many {l : ByteArray} (h : 1 < dn l) : stepOk l = true := by simp [stepOk, h]
theorem stepOk_none {l : ByteArray} (h : dn l = 0) : stepOk l = false := by simp [stepOk, h]
theorem Tape.set0 {b : Nat} {l : ByteArray} {p : Nat} {w : World} (h : Tape b l p w) (l' : ByteArray) : Tape b l' p (w.setCell ⟨b, 0, none⟩ (.string l')) := by
  unfold Tape at *; simp [World.setCell, Array.getElem?_modify, h]
theorem Tape.set1 {b : Nat} {l : ByteArray} {p : Nat} {w : World} (h : Tape b l p w) (p' : Nat) : Tape b l p' (w.setCell ⟨b, 1, none⟩ (.int .i64 p')) := by
  unfold Tape at *; simp [World.setCell, Array.getElem?_modify, h]

set_option maxHeartbeats 1000000 in
theorem step_any (b : Nat) (l : ByteArray) (p : Nat) (w : World) (hG : Glob w) (h : Tape b l p w) (hp : p + 1 ≤ 9223372036854775807) :
    Calls Tryd.prog 20 #[.pointer (some ⟨b, 0, none⟩)] w fun e w' => e = .returned (.bool (stepOk l)) ∧ Tape b (adv l) (stepP l p) w' ∧ w.grownBy w' (some b) := by
  have hn := dn_le l
  go_enter Tryd.func20, Tryd.ntmps20
  go_wp2_with (go_at_call 19; refine (peek_any b l p _ hG h).mono ?_)
  rintro e w1 ⟨rfl, hb⟩
  have h1 := h.below hb h.lt
  have c0 := h1.c0
  have c1 := h1.c1
  have f0 := h1.f 0
  have f1 := h1.f 1
  have hs : w.grownBy ((w1.setCell ⟨b, 0, none⟩ (.string (adv l))).setCell ⟨b, 1, none⟩ (.int .i64 ((p + 1 : Nat) : Int))) (some b) := gb_set (gb_set (gb_of_below hb _) _ _) _ _
  have hs' : w.grownBy (w1.setCell ⟨b, 0, none⟩ (.string (adv l))) (some b) := gb_set (gb_of_below hb _) _ _
  have ht := (h1.set0 (adv l)).set1 (p + 1)
  have ht' := h1.set0 (adv l)
  go_wp2
  · go_ret
    exact ⟨ret_bool (by rw [stepOk_one (by omega)]; try (simp; omega)), by rw [stepP, if_pos (by omega)]; exact ht, hs⟩
  · go_ret
    exact ⟨ret_bool (by rw [stepOk_many (by omega)]; try (simp; omega)), by rw [stepP, if_pos (by omega)]; exact ht, hs⟩
  · go_ret
    exact ⟨ret_bool (by rw [stepOk_none (by omega)]; try (simp; omega)), by rw [stepP, if_neg (by omega)]; exact ht', hs'⟩

/-- how long the tape's rest is, in a world -/
def tlen (b : Nat) (w : World) : Nat := match w.cell? ⟨b, 0, none⟩ with | some (.string l) => l.size | _ => 0
theorem tlen_of {b : Nat} {l : ByteArray} {p : Nat} {w : World} (h : Tape b l p w) : tlen b w = l.size := by simp [tlen, h.c0]

def noted (note : Bool) (r : Int) : Bool := note && r != 10 || r == 59
def blankR (r : Int) : Bool := r == 32 || r == 9 || r == 13 || r == 10
/-- what skip leaves, and where -/
def skipF (note : Bool) (l : ByteArray) (p : Nat) : ByteArray × Nat :=
  if h : l.size = 0 then (l, p) else
    if noted note (dr l) || blankR (dr l) then skipF (noted note (dr l)) (adv l) (p + 1) else (l, p)
termination_by l.size
decreasing_by exact adv_lt l h

theorem skipF_end {note : Bool} {l : ByteArray} {p : Nat} (h : l.size = 0) : skipF note l p = (l, p) := by rw [skipF, dif_pos h]
theorem skipF_go {note : Bool} {l : ByteArray} {p : Nat} (h : l.size ≠ 0) (hr : (noted note (dr l) || blankR (dr l)) = true) : skipF note l p = skipF (noted note (dr l)) (adv l) (p + 1) := by rw [skipF, dif_neg h, if_pos hr]
theorem skipF_stop {note : Bool} {l : ByteArray} {p : Nat} (h : l.size ≠ 0) (hr : (noted note (dr l) || blankR (dr l)) = false) : skipF note l p = (l, p) := by rw [skipF, dif_neg h, if_neg (by simp [hr])]

theorem stepP_pos {l : ByteArray} (p : Nat) (h : l.size ≠ 0) : stepP l p = p + 1 := by
  have := dn_bounds l h
  rw [stepP, if_pos (by omega)]

set_option maxHeartbeats 2000000 in
theorem skip_any (b : Nat) (l : ByteArray) (p : Nat) (w : World) (hG : Glob w) (hb8 : 8 ≤ b) (h : Tape b l p w) (hp : p + l.size + 1 ≤ 9223372036854775807) :
    Calls Tryd.prog 10 #[.pointer (some ⟨b, 0, none⟩)] w fun e w' => e = .returned (.tuple #[]) ∧ Tape b (skipF false l p).1 (skipF false l p).2 w' ∧ w.grownBy w' (some b) := by
  obtain ⟨R, hR⟩ : ∃ R, skipF false l p = R := ⟨_, rfl⟩
  rw [hR]
  go_enter Tryd.func10, Tryd.ntmps10
  go_wp2
  go_loopw [2] (fun v wr => ∃ (note : Bool) (l' : ByteArray) (p' : Nat), v = .bool note ∧ Tape b l' p' wr ∧ w.grownBy wr (some b) ∧ skipF note l' p' = R ∧ p' + l'.size + 1 ≤ 9223372036854775807) (fun _ wr => tlen b wr)
  case atStart => exact ⟨false, l, p, rfl, h, gb_refl _ _, hR, hp⟩
  case round =>
    clear hR h hp
    obtain ⟨note, l', p', rfl, ht, hg, hs, hp⟩ := hrel
    have HS := Lib.hid hs
    clear hs
    have hGr := hG.gb hb8 hg
    have c0 := ht.c0
    by_cases h0 : l'.size = 0
    · have he : l'.toList = [] := by
        rw [Lib.toList_data]; exact List.eq_nil_of_length_eq_zero (by rw [← Lib.size_eq]; exact h0)
      have hi : (!l'.toList.isEmpty) = false := by rw [he]; rfl
      have hfin : R = (l', p') := by rw [← HS.out]; exact skipF_end h0
      have HF := Lib.hid hfin
      clear hfin
      go_wp2
      go_end0
      rw [HF.out]
      exact ⟨rfl, ht, hg⟩
    · have he : ¬ l'.toList = [] := by
        intro he
        rw [Lib.toList_data] at he
        exact h0 (by rw [Lib.size_eq, he]; rfl)
      have hi : (!l'.toList.isEmpty) = true := by simp [he]
      have hlt := adv_lt l' h0
      have hm : tlen b wr = l'.size := tlen_of ht
      have HM := Lib.hid hm
      clear hm
      cases hcond : (noted note (dr l') || blankR (dr l')) with
      | true =>
        have hnext : skipF (noted note (dr l')) (adv l') (p' + 1) = R := by rw [← HS.out, skipF_go h0 hcond]
        have HN := Lib.hid hnext
        clear hnext
        go_wp2_with (go_at_call 19; refine (peek_any b l' p' _ hGr ht).mono ?_)
        rintro e w1 ⟨rfl, hb1⟩
        have ht1 := ht.below hb1 ht.lt
        have hG1 := hGr.self hb1
        have hg1 : w.grownBy w1 (some b) := gb_trans hg (gb_of_below hb1 _)
        go_wp2_with (go_at_call 20; refine (step_any b l' p' _ hG1 ht1 (by omega)).mono ?_)
        all_goals first
          | (rintro e w2 ⟨rfl, ht2, hg2⟩
             rw [stepP_pos p' h0] at ht2
             go_wp2
             go_roundw
             case rel => exact ⟨noted note (dr l'), adv l', p' + 1, (by simp [noted, *]), ht2, gb_trans hg1 hg2, HN.out, by omega⟩
             case measure => rw [HM.out, tlen_of ht2]; exact hlt)
          | (exfalso; simp_all [noted, blankR])
      | false =>
        have hfin : R = (l', p') := by rw [← HS.out]; exact skipF_stop h0 hcond
        have HF := Lib.hid hfin
        clear hfin
        go_wp2_with (go_at_call 19; refine (peek_any b l' p' _ hGr ht).mono ?_)
        rintro e w1 ⟨rfl, hb1⟩
        have ht1 := ht.below hb1 ht.lt
        have hg1 : w.grownBy w1 (some b) := gb_trans hg (gb_of_below hb1 _)
        go_wp2_with fail
        all_goals first
          | (go_returns; rw [HF.out]; exact ⟨rfl, ht1, hg1⟩)
          | (exfalso; simp_all [noted, blankR]; done)
end Go.Proofs.YtfndfhhimhcakaaDoor.lx
