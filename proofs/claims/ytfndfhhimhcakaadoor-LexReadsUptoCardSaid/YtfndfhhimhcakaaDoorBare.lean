/-
  The lexer's bare: runes up to an end, for every tape. Conditions as for end.
-/
import Derived.Test.YtfndfhhimhcakaaDoorEnd
namespace Go.Proofs.YtfndfhhimhcakaaDoor.lx
open Go.RowKit

def bareF (fine : Bool) (l : ByteArray) (p : Nat) : Bool × ByteArray × Nat :=
  if h : endF l = true then (fine, l, p) else bareF (stepOk l && fine) (adv l) (p + 1)
termination_by l.size
decreasing_by exact adv_lt l (fun h0 => h (by simp [endF, h0]))

theorem bareF_end {fine : Bool} {l : ByteArray} {p : Nat} (h : endF l = true) : bareF fine l p = (fine, l, p) := by rw [bareF, dif_pos h]
theorem bareF_go {fine : Bool} {l : ByteArray} {p : Nat} (h : endF l = false) : bareF fine l p = bareF (stepOk l && fine) (adv l) (p + 1) := by rw [bareF, dif_neg (by simp [h])]

theorem bareF_size (n : Nat) : ∀ (fine : Bool) (l : ByteArray) (p : Nat), l.size = n → (bareF fine l p).2.1.size ≤ l.size ∧ p ≤ (bareF fine l p).2.2 ∧ (bareF fine l p).2.2 + (bareF fine l p).2.1.size ≤ p + l.size := by
  induction n using Nat.strongRecOn with
  | _ n ih =>
    intro fine l p hn
    cases he : endF l with
    | true => rw [bareF_end he]; simp
    | false =>
      rw [bareF_go he]
      have h0 : l.size ≠ 0 := fun h0 => by simp [endF, h0] at he
      have hlt := adv_lt l h0
      have := ih (adv l).size (by omega) (stepOk l && fine) (adv l) (p + 1) rfl
      omega

set_option maxRecDepth 100000 in
set_option maxHeartbeats 2000000 in
theorem bare_any (b : Nat) (l : ByteArray) (p : Nat) (w : World) (hG : Glob w) (hb8 : 8 ≤ b) (h : Tape b l p w) (hp : p + l.size + 1 ≤ 9223372036854775807) :
    Calls Tryd.prog 33 #[.pointer (some ⟨b, 0, none⟩)] w fun e w' =>
      e = .returned (.tuple #[.string (l.extract 0 (l.size - (bareF true l p).2.1.size)), .bool (bareF true l p).1]) ∧ Tape b (bareF true l p).2.1 (bareF true l p).2.2 w' ∧ w.grownBy w' (some b) := by
  have hsz := (bareF_size _ true l p rfl).1
  obtain ⟨R, hR⟩ : ∃ R, bareF true l p = R := ⟨_, rfl⟩
  rw [hR] at hsz ⊢
  have c0 := h.c0
  go_enter Tryd.func33, Tryd.ntmps33
  go_wp2
  go_loopw [5] (fun v wr => ∃ (fine : Bool) (l' : ByteArray) (p' : Nat), v = .bool fine ∧ Tape b l' p' wr ∧ w.grownBy wr (some b) ∧ bareF fine l' p' = R ∧ p' + l'.size + 1 ≤ 9223372036854775807) (fun _ wr => tlen b wr)
  case atStart => exact ⟨true, l, p, rfl, h, gb_refl _ _, hR, hp⟩
  case round =>
    have hl : l.size ≤ 9223372036854775807 := by omega
    clear hR hp c0
    obtain ⟨fine, l', p', rfl, ht, hg, hs, hp⟩ := hrel
    have HS := Lib.hid hs
    clear hs
    have hGr := hG.gb hb8 hg
    have ht0 := ht
    cases he : endF l' with
    | true =>
      have hfin : R = (fine, l', p') := by rw [← HS.out]; exact bareF_end he
      have e1 : R.2.1.size = l'.size := by rw [hfin]
      rw [e1] at hsz
      have HF := Lib.hid hfin
      clear hfin e1
      go_wp2_with (go_at_call 50; refine (end_any b l' p' _ hGr ht).mono ?_)
      rintro e w1 ⟨rfl, hb1⟩
      have ht1 := ht.below hb1 ht.lt
      have hg1 : w.grownBy w1 (some b) := gb_trans hg (gb_of_below hb1 _)
      have c1 := ht1.c0
      go_wp2
      go_ret2
      rw [HF.out]
      exact ⟨rfl, ht1, hg1⟩
    | false =>
      have h0 : l'.size ≠ 0 := fun h0 => by simp [endF, h0] at he
      have hlt := adv_lt l' h0
      have hnext : bareF (stepOk l' && fine) (adv l') (p' + 1) = R := by rw [← HS.out, bareF_go he]
      have HN := Lib.hid hnext
      clear hnext
      have HM := Lib.hid (tlen_of ht)
      go_wp2_with (go_at_call 50; refine (end_any b l' p' _ hGr ht).mono ?_)
      rintro e w1 ⟨rfl, hb1⟩
      have ht1 := ht.below hb1 ht.lt
      have hG1 := hGr.self hb1
      have hg1 : w.grownBy w1 (some b) := gb_trans hg (gb_of_below hb1 _)
      go_wp2_with (go_at_call 20; refine (step_any b l' p' _ hG1 ht1 (by omega)).mono ?_)
      rintro e w2 ⟨rfl, ht2, hg2⟩
      rw [stepP_pos p' h0] at ht2
      go_wp2
      all_goals
        go_roundw
        case rel => exact ⟨stepOk l' && fine, adv l', p' + 1, (by simp [*]), ht2, gb_trans hg1 hg2, HN.out, by omega⟩
        case measure => rw [HM.out, tlen_of ht2]; exact hlt
end Go.Proofs.YtfndfhhimhcakaaDoor.lx
