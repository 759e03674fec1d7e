/-
  The lexer's token, for every tape that stands at no blank. Conditions: as for text.
-/
import Derived.Test.YtfndfhhimhcakaaDoorWord
namespace Go.Proofs.YtfndfhhimhcakaaDoor.lx
open Go.RowKit

def wordF (l : ByteArray) (p : Nat) : (Tok × Int) × ByteArray × Nat :=
  (wordTok (bareF true l p).1 (l.extract 0 (l.size - (bareF true l p).2.1.size)), (bareF true l p).2.1, (bareF true l p).2.2)
/-- the next token, or why it is none; what is left, and where -/
def tokF (l : ByteArray) (p : Nat) : (Tok × Int) × ByteArray × Nat :=
  if dr l = 40 then ((⟨1, ⟨#[]⟩, 0, 0⟩, 0), adv l, p + 1)
  else if dr l = 41 then ((⟨2, ⟨#[]⟩, 0, 0⟩, 0), adv l, p + 1)
  else if dr l = 34 then textF (stepOk l) [] (adv l) (p + 1)
  else wordF l p

theorem get!_zero (l : ByteArray) (h : 0 < l.size) : l.get! 0 = l[0]'h := by
  have := at_list l 0 h
  obtain ⟨⟨d⟩⟩ := l
  cases d with
  | nil => simp [ByteArray.size] at h
  | cons c r => rfl
theorem first_byte (l : ByteArray) (h : 0 < l.size) : ((l[0]'h).toNat < 128 → dr l = (l[0]'h).toNat) ∧ (dr l < 128 → dr l = (l[0]'h).toNat) := by
  have h0 : l.size ≠ 0 := by omega
  rw [← get!_zero l h]
  unfold dr Lib.decodeGo
  rw [if_neg h0, Lib.decode_at]
  unfold Lib.decodeN
  repeat' split
  all_goals simp only
  all_goals constructor <;> intro hh <;> first | exact True.intro | omega
theorem first_eq (l : ByteArray) (h : 0 < l.size) (k : Nat) (hk : k < 128) : ((((l[0]'h).toNat : Nat) : Int) == k) = decide (dr l = k) := by
  have := first_byte l h
  by_cases e : (l[0]'h).toNat = k
  · have e2 : dr l = k := by rw [this.1 (by omega), e]
    simp [e, e2]
  · have e2 : ¬ dr l = k := fun e2 => e (by have := this.2 (by omega); omega)
    rw [decide_eq_false e2]
    exact beq_eq_false_iff_ne.2 (by omega)

set_option maxHeartbeats 8000000 in
set_option maxRecDepth 100000 in
theorem token_any (b : Nat) (l : ByteArray) (p : Nat) (w : World) (hG : Glob w) (hb8 : 8 ≤ b) (h : Tape b l p w) (hl : p + l.size + 1 ≤ 1099511627776) (h0 : l.size ≠ 0) (hnb : (noted false (dr l) || blankR (dr l)) = false) :
    Calls Tryd.prog 11 #[.pointer (some ⟨b, 0, none⟩)] w fun e w' =>
      e = .returned (.tuple #[(tokF l p).1.1.v, .int .i64 (tokF l p).1.2]) ∧ Tape b (tokF l p).2.1 (tokF l p).2.2 w' ∧ w.grownBy w' (some b) := by
  have hblt := h.lt
  have hpos : 0 < l.size := by omega
  have hW1 : Tape b l p (w.alloc (.cells #[.int .u8 0, .string ⟨#[]⟩, .int .i64 0, .int .i64 0] 24)) :=
    h.below ((Below.refl w.heap.size w).alloc (Nat.le_refl _) _) hblt
  have hW2 : Below w.heap.size w (w.alloc (.cells #[.int .u8 0, .string ⟨#[]⟩, .int .i64 0, .int .i64 0] 24)) := (Below.refl w.heap.size w).alloc (Nat.le_refl _) _
  have hW3 : Cell4 w.heap.size Tok.no (w.alloc (.cells #[.int .u8 0, .string ⟨#[]⟩, .int .i64 0, .int .i64 0] 24)) := by
    unfold Cell4
    rw [heap_alloc_new]
    rfl
  have hGW := hG.self hW2
  have c0 := hW1.c0
  have hsI : (0 : Int) < (l.size : Int) := by omega
  have e40 : ((((l[0]'hpos).toNat : Nat) : Int) == 40) = decide (dr l = 40) := first_eq l hpos 40 (by decide)
  have e41 : ((((l[0]'hpos).toNat : Nat) : Int) == 41) = decide (dr l = 41) := first_eq l hpos 41 (by decide)
  have e34 : ((((l[0]'hpos).toNat : Nat) : Int) == 34) = decide (dr l = 34) := first_eq l hpos 34 (by decide)
  obtain ⟨x, hx⟩ : ∃ x, l[0]'hpos = x := ⟨_, rfl⟩
  rw [hx] at e40 e41 e34
  have hx' : ∀ h, l[0]'h = x := fun h => hx
  clear hx
  obtain ⟨R, hR⟩ : ∃ R, tokF l p = R := ⟨_, rfl⟩
  rw [hR]
  unfold tokF at hR
  by_cases h40 : dr l = 40
  · rw [decide_eq_true h40] at e40
    rw [if_pos h40] at hR
    have HR := Lib.hid hR
    clear hR h40 e41 e34
    go_enter Tryd.func11, Tryd.ntmps11
    go_wp2_with (go_at_call 20; refine (step_any b l p _ hGW hW1 (by omega)).mono ?_)
    rintro e w1 ⟨rfl, ht1, hg1⟩
    rw [stepP_pos p h0] at ht1
    have hgb1 : w.grownBy w1 (some b) := gb_trans (gb_of_below hW2 _) hg1
    have hc41 := hW3.gb hg1 (by omega)
    clear hW1 hW2 hW3 hGW hg1 c0
    have r0 := hc41.c0
    have r1 := hc41.c1
    have r2 := hc41.c2
    have r3 := hc41.c3
    have fr := hc41.f
    have h4 := put4_cell hc41 ⟨1, ⟨#[]⟩, 0, 0⟩
    have ht4 := put4_tape (t := ⟨1, ⟨#[]⟩, 0, 0⟩) ht1 (by omega : b ≠ w.heap.size)
    have hg4 := put4_gb ⟨1, ⟨#[]⟩, 0, 0⟩ hgb1 (Nat.le_refl _)
    go_wp2_with fail
    refine bodyPost_ret (v := .tuple #[Tok.v ⟨1, ⟨#[]⟩, 0, 0⟩, .int .i64 0]) ?_ rfl ⟨by rw [← HR.out], by rw [← HR.out]; exact ht4, hg4⟩
    exact results4 rfl h4 rfl rfl
  rw [decide_eq_false h40] at e40
  rw [if_neg h40] at hR
  by_cases h41 : dr l = 41
  · rw [decide_eq_true h41] at e41
    rw [if_pos h41] at hR
    have HR := Lib.hid hR
    clear hR h40 h41 e34
    go_enter Tryd.func11, Tryd.ntmps11
    go_wp2_with (go_at_call 20; refine (step_any b l p _ hGW hW1 (by omega)).mono ?_)
    rintro e w1 ⟨rfl, ht1, hg1⟩
    rw [stepP_pos p h0] at ht1
    have hgb1 : w.grownBy w1 (some b) := gb_trans (gb_of_below hW2 _) hg1
    have hc41 := hW3.gb hg1 (by omega)
    clear hW1 hW2 hW3 hGW hg1 c0
    have r0 := hc41.c0
    have r1 := hc41.c1
    have r2 := hc41.c2
    have r3 := hc41.c3
    have fr := hc41.f
    have h4 := put4_cell hc41 ⟨2, ⟨#[]⟩, 0, 0⟩
    have ht4 := put4_tape (t := ⟨2, ⟨#[]⟩, 0, 0⟩) ht1 (by omega : b ≠ w.heap.size)
    have hg4 := put4_gb ⟨2, ⟨#[]⟩, 0, 0⟩ hgb1 (Nat.le_refl _)
    go_wp2_with fail
    refine bodyPost_ret (v := .tuple #[Tok.v ⟨2, ⟨#[]⟩, 0, 0⟩, .int .i64 0]) ?_ rfl ⟨by rw [← HR.out], by rw [← HR.out]; exact ht4, hg4⟩
    exact results4 rfl h4 rfl rfl
  rw [decide_eq_false h41] at e41
  rw [if_neg h41] at hR
  by_cases h34 : dr l = 34
  · rw [decide_eq_true h34] at e34
    rw [if_pos h34] at hR
    have htx := text_any b l p _ hGW hb8 hW1 hl h0
    rw [hR] at htx
    obtain ⟨t, hT⟩ : ∃ t, R.1.1 = t := ⟨_, rfl⟩
    have HT := Lib.hid htx
    clear hR h40 h41 h34 htx
    go_enter Tryd.func11, Tryd.ntmps11
    go_wp2_with (go_at_call 21; refine HT.out.mono ?_)
    rintro e w1 ⟨rfl, ht1, hg1⟩
    rw [hT]
    have HT2 := Lib.hid hT
    clear hT
    have hgb1 : w.grownBy w1 (some b) := gb_trans (gb_of_below hW2 _) hg1
    have hc41 := hW3.gb hg1 (by omega)
    clear hW1 hW2 hW3 hGW hg1 c0
    have r0 := hc41.c0
    have r1 := hc41.c1
    have r2 := hc41.c2
    have r3 := hc41.c3
    have fr := hc41.f
    have h4 := put4_cell hc41 t
    have ht4 := put4_tape (t := t) ht1 (by omega : b ≠ w.heap.size)
    have hg4 := put4_gb t hgb1 (Nat.le_refl _)
    unfold Tok.v
    go_wp2_with fail
    refine bodyPost_ret (v := .tuple #[t.v, .int .i64 R.1.2]) ?_ rfl ⟨by rw [HT2.out], ht4, hg4⟩
    exact results4 rfl h4 rfl rfl
  rw [decide_eq_false h34] at e34
  rw [if_neg h34] at hR
  have hend : endF l = false := by
    have hnb' : ¬ (dr l = 59 ∨ dr l = 32 ∨ dr l = 9 ∨ dr l = 13 ∨ dr l = 10) := by
      intro hh
      simp [noted, blankR] at hnb
      omega
    cases hc : endR (dr l) with
    | false => simp [endF, h0, hc]
    | true => rw [endR_iff] at hc; omega
  have hwd := word_any b l p _ hGW hb8 hW1 hl hend
  have hw1 : (wordF l p).1 = R.1 := by rw [hR]
  have hw2 : (wordF l p).2 = R.2 := by rw [hR]
  unfold wordF at hw1 hw2
  simp only at hw1 hw2
  have hw3 : (bareF true l p).2.1 = R.2.1 := by rw [← hw2]
  have hw4 : (bareF true l p).2.2 = R.2.2 := by rw [← hw2]
  rw [hw1, hw3, hw4] at hwd
  obtain ⟨t, hT⟩ : ∃ t, R.1.1 = t := ⟨_, rfl⟩
  have HT := Lib.hid hwd
  clear hR h40 h41 h34 hwd hw1 hw2 hw3 hw4 hend
  go_enter Tryd.func11, Tryd.ntmps11
  go_wp2_with (go_at_call 22; refine HT.out.mono ?_)
  rintro e w1 ⟨rfl, ht1, hg1⟩
  rw [hT]
  have HT2 := Lib.hid hT
  clear hT
  have hgb1 : w.grownBy w1 (some b) := gb_trans (gb_of_below hW2 _) hg1
  have hc41 := hW3.gb hg1 (by omega)
  clear hW1 hW2 hW3 hGW hg1 c0
  have r0 := hc41.c0
  have r1 := hc41.c1
  have r2 := hc41.c2
  have r3 := hc41.c3
  have fr := hc41.f
  have h4 := put4_cell hc41 t
  have ht4 := put4_tape (t := t) ht1 (by omega : b ≠ w.heap.size)
  have hg4 := put4_gb t hgb1 (Nat.le_refl _)
  unfold Tok.v
  go_wp2_with fail
  refine bodyPost_ret (v := .tuple #[t.v, .int .i64 R.1.2]) ?_ rfl ⟨by rw [HT2.out], ht4, hg4⟩
  exact results4 rfl h4 rfl rfl
end Go.Proofs.YtfndfhhimhcakaaDoor.lx
