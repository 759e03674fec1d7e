/-
  The lexer's ends: digit, end, bare, for every tape. Conditions: the tape lies in a block behind the package-level variables, which are laid.
-/
import Derived.Test.YtfndfhhimhcakaaDoorTape
namespace Go.Proofs.YtfndfhhimhcakaaDoor.lx
open Go.RowKit

theorem idx_ge (l : List UInt8) (c : UInt8) : -1 ≤ Lib.indexByte l c := by
  induction l with
  | nil => simp [Lib.indexByte]
  | cons b l ih => simp only [Lib.indexByte]; repeat' split
                   all_goals omega
theorem idx_mem (l : List UInt8) (c : UInt8) : 0 ≤ Lib.indexByte l c ↔ c ∈ l := by
  induction l with
  | nil => simp [Lib.indexByte]
  | cons b l ih =>
    have h := idx_ge l c
    simp only [Lib.indexByte, List.mem_cons]
    by_cases hb : b = c
    · subst hb; simp
    · have hb' : (b == c) = false := by simpa using hb
      rw [hb']
      simp only [Bool.false_eq_true, if_false]
      have hc : ¬ c = b := fun e => hb e.symm
      by_cases hn : Lib.indexByte l c = -1
      · rw [if_pos (by simpa using hn)]
        have : c ∉ l := fun hm => by have := ih.2 hm; omega
        simp [hc, this]
      · rw [if_neg (by simpa using hn)]
        have : c ∈ l := ih.1 (by omega)
        simp [this]; omega

/-- the runes at which an atom ends -/
def endR (r : Int) : Bool := r == 32 || r == 9 || r == 13 || r == 10 || r == 40 || r == 41 || r == 34 || r == 59
def endF (l : ByteArray) : Bool := l.size == 0 || endR (dr l)

theorem endR_iff (r : Int) : endR r = true ↔ (r = 32 ∨ r = 9 ∨ r = 13 ∨ r = 10 ∨ r = 40 ∨ r = 41 ∨ r = 34 ∨ r = 59) := by
  simp [endR, or_assoc]

theorem u8_of (c : Int) (k : Nat) (h0 : 0 ≤ c) (h1 : c < 256) (hk : k < 256) : c.toNat.toUInt8 = k.toUInt8 ↔ c = k := by
  constructor
  · intro h
    have := congrArg UInt8.toNat h
    simp [UInt8.toNat_ofNat'] at this
    omega
  · intro h; subst h; simp

theorem end_idx (c : Int) (h0 : 0 ≤ c) (h1 : c < 256) : 0 ≤ Lib.indexByte [32, 9, 13, 10, 40, 41, 34, 59] c.toNat.toUInt8 ↔ endR c = true := by
  rw [idx_mem, endR_iff]
  simp only [List.mem_cons, List.not_mem_nil, or_false]
  rw [show (32 : UInt8) = (32 : Nat).toUInt8 from rfl, show (9 : UInt8) = (9 : Nat).toUInt8 from rfl, show (13 : UInt8) = (13 : Nat).toUInt8 from rfl, show (10 : UInt8) = (10 : Nat).toUInt8 from rfl, show (40 : UInt8) = (40 : Nat).toUInt8 from rfl, show (41 : UInt8) = (41 : Nat).toUInt8 from rfl, show (34 : UInt8) = (34 : Nat).toUInt8 from rfl, show (59 : UInt8) = (59 : Nat).toUInt8 from rfl]
  simp only [u8_of c _ h0 h1 (by decide : (32 : Nat) < 256), u8_of c _ h0 h1 (by decide : (9 : Nat) < 256), u8_of c _ h0 h1 (by decide : (13 : Nat) < 256), u8_of c _ h0 h1 (by decide : (10 : Nat) < 256), u8_of c _ h0 h1 (by decide : (40 : Nat) < 256), u8_of c _ h0 h1 (by decide : (41 : Nat) < 256), u8_of c _ h0 h1 (by decide : (34 : Nat) < 256), u8_of c _ h0 h1 (by decide : (59 : Nat) < 256)]
  omega

/-- a rune of ASCII has one byte; one of one byte is ASCII, or the bad one's -/
theorem dn_of_dr (l : ByteArray) (h : l.size ≠ 0) : (dr l < 128 → dn l = 1) ∧ (dn l = 1 → dr l < 128 ∨ dr l = 65533) := by
  unfold dn dr Lib.decodeGo
  rw [if_neg h, Lib.decode_at]
  unfold Lib.decodeN
  repeat' split
  all_goals
    constructor <;> intro hh <;> simp only at hh ⊢ <;> first | rfl | omega | (left; omega) | (right; rfl)

theorem digit_any (c : Int) (w : World) : Calls Tryd.prog 34 #[.int .u8 c] w fun e w' => e = .returned (.bool (decide (48 ≤ c) && decide (c ≤ 57))) ∧ w = w' := by
  go_enter Tryd.func34, Tryd.ntmps34
  go_wp2
  all_goals
    go_ret
    exact ⟨ret_bool (by simp; try omega), rfl⟩

set_option maxHeartbeats 2000000 in
set_option maxRecDepth 100000 in
theorem end_any (b : Nat) (l : ByteArray) (p : Nat) (w : World) (hG : Glob w) (h : Tape b l p w) :
    Calls Tryd.prog 50 #[.pointer (some ⟨b, 0, none⟩)] w fun e w' => e = .returned (.bool (endF l)) ∧ Below w.heap.size w w' := by
  by_cases h0 : l.size = 0
  · have hd := (dn_zero l h0).1
    have he : endF l = true := by simp [endF, h0]
    have HE := Lib.hid he
    clear he
    have hdI : ((dn l : Int) == 0) = true := by simp [hd]
    go_enter Tryd.func50, Tryd.ntmps50
    go_wp2_with (go_at_call 19; refine (peek_any b l p _ hG h).mono ?_; rintro e w1 ⟨rfl, hb1⟩)
    go_ret
    exact ⟨ret_bool HE.out.symm, hb1⟩
  · obtain ⟨hp1, hp4, hps⟩ := dn_bounds l h0
    have hdr := dr_le l
    have hdI : ((dn l : Int) == 0) = false := by simp; omega
    by_cases h1 : dn l = 1
    · have hd1 : ((dn l : Int) == 1) = true := by simp [h1]
      by_cases hr : dr l < 128
      · have hw : IntKind.u8.wrap (dr l) = dr l := by simp [IntKind.wrap_u8]; omega
        have hix := end_idx (dr l) hdr.1 (by omega)
        have hle := decide_eq_true hr
        have he : endF l = endR (dr l) := by simp [endF, h0]
        have HE := Lib.hid he
        clear he
        cases hend : endR (dr l) with
        | true =>
          rw [hend] at hix
          have hgt : 0 ≤ Lib.indexByte [32, 9, 13, 10, 40, 41, 34, 59] (dr l).toNat.toUInt8 := hix.2 rfl
          clear hix
          go_enter Tryd.func50, Tryd.ntmps50
          go_wp2_with (first | (go_at_call 19; refine (peek_any b l p _ hG h).mono ?_; rintro e w1 ⟨rfl, hb1⟩) | (go_at_call 62; refine (Tryd.strings_IndexByte _ _ _).mono ?_; rintro e w' ⟨rfl, rfl⟩))
          go_ret
          exact ⟨ret_bool (by rw [HE.out, hend]), hb1⟩
        | false =>
          rw [hend] at hix
          have hgt : ¬ 0 ≤ Lib.indexByte [32, 9, 13, 10, 40, 41, 34, 59] (dr l).toNat.toUInt8 := fun hh => by simpa using hix.1 hh
          clear hix
          obtain ⟨j, hj, hj0⟩ : ∃ j, Lib.indexByte [32, 9, 13, 10, 40, 41, 34, 59] (dr l).toNat.toUInt8 = j ∧ j < 0 := ⟨_, rfl, by omega⟩
          have hidx : ∀ w, Calls Tryd.prog 62 #[.string ⟨#[32, 9, 13, 10, 40, 41, 34, 59]⟩, .int .u8 (dr l)] w fun e w' => e = .returned (.int .i64 j) ∧ w' = w := fun w => by
            rw [← hj]; exact Tryd.strings_IndexByte _ _ _
          clear hj hgt
          go_enter Tryd.func50, Tryd.ntmps50
          go_wp2_with (first | (go_at_call 19; refine (peek_any b l p _ hG h).mono ?_; rintro e w1 ⟨rfl, hb1⟩) | (go_at_call 62; refine (hidx _).mono ?_; rintro e w' ⟨rfl, rfl⟩))
          go_ret
          exact ⟨ret_bool (by rw [HE.out, hend]), hb1⟩
      · have hr3 : dr l = 65533 := by have := (dn_of_dr l h0).2 h1; omega
        have he : endF l = false := by simp [endF, h0, endR, hr3]
        have HE := Lib.hid he
        clear he
        have hix := end_idx 253 (by decide) (by decide)
        have hgt : ¬ 0 ≤ Lib.indexByte [32, 9, 13, 10, 40, 41, 34, 59] (253 : Int).toNat.toUInt8 := fun hh => by simpa [endR] using hix.1 hh
        clear hix
        go_enter Tryd.func50, Tryd.ntmps50
        go_wp2_with (first | (go_at_call 19; refine (peek_any b l p _ hG h).mono ?_; rintro e w1 ⟨rfl, hb1⟩) | (go_at_call 62; refine (Tryd.strings_IndexByte _ _ _).mono ?_; rintro e w' ⟨rfl, rfl⟩))
        go_ret
        exact ⟨ret_bool (by rw [HE.out]), hb1⟩
    · have hd1 : ((dn l : Int) == 1) = false := by simp; omega
      have he : endF l = false := by
        have hh : ¬ dr l < 128 := fun hh => h1 ((dn_of_dr l h0).1 hh)
        have : endR (dr l) = false := by
          cases hc : endR (dr l) with
          | false => rfl
          | true => rw [endR_iff] at hc; omega
        simp [endF, h0, this]
      have HE := Lib.hid he
      clear he
      go_enter Tryd.func50, Tryd.ntmps50
      go_wp2_with (first | (go_at_call 19; refine (peek_any b l p _ hG h).mono ?_; rintro e w1 ⟨rfl, hb1⟩) | (go_at_call 62; refine (Tryd.strings_IndexByte _ _ _).mono ?_; rintro e w' ⟨rfl, rfl⟩))
      go_ret
      exact ⟨ret_bool (by rw [HE.out]), hb1⟩
end Go.Proofs.YtfndfhhimhcakaaDoor.lx
