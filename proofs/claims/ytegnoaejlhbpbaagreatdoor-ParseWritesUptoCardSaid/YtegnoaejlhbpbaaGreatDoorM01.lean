/-
  What stays as it is while the program runs: the package-level variables that the library's texts read, and frames of worlds. Plain lemmas; no condition. The lexer's tape: what peek and step do, for every tape. Conditions: the tape's two cells lie in a block of their own, and the two tables of package unicode/utf8 are laid. The lexer's ends: digit, end, bare, for every tape. Conditions: the tape lies in a block behind the package-level variables, which are laid. The lexer's bare: runes up to an end, for every tape. Conditions as for end. strconv.ParseUint at base 16 and 32 bits, at one to six bytes, whatever they are: the number, or an error. Conditions: the length; the package's errors are laid. The lexer's code (a rune by its number in an escape), for every tape. Conditions: the tape lies in a block behind the package-level variables, which are laid; a text's place is below 2^62.
-/
import Derived.Test.YtegnoaejlhbpbaaGreatDoorM00
import Derived.WalkKit
import Derived.BigCall
import Derived.BigQuiet
import Derived.Deep.QuietTactic
import Derived.Handy
import Derived.WalkSpells
import Derived.WalkLawsBesides
import Derived.Lib.LaidTab
import Derived.Lib.ItoaNum
import Derived.Lib.TrailingZeros
import Derived.BigRegion
namespace Go.Proofs.YtegnoaejlhbpbaaGreatDoor.lx
open Go.RowKit

theorem ret_bool {a b : Bool} (h : a = b) : Ending.returned (.bool a) = .returned (.bool b) := by rw [h]
theorem ret_int {k : IntKind} {a b : Int} (h : a = b) : Ending.returned (.int k a) = .returned (.int k b) := by rw [h]
theorem ret_str {a b : ByteArray} (h : a = b) : Ending.returned (.string a) = .returned (.string b) := by rw [h]

/-! ### frames -/
theorem gb_of_below {w w' : World} (h : Below w.heap.size w w') (r : Option Nat) : w.grownBy w' r := ⟨h.os, h.tape, h.output, h.size, fun i hi _ => h.block i hi⟩
theorem gb_set {w w' : World} {b : Nat} (h : w.grownBy w' (some b)) (o : Nat) (v : Value) : w.grownBy (w'.setCell ⟨b, o, none⟩ v) (some b) :=
  ⟨h.os, h.tape, h.output, by simpa [World.setCell] using h.size, fun k hk hne => (Below.heap_setCell _ _ _ _ (fun e => hne (by simp [e]))).trans (h.block k hk hne)⟩
theorem gb_refl (w : World) (r : Option Nat) : w.grownBy w r := ⟨rfl, rfl, rfl, Nat.le_refl _, fun _ _ _ => rfl⟩
theorem gb_trans {w w1 w2 : World} {r : Option Nat} (h : w.grownBy w1 r) (k : w1.grownBy w2 r) : w.grownBy w2 r :=
  ⟨k.os.trans h.os, k.tape.trans h.tape, k.output.trans h.output, Nat.le_trans h.size k.size, fun i hi hne => (k.block i (Nat.lt_of_lt_of_le hi h.size) hne).trans (h.block i hi hne)⟩
theorem gb_below {w w' : World} {b B : Nat} (h : w.grownBy w' (some b)) (hB : B ≤ b) (hs : B ≤ w.heap.size) : Below B w w' :=
  ⟨h.os, h.tape, h.output, h.size, fun k hk => h.block k (by omega) (by intro e; injection e; omega)⟩
theorem gb_drew {w w' : World} {r : Option Nat} (h : w.grownBy w' r) : w.grownBy w'.drew r := ⟨h.os, h.tape, h.output, h.size, h.block⟩
theorem below_then {B : Nat} {w w1 w2 : World} (h : Below B w w1) (hB : B ≤ w1.heap.size) (k : Below w1.heap.size w1 w2) : Below B w w2 :=
  h.trans ⟨k.os, k.tape, k.output, k.size, fun i hi => k.block i (Nat.lt_of_lt_of_le hi hB)⟩
theorem below_self {w w1 w2 : World} (h : Below w.heap.size w w1) (k : Below w1.heap.size w1 w2) : Below w.heap.size w w2 := below_then h h.size k

/-! ### the package-level variables -/
structure Glob (w : World) : Prop where
  size : 11 ≤ w.heap.size
  utf : Lib.Utf8Tabs 0 1 w
  pow : Lib.TabIs Tryz.prog w "internal/strconv.uint64pow10" .u64 Lib.pow10Tab
  db : Lib.TabIs Tryz.prog w "math/bits.deBruijn64tab" .u8 (Lib.deBruijn64tab.map fun (n : Nat) => (n : Int))
  esy : ∃ tp p, w.var? Tryz.prog "strconv.ErrSyntax" = some #[.iface tp p]
  era : ∃ tp p, w.var? Tryz.prog "strconv.ErrRange" = some #[.iface tp p]

theorem g_first : Tryz.prog.globalNamed "unicode/utf8.first" = some 0 := by kernel_rfl
theorem g_accept : Tryz.prog.globalNamed "unicode/utf8.acceptRanges" = some 1 := by kernel_rfl
theorem g_pow : Tryz.prog.globalNamed "internal/strconv.uint64pow10" = some 5 := by kernel_rfl
theorem g_db : Tryz.prog.globalNamed "math/bits.deBruijn64tab" = some 9 := by kernel_rfl
theorem g_esy : Tryz.prog.globalNamed "strconv.ErrSyntax" = some 6 := by kernel_rfl
theorem g_era : Tryz.prog.globalNamed "strconv.ErrRange" = some 7 := by kernel_rfl

theorem var_of_block {w w' : World} {name : String} {g : Nat} (hg : Tryz.prog.globalNamed name = some g) (h : w'.heap[g]? = w.heap[g]?) : w'.var? Tryz.prog name = w.var? Tryz.prog name := by
  simp [World.var?, hg, h]

/-- What stands in the first blocks stands. -/
theorem Glob.of {w w' : World} (h : Glob w) (hs : w.heap.size ≤ w'.heap.size) (hk : ∀ k, k < 11 → w'.heap[k]? = w.heap[k]?) : Glob w' where
  size := Nat.le_trans h.size hs
  utf := ⟨fun c hc => (World.cell?_of_block (hk 0 (by decide))).trans (h.utf.1 c hc), fun i hi => ⟨(World.cell?_of_block (hk 1 (by decide))).trans (h.utf.2 i hi).1, (World.cell?_of_block (hk 1 (by decide))).trans (h.utf.2 i hi).2⟩⟩
  pow := (var_of_block g_pow (hk _ (by decide))).trans h.pow
  db := (var_of_block g_db (hk _ (by decide))).trans h.db
  esy := by obtain ⟨tp, p, e⟩ := h.esy; exact ⟨tp, p, (var_of_block g_esy (hk _ (by decide))).trans e⟩
  era := by obtain ⟨tp, p, e⟩ := h.era; exact ⟨tp, p, (var_of_block g_era (hk _ (by decide))).trans e⟩
theorem Glob.below {w w' : World} (h : Glob w) {B : Nat} (hB : 11 ≤ B) (hb : Below B w w') : Glob w' := h.of hb.size fun k hk => hb.block k (by omega)
theorem Glob.self {w w' : World} (h : Glob w) (hb : Below w.heap.size w w') : Glob w' := h.below h.size hb
theorem Glob.gb {w w' : World} (h : Glob w) {b : Nat} (hB : 11 ≤ b) (hb : w.grownBy w' (some b)) : Glob w' := h.of hb.size fun k hk => hb.block k (by have := h.size; omega) (by intro e; injection e; omega)
end Go.Proofs.YtegnoaejlhbpbaaGreatDoor.lx
namespace Go.Proofs.YtegnoaejlhbpbaaGreatDoor.lx
open Go.RowKit

def dr (l : ByteArray) : Int := ((Lib.decodeGo l).1 : Nat)
def dn (l : ByteArray) : Nat := (Lib.decodeGo l).2

def Tape (b : Nat) (l : ByteArray) (p : Nat) (w : World) : Prop := w.heap[b]? = some (.cells #[.string l, .int .i64 p] 97 (0, 0))

theorem Tape.c0 {b : Nat} {l : ByteArray} {p : Nat} {w : World} (h : Tape b l p w) : w.cell? ⟨b, 0, none⟩ = some (.string l) := by
  unfold Tape at h; simp [World.cell?, h]
theorem Tape.c1 {b : Nat} {l : ByteArray} {p : Nat} {w : World} (h : Tape b l p w) : w.cell? ⟨b, 1, none⟩ = some (.int .i64 p) := by
  unfold Tape at h; simp [World.cell?, h]
theorem Tape.f {b : Nat} {l : ByteArray} {p : Nat} {w : World} (h : Tape b l p w) (o : Nat) : w.frozen? ⟨b, o, none⟩ = false := by
  unfold Tape at h; simp [World.frozen?, h]
theorem Tape.lt {b : Nat} {l : ByteArray} {p : Nat} {w : World} (h : Tape b l p w) : b < w.heap.size := (Array.getElem?_eq_some_iff.1 h).1
theorem Tape.below {b : Nat} {l : ByteArray} {p : Nat} {w w' : World} (h : Tape b l p w) {B : Nat} (hb : Below B w w') (hB : b < B) : Tape b l p w' := (hb.block b hB).trans h

set_option maxHeartbeats 400000 in
theorem peek_any (b : Nat) (l : ByteArray) (p : Nat) (w : World) (hG : Glob w) (h : Tape b l p w) :
    Calls Tryz.prog 82 #[.pointer (some ⟨b, 0, none⟩)] w fun e w' => e = .returned (.tuple #[.int .i32 (dr l), .int .i64 (dn l)]) ∧ Below w.heap.size w w' := by
  have c0 := h.c0
  go_enter Tryz.func82, Tryz.ntmps82
  go_wp2_with (go_at_call 98; refine (Tryz.utf8_DecodeRuneInString _ _ hG.utf).mono ?_; rintro e w' ⟨rfl, hb⟩)
  go_ret2
  exact ⟨rfl, hb⟩

def adv (l : ByteArray) : ByteArray := l.extract (dn l) l.size
def stepOk (l : ByteArray) : Bool := decide (1 < dn l) || (dn l == 1 && dr l != 65533)
def stepP (l : ByteArray) (p : Nat) : Nat := if 0 < dn l then p + 1 else p

theorem dn_bounds (l : ByteArray) (h : l.size ≠ 0) : 1 ≤ dn l ∧ dn l ≤ 4 ∧ dn l ≤ l.size := by
  unfold dn Lib.decodeGo
  rw [if_neg h, Lib.decode_at]
  unfold Lib.decodeN
  repeat' split
  all_goals simp only [Nat.sub_zero] at *
  all_goals omega
theorem dn_zero (l : ByteArray) (h : l.size = 0) : dn l = 0 ∧ dr l = 65533 := by
  unfold dn dr Lib.decodeGo
  rw [if_pos h]
  exact ⟨rfl, rfl⟩
theorem dn_le (l : ByteArray) : dn l ≤ l.size := by
  by_cases h : l.size = 0
  · rw [(dn_zero l h).1]; exact Nat.zero_le _
  · exact (dn_bounds l h).2.2
theorem dr_le (l : ByteArray) : 0 ≤ dr l ∧ dr l ≤ 1114111 := by
  unfold dr Lib.decodeGo
  split
  · simp
  rw [Lib.decode_at]
  unfold Lib.decodeN
  repeat' split
  all_goals simp only at *
  all_goals omega
theorem adv_size (l : ByteArray) : (adv l).size = l.size - dn l := by
  have := dn_le l
  simp [adv, ByteArray.size_extract]
theorem adv_lt (l : ByteArray) (h : l.size ≠ 0) : (adv l).size < l.size := by
  have := dn_bounds l h
  rw [adv_size]; omega

theorem stepOk_one {l : ByteArray} (h : dn l = 1) : stepOk l = (dr l != 65533) := by simp [stepOk, h]
theorem stepOk_many {l : ByteArray} (h : 1 < dn l) : stepOk l = true := by simp [stepOk, h]
theorem stepOk_none {l : ByteArray} (h : dn l = 0) : stepOk l = false := by simp [stepOk, h]
theorem Tape.set0 {b : Nat} {l : ByteArray} {p : Nat} {w : World} (h : Tape b l p w) (l' : ByteArray) : Tape b l' p (w.setCell ⟨b, 0, none⟩ (.string l')) := by
  unfold Tape at *; simp [World.setCell, Array.getElem?_modify, h]
theorem Tape.set1 {b : Nat} {l : ByteArray} {p : Nat} {w : World} (h : Tape b l p w) (p' : Nat) : Tape b l p' (w.setCell ⟨b, 1, none⟩ (.int .i64 p')) := by
  unfold Tape at *; simp [World.setCell, Array.getElem?_modify, h]

set_option maxHeartbeats 1000000 in
theorem step_any (b : Nat) (l : ByteArray) (p : Nat) (w : World) (hG : Glob w) (h : Tape b l p w) (hp : p + 1 ≤ 9223372036854775807) :
    Calls Tryz.prog 83 #[.pointer (some ⟨b, 0, none⟩)] w fun e w' => e = .returned (.bool (stepOk l)) ∧ Tape b (adv l) (stepP l p) w' ∧ w.grownBy w' (some b) := by
  have hn := dn_le l
  go_enter Tryz.func83, Tryz.ntmps83
  go_wp2_with (go_at_call 82; refine (peek_any b l p _ hG h).mono ?_)
  rintro e w1 ⟨rfl, hb⟩
  have h1 := h.below hb h.lt
  have c0 := h1.c0
  have c1 := h1.c1
  have f0 := h1.f 0
  have f1 := h1.f 1
  have hs : w.grownBy ((w1.setCell ⟨b, 0, none⟩ (.string (adv l))).setCell ⟨b, 1, none⟩ (.int .i64 ((p + 1 : Nat) : Int))) (some b) := gb_set (gb_set (gb_of_below hb _) _ _) _ _
  have hs' : w.grownBy (w1.setCell ⟨b, 0, none⟩ (.string (adv l))) (some b) := gb_set (gb_of_below hb _) _ _
  have ht := (h1.set0 (adv l)).set1 (p + 1)
  have ht' := h1.set0 (adv l)
  go_wp2
  · go_ret
    exact ⟨ret_bool (by rw [stepOk_one (by omega)]; try (simp; omega)), by rw [stepP, if_pos (by omega)]; exact ht, hs⟩
  · go_ret
    exact ⟨ret_bool (by rw [stepOk_many (by omega)]; try (simp; omega)), by rw [stepP, if_pos (by omega)]; exact ht, hs⟩
  · go_ret
    exact ⟨ret_bool (by rw [stepOk_none (by omega)]; try (simp; omega)), by rw [stepP, if_neg (by omega)]; exact ht', hs'⟩

/-- how long the tape's rest is, in a world -/
def tlen (b : Nat) (w : World) : Nat := match w.cell? ⟨b, 0, none⟩ with | some (.string l) => l.size | _ => 0
theorem tlen_of {b : Nat} {l : ByteArray} {p : Nat} {w : World} (h : Tape b l p w) : tlen b w = l.size := by simp [tlen, h.c0]

def noted (note : Bool) (r : Int) : Bool := note && r != 10 || r == 59
def blankR (r : Int) : Bool := r == 32 || r == 9 || r == 13 || r == 10
/-- what skip leaves, and where -/
def skipF (note : Bool) (l : ByteArray) (p : Nat) : ByteArray × Nat :=
  if h : l.size = 0 then (l, p) else
    if noted note (dr l) || blankR (dr l) then skipF (noted note (dr l)) (adv l) (p + 1) else (l, p)
termination_by l.size
decreasing_by exact adv_lt l h

theorem skipF_end {note : Bool} {l : ByteArray} {p : Nat} (h : l.size = 0) : skipF note l p = (l, p) := by rw [skipF, dif_pos h]
theorem skipF_go {note : Bool} {l : ByteArray} {p : Nat} (h : l.size ≠ 0) (hr : (noted note (dr l) || blankR (dr l)) = true) : skipF note l p = skipF (noted note (dr l)) (adv l) (p + 1) := by rw [skipF, dif_neg h, if_pos hr]
theorem skipF_stop {note : Bool} {l : ByteArray} {p : Nat} (h : l.size ≠ 0) (hr : (noted note (dr l) || blankR (dr l)) = false) : skipF note l p = (l, p) := by rw [skipF, dif_neg h, if_neg (by simp [hr])]

theorem stepP_pos {l : ByteArray} (p : Nat) (h : l.size ≠ 0) : stepP l p = p + 1 := by
  have := dn_bounds l h
  rw [stepP, if_pos (by omega)]

set_option maxHeartbeats 2000000 in
theorem skip_any (b : Nat) (l : ByteArray) (p : Nat) (w : World) (hG : Glob w) (hb8 : 11 ≤ b) (h : Tape b l p w) (hp : p + l.size + 1 ≤ 9223372036854775807) :
    Calls Tryz.prog 56 #[.pointer (some ⟨b, 0, none⟩)] w fun e w' => e = .returned (.tuple #[]) ∧ Tape b (skipF false l p).1 (skipF false l p).2 w' ∧ w.grownBy w' (some b) := by
  obtain ⟨R, hR⟩ : ∃ R, skipF false l p = R := ⟨_, rfl⟩
  rw [hR]
  go_enter Tryz.func56, Tryz.ntmps56
  go_wp2
  go_loopw [2] (fun v wr => ∃ (note : Bool) (l' : ByteArray) (p' : Nat), v = .bool note ∧ Tape b l' p' wr ∧ w.grownBy wr (some b) ∧ skipF note l' p' = R ∧ p' + l'.size + 1 ≤ 9223372036854775807) (fun _ wr => tlen b wr)
  case atStart => exact ⟨false, l, p, rfl, h, gb_refl _ _, hR, hp⟩
  case round =>
    clear hR h hp
    obtain ⟨note, l', p', rfl, ht, hg, hs, hp⟩ := hrel
    have HS := Lib.hid hs
    clear hs
    have hGr := hG.gb hb8 hg
    have c0 := ht.c0
    by_cases h0 : l'.size = 0
    · have he : l'.toList = [] := by
        rw [Lib.toList_data]; exact List.eq_nil_of_length_eq_zero (by rw [← Lib.size_eq]; exact h0)
      have hi : (!l'.toList.isEmpty) = false := by rw [he]; rfl
      have hfin : R = (l', p') := by rw [← HS.out]; exact skipF_end h0
      have HF := Lib.hid hfin
      clear hfin
      go_wp2
      go_end0
      rw [HF.out]
      exact ⟨rfl, ht, hg⟩
    · have he : ¬ l'.toList = [] := by
        intro he
        rw [Lib.toList_data] at he
        exact h0 (by rw [Lib.size_eq, he]; rfl)
      have hi : (!l'.toList.isEmpty) = true := by simp [he]
      have hlt := adv_lt l' h0
      have hm : tlen b wr = l'.size := tlen_of ht
      have HM := Lib.hid hm
      clear hm
      cases hcond : (noted note (dr l') || blankR (dr l')) with
      | true =>
        have hnext : skipF (noted note (dr l')) (adv l') (p' + 1) = R := by rw [← HS.out, skipF_go h0 hcond]
        have HN := Lib.hid hnext
        clear hnext
        go_wp2_with (go_at_call 82; refine (peek_any b l' p' _ hGr ht).mono ?_)
        rintro e w1 ⟨rfl, hb1⟩
        have ht1 := ht.below hb1 ht.lt
        have hG1 := hGr.self hb1
        have hg1 : w.grownBy w1 (some b) := gb_trans hg (gb_of_below hb1 _)
        go_wp2_with (go_at_call 83; refine (step_any b l' p' _ hG1 ht1 (by omega)).mono ?_)
        all_goals first
          | (rintro e w2 ⟨rfl, ht2, hg2⟩
             rw [stepP_pos p' h0] at ht2
             go_wp2
             go_roundw
             case rel => exact ⟨noted note (dr l'), adv l', p' + 1, (by simp [noted, *]), ht2, gb_trans hg1 hg2, HN.out, by omega⟩
             case measure => rw [HM.out, tlen_of ht2]; exact hlt)
          | (exfalso; simp_all [noted, blankR])
      | false =>
        have hfin : R = (l', p') := by rw [← HS.out]; exact skipF_stop h0 hcond
        have HF := Lib.hid hfin
        clear hfin
        go_wp2_with (go_at_call 82; refine (peek_any b l' p' _ hGr ht).mono ?_)
        rintro e w1 ⟨rfl, hb1⟩
        have ht1 := ht.below hb1 ht.lt
        have hg1 : w.grownBy w1 (some b) := gb_trans hg (gb_of_below hb1 _)
        go_wp2_with fail
        all_goals first
          | (go_returns; rw [HF.out]; exact ⟨rfl, ht1, hg1⟩)
          | (exfalso; simp_all [noted, blankR]; done)
end Go.Proofs.YtegnoaejlhbpbaaGreatDoor.lx
namespace Go.Proofs.YtegnoaejlhbpbaaGreatDoor.lx
open Go.RowKit

theorem idx_ge (l : List UInt8) (c : UInt8) : -1 ≤ Lib.indexByte l c := by
  induction l with
  | nil => simp [Lib.indexByte]
  | cons b l ih => simp only [Lib.indexByte]; repeat' split
                   all_goals omega
theorem idx_mem (l : List UInt8) (c : UInt8) : 0 ≤ Lib.indexByte l c ↔ c ∈ l := by
  induction l with
  | nil => simp [Lib.indexByte]
  | cons b l ih =>
    have h := idx_ge l c
    simp only [Lib.indexByte, List.mem_cons]
    by_cases hb : b = c
    · subst hb; simp
    · have hb' : (b == c) = false := by simpa using hb
      rw [hb']
      simp only [Bool.false_eq_true, if_false]
      have hc : ¬ c = b := fun e => hb e.symm
      by_cases hn : Lib.indexByte l c = -1
      · rw [if_pos (by simpa using hn)]
        have : c ∉ l := fun hm => by have := ih.2 hm; omega
        simp [hc, this]
      · rw [if_neg (by simpa using hn)]
        have : c ∈ l := ih.1 (by omega)
        simp [this]; omega

/-- the runes at which an atom ends -/
def endR (r : Int) : Bool := r == 32 || r == 9 || r == 13 || r == 10 || r == 40 || r == 41 || r == 34 || r == 59
def endF (l : ByteArray) : Bool := l.size == 0 || endR (dr l)

theorem endR_iff (r : Int) : endR r = true ↔ (r = 32 ∨ r = 9 ∨ r = 13 ∨ r = 10 ∨ r = 40 ∨ r = 41 ∨ r = 34 ∨ r = 59) := by
  simp [endR, or_assoc]

theorem u8_of (c : Int) (k : Nat) (h0 : 0 ≤ c) (h1 : c < 256) (hk : k < 256) : c.toNat.toUInt8 = k.toUInt8 ↔ c = k := by
  constructor
  · intro h
    have := congrArg UInt8.toNat h
    simp [UInt8.toNat_ofNat'] at this
    omega
  · intro h; subst h; simp

theorem end_idx (c : Int) (h0 : 0 ≤ c) (h1 : c < 256) : 0 ≤ Lib.indexByte [32, 9, 13, 10, 40, 41, 34, 59] c.toNat.toUInt8 ↔ endR c = true := by
  rw [idx_mem, endR_iff]
  simp only [List.mem_cons, List.not_mem_nil, or_false]
  rw [show (32 : UInt8) = (32 : Nat).toUInt8 from rfl, show (9 : UInt8) = (9 : Nat).toUInt8 from rfl, show (13 : UInt8) = (13 : Nat).toUInt8 from rfl, show (10 : UInt8) = (10 : Nat).toUInt8 from rfl, show (40 : UInt8) = (40 : Nat).toUInt8 from rfl, show (41 : UInt8) = (41 : Nat).toUInt8 from rfl, show (34 : UInt8) = (34 : Nat).toUInt8 from rfl, show (59 : UInt8) = (59 : Nat).toUInt8 from rfl]
  simp only [u8_of c _ h0 h1 (by decide : (32 : Nat) < 256), u8_of c _ h0 h1 (by decide : (9 : Nat) < 256), u8_of c _ h0 h1 (by decide : (13 : Nat) < 256), u8_of c _ h0 h1 (by decide : (10 : Nat) < 256), u8_of c _ h0 h1 (by decide : (40 : Nat) < 256), u8_of c _ h0 h1 (by decide : (41 : Nat) < 256), u8_of c _ h0 h1 (by decide : (34 : Nat) < 256), u8_of c _ h0 h1 (by decide : (59 : Nat) < 256)]
  omega

/-- a rune of ASCII has one byte; one of one byte is ASCII, or the bad one's -/
theorem dn_of_dr (l : ByteArray) (h : l.size ≠ 0) : (dr l < 128 → dn l = 1) ∧ (dn l = 1 → dr l < 128 ∨ dr l = 65533) := by
  unfold dn dr Lib.decodeGo
  rw [if_neg h, Lib.decode_at]
  unfold Lib.decodeN
  repeat' split
  all_goals
    constructor <;> intro hh <;> simp only at hh ⊢ <;> first | rfl | omega | (left; omega) | (right; rfl)

theorem digit_any (c : Int) (w : World) : Calls Tryz.prog 102 #[.int .u8 c] w fun e w' => e = .returned (.bool (decide (48 ≤ c) && decide (c ≤ 57))) ∧ w = w' := by
  go_enter Tryz.func102, Tryz.ntmps102
  go_wp2
  all_goals
    go_ret
    exact ⟨ret_bool (by simp; try omega), rfl⟩

set_option maxHeartbeats 2000000 in
set_option maxRecDepth 100000 in
theorem end_any (b : Nat) (l : ByteArray) (p : Nat) (w : World) (hG : Glob w) (h : Tape b l p w) :
    Calls Tryz.prog 122 #[.pointer (some ⟨b, 0, none⟩)] w fun e w' => e = .returned (.bool (endF l)) ∧ Below w.heap.size w w' := by
  by_cases h0 : l.size = 0
  · have hd := (dn_zero l h0).1
    have he : endF l = true := by simp [endF, h0]
    have HE := Lib.hid he
    clear he
    have hdI : ((dn l : Int) == 0) = true := by simp [hd]
    go_enter Tryz.func122, Tryz.ntmps122
    go_wp2_with (go_at_call 82; refine (peek_any b l p _ hG h).mono ?_; rintro e w1 ⟨rfl, hb1⟩)
    go_ret
    exact ⟨ret_bool HE.out.symm, hb1⟩
  · obtain ⟨hp1, hp4, hps⟩ := dn_bounds l h0
    have hdr := dr_le l
    have hdI : ((dn l : Int) == 0) = false := by simp; omega
    by_cases h1 : dn l = 1
    · have hd1 : ((dn l : Int) == 1) = true := by simp [h1]
      by_cases hr : dr l < 128
      · have hw : IntKind.u8.wrap (dr l) = dr l := by simp [IntKind.wrap_u8]; omega
        have hix := end_idx (dr l) hdr.1 (by omega)
        have hle := decide_eq_true hr
        have he : endF l = endR (dr l) := by simp [endF, h0]
        have HE := Lib.hid he
        clear he
        cases hend : endR (dr l) with
        | true =>
          rw [hend] at hix
          have hgt : 0 ≤ Lib.indexByte [32, 9, 13, 10, 40, 41, 34, 59] (dr l).toNat.toUInt8 := hix.2 rfl
          clear hix
          go_enter Tryz.func122, Tryz.ntmps122
          go_wp2_with (first | (go_at_call 82; refine (peek_any b l p _ hG h).mono ?_; rintro e w1 ⟨rfl, hb1⟩) | (go_at_call 137; refine (Tryz.strings_IndexByte _ _ _).mono ?_; rintro e w' ⟨rfl, rfl⟩))
          go_ret
          exact ⟨ret_bool (by rw [HE.out, hend]), hb1⟩
        | false =>
          rw [hend] at hix
          have hgt : ¬ 0 ≤ Lib.indexByte [32, 9, 13, 10, 40, 41, 34, 59] (dr l).toNat.toUInt8 := fun hh => by simpa using hix.1 hh
          clear hix
          obtain ⟨j, hj, hj0⟩ : ∃ j, Lib.indexByte [32, 9, 13, 10, 40, 41, 34, 59] (dr l).toNat.toUInt8 = j ∧ j < 0 := ⟨_, rfl, by omega⟩
          have hidx : ∀ w, Calls Tryz.prog 137 #[.string ⟨#[32, 9, 13, 10, 40, 41, 34, 59]⟩, .int .u8 (dr l)] w fun e w' => e = .returned (.int .i64 j) ∧ w' = w := fun w => by
            rw [← hj]; exact Tryz.strings_IndexByte _ _ _
          clear hj hgt
          go_enter Tryz.func122, Tryz.ntmps122
          go_wp2_with (first | (go_at_call 82; refine (peek_any b l p _ hG h).mono ?_; rintro e w1 ⟨rfl, hb1⟩) | (go_at_call 137; refine (hidx _).mono ?_; rintro e w' ⟨rfl, rfl⟩))
          go_ret
          exact ⟨ret_bool (by rw [HE.out, hend]), hb1⟩
      · have hr3 : dr l = 65533 := by have := (dn_of_dr l h0).2 h1; omega
        have he : endF l = false := by simp [endF, h0, endR, hr3]
        have HE := Lib.hid he
        clear he
        have hix := end_idx 253 (by decide) (by decide)
        have hgt : ¬ 0 ≤ Lib.indexByte [32, 9, 13, 10, 40, 41, 34, 59] (253 : Int).toNat.toUInt8 := fun hh => by simpa [endR] using hix.1 hh
        clear hix
        go_enter Tryz.func122, Tryz.ntmps122
        go_wp2_with (first | (go_at_call 82; refine (peek_any b l p _ hG h).mono ?_; rintro e w1 ⟨rfl, hb1⟩) | (go_at_call 137; refine (Tryz.strings_IndexByte _ _ _).mono ?_; rintro e w' ⟨rfl, rfl⟩))
        go_ret
        exact ⟨ret_bool (by rw [HE.out]), hb1⟩
    · have hd1 : ((dn l : Int) == 1) = false := by simp; omega
      have he : endF l = false := by
        have hh : ¬ dr l < 128 := fun hh => h1 ((dn_of_dr l h0).1 hh)
        have : endR (dr l) = false := by
          cases hc : endR (dr l) with
          | false => rfl
          | true => rw [endR_iff] at hc; omega
        simp [endF, h0, this]
      have HE := Lib.hid he
      clear he
      go_enter Tryz.func122, Tryz.ntmps122
      go_wp2_with (first | (go_at_call 82; refine (peek_any b l p _ hG h).mono ?_; rintro e w1 ⟨rfl, hb1⟩) | (go_at_call 137; refine (Tryz.strings_IndexByte _ _ _).mono ?_; rintro e w' ⟨rfl, rfl⟩))
      go_ret
      exact ⟨ret_bool (by rw [HE.out]), hb1⟩
end Go.Proofs.YtegnoaejlhbpbaaGreatDoor.lx
namespace Go.Proofs.YtegnoaejlhbpbaaGreatDoor.lx
open Go.RowKit

def bareF (fine : Bool) (l : ByteArray) (p : Nat) : Bool × ByteArray × Nat :=
  if h : endF l = true then (fine, l, p) else bareF (stepOk l && fine) (adv l) (p + 1)
termination_by l.size
decreasing_by exact adv_lt l (fun h0 => h (by simp [endF, h0]))

theorem bareF_end {fine : Bool} {l : ByteArray} {p : Nat} (h : endF l = true) : bareF fine l p = (fine, l, p) := by rw [bareF, dif_pos h]
theorem bareF_go {fine : Bool} {l : ByteArray} {p : Nat} (h : endF l = false) : bareF fine l p = bareF (stepOk l && fine) (adv l) (p + 1) := by rw [bareF, dif_neg (by simp [h])]

theorem bareF_size (n : Nat) : ∀ (fine : Bool) (l : ByteArray) (p : Nat), l.size = n → (bareF fine l p).2.1.size ≤ l.size ∧ p ≤ (bareF fine l p).2.2 ∧ (bareF fine l p).2.2 + (bareF fine l p).2.1.size ≤ p + l.size := by
  induction n using Nat.strongRecOn with
  | _ n ih =>
    intro fine l p hn
    cases he : endF l with
    | true => rw [bareF_end he]; simp
    | false =>
      rw [bareF_go he]
      have h0 : l.size ≠ 0 := fun h0 => by simp [endF, h0] at he
      have hlt := adv_lt l h0
      have := ih (adv l).size (by omega) (stepOk l && fine) (adv l) (p + 1) rfl
      omega

set_option maxRecDepth 100000 in
set_option maxHeartbeats 2000000 in
theorem bare_any (b : Nat) (l : ByteArray) (p : Nat) (w : World) (hG : Glob w) (hb8 : 11 ≤ b) (h : Tape b l p w) (hp : p + l.size + 1 ≤ 9223372036854775807) :
    Calls Tryz.prog 101 #[.pointer (some ⟨b, 0, none⟩)] w fun e w' =>
      e = .returned (.tuple #[.string (l.extract 0 (l.size - (bareF true l p).2.1.size)), .bool (bareF true l p).1]) ∧ Tape b (bareF true l p).2.1 (bareF true l p).2.2 w' ∧ w.grownBy w' (some b) := by
  have hsz := (bareF_size _ true l p rfl).1
  obtain ⟨R, hR⟩ : ∃ R, bareF true l p = R := ⟨_, rfl⟩
  rw [hR] at hsz ⊢
  have c0 := h.c0
  go_enter Tryz.func101, Tryz.ntmps101
  go_wp2
  go_loopw [5] (fun v wr => ∃ (fine : Bool) (l' : ByteArray) (p' : Nat), v = .bool fine ∧ Tape b l' p' wr ∧ w.grownBy wr (some b) ∧ bareF fine l' p' = R ∧ p' + l'.size + 1 ≤ 9223372036854775807) (fun _ wr => tlen b wr)
  case atStart => exact ⟨true, l, p, rfl, h, gb_refl _ _, hR, hp⟩
  case round =>
    have hl : l.size ≤ 9223372036854775807 := by omega
    clear hR hp c0
    obtain ⟨fine, l', p', rfl, ht, hg, hs, hp⟩ := hrel
    have HS := Lib.hid hs
    clear hs
    have hGr := hG.gb hb8 hg
    have ht0 := ht
    cases he : endF l' with
    | true =>
      have hfin : R = (fine, l', p') := by rw [← HS.out]; exact bareF_end he
      have e1 : R.2.1.size = l'.size := by rw [hfin]
      rw [e1] at hsz
      have HF := Lib.hid hfin
      clear hfin e1
      go_wp2_with (go_at_call 122; refine (end_any b l' p' _ hGr ht).mono ?_)
      rintro e w1 ⟨rfl, hb1⟩
      have ht1 := ht.below hb1 ht.lt
      have hg1 : w.grownBy w1 (some b) := gb_trans hg (gb_of_below hb1 _)
      have c1 := ht1.c0
      go_wp2
      go_ret2
      rw [HF.out]
      exact ⟨rfl, ht1, hg1⟩
    | false =>
      have h0 : l'.size ≠ 0 := fun h0 => by simp [endF, h0] at he
      have hlt := adv_lt l' h0
      have hnext : bareF (stepOk l' && fine) (adv l') (p' + 1) = R := by rw [← HS.out, bareF_go he]
      have HN := Lib.hid hnext
      clear hnext
      have HM := Lib.hid (tlen_of ht)
      go_wp2_with (go_at_call 122; refine (end_any b l' p' _ hGr ht).mono ?_)
      rintro e w1 ⟨rfl, hb1⟩
      have ht1 := ht.below hb1 ht.lt
      have hG1 := hGr.self hb1
      have hg1 : w.grownBy w1 (some b) := gb_trans hg (gb_of_below hb1 _)
      go_wp2_with (go_at_call 83; refine (step_any b l' p' _ hG1 ht1 (by omega)).mono ?_)
      rintro e w2 ⟨rfl, ht2, hg2⟩
      rw [stepP_pos p' h0] at ht2
      go_wp2
      all_goals
        go_roundw
        case rel => exact ⟨stepOk l' && fine, adv l', p' + 1, (by simp [*]), ht2, gb_trans hg1 hg2, HN.out, by omega⟩
        case measure => rw [HM.out, tlen_of ht2]; exact hlt
end Go.Proofs.YtegnoaejlhbpbaaGreatDoor.lx
namespace Go.Proofs.YtegnoaejlhbpbaaGreatDoor.lx
open Go.RowKit

/-- c | 0x20 -/
def low (c : Nat) : Nat := c ||| 32
theorem low_bits : ∀ c : Fin 256, bits .or .u8 ((c.val : Nat) : Int) 32 = ((low c.val : Nat) : Int) := by decide +kernel
theorem low_lt : ∀ c : Fin 256, low c.val < 256 := by decide +kernel
/-- a hexadecimal digit's number, in either case -/
def hexv (c : Nat) : Option Nat := if 48 ≤ c ∧ c ≤ 57 then some (c - 48) else if 97 ≤ low c ∧ low c ≤ 102 then some (low c - 87) else none
theorem hexv_lt {c d : Nat} (h : hexv c = some d) : d < 16 := by
  unfold hexv at h
  split at h
  · injection h; omega
  · split at h
    · injection h; omega
    · cases h
def hexN : Nat → List UInt8 → Option Nat
  | acc, [] => some acc
  | acc, c :: l => match hexv c.toNat with | none => none | some d => hexN (acc * 16 + d) l
theorem hexN_cons_some {acc d : Nat} {c : UInt8} {l : List UInt8} (h : hexv c.toNat = some d) : hexN acc (c :: l) = hexN (acc * 16 + d) l := by simp [hexN, h]
theorem hexN_cons_none {acc : Nat} {c : UInt8} {l : List UInt8} (h : hexv c.toNat = none) : hexN acc (c :: l) = none := by simp [hexN, h]

def hexTuple : Option Nat → Value
  | some n => .tuple #[.int .u64 n, .nilIface]
  | none => .tuple #[.int .u64 0, .iface 190 (.int .i64 2)]

set_option maxHeartbeats 8000000 in
set_option maxRecDepth 100000 in
theorem iParseUint16 (t : ByteArray) (hne : t.size ≠ 0) (hmax : t.size ≤ 6) (w : World) :
    Calls Tryz.prog 141 #[.string t, .int .i64 16, .int .i64 32] w fun e w' => e = .returned (hexTuple (hexN 0 t.data.toList)) ∧ w' = Lib.bytesWorld w 5 t := by
  have hemp : t.toList.isEmpty = false := by
    rw [← decide_eq_emptyBytes]
    exact decide_eq_false (fun h => hne (by rw [h]; rfl))
  have hcv := Lib.run_convert_string_bytes (P := Tryz.prog) w 9 110 5 t (u := .string) Tryz.underlying9 Tryz.underlying110 Tryz.underlying5
  have hB : ∀ j, j < t.size → (Lib.bytesWorld w 5 t).cell? ⟨w.heap.size, j, none⟩ = some (.int .u8 (t.data.toList.getD j 0).toNat) := fun j hj => Lib.bytesWorld_cell w 5 t j hj
  obtain ⟨W1, hW1⟩ : ∃ W1, W1 = Lib.bytesWorld w 5 t := ⟨_, rfl⟩
  rw [← hW1] at hcv hB ⊢
  clear hW1
  obtain ⟨bs, hL⟩ : ∃ bs, bs = t.data.toList := ⟨_, rfl⟩
  have hLn : bs.length = t.size := by rw [hL, Lib.size_eq]
  rw [← hL] at hB ⊢
  clear hL
  have hmv : IntKind.u64.wrap (IntKind.u64.wrap 4294967296 - 1) = 4294967295 := by
    rw [IntKind.wrap_u64, IntKind.wrap_u64]
    decide
  obtain ⟨R, hR⟩ : ∃ R, hexN 0 bs = R := ⟨_, rfl⟩
  rw [hR]
  have HR := Lib.hid hR
  clear hR
  go_enter Tryz.func141, Tryz.ntmps141
  go_wp2
  go_loop [12, 13, 101] (fun vu vn vi => ∃ (k acc : Nat) (a : Int), vu = .bool false ∧ vn = .int .u64 a ∧ vi = .int .i64 k ∧ k ≤ t.size ∧ Hid (a = (acc : Int) ∧ acc < 16 ^ k ∧ R = hexN acc (bs.drop k)))
    (fun _ _ vi => t.size - (intOf vi).toNat)
  case atStart => exact ⟨0, 0, 0, rfl, rfl, rfl, by omega, rfl, by decide, HR.out.symm⟩
  case round =>
    obtain ⟨k, acc, a, rfl, rfl, rfl, hk, hh⟩ := hrel
    obtain ⟨ha, hacc, hdec⟩ := hh.out
    clear hh
    have hacc6 : acc < 16777216 := Nat.lt_of_lt_of_le hacc (Nat.le_trans (Nat.pow_le_pow_right (by decide) (show k ≤ 6 by omega)) (by decide))
    have a0 : 0 ≤ a := by omega
    have a1 : a < 16777216 := by omega
    by_cases hkn : k < t.size
    · have hc := hB k hkn
      have hdrop : bs.drop k = bs[k]'(by omega) :: bs.drop (k + 1) := List.drop_eq_getElem_cons (by omega)
      have hget : bs.getD k 0 = bs[k]'(by omega) := by simp [List.getD, List.getElem?_eq_getElem (show k < bs.length by omega)]
      rw [hdrop] at hdec
      rw [hget] at hc
      generalize bs[k]'(by omega) = c at hc hdec
      have hc256 : c.toNat < 256 := c.toNat_lt
      have hlow := low_bits ⟨c.toNat, hc256⟩
      have hlt := low_lt ⟨c.toNat, hc256⟩
      simp only at hlow hlt
      obtain ⟨j, hj⟩ : ∃ j, low c.toNat = j := ⟨_, rfl⟩
      rw [hj] at hlow hlt
      have hcl : ∀ w, Calls Tryz.prog 160 #[.int .u8 c.toNat] w fun e w' => e = .returned (.int .u8 j) ∧ w' = w := fun w => by
        rw [← hlow]; exact Tryz.internal_strconv_lower _ _
      have HL := Lib.hid hcl
      clear hB hdrop hget hlow hcl
      cases hv : hexv c.toNat with
      | some d =>
        have hd := hexv_lt hv
        rw [hexN_cons_some hv] at hdec
        have hpow : acc * 16 + d < 16 ^ (k + 1) := by rw [Nat.pow_succ]; omega
        by_cases hdig : 48 ≤ c.toNat ∧ c.toNat ≤ 57
        · obtain ⟨hd0, hd1⟩ := hdig
          have hdd : d = c.toNat - 48 := by simp [hexv, hd0, hd1] at hv; omega
          have HN : Hid (a * 16 + ((c.toNat : Int) - 48) = ((acc * 16 + d : Nat) : Int) ∧ acc * 16 + d < 16 ^ (k + 1) ∧ R = hexN (acc * 16 + d) (bs.drop (k + 1))) := Lib.hid ⟨by omega, hpow, hdec⟩
          clear hacc hdec ha hdd hpow hv hj HR
          go_wp2
          refine ⟨⟨k + 1, acc * 16 + d, a * 16 + ((c.toNat : Int) - 48), rfl, (by first | rfl | (congr 1; omega)), (by first | rfl | (congr 1; omega)), by omega, HN⟩, by simp [intOf]; omega⟩
        · obtain ⟨hl0, hl1, hdd⟩ : 97 ≤ j ∧ j ≤ 102 ∧ d = j - 87 := by
            unfold hexv at hv
            rw [if_neg hdig, hj] at hv
            split at hv
            · injection hv; omega
            · cases hv
          have HN : Hid (a * 16 + ((j : Int) - 97 + 10) = ((acc * 16 + d : Nat) : Int) ∧ acc * 16 + d < 16 ^ (k + 1) ∧ R = hexN (acc * 16 + d) (bs.drop (k + 1))) := Lib.hid ⟨by omega, hpow, hdec⟩
          have h95 : ((c.toNat : Int) == 95) = false := by
            apply beq_eq_false_iff_ne.2
            intro h
            have h' : c.toNat = 95 := by omega
            rw [h'] at hj
            have : low 95 = 127 := by decide
            omega
          have hnd : ¬ (48 ≤ c.toNat ∧ c.toNat ≤ 57) := hdig
          clear hacc hdec ha hdd hpow hv hj HR hdig
          by_cases h48 : 48 ≤ c.toNat
          all_goals
            have h57 : 48 ≤ c.toNat → ¬ c.toNat ≤ 57 := fun h h' => hnd ⟨h, h'⟩
            clear hnd
            go_wp2_with (go_at_call 160; refine (HL.out _).mono ?_; rintro e w' ⟨rfl, rfl⟩)
            exact ⟨⟨k + 1, acc * 16 + d, a * 16 + ((j : Int) - 97 + 10), rfl, rfl, (by go_num), by omega, HN⟩, by simp [intOf]; omega⟩
      | none =>
        have hR0 : R = none := by rw [hdec, hexN_cons_none hv]
        have HF := Lib.hid hR0
        obtain ⟨hnd, hnl⟩ : ¬ (48 ≤ c.toNat ∧ c.toNat ≤ 57) ∧ ¬ (97 ≤ j ∧ j ≤ 102) := by
          unfold hexv at hv
          split at hv
          · cases hv
          · rename_i h1
            rw [hj] at hv
            split at hv
            · cases hv
            · rename_i h2; exact ⟨h1, h2⟩
        clear hacc hdec ha hv hR0 HR hacc6
        have h57 : 48 ≤ c.toNat → ¬ c.toNat ≤ 57 := fun h h' => hnd ⟨h, h'⟩
        clear hnd
        by_cases h9 : c.toNat = 95
        · rw [h9] at hc hj
          have hj' : j = 127 := by rw [← hj]; decide
          subst hj'
          have hcl := HL.out
          rw [h9] at hcl
          have HL' := Lib.hid hcl
          clear hcl HL hj h57 hnl h9 hlt
          go_wp2_with (go_at_call 160; refine (HL'.out _).mono ?_; rintro e w' ⟨rfl, rfl⟩)
          all_goals go_ret2
          all_goals (rw [HF.out]; exact ⟨rfl, rfl⟩)
        · have h95 : ((c.toNat : Int) == 95) = false := by
            apply beq_eq_false_iff_ne.2
            omega
          clear h9 hj
          by_cases h48 : 48 ≤ c.toNat
          all_goals
            by_cases hj97 : 97 ≤ j
            all_goals
              have hj102 : 97 ≤ j → 103 ≤ j := fun h => by
                have : ¬ j ≤ 102 := fun h' => hnl ⟨h, h'⟩
                omega
              clear hnl
              go_wp2_with (go_at_call 160; refine (HL.out _).mono ?_; rintro e w' ⟨rfl, rfl⟩)
              all_goals go_ret2
              all_goals (rw [HF.out]; exact ⟨rfl, rfl⟩)
    · have hkk : k = t.size := by omega
      subst hkk
      rw [List.drop_eq_nil_of_le (by omega)] at hdec
      have hF : R = some acc := hdec
      have HF := Lib.hid hF
      subst ha
      clear hacc hdec hF a0 a1
      go_wp2
      go_ret2
      rw [HF.out]
      exact ⟨rfl, rfl⟩
end Go.Proofs.YtegnoaejlhbpbaaGreatDoor.lx
namespace Go.Proofs.YtegnoaejlhbpbaaGreatDoor.lx
open Go.RowKit

theorem cell_of_var {w : World} {name : String} {g : Nat} {v : Value} (hg : Tryz.prog.globalNamed name = some g) (h : w.var? Tryz.prog name = some #[v]) : w.cell? ⟨g, 0, none⟩ = some v := by
  simp only [World.var?, hg, Option.bind_some] at h
  split at h
  · rename_i cs _ _ he
    injection h with h
    subst h
    simp [World.cell?, he]
  · cases h

set_option maxHeartbeats 2000000 in
set_option maxRecDepth 100000 in
theorem pu_ok (s : ByteArray) (hne : s.size ≠ 0) (hmax : s.size ≤ 6) (n : Nat) (h : hexN 0 s.data.toList = some n) (w : World) :
    Calls Tryz.prog 138 #[.string s, .int .i64 16, .int .i64 32] w fun e w' => e = .returned (.tuple #[.int .u64 n, .nilIface]) ∧ Below w.heap.size w w' := by
  have hI := iParseUint16 s hne hmax w
  rw [h] at hI
  have hI : Calls Tryz.prog 141 #[.string s, .int .i64 16, .int .i64 32] w fun e w' => e = .returned (.tuple #[.int .u64 n, .nilIface]) ∧ Below w.heap.size w w' :=
    hI.mono fun e w' ⟨h1, h2⟩ => ⟨h1, by rw [h2]; exact Lib.bytesWorld_below _ _ _⟩
  clear h
  go_enter Tryz.func138, Tryz.ntmps138
  go_wp2_with (go_at_call 141; refine hI.mono ?_; rintro e W1 ⟨rfl, hW⟩)
  go_wp2
  go_ret2
  exact ⟨rfl, hW⟩

set_option maxHeartbeats 2000000 in
set_option maxRecDepth 100000 in
theorem pu_bad (s : ByteArray) (hne : s.size ≠ 0) (hmax : s.size ≤ 6) (h : hexN 0 s.data.toList = none) (w : World) (hG : Glob w) :
    Calls Tryz.prog 138 #[.string s, .int .i64 16, .int .i64 32] w fun e w' => ∃ N, e = .returned (.tuple #[.int .u64 0, .iface 191 (.pointer (some ⟨N, 0, none⟩))]) ∧ Below w.heap.size w w' := by
  obtain ⟨tp, pv, hvar⟩ := hG.esy
  have hv := cell_of_var g_esy hvar
  have hI := iParseUint16 s hne hmax w
  rw [h] at hI
  have hI : Calls Tryz.prog 141 #[.string s, .int .i64 16, .int .i64 32] w fun e w' => e = .returned (.tuple #[.int .u64 0, .iface 190 (.int .i64 2)]) ∧ Below w.heap.size w w' :=
    hI.mono fun e w' ⟨h1, h2⟩ => ⟨h1, by rw [h2]; exact Lib.bytesWorld_below _ _ _⟩
  have hg0 : 6 < w.heap.size := Nat.lt_of_lt_of_le (by decide) hG.size
  clear h hvar
  go_enter Tryz.func138, Tryz.ntmps138
  go_wp2_with (go_at_call 141; refine hI.mono ?_)
  rintro e W1 ⟨rfl, hb1⟩
  have hv1 : W1.cell? ⟨6, 0, none⟩ = some (.iface tp pv) := (hb1.cell (p := ⟨6, 0, none⟩) hg0).trans hv
  go_wp2_with (go_at_call 124; refine (Tryz.strconv_toError_syntax ⟨#[80, 97, 114, 115, 101, 85, 105, 110, 116]⟩ s 16 32 (.iface tp pv) _ (by omega) hv1 (.inr ⟨_, _, rfl⟩)).mono ?_)
  rintro e W2 ⟨N, rfl, _, _, h3⟩
  go_wp2
  go_ret2
  exact ⟨N, rfl, below_self hb1 h3⟩

def cset : List UInt8 := [48, 49, 50, 51, 52, 53, 54, 55, 56, 57, 97, 98, 99, 100, 101, 102]
def codeX (l : ByteArray) (e : Nat) : ByteArray := l.extract 1 e
/-- what code reads: the rune, and where the closing brace stands -/
def codeF (l : ByteArray) : Option (Nat × Nat) :=
  if Lib.hasPrefix l.data.toList [123] = false then none
  else if Lib.indexByte l.data.toList 125 < 2 ∨ 7 < Lib.indexByte l.data.toList 125 then none
  else match hexN 0 (codeX l (Lib.indexByte l.data.toList 125).toNat).data.toList with
    | none => none
    | some n => if Lib.trimS (codeX l (Lib.indexByte l.data.toList 125).toNat).data.toList cset ≠ [] then none
      else if Lib.validRune n = false then none else some (n, (Lib.indexByte l.data.toList 125).toNat)

theorem idx_lt (l : List UInt8) (c : UInt8) : Lib.indexByte l c < l.length := by
  induction l with
  | nil => simp [Lib.indexByte]
  | cons b l ih =>
    simp only [Lib.indexByte, List.length_cons]
    repeat' split
    all_goals omega
theorem hexN_lt (l : List UInt8) : ∀ (acc n k : Nat), acc < 16 ^ k → hexN acc l = some n → n < 16 ^ (k + l.length) := by
  induction l with
  | nil => intro acc n k h h'; simp [hexN] at h'; subst h'; simpa using h
  | cons c l ih =>
    intro acc n k h h'
    cases hv : hexv c.toNat with
    | none => rw [hexN_cons_none hv] at h'; cases h'
    | some d =>
      rw [hexN_cons_some hv] at h'
      have hd := hexv_lt hv
      have := ih (acc * 16 + d) n (k + 1) (by rw [Nat.pow_succ]; omega) h'
      simpa [List.length_cons, Nat.add_comm, Nat.add_left_comm, Nat.add_assoc] using this

set_option maxHeartbeats 4000000 in
set_option maxRecDepth 100000 in
theorem code_no (b : Nat) (l : ByteArray) (p : Nat) (w : World) (hG : Glob w) (h : Tape b l p w) (hn : codeF l = none) :
    Calls Tryz.prog 121 #[.pointer (some ⟨b, 0, none⟩)] w fun e w' => e = .returned (.tuple #[.int .i32 0, .bool false]) ∧ Below w.heap.size w w' := by
  have c0 := h.c0
  have hp : ∀ w, Calls Tryz.prog 136 #[.string l, .string ⟨#[123]⟩] w fun e w' => e = .returned (.bool (Lib.hasPrefix l.data.toList [123])) ∧ w' = w := fun w => Tryz.strings_HasPrefix l ⟨#[123]⟩ w
  cases hpx : Lib.hasPrefix l.data.toList [123] with
  | false =>
    rw [hpx] at hp
    have HP := Lib.hid hp
    clear hp hpx hn
    go_enter Tryz.func121, Tryz.ntmps121
    go_wp2_with (go_at_call 136; refine (HP.out _).mono ?_; rintro e w' ⟨rfl, rfl⟩)
    go_ret2
    exact ⟨rfl, Below.refl _ _⟩
  | true =>
    rw [hpx] at hp
    have HP := Lib.hid hp
    have hi : ∀ w, Calls Tryz.prog 137 #[.string l, .int .u8 125] w fun e w' => e = .returned (.int .i64 (Lib.indexByte l.data.toList 125)) ∧ w' = w := fun w => Tryz.strings_IndexByte l 125 w
    have hlt := idx_lt l.data.toList 125
    rw [← Lib.size_eq] at hlt
    simp only [codeF, hpx, Bool.true_eq_false, if_false] at hn
    obtain ⟨j, hj⟩ : ∃ j, Lib.indexByte l.data.toList 125 = j := ⟨_, rfl⟩
    rw [hj] at hi hn hlt
    have HI := Lib.hid hi
    clear hp hpx hi hj
    by_cases h2 : j < 2
    · clear hn
      go_enter Tryz.func121, Tryz.ntmps121
      go_wp2_with (first | (go_at_call 136; refine (HP.out _).mono ?_; rintro e w' ⟨rfl, rfl⟩) | (go_at_call 137; refine (HI.out _).mono ?_; rintro e w' ⟨rfl, rfl⟩))
      go_ret2
      exact ⟨rfl, Below.refl _ _⟩
    · by_cases h7 : 7 < j
      · clear hn
        go_enter Tryz.func121, Tryz.ntmps121
        go_wp2_with (first | (go_at_call 136; refine (HP.out _).mono ?_; rintro e w' ⟨rfl, rfl⟩) | (go_at_call 137; refine (HI.out _).mono ?_; rintro e w' ⟨rfl, rfl⟩))
        go_ret2
        exact ⟨rfl, Below.refl _ _⟩
      · rw [if_neg (by omega)] at hn
        obtain ⟨m, rfl⟩ : ∃ m : Nat, j = m := ⟨j.toNat, by omega⟩
        simp only [Int.toNat_natCast] at hn
        have hxs : (codeX l m).size = m - 1 := by simp [codeX, ByteArray.size_extract]; omega
        have hex : l.extract 1 m = codeX l m := rfl
        obtain ⟨x, hx⟩ : ∃ x, codeX l m = x := ⟨_, rfl⟩
        rw [hx] at hxs hn hex
        clear hx
        have hm1 : 1 ≤ m := by omega
        have hm2 : m ≤ l.size := by omega
        have hx6 : x.size ≤ 6 := by omega
        have hx0 : x.size ≠ 0 := by omega
        cases hh : hexN 0 x.data.toList with
        | none =>
          have hpu := fun w hG => pu_bad x hx0 hx6 hh w hG
          have HU := Lib.hid hpu
          clear hpu hh hn hxs hx0
          go_enter Tryz.func121, Tryz.ntmps121
          go_wp2_with (first | (go_at_call 136; refine (HP.out _).mono ?_; rintro e w' ⟨rfl, rfl⟩) | (go_at_call 137; refine (HI.out _).mono ?_; rintro e w' ⟨rfl, rfl⟩) | (go_at_call 138; refine (HU.out _ hG).mono ?_; rintro e w1 ⟨N, rfl, hb1⟩))
          go_ret2
          exact ⟨rfl, hb1⟩
        | some n =>
          have hpu := fun w => pu_ok x hx0 hx6 n hh w
          have HU := Lib.hid hpu
          have hn24 : n < 16777216 := by
            have := hexN_lt x.data.toList 0 n 0 (by decide) hh
            rw [Nat.zero_add, ← Lib.size_eq] at this
            exact Nat.lt_of_lt_of_le this (Nat.le_trans (Nat.pow_le_pow_right (by decide) hx6) (by decide))
          rw [hh] at hn
          simp only at hn
          have htr := fun w => Tryz.strings_Trim_laid x ⟨#[48, 49, 50, 51, 52, 53, 54, 55, 56, 57, 97, 98, 99, 100, 101, 102]⟩ w (by omega) (by decide) (ascii_of_all (by decide))
          have hcs : (⟨#[48, 49, 50, 51, 52, 53, 54, 55, 56, 57, 97, 98, 99, 100, 101, 102]⟩ : ByteArray).data.toList = cset := rfl
          rw [hcs] at htr
          obtain ⟨tr, htrE⟩ : ∃ tr, Lib.trimS x.data.toList cset = tr := ⟨_, rfl⟩
          rw [htrE] at htr hn
          have hvr : ∀ w, Calls Tryz.prog 140 #[.int .i32 n] w fun e w' => e = .returned (.bool (Lib.validRune n)) ∧ w' = w := fun w => Tryz.utf8_ValidRune n w
          cases tr with
          | cons y ys =>
            have HT := Lib.hid htr
            have hne : (!(⟨(y :: ys).toArray⟩ : ByteArray).toList.isEmpty) = true := by rw [Lib.toList_data]; rfl
            clear htr hcs htrE hvr hpu hh hn hxs hx0
            go_enter Tryz.func121, Tryz.ntmps121
            go_wp2_with (first | (go_at_call 136; refine (HP.out _).mono ?_; rintro e w' ⟨rfl, rfl⟩) | (go_at_call 137; refine (HI.out _).mono ?_; rintro e w' ⟨rfl, rfl⟩) | (go_at_call 138; refine (HU.out _).mono ?_; rintro e w1 ⟨rfl, hb1⟩) | (go_at_call 139; refine (HT.out _).mono ?_; rintro e w2 ⟨rfl, hb2⟩))
            go_ret2
            exact ⟨rfl, below_self hb1 hb2⟩
          | nil =>
            cases hvx : Lib.validRune n with
            | true => simp [hvx] at hn
            | false =>
              rw [hvx] at hvr
              have HT := Lib.hid htr
              have HV := Lib.hid hvr
              clear htr hcs htrE hvr hpu hh hn hxs hx0 hvx
              go_enter Tryz.func121, Tryz.ntmps121
              go_wp2_with (first | (go_at_call 136; refine (HP.out _).mono ?_; rintro e w' ⟨rfl, rfl⟩) | (go_at_call 137; refine (HI.out _).mono ?_; rintro e w' ⟨rfl, rfl⟩) | (go_at_call 138; refine (HU.out _).mono ?_; rintro e w1 ⟨rfl, hb1⟩) | (go_at_call 139; refine (HT.out _).mono ?_; rintro e w2 ⟨rfl, hb2⟩) | (go_at_call 140; refine (HV.out _).mono ?_; rintro e w3 ⟨rfl, rfl⟩))
              go_ret2
              exact ⟨rfl, below_self hb1 hb2⟩

set_option maxHeartbeats 4000000 in
set_option maxRecDepth 100000 in
theorem code_yes (b : Nat) (l : ByteArray) (p : Nat) (w : World) (hG : Glob w) (h : Tape b l p w) (hl : p + l.size ≤ 4611686018427387904) (n m : Nat) (hn : codeF l = some (n, m)) :
    Calls Tryz.prog 121 #[.pointer (some ⟨b, 0, none⟩)] w fun e w' => e = .returned (.tuple #[.int .i32 n, .bool true]) ∧ Tape b (l.extract (m + 1) l.size) (p + m + 1) w' ∧ w.grownBy w' (some b) := by
  have c0 := h.c0
  have hp : ∀ w, Calls Tryz.prog 136 #[.string l, .string ⟨#[123]⟩] w fun e w' => e = .returned (.bool (Lib.hasPrefix l.data.toList [123])) ∧ w' = w := fun w => Tryz.strings_HasPrefix l ⟨#[123]⟩ w
  have hi : ∀ w, Calls Tryz.prog 137 #[.string l, .int .u8 125] w fun e w' => e = .returned (.int .i64 (Lib.indexByte l.data.toList 125)) ∧ w' = w := fun w => Tryz.strings_IndexByte l 125 w
  have hlt := idx_lt l.data.toList 125
  rw [← Lib.size_eq] at hlt
  unfold codeF at hn
  split at hn
  · cases hn
  rename_i hpx
  simp only [Bool.not_eq_false] at hpx
  rw [hpx] at hp
  have HP := Lib.hid hp
  split at hn
  · cases hn
  rename_i hrng
  split at hn
  · cases hn
  rename_i n' hh
  split at hn
  · cases hn
  rename_i htr0
  split at hn
  · cases hn
  rename_i hvx
  simp only [Option.some.injEq, Prod.mk.injEq] at hn
  obtain ⟨rfl, hmE⟩ := hn
  simp only [Bool.not_eq_false] at hvx
  simp only [ne_eq, Decidable.not_not] at htr0
  have hmI : Lib.indexByte l.data.toList 125 = (m : Int) := by omega
  rw [hmI] at hlt hi hrng
  rw [hmE] at hh htr0
  have HI := Lib.hid hi
  have hm1 : 2 ≤ m := by omega
  have hm7 : m ≤ 7 := by omega
  have hm2 : m < l.size := by omega
  have hxs : (codeX l m).size = m - 1 := by simp [codeX, ByteArray.size_extract]; omega
  have hex : l.extract 1 m = codeX l m := rfl
  clear hp hi hpx hmI hmE hrng
  obtain ⟨x, hx⟩ : ∃ x, codeX l m = x := ⟨_, rfl⟩
  rw [hx] at hxs hh htr0 hex
  clear hx
  have hx6 : x.size ≤ 6 := by omega
  have hx0 : x.size ≠ 0 := by omega
  have hpu := fun w => pu_ok x hx0 hx6 n' hh w
  have HU := Lib.hid hpu
  have hn24 : n' < 16777216 := by
    have := hexN_lt x.data.toList 0 n' 0 (by decide) hh
    rw [Nat.zero_add, ← Lib.size_eq] at this
    exact Nat.lt_of_lt_of_le this (Nat.le_trans (Nat.pow_le_pow_right (by decide) hx6) (by decide))
  have htr := fun w => Tryz.strings_Trim_laid x ⟨#[48, 49, 50, 51, 52, 53, 54, 55, 56, 57, 97, 98, 99, 100, 101, 102]⟩ w (by omega) (by decide) (ascii_of_all (by decide))
  have hcs : (⟨#[48, 49, 50, 51, 52, 53, 54, 55, 56, 57, 97, 98, 99, 100, 101, 102]⟩ : ByteArray).data.toList = cset := rfl
  rw [hcs, htr0] at htr
  have HT := Lib.hid htr
  have hvr : ∀ w, Calls Tryz.prog 140 #[.int .i32 n'] w fun e w' => e = .returned (.bool (Lib.validRune n')) ∧ w' = w := fun w => Tryz.utf8_ValidRune n' w
  rw [hvx] at hvr
  have HV := Lib.hid hvr
  clear htr hcs htr0 hvr hpu hh hxs hx0 hvx
  go_enter Tryz.func121, Tryz.ntmps121
  go_wp2_with (first | (go_at_call 136; refine (HP.out _).mono ?_; rintro e w' ⟨rfl, rfl⟩) | (go_at_call 137; refine (HI.out _).mono ?_; rintro e w' ⟨rfl, rfl⟩) | (go_at_call 138; refine (HU.out _).mono ?_; rintro e w1 ⟨rfl, hb1⟩) | (go_at_call 139; refine (HT.out _).mono ?_; rintro e w2 ⟨rfl, hb2⟩) | (go_at_call 140; refine (HV.out _).mono ?_; rintro e w3 ⟨rfl, rfl⟩))
  have hb := below_self hb1 hb2
  have ht := h.below hb h.lt
  clear hb1 hb2
  have d0 := ht.c0
  have d1 := ht.c1
  have f0 := ht.f 0
  have f1 := ht.f 1
  go_region
  go_wp2
  go_ret2
  refine ⟨rfl, ?_, gb_set (gb_set (gb_drew (gb_of_below hb _)) _ _) _ _⟩
  have := (ht.set0 (l.extract (m + 1) l.size)).set1 (p + m + 1)
  exact this
end Go.Proofs.YtegnoaejlhbpbaaGreatDoor.lx
