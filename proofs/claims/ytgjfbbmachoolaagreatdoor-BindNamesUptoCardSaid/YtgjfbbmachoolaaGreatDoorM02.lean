/-
  The lexer's code (a rune by its number in an escape), for every tape. Conditions: the tape lies in a block behind the package-level variables, which are laid; a text's place is below 2^62. The lexer's escape (the rune of an escape, behind its stroke), for every tape. Conditions as for code. strings.Builder's copyCheck, WriteByte, WriteString, WriteRune, for a builder that the call has made. Conditions: the bytes held and written together are at most 2^47. The lexer's text (a quoted text), for every tape. Conditions: as for code; the rest is at most 2^40 bytes. The parser's walk: what it holds; peek, must, closes, head. Conditions: it lies there.
-/
import Derived.Test.YtgjfbbmachoolaaGreatDoorM01
import Derived.BigRegion
import Derived.Maps.OwnOps
import Derived.Maps.OwnSet
import Derived.Lib.FrozenHead2
import Derived.Lib.OthersKept
import Derived.Lib.RuneBytes
namespace Go.Proofs.YtgjfbbmachoolaaGreatDoor.lx
open Go.RowKit

theorem cell_of_var {w : World} {name : String} {g : Nat} {v : Value} (hg : Tryz.prog.globalNamed name = some g) (h : w.var? Tryz.prog name = some #[v]) : w.cell? ⟨g, 0, none⟩ = some v := by
 simp only [World.var?, hg, Option.bind_some] at h
 split at h
 ·
  rename_i cs _ _ he
  injection h with h
  subst h
  simp [World.cell?, he]
 ·
  cases h

set_option maxHeartbeats 2000000 in
set_option maxRecDepth 100000 in
theorem pu_ok (s : ByteArray) (hne : s.size ≠ 0) (hmax : s.size ≤ 6) (n : Nat) (h : hexN 0 s.data.toList = some n) (w : World) :
  Calls Tryz.prog 156 #[.string s, .int .i64 16, .int .i64 32] w fun e w' => e = .returned (.tuple #[.int .u64 n, .nilIface]) ∧ Below w.heap.size w w' := by
 have hI := iParseUint16 s hne hmax w
 rw [h] at hI
 have hI : Calls Tryz.prog 161 #[.string s, .int .i64 16, .int .i64 32] w fun e w' => e = .returned (.tuple #[.int .u64 n, .nilIface]) ∧ Below w.heap.size w w' :=
  hI.mono fun e w' ⟨h1, h2⟩ => ⟨h1, by rw [h2]; exact Lib.bytesWorld_below _ _ _⟩
 clear h
 go_enter Tryz.func156, Tryz.ntmps156
 go_wp2_with (go_at_call 161; refine hI.mono ?_; rintro e W1 ⟨rfl, hW⟩)
 go_wp2
 go_ret2
 exact ⟨rfl, hW⟩

set_option maxHeartbeats 2000000 in
set_option maxRecDepth 100000 in
theorem pu_bad (s : ByteArray) (hne : s.size ≠ 0) (hmax : s.size ≤ 6) (h : hexN 0 s.data.toList = none) (w : World) (hG : Glob w) :
  Calls Tryz.prog 156 #[.string s, .int .i64 16, .int .i64 32] w fun e w' => ∃ N, e = .returned (.tuple #[.int .u64 0, .iface 228 (.pointer (some ⟨N, 0, none⟩))]) ∧ Below w.heap.size w w' := by
 obtain ⟨tp, pv, hvar⟩ := hG.esy
 have hv := cell_of_var g_esy hvar
 have hI := iParseUint16 s hne hmax w
 rw [h] at hI
 have hI : Calls Tryz.prog 161 #[.string s, .int .i64 16, .int .i64 32] w fun e w' => e = .returned (.tuple #[.int .u64 0, .iface 227 (.int .i64 2)]) ∧ Below w.heap.size w w' :=
  hI.mono fun e w' ⟨h1, h2⟩ => ⟨h1, by rw [h2]; exact Lib.bytesWorld_below _ _ _⟩
 have hg0 : 7 < w.heap.size := Nat.lt_of_lt_of_le (by decide) hG.size
 clear h hvar
 go_enter Tryz.func156, Tryz.ntmps156
 go_wp2_with (go_at_call 161; refine hI.mono ?_)
 rintro e W1 ⟨rfl, hb1⟩
 have hv1 : W1.cell? ⟨7, 0, none⟩ = some (.iface tp pv) := (hb1.cell (p := ⟨7, 0, none⟩) hg0).trans hv
 go_wp2_with (go_at_call 149; refine (Tryz.strconv_toError_syntax ⟨#[80, 97, 114, 115, 101, 85, 105, 110, 116]⟩ s 16 32 (.iface tp pv) _ (by omega) hv1 (.inr ⟨_, _, rfl⟩)).mono ?_)
 rintro e W2 ⟨N, rfl, _, _, h3⟩
 go_wp2
 go_ret2
 exact ⟨N, rfl, below_self hb1 h3⟩

def cset : List UInt8 := [48, 49, 50, 51, 52, 53, 54, 55, 56, 57, 97, 98, 99, 100, 101, 102]
def codeX (l : ByteArray) (e : Nat) : ByteArray := l.extract 1 e
/-- what code reads: the rune, and where the closing brace stands -/
def codeF (l : ByteArray) : Option (Nat × Nat) :=
 if Lib.hasPrefix l.data.toList [123] = false then none
 else if Lib.indexByte l.data.toList 125 < 2 ∨ 7 < Lib.indexByte l.data.toList 125 then none
 else match hexN 0 (codeX l (Lib.indexByte l.data.toList 125).toNat).data.toList with
  | none => none
  | some n => if Lib.trimS (codeX l (Lib.indexByte l.data.toList 125).toNat).data.toList cset ≠ [] then none
   else if Lib.validRune n = false then none else some (n, (Lib.indexByte l.data.toList 125).toNat)

theorem idx_lt (l : List UInt8) (c : UInt8) : Lib.indexByte l c < l.length := by
 induction l with
 | nil => simp [Lib.indexByte]
 | cons b l ih =>
  simp only [Lib.indexByte, List.length_cons]
  repeat' split
  all_goals omega
theorem hexN_lt (l : List UInt8) : ∀ (acc n k : Nat), acc < 16 ^ k → hexN acc l = some n → n < 16 ^ (k + l.length) := by
 induction l with
 | nil => intro acc n k h h'; simp [hexN] at h'; subst h'; simpa using h
 | cons c l ih =>
  intro acc n k h h'
  cases hv : hexv c.toNat with
  | none => rw [hexN_cons_none hv] at h'; cases h'
  | some d =>
   rw [hexN_cons_some hv] at h'
   have hd := hexv_lt hv
   have := ih (acc * 16 + d) n (k + 1) (by rw [Nat.pow_succ]; omega) h'
   simpa [List.length_cons, Nat.add_comm, Nat.add_left_comm, Nat.add_assoc] using this

set_option maxHeartbeats 4000000 in
set_option maxRecDepth 100000 in
theorem code_no (b : Nat) (l : ByteArray) (p : Nat) (w : World) (hG : Glob w) (h : Tape b l p w) (hn : codeF l = none) :
  Calls Tryz.prog 144 #[.pointer (some ⟨b, 0, none⟩)] w fun e w' => e = .returned (.tuple #[.int .i32 0, .bool false]) ∧ Below w.heap.size w w' := by
 have c0 := h.c0
 have hp : ∀ w, Calls Tryz.prog 154 #[.string l, .string ⟨#[123]⟩] w fun e w' => e = .returned (.bool (Lib.hasPrefix l.data.toList [123])) ∧ w' = w := fun w => Tryz.strings_HasPrefix l ⟨#[123]⟩ w
 cases hpx : Lib.hasPrefix l.data.toList [123] with
 | false =>
  rw [hpx] at hp
  have HP := Lib.hid hp
  clear hp hpx hn
  go_enter Tryz.func144, Tryz.ntmps144
  go_wp2_with (go_at_call 154; refine (HP.out _).mono ?_; rintro e w' ⟨rfl, rfl⟩)
  go_ret2
  exact ⟨rfl, Below.refl _ _⟩
 | true =>
  rw [hpx] at hp
  have HP := Lib.hid hp
  have hi : ∀ w, Calls Tryz.prog 155 #[.string l, .int .u8 125] w fun e w' => e = .returned (.int .i64 (Lib.indexByte l.data.toList 125)) ∧ w' = w := fun w => Tryz.strings_IndexByte l 125 w
  have hlt := idx_lt l.data.toList 125
  rw [← Lib.size_eq] at hlt
  simp only [codeF, hpx, Bool.true_eq_false, if_false] at hn
  obtain ⟨j, hj⟩ : ∃ j, Lib.indexByte l.data.toList 125 = j := ⟨_, rfl⟩
  rw [hj] at hi hn hlt
  have HI := Lib.hid hi
  clear hp hpx hi hj
  by_cases h2 : j < 2
  ·
   clear hn
   go_enter Tryz.func144, Tryz.ntmps144
   go_wp2_with (first | (go_at_call 154; refine (HP.out _).mono ?_; rintro e w' ⟨rfl, rfl⟩) | (go_at_call 155; refine (HI.out _).mono ?_; rintro e w' ⟨rfl, rfl⟩))
   go_ret2
   exact ⟨rfl, Below.refl _ _⟩
  ·
   by_cases h7 : 7 < j
   ·
    clear hn
    go_enter Tryz.func144, Tryz.ntmps144
    go_wp2_with (first | (go_at_call 154; refine (HP.out _).mono ?_; rintro e w' ⟨rfl, rfl⟩) | (go_at_call 155; refine (HI.out _).mono ?_; rintro e w' ⟨rfl, rfl⟩))
    go_ret2
    exact ⟨rfl, Below.refl _ _⟩
   ·
    rw [if_neg (by omega)] at hn
    obtain ⟨m, rfl⟩ : ∃ m : Nat, j = m := ⟨j.toNat, by omega⟩
    simp only [Int.toNat_natCast] at hn
    have hxs : (codeX l m).size = m - 1 := by simp [codeX, ByteArray.size_extract]; omega
    have hex : l.extract 1 m = codeX l m := rfl
    obtain ⟨x, hx⟩ : ∃ x, codeX l m = x := ⟨_, rfl⟩
    rw [hx] at hxs hn hex
    clear hx
    have hm1 : 1 ≤ m := by omega
    have hm2 : m ≤ l.size := by omega
    have hx6 : x.size ≤ 6 := by omega
    have hx0 : x.size ≠ 0 := by omega
    cases hh : hexN 0 x.data.toList with
    | none =>
     have hpu := fun w hG => pu_bad x hx0 hx6 hh w hG
     have HU := Lib.hid hpu
     clear hpu hh hn hxs hx0
     go_enter Tryz.func144, Tryz.ntmps144
     go_wp2_with (first | (go_at_call 154; refine (HP.out _).mono ?_; rintro e w' ⟨rfl, rfl⟩) | (go_at_call 155; refine (HI.out _).mono ?_; rintro e w' ⟨rfl, rfl⟩) | (go_at_call 156; refine (HU.out _ hG).mono ?_; rintro e w1 ⟨N, rfl, hb1⟩))
     go_ret2
     exact ⟨rfl, hb1⟩
    | some n =>
     have hpu := fun w => pu_ok x hx0 hx6 n hh w
     have HU := Lib.hid hpu
     have hn24 : n < 16777216 := by
      have := hexN_lt x.data.toList 0 n 0 (by decide) hh
      rw [Nat.zero_add, ← Lib.size_eq] at this
      exact Nat.lt_of_lt_of_le this (Nat.le_trans (Nat.pow_le_pow_right (by decide) hx6) (by decide))
     rw [hh] at hn
     simp only at hn
     have htr := fun w => Tryz.strings_Trim_laid x ⟨#[48, 49, 50, 51, 52, 53, 54, 55, 56, 57, 97, 98, 99, 100, 101, 102]⟩ w (by omega) (by decide) (ascii_of_all (by decide))
     have hcs : (⟨#[48, 49, 50, 51, 52, 53, 54, 55, 56, 57, 97, 98, 99, 100, 101, 102]⟩ : ByteArray).data.toList = cset := rfl
     rw [hcs] at htr
     obtain ⟨tr, htrE⟩ : ∃ tr, Lib.trimS x.data.toList cset = tr := ⟨_, rfl⟩
     rw [htrE] at htr hn
     have hvr : ∀ w, Calls Tryz.prog 158 #[.int .i32 n] w fun e w' => e = .returned (.bool (Lib.validRune n)) ∧ w' = w := fun w => Tryz.utf8_ValidRune n w
     cases tr with
     | cons y ys =>
      have HT := Lib.hid htr
      have hne : (!(⟨(y :: ys).toArray⟩ : ByteArray).toList.isEmpty) = true := by rw [Lib.toList_data]; rfl
      clear htr hcs htrE hvr hpu hh hn hxs hx0
      go_enter Tryz.func144, Tryz.ntmps144
      go_wp2_with (first | (go_at_call 154; refine (HP.out _).mono ?_; rintro e w' ⟨rfl, rfl⟩) | (go_at_call 155; refine (HI.out _).mono ?_; rintro e w' ⟨rfl, rfl⟩) | (go_at_call 156; refine (HU.out _).mono ?_; rintro e w1 ⟨rfl, hb1⟩) | (go_at_call 157; refine (HT.out _).mono ?_; rintro e w2 ⟨rfl, hb2⟩))
      go_ret2
      exact ⟨rfl, below_self hb1 hb2⟩
     | nil =>
      cases hvx : Lib.validRune n with
      | true => simp [hvx] at hn
      | false =>
       rw [hvx] at hvr
       have HT := Lib.hid htr
       have HV := Lib.hid hvr
       clear htr hcs htrE hvr hpu hh hn hxs hx0 hvx
       go_enter Tryz.func144, Tryz.ntmps144
       go_wp2_with (first | (go_at_call 154; refine (HP.out _).mono ?_; rintro e w' ⟨rfl, rfl⟩) | (go_at_call 155; refine (HI.out _).mono ?_; rintro e w' ⟨rfl, rfl⟩) | (go_at_call 156; refine (HU.out _).mono ?_; rintro e w1 ⟨rfl, hb1⟩) | (go_at_call 157; refine (HT.out _).mono ?_; rintro e w2 ⟨rfl, hb2⟩) | (go_at_call 158; refine (HV.out _).mono ?_; rintro e w3 ⟨rfl, rfl⟩))
       go_ret2
       exact ⟨rfl, below_self hb1 hb2⟩

set_option maxHeartbeats 4000000 in
set_option maxRecDepth 100000 in
theorem code_yes (b : Nat) (l : ByteArray) (p : Nat) (w : World) (hG : Glob w) (h : Tape b l p w) (hl : p + l.size ≤ 4611686018427387904) (n m : Nat) (hn : codeF l = some (n, m)) :
  Calls Tryz.prog 144 #[.pointer (some ⟨b, 0, none⟩)] w fun e w' => e = .returned (.tuple #[.int .i32 n, .bool true]) ∧ Tape b (l.extract (m + 1) l.size) (p + m + 1) w' ∧ w.grownBy w' (some b) := by
 have c0 := h.c0
 have hp : ∀ w, Calls Tryz.prog 154 #[.string l, .string ⟨#[123]⟩] w fun e w' => e = .returned (.bool (Lib.hasPrefix l.data.toList [123])) ∧ w' = w := fun w => Tryz.strings_HasPrefix l ⟨#[123]⟩ w
 have hi : ∀ w, Calls Tryz.prog 155 #[.string l, .int .u8 125] w fun e w' => e = .returned (.int .i64 (Lib.indexByte l.data.toList 125)) ∧ w' = w := fun w => Tryz.strings_IndexByte l 125 w
 have hlt := idx_lt l.data.toList 125
 rw [← Lib.size_eq] at hlt
 unfold codeF at hn
 split at hn
 ·
  cases hn
 rename_i hpx
 simp only [Bool.not_eq_false] at hpx
 rw [hpx] at hp
 have HP := Lib.hid hp
 split at hn
 ·
  cases hn
 rename_i hrng
 split at hn
 ·
  cases hn
 rename_i n' hh
 split at hn
 ·
  cases hn
 rename_i htr0
 split at hn
 ·
  cases hn
 rename_i hvx
 simp only [Option.some.injEq, Prod.mk.injEq] at hn
 obtain ⟨rfl, hmE⟩ := hn
 simp only [Bool.not_eq_false] at hvx
 simp only [ne_eq, Decidable.not_not] at htr0
 have hmI : Lib.indexByte l.data.toList 125 = (m : Int) := by omega
 rw [hmI] at hlt hi hrng
 rw [hmE] at hh htr0
 have HI := Lib.hid hi
 have hm1 : 2 ≤ m := by omega
 have hm7 : m ≤ 7 := by omega
 have hm2 : m < l.size := by omega
 have hxs : (codeX l m).size = m - 1 := by simp [codeX, ByteArray.size_extract]; omega
 have hex : l.extract 1 m = codeX l m := rfl
 clear hp hi hpx hmI hmE hrng
 obtain ⟨x, hx⟩ : ∃ x, codeX l m = x := ⟨_, rfl⟩
 rw [hx] at hxs hh htr0 hex
 clear hx
 have hx6 : x.size ≤ 6 := by omega
 have hx0 : x.size ≠ 0 := by omega
 have hpu := fun w => pu_ok x hx0 hx6 n' hh w
 have HU := Lib.hid hpu
 have hn24 : n' < 16777216 := by
  have := hexN_lt x.data.toList 0 n' 0 (by decide) hh
  rw [Nat.zero_add, ← Lib.size_eq] at this
  exact Nat.lt_of_lt_of_le this (Nat.le_trans (Nat.pow_le_pow_right (by decide) hx6) (by decide))
 have htr := fun w => Tryz.strings_Trim_laid x ⟨#[48, 49, 50, 51, 52, 53, 54, 55, 56, 57, 97, 98, 99, 100, 101, 102]⟩ w (by omega) (by decide) (ascii_of_all (by decide))
 have hcs : (⟨#[48, 49, 50, 51, 52, 53, 54, 55, 56, 57, 97, 98, 99, 100, 101, 102]⟩ : ByteArray).data.toList = cset := rfl
 rw [hcs, htr0] at htr
 have HT := Lib.hid htr
 have hvr : ∀ w, Calls Tryz.prog 158 #[.int .i32 n'] w fun e w' => e = .returned (.bool (Lib.validRune n')) ∧ w' = w := fun w => Tryz.utf8_ValidRune n' w
 rw [hvx] at hvr
 have HV := Lib.hid hvr
 clear htr hcs htr0 hvr hpu hh hxs hx0 hvx
 go_enter Tryz.func144, Tryz.ntmps144
 go_wp2_with (first | (go_at_call 154; refine (HP.out _).mono ?_; rintro e w' ⟨rfl, rfl⟩) | (go_at_call 155; refine (HI.out _).mono ?_; rintro e w' ⟨rfl, rfl⟩) | (go_at_call 156; refine (HU.out _).mono ?_; rintro e w1 ⟨rfl, hb1⟩) | (go_at_call 157; refine (HT.out _).mono ?_; rintro e w2 ⟨rfl, hb2⟩) | (go_at_call 158; refine (HV.out _).mono ?_; rintro e w3 ⟨rfl, rfl⟩))
 have hb := below_self hb1 hb2
 have ht := h.below hb h.lt
 clear hb1 hb2
 have d0 := ht.c0
 have d1 := ht.c1
 have f0 := ht.f 0
 have f1 := ht.f 1
 go_region
 go_wp2
 go_ret2
 refine ⟨rfl, ?_, gb_set (gb_set (gb_drew (gb_of_below hb _)) _ _) _ _⟩
 have := (ht.set0 (l.extract (m + 1) l.size)).set1 (p + m + 1)
 exact this
end Go.Proofs.YtgjfbbmachoolaaGreatDoor.lx
namespace Go.Proofs.YtgjfbbmachoolaaGreatDoor.lx
open Go.RowKit Go.Maps

def escR (r : Int) : Option Int := if r = 34 then some 34 else if r = 92 then some 92 else if r = 110 then some 10 else if r = 116 then some 9 else none
/-- what escape reads, and what it leaves -/
def escF (l : ByteArray) (p : Nat) : Option Int × ByteArray × Nat :=
 if dr l = 117 then
  match codeF (adv l) with
  | none => (none, adv l, stepP l p)
  | some (n, m) => (some n, (adv l).extract (m + 1) (adv l).size, stepP l p + m + 1)
 else (escR (dr l), adv l, stepP l p)

def escD : DataW Unit := ((((DataW.map []).put (.int .i32 34) (.lit (.int .i32 34))).put (.int .i32 92) (.lit (.int .i32 92))).put (.int .i32 110) (.lit (.int .i32 10))).put (.int .i32 116) (.lit (.int .i32 9))

theorem escD_has (r : Int) : Maps.has escD (.int .i32 r) = (escR r).isSome := by
 unfold escR
 by_cases h1 : r = 34
 ·
  subst h1; rfl
 by_cases h2 : r = 92
 ·
  subst h2; rfl
 by_cases h3 : r = 110
 ·
  subst h3; rfl
 by_cases h4 : r = 116
 ·
  subst h4; rfl
 rw [if_neg h1, if_neg h2, if_neg h3, if_neg h4]
 unfold escD
 rw [has_put_other (by simpa using h4), has_put_other (by simpa using h3), has_put_other (by simpa using h2), has_put_other (by simpa using h1)]
 rfl
theorem escD_at (r : Int) : escD.atKey (.int .i32 r) (.lit (.int .i32 0)) = .lit (.int .i32 ((escR r).getD 0)) := by
 by_cases hh : (escR r).isSome = true
 ·
  unfold escR at hh ⊢
  by_cases h1 : r = 34
  ·
   subst h1; rfl
  by_cases h2 : r = 92
  ·
   subst h2; rfl
  by_cases h3 : r = 110
  ·
   subst h3; rfl
  by_cases h4 : r = 116
  ·
   subst h4; rfl
  rw [if_neg h1, if_neg h2, if_neg h3, if_neg h4] at hh
  cases hh
 ·
  rw [atKey_of_not_has (by rw [escD_has]; simpa using hh)]
  cases h : escR r with
  | none => rfl
  | some x => rw [h] at hh; exact absurd rfl hh

theorem law_i32 : Keyed Tryz.prog 21 := int_keyed Tryz.underlying21
theorem zero_i32 (w : World) : (zeroValue 21).run Tryz.prog w = .ok (.int .i32 0) w := by kernel_rfl

/-- the map of escapes, laid in a new block -/
theorem esc_laid (w : World) : ∃ w1 w2 w3 w4,
  (Instr.mapUpdate 211 (.map (some w.heap.size)) (.int .i32 34) (.int .i32 34)).run Tryz.prog (w.alloc (.map #[] 0)) = .ok () w1 ∧
  (Instr.mapUpdate 211 (.map (some w.heap.size)) (.int .i32 92) (.int .i32 92)).run Tryz.prog w1 = .ok () w2 ∧
  (Instr.mapUpdate 211 (.map (some w.heap.size)) (.int .i32 110) (.int .i32 10)).run Tryz.prog w2 = .ok () w3 ∧
  (Instr.mapUpdate 211 (.map (some w.heap.size)) (.int .i32 116) (.int .i32 9)).run Tryz.prog w3 = .ok () w4 ∧
  w4.ownsMap Tryz.prog 21 (plainElem Tryz.prog 21) w.heap.size 4 escD ∧ Below w.heap.size w w4 := by
 have u := Tryz.underlying211
 have ui := Tryz.underlying21
 have h0 := World.ownsMap_made (H := Unit) w Tryz.prog 21 (plainElem Tryz.prog 21)
 obtain ⟨w1, r1, o1, g1⟩ := h0.update law_i32 u (by unfold maxLen; omega) (keyOf_int_mk ui (a := 34) (by decide)) (plainElem_int ui (a := 34) (by decide))
 obtain ⟨w2, r2, o2, g2⟩ := o1.update law_i32 u (by unfold maxLen; omega) (keyOf_int_mk ui (a := 92) (by decide)) (plainElem_int ui (a := 92) (by decide))
 obtain ⟨w3, r3, o3, g3⟩ := o2.update law_i32 u (by unfold maxLen; omega) (keyOf_int_mk ui (a := 110) (by decide)) (plainElem_int ui (a := 10) (by decide))
 obtain ⟨w4, r4, o4, g4⟩ := o3.update law_i32 u (by unfold maxLen; omega) (keyOf_int_mk ui (a := 116) (by decide)) (plainElem_int ui (a := 9) (by decide))
 refine ⟨w1, w2, w3, w4, r1, r2, r3, r4, o4, ?_⟩
 have g := gb_trans (gb_trans (gb_trans (gb_trans (World.grownBy_alloc w _ (some w.heap.size)) g1) g2) g3) g4
 exact gb_below g (Nat.le_refl _) (Nat.le_refl _)

set_option maxHeartbeats 4000000 in
set_option maxRecDepth 100000 in
theorem escape_any (b : Nat) (l : ByteArray) (p : Nat) (w : World) (hG : Glob w) (hb8 : 11 ≤ b) (h : Tape b l p w) (hl : p + l.size + 1 ≤ 4611686018427387904)  :
  Calls Tryz.prog 123 #[.pointer (some ⟨b, 0, none⟩)] w fun e w' => e = .returned (.tuple #[.int .i32 ((escF l p).1.getD 0), .bool (escF l p).1.isSome]) ∧ Tape b (escF l p).2.1 (escF l p).2.2 w' ∧ w.grownBy w' (some b) := by
 have hmm := @run_makeMap Tryz.prog
 obtain ⟨w1, w2, w3, w4, r1, r2, r3, r4, ho, hb4⟩ := esc_laid w
 have hG4 := hG.self hb4
 have ht4 := h.below hb4 h.lt
 obtain ⟨R, hR⟩ : ∃ R, escF l p = R := ⟨_, rfl⟩
 rw [hR]
 unfold escF at hR
 have hsz := adv_size l
 have hsp : stepP l p ≤ p + 1 := by unfold stepP; split <;> omega
 have HSZ := Lib.hid hsz
 clear hsz
 by_cases h117 : dr l = 117
 ·
  rw [if_pos h117] at hR
  have h117b : (dr l == 117) = true := by simp [h117]
  have HR := Lib.hid hR
  clear hR h117
  go_enter Tryz.func123, Tryz.ntmps123
  go_wp2_with (go_at_call 101; refine (peek_any b l p _ hG4 ht4).mono ?_)
  rintro e w5 ⟨rfl, hb5⟩
  have hG5 := hG4.self hb5
  have ht5 := ht4.below hb5 ht4.lt
  go_wp2_with (go_at_call 102; refine (step_any b l p _ hG5 ht5 (by omega)).mono ?_)
  rintro e w6 ⟨rfl, ht6, hg6⟩
  have hG6 := hG5.gb hb8 hg6
  have hg : w.grownBy w6 (some b) := gb_trans (gb_of_below (below_self hb4 hb5) _) hg6
  cases hc : codeF (adv l) with
  | none =>
   go_wp2_with (go_at_call 144; refine (code_no b _ _ _ hG6 ht6 hc).mono ?_)
   rintro e w7 ⟨rfl, hb7⟩
   go_wp2
   go_ret2
   rw [← HR.out, hc]
   exact ⟨rfl, ht6.below hb7 ht6.lt, gb_trans hg (gb_of_below hb7 _)⟩
  | some nm =>
   obtain ⟨n, m⟩ := nm
   go_wp2_with (go_at_call 144; refine (code_yes b _ _ _ hG6 ht6 (by rw [HSZ.out]; omega) n m hc).mono ?_)
   rintro e w7 ⟨rfl, ht7, hg7⟩
   go_wp2
   go_ret2
   rw [← HR.out, hc]
   exact ⟨rfl, ht7, gb_trans hg hg7⟩
 ·
  rw [if_neg h117] at hR
  have h117b : (dr l == 117) = false := by simp [h117]
  have HR := Lib.hid hR
  have hd := dr_le l
  have hwf : (Lit.int .i32 (dr l)).wf = true := by first | go_wf | (simp [Lit.wf, IntKind.min, IntKind.max, IntKind.bits, IntKind.signed]; omega)
  have HW := Lib.hid hwf
  clear hR h117 hwf
  go_enter Tryz.func123, Tryz.ntmps123
  go_wp2_with (go_at_call 101; refine (peek_any b l p _ hG4 ht4).mono ?_)
  rintro e w5 ⟨rfl, hb5⟩
  have hG5 := hG4.self hb5
  have ht5 := ht4.below hb5 ht4.lt
  have ho5 := ho.kept (gb_of_below hb5 none) (by simp)
  go_wp2_with (go_at_call 102; refine (step_any b l p _ hG5 ht5 (by omega)).mono ?_)
  rintro e w6 ⟨rfl, ht6, hg6⟩
  have hne : some w.heap.size ≠ some b := by intro e; injection e with e; have := h.lt; omega
  have ho6 := ho5.kept hg6 hne
  have hg : w.grownBy w6 (some b) := gb_trans (gb_of_below (below_self hb4 hb5) _) hg6
  clear hne
  go_wp2_with (at_lookup; refine wpList_lookup_own_ok_int _ rfl _ _ 211 rfl 21 21 .i32 law_i32 Tryz.underlying211 Tryz.underlying21 (zero_i32 _) w.heap.size 4 _ rfl ho6 _ _ rfl (keyOf_int_mk Tryz.underlying21 HW.out) ?_; intro c hat hwc)
  have hce : c = (escR (dr l)).getD 0 := by
   rw [escD_at] at hat
   injection hat with hat
   injection hat with _ hat
   exact hat.symm
  have HC := Lib.hid hce
  clear hce hat hwc
  go_wp2
  go_ret2
  rw [← HR.out, HC.out, escD_has]
  exact ⟨rfl, ht6, hg⟩
end Go.Proofs.YtgjfbbmachoolaaGreatDoor.lx
namespace Go.Proofs.YtgjfbbmachoolaaGreatDoor.lx
open Go.RowKit

theorem sizeBd : (Tryz.prog.info? 187).map (·.size) = some 2 := by kernel_rfl
theorem liesBd : liesAt Tryz.prog Tryz.prog.depth 187 (2 / Tryz.prog.cellsOf 187) 0 187 1 = true := by kernel_rfl

set_option maxHeartbeats 1000000 in
set_option maxRecDepth 100000 in
theorem copyCheck_used (b : Nat) (w : World) (h0 : w.cell? ⟨b, 0, none⟩ = some (.pointer (some ⟨b, 0, none⟩))) :
  Calls Tryz.prog 145 #[.pointer (some ⟨b, 0, none⟩)] w fun e w' => e = .returned (.tuple #[]) ∧ w' = w := by
 obtain ⟨j, hj, hjs⟩ := Option.map_eq_some_iff.1 sizeBd
 have hne := fun w => Lib.run_neq_ptr_same (P := Tryz.prog) w ⟨b, 0, none⟩ Tryz.underlying185 hj
 go_enter Tryz.func145, Tryz.ntmps145
 go_wp2
 go_end0
 exact ⟨rfl, rfl⟩

set_option maxHeartbeats 1000000 in
set_option maxRecDepth 100000 in
theorem copyCheck_fresh (b : Nat) (w : World) (h0 : w.cell? ⟨b, 0, none⟩ = some (.pointer none)) (hsh : w.shape? b = some (187, 2)) (hfz : w.frozen? ⟨b, 0, none⟩ = false) :
  Calls Tryz.prog 145 #[.pointer (some ⟨b, 0, none⟩)] w fun e w' => e = .returned (.tuple #[]) ∧ w' = w.setCell ⟨b, 0, none⟩ (.pointer (some ⟨b, 0, none⟩)) := by
 obtain ⟨j, hj, hjs⟩ := Option.map_eq_some_iff.1 sizeBd
 go_enter Tryz.func145, Tryz.ntmps145
 go_wp2
 rw [Lib.run_to_unsafe w ⟨b, 0, none⟩ Tryz.underlying185 Tryz.underlying225 hj (by rw [hjs]; decide) hsh (Nat.zero_lt_succ 1)]
 simp only [Result.andThen]
 rw [Oper.upon_value]
 go_wp2
 rw [run_callFunc_extern Tryz.func159 (by kernel_rfl) (by kernel_rfl) (by kernel_rfl) (e := Extern.AbiNoEscape.same) (by kernel_rfl)]
 rw [Lib.run_noEscape]
 simp only [Result.andThen]
 rw [Oper.upon_value]
 go_wp2
 rw [Lib.run_from_unsafe w ⟨b, 0, none⟩ Tryz.underlying225 Tryz.underlying185 hj hsh liesBd]
 simp only [Result.andThen]
 rw [Oper.upon_value]
 go_wp2
 go_end0
 exact ⟨rfl, rfl⟩

theorem copyCheck_k (B b : Nat) (bs : List Value) (w : World) (h : Lib.IsBuilderF 187 5 B b bs w) :
  Calls Tryz.prog 145 #[.pointer (some ⟨b, 0, none⟩)] w fun e w' => e = .returned (.tuple #[]) ∧ (Lib.BuilderAtF 187 5 B b (.pointer (some ⟨b, 0, none⟩)) bs w' ∧ Below B w w' ∧ Lib.OthersKept 5 (some b) w w') := by
 rcases h with h | h
 ·
  refine (copyCheck_fresh b w h.cell0 h.shape h.frozen0).mono ?_
  rintro e w' ⟨rfl, rfl⟩
  exact ⟨rfl, h.used _, (Below.refl B w).setCell (p := ⟨b, 0, none⟩) h.1 _, (Lib.OthersKept.refl _ _ w).setCell ⟨b, 0, none⟩ rfl _⟩
 ·
  refine (copyCheck_used b w h.cell0).mono ?_
  rintro e w' ⟨rfl, rfl⟩
  exact ⟨rfl, h, Below.refl B _, Lib.OthersKept.refl _ _ _⟩

set_option maxHeartbeats 4000000 in
set_option maxRecDepth 100000 in
theorem WriteRune_k (B b : Nat) (bs : List Value) (r : Int) (hr0 : -2147483648 ≤ r) (hr1 : r ≤ 2147483647) (w : World) (h : Lib.IsBuilderF 187 5 B b bs w) (hlen : bs.length + 4 ≤ 140737488355328) (hBw : B ≤ w.heap.size) :
  Calls Tryz.prog 124 #[.pointer (some ⟨b, 0, none⟩), .int .i32 r] w fun e w' => e = .returned (.tuple #[.int .i64 (Lib.runeCells r).length, .nilIface]) ∧ (Lib.BuilderAtF 187 5 B b (.pointer (some ⟨b, 0, none⟩)) (bs ++ Lib.runeCells r) w' ∧ Below B w w' ∧ Lib.OthersKept 5 (some b) w w') := by
 have hk4 := Lib.runeCells_le r
 go_enter Tryz.func124, Tryz.ntmps124
 go_wp2_with (go_at_call 145; refine (copyCheck_k B b bs _ h).mono ?_)
 rintro e w1 ⟨rfl, h1, hb1, hk1⟩
 obtain ⟨hB, v, hbk, hown, hne⟩ := h1
 obtain ⟨ao, cap, rfl⟩ : ∃ ao cap, v = .slice ao bs.length cap := by
  rcases hown.2 with ⟨hv, h0⟩ | ⟨g, cap, cur, fz, hv, _⟩
  ·
   exact ⟨none, 0, by rw [hv, h0]⟩
  ·
   exact ⟨_, _, hv⟩
 have c0 : w1.cell? ⟨b, 0, none⟩ = some (.pointer (some ⟨b, 0, none⟩)) := by rw [Lib.cell_of_heap hbk]; rfl
 have c1 : w1.cell? ⟨b, 1, none⟩ = some (.slice ao bs.length cap) := by rw [Lib.cell_of_heap hbk]; rfl
 go_wp2_with (go_at_call 146; refine (Tryz.utf8_AppendRune_own B _ bs.length bs r hr0 hr1 _ hown hlen (by have := hb1.size; omega)).mono ?_)
 rintro e w2 ⟨v', rfl, hown', o, hgrow⟩
 have hlt : b < w1.heap.size := (Array.getElem?_eq_some_iff.1 hbk).1
 have hb2 : w2.heap[b]? = some (.cells #[.pointer (some ⟨b, 0, none⟩), .slice ao bs.length cap] 187 (0, 0)) := by
  rw [hgrow.block b (by simp; omega) (fun e => hne e.symm), Lib.alloc_old w1 _ b hlt]
  exact hbk
 have d0 : w2.cell? ⟨b, 0, none⟩ = some (.pointer (some ⟨b, 0, none⟩)) := by rw [Lib.cell_of_heap hb2]; rfl
 have d1 : w2.cell? ⟨b, 1, none⟩ = some (.slice ao bs.length cap) := by rw [Lib.cell_of_heap hb2]; rfl
 have f1 : w2.frozen? ⟨b, 1, none⟩ = false := Lib.frozen_of_heap hb2 1
 obtain ⟨g, cap', rfl⟩ : ∃ g cap', v' = .slice (some ⟨g, 0, none⟩) (bs.length + (Lib.runeCells r).length) cap' := by
  rcases hown'.2 with ⟨_, h0⟩ | ⟨g, cap', cur, fz, hv, _⟩
  ·
   omega
  ·
   exact ⟨g, cap', hv⟩
 go_wp2
 go_ret2
 refine ⟨?_, ?_, ?_, ((hk1.alloc _).grown hgrow (Lib.ownsRowF_kind (hown.alloc _))).setCell ⟨b, 1, none⟩ rfl _⟩
 ·
  have e : ((bs.length : Int) + ((Lib.runeCells r).length : Int) - (bs.length : Int)) = ((Lib.runeCells r).length : Int) := by omega
  simp [e]
 ·
  exact Lib.BuilderAtF.put (T := 187) (e := 5) hB hb2 (bs' := bs ++ Lib.runeCells r) (by simpa using hown') (by decide)
 ·
  exact ((hb1.alloc (by have := hb1.size; omega) _).grown hgrow (by have := hb1.size; simp; omega) (fun k hk => (hown.lt k hk).1)).setCell (p := ⟨b, 1, none⟩) hB _
end Go.Proofs.YtgjfbbmachoolaaGreatDoor.lx
namespace Go.Proofs.YtgjfbbmachoolaaGreatDoor.lx
open Go.RowKit

structure Tok where
 k : Int
 s : ByteArray
 n : Int
 a : Int
def Tok.v (t : Tok) : Value := .agg #[.int .u8 t.k, .string t.s, .int .i64 t.n, .int .i64 t.a]
def Tok.no : Tok := ⟨0, ⟨#[]⟩, 0, 0⟩

theorem adv_le (l : ByteArray) : (adv l).size ≤ l.size := by rw [adv_size]; omega
theorem escF_size (l : ByteArray) (p : Nat) : (escF l p).2.1.size ≤ l.size ∧ p ≤ (escF l p).2.2 ∧ (escF l p).2.2 + (escF l p).2.1.size ≤ p + l.size := by
 have h1 := adv_size l
 have h2 := dn_le l
 have hst : (stepP l p = p + 1 ∧ 1 ≤ dn l) ∨ (stepP l p = p ∧ dn l = 0) := by
  unfold stepP
  split
  ·
   exact .inl ⟨rfl, by omega⟩
  ·
   exact .inr ⟨rfl, by omega⟩
 unfold escF
 split
 ·
  split
  ·
   simp only; omega
  ·
   rename_i n m hc
   simp only
   have h3 : ((adv l).extract (m + 1) (adv l).size).size = (adv l).size - (m + 1) := by simp [ByteArray.size_extract]
   have hm : m < (adv l).size := by
    have hx := idx_lt (adv l).data.toList 125
    rw [← Lib.size_eq] at hx
    unfold codeF at hc
    split at hc
    ·
     cases hc
    split at hc
    ·
     cases hc
    split at hc
    ·
     cases hc
    split at hc
    ·
     cases hc
    split at hc
    ·
     cases hc
    simp only [Option.some.injEq, Prod.mk.injEq] at hc
    omega
   omega
 ·
  simp only; omega

theorem escF_range (l : ByteArray) (p : Nat) : 0 ≤ (escF l p).1.getD 0 ∧ (escF l p).1.getD 0 ≤ 1114111 := by
 unfold escF
 split
 ·
  split
  ·
   simp
  ·
   rename_i n m hc
   simp only [Option.getD_some]
   unfold codeF at hc
   split at hc
   ·
    cases hc
   split at hc
   ·
    cases hc
   split at hc
   ·
    cases hc
   split at hc
   ·
    cases hc
   split at hc
   ·
    cases hc
   rename_i hv
   simp only [Option.some.injEq, Prod.mk.injEq] at hc
   obtain ⟨rfl, _⟩ := hc
   simp only [Lib.validRune, Bool.not_eq_false, decide_eq_true_eq] at hv
   omega
 ·
  simp only
  unfold escR
  repeat' split
  all_goals simp

/-- what a quoted text is, behind its first mark: its token or why there is none; what is left, and where -/
def textF (fine : Bool) (acc : List UInt8) (l : ByteArray) (p : Nat) : (Tok × Int) × ByteArray × Nat :=
 if h : l.size = 0 then ((Tok.no, 13), l, p)
 else if dr l = 34 then
  ((if fine = false then (Tok.no, 9) else if 256 < acc.length then (Tok.no, 4) else (⟨5, ⟨acc.toArray⟩, 0, 0⟩, 0)), adv l, p + 1)
 else if dr l = 92 then
  if (escF (adv l) (p + 1)).1.isSome = true then textF fine (acc ++ Lib.encodeRune ((escF (adv l) (p + 1)).1.getD 0)) (escF (adv l) (p + 1)).2.1 (escF (adv l) (p + 1)).2.2
  else ((Tok.no, 13), (escF (adv l) (p + 1)).2.1, (escF (adv l) (p + 1)).2.2)
 else textF (fine && stepOk l) (acc ++ Lib.encodeRune (dr l)) (adv l) (p + 1)
termination_by l.size
decreasing_by
 ·
  exact Nat.lt_of_le_of_lt (escF_size (adv l) (p + 1)).1 (adv_lt l h)
 ·
  exact adv_lt l h

theorem textF_end {fine : Bool} {acc : List UInt8} {l : ByteArray} {p : Nat} (h : l.size = 0) : textF fine acc l p = ((Tok.no, 13), l, p) := by rw [textF, dif_pos h]
theorem textF_close {fine : Bool} {acc : List UInt8} {l : ByteArray} {p : Nat} (h : l.size ≠ 0) (hr : dr l = 34) : textF fine acc l p = ((if fine = false then (Tok.no, 9) else if 256 < acc.length then (Tok.no, 4) else (⟨5, ⟨acc.toArray⟩, 0, 0⟩, 0)), adv l, p + 1) := by rw [textF, dif_neg h, if_pos hr]
theorem textF_esc {fine : Bool} {acc : List UInt8} {l : ByteArray} {p : Nat} (h : l.size ≠ 0) (hr : dr l = 92) (hs : (escF (adv l) (p + 1)).1.isSome = true) : textF fine acc l p = textF fine (acc ++ Lib.encodeRune ((escF (adv l) (p + 1)).1.getD 0)) (escF (adv l) (p + 1)).2.1 (escF (adv l) (p + 1)).2.2 := by
 rw [textF, dif_neg h, if_neg (by omega), if_pos hr, if_pos hs]
theorem textF_bad {fine : Bool} {acc : List UInt8} {l : ByteArray} {p : Nat} (h : l.size ≠ 0) (hr : dr l = 92) (hs : (escF (adv l) (p + 1)).1.isSome = false) : textF fine acc l p = ((Tok.no, 13), (escF (adv l) (p + 1)).2.1, (escF (adv l) (p + 1)).2.2) := by
 rw [textF, dif_neg h, if_neg (by omega), if_pos hr, if_neg (by simp [hs])]
theorem textF_rune {fine : Bool} {acc : List UInt8} {l : ByteArray} {p : Nat} (h : l.size ≠ 0) (hr : dr l ≠ 34) (hr2 : dr l ≠ 92) : textF fine acc l p = textF (fine && stepOk l) (acc ++ Lib.encodeRune (dr l)) (adv l) (p + 1) := by
 rw [textF, dif_neg h, if_neg hr, if_neg hr2]

theorem BuilderAtF_keep {T e : TypeId} {B b : Nat} {p : Value} {bs : List Value} {w w' : World} (h : Lib.BuilderAtF T e B b p bs w) (hk : ∀ k, B ≤ k → k < w.heap.size → w'.heap[k]? = w.heap[k]?) : Lib.BuilderAtF T e B b p bs w' := by
 obtain ⟨hB, v, hb, hown, hne⟩ := h
 have hlt : b < w.heap.size := (Array.getElem?_eq_some_iff.1 hb).1
 refine ⟨hB, v, (hk b hB hlt).trans hb, ⟨hown.1, ?_⟩, hne⟩
 rcases hown.2 with hn | ⟨g, cap, cur, fz, rfl, hbg, hg, rest⟩
 ·
  exact .inl hn
 ·
  exact .inr ⟨g, cap, cur, fz, rfl, hbg, (hk g hbg (Array.getElem?_eq_some_iff.1 hg).1).trans hg, rest⟩
theorem IsBuilderF_keep {T e : TypeId} {B b : Nat} {bs : List Value} {w w' : World} (h : Lib.IsBuilderF T e B b bs w) (hk : ∀ k, B ≤ k → k < w.heap.size → w'.heap[k]? = w.heap[k]?) : Lib.IsBuilderF T e B b bs w' :=
 h.elim (fun x => .inl (BuilderAtF_keep x hk)) (fun x => .inr (BuilderAtF_keep x hk))
theorem IsBuilderF_gb {T e : TypeId} {B b tb : Nat} {bs : List Value} {w w' : World} (h : Lib.IsBuilderF T e B b bs w) (hg : w.grownBy w' (some tb)) (ht : tb < B) : Lib.IsBuilderF T e B b bs w' :=
 IsBuilderF_keep h fun k hB hk => hg.block k hk (by intro e; injection e; omega)
theorem IsBuilderF_below {T e : TypeId} {B b : Nat} {bs : List Value} {w w' : World} (h : Lib.IsBuilderF T e B b bs w) (hb : Below w.heap.size w w') : Lib.IsBuilderF T e B b bs w' :=
 IsBuilderF_keep h fun k _ hk => hb.block k hk
theorem gb_then_below {w w1 w2 : World} {r : Option Nat} {B : Nat} (h : w.grownBy w1 r) (k : Below B w1 w2) (hB : w.heap.size ≤ B) : w.grownBy w2 r :=
 ⟨k.os.trans h.os, k.tape.trans h.tape, k.output.trans h.output, Nat.le_trans h.size k.size, fun i hi hne => (k.block i (by omega)).trans (h.block i hi hne)⟩
theorem encodeRune_len (r : Int) : (Lib.encodeRune r).length ≤ 4 := by
 have := (Lib.encodeRuneZ_length r).2
 simpa [Lib.encodeRune] using this

/-- a block of a token's four cells -/
def Cell4 (B : Nat) (t : Tok) (w : World) : Prop := w.heap[B]? = some (.cells #[.int .u8 t.k, .string t.s, .int .i64 t.n, .int .i64 t.a] 144 (0, 0))

abbrev put4 (B : Nat) (t : Tok) (w : World) : World := (((w.setCell ⟨B, 0, none⟩ (.int .u8 t.k)).setCell ⟨B, 1, none⟩ (.string t.s)).setCell ⟨B, 2, none⟩ (.int .i64 t.n)).setCell ⟨B, 3, none⟩ (.int .i64 t.a)
theorem put4_cell {B : Nat} {t0 : Tok} {w : World} (h : Cell4 B t0 w) (t : Tok) : Cell4 B t (put4 B t w) := by
 unfold Cell4 at *
 simp [World.setCell, Array.getElem?_modify, h]
theorem put4_other (B : Nat) (t : Tok) (w : World) (k : Nat) (hk : k ≠ B) : (put4 B t w).heap[k]? = w.heap[k]? := by
 show ((((w.setCell _ _).setCell _ _).setCell _ _).setCell _ _).heap[k]? = _
 rw [Below.heap_setCell _ _ _ _ hk, Below.heap_setCell _ _ _ _ hk, Below.heap_setCell _ _ _ _ hk, Below.heap_setCell _ _ _ _ hk]
theorem put4_gb {B : Nat} {w w1 : World} {r : Option Nat} (t : Tok) (h : w.grownBy w1 r) (hB : w.heap.size ≤ B) : w.grownBy (put4 B t w1) r :=
 ⟨h.os, h.tape, h.output, by have := h.size; simpa [World.setCell] using this, fun k hk hne => (put4_other B t w1 k (by omega)).trans (h.block k hk hne)⟩
theorem Cell4.c0 {B : Nat} {t : Tok} {w : World} (h : Cell4 B t w) : w.cell? ⟨B, 0, none⟩ = some (.int .u8 t.k) := by rw [Lib.cell_of_heap h]; rfl
theorem Cell4.c1 {B : Nat} {t : Tok} {w : World} (h : Cell4 B t w) : w.cell? ⟨B, 1, none⟩ = some (.string t.s) := by rw [Lib.cell_of_heap h]; rfl
theorem Cell4.c2 {B : Nat} {t : Tok} {w : World} (h : Cell4 B t w) : w.cell? ⟨B, 2, none⟩ = some (.int .i64 t.n) := by rw [Lib.cell_of_heap h]; rfl
theorem Cell4.c3 {B : Nat} {t : Tok} {w : World} (h : Cell4 B t w) : w.cell? ⟨B, 3, none⟩ = some (.int .i64 t.a) := by rw [Lib.cell_of_heap h]; rfl
theorem Cell4.f {B : Nat} {t : Tok} {w : World} (h : Cell4 B t w) (j : Nat) : w.frozen? ⟨B, j, none⟩ = false := Lib.frozen_of_heap h j
theorem Cell4.below {B : Nat} {t : Tok} {w w' : World} (h : Cell4 B t w) {C : Nat} (hb : Below C w w') (hB : B < C) : Cell4 B t w' := (hb.block B hB).trans h
theorem Cell4.gb {B tb : Nat} {t : Tok} {w w' : World} (h : Cell4 B t w) (hb : w.grownBy w' (some tb)) (hB : B ≠ tb) : Cell4 B t w' := (hb.block B (Array.getElem?_eq_some_iff.1 h).1 (by intro e; injection e; omega)).trans h
theorem put4_tape {B b : Nat} {t : Tok} {l : ByteArray} {p : Nat} {w : World} (h : Tape b l p w) (hne : b ≠ B) : Tape b l p (put4 B t w) := (put4_other B t w b hne).trans h

theorem results4 {fn : Func} {q u : Tmp} (hf : fn.results = #[.cell q 144, .tmp u]) {tmps : Array Value} {B : Nat} {t : Tok} {w : World} {x : Value} (h : Cell4 B t w)
  (hq : tmps.getD q undef = .pointer (some ⟨B, 0, none⟩)) (hu : tmps.getD u undef = x) : (results fn tmps).run Tryz.prog w = .ok (.tuple #[t.v, x]) w := by
 rw [results_cell_tmp hf, hq, hu]
 simp [go_sem, h.c0, h.c1, h.c2, h.c3, Tok.v]

set_option maxHeartbeats 8000000 in
set_option maxRecDepth 100000 in
theorem text_any (b : Nat) (l : ByteArray) (p : Nat) (w : World) (hG : Glob w) (hb8 : 11 ≤ b) (h : Tape b l p w) (hl : p + l.size + 1 ≤ 1099511627776) (h0 : l.size ≠ 0) :
  Calls Tryz.prog 103 #[.pointer (some ⟨b, 0, none⟩)] w fun e w' => e = .returned (.tuple #[(textF (stepOk l) [] (adv l) (p + 1)).1.1.v, .int .i64 (textF (stepOk l) [] (adv l) (p + 1)).1.2]) ∧
   Tape b (textF (stepOk l) [] (adv l) (p + 1)).2.1 (textF (stepOk l) [] (adv l) (p + 1)).2.2 w' ∧ w.grownBy w' (some b) := by
 obtain ⟨R, hR⟩ : ∃ R, textF (stepOk l) [] (adv l) (p + 1) = R := ⟨_, rfl⟩
 rw [hR]
 have HR := Lib.hid hR
 clear hR
 have hblt := h.lt
 have hW1 : Tape b l p ((w.alloc (.cells #[.int .u8 0, .string ⟨#[]⟩, .int .i64 0, .int .i64 0] 144)).alloc (.cells #[.pointer none, .slice none 0 0] 187)) :=
  h.below (((Below.refl w.heap.size w).alloc (Nat.le_refl _) _).alloc (by simp) _) hblt
 have hW2 : Below w.heap.size w ((w.alloc (.cells #[.int .u8 0, .string ⟨#[]⟩, .int .i64 0, .int .i64 0] 144)).alloc (.cells #[.pointer none, .slice none 0 0] 187)) := ((Below.refl w.heap.size w).alloc (Nat.le_refl _) _).alloc (by simp) _
 have hW3 : Cell4 w.heap.size Tok.no ((w.alloc (.cells #[.int .u8 0, .string ⟨#[]⟩, .int .i64 0, .int .i64 0] 144)).alloc (.cells #[.pointer none, .slice none 0 0] 187)) := by
  unfold Cell4
  rw [Lib.alloc_old _ _ _ (by simp), heap_alloc_new]
  rfl
 have hW4 : Lib.IsBuilderF 187 5 (w.heap.size + 1) (w.heap.size + 1) (Lib.byteCells []) ((w.alloc (.cells #[.int .u8 0, .string ⟨#[]⟩, .int .i64 0, .int .i64 0] 144)).alloc (.cells #[.pointer none, .slice none 0 0] 187)) := by
  have := Lib.IsBuilderF.of (Lib.fresh_isBuilder 187 5 (w.alloc (.cells #[.int .u8 0, .string ⟨#[]⟩, .int .i64 0, .int .i64 0] 144)))
  have hs : (w.alloc (.cells #[.int .u8 0, .string ⟨#[]⟩, .int .i64 0, .int .i64 0] 144)).heap.size = w.heap.size + 1 := by simp
  rw [hs] at this
  exact this
 have hGW := hG.self hW2
 go_enter Tryz.func103, Tryz.ntmps103
 go_wp2_with (go_at_call 102; refine (step_any b l p _ hGW hW1 (by omega)).mono ?_)
 rintro e w1 ⟨rfl, ht1, hg1⟩
 rw [stepP_pos p h0] at ht1
 have hgb1 : w.grownBy w1 (some b) := gb_trans (gb_of_below hW2 _) hg1
 have hbl1 := IsBuilderF_gb hW4 hg1 (by omega)
 have hc41 : Cell4 w.heap.size Tok.no w1 := (hg1.block w.heap.size (by simp; omega) (by intro e; injection e; omega)).trans hW3
 have hadv := adv_size l
 have hadl := adv_le l
 clear hW1 hW2 hW3 hW4 hGW hg1
 go_wp2_with fail
 go_loopw [5] (fun v wr => ∃ (fine : Bool) (acc : List UInt8) (l' : ByteArray) (p' : Nat), v = .bool fine ∧ Tape b l' p' wr ∧ Lib.IsBuilderF 187 5 (w.heap.size + 1) (w.heap.size + 1) (Lib.byteCells acc) wr ∧ Cell4 w.heap.size Tok.no wr ∧ w.grownBy wr (some b) ∧ Hid (textF fine acc l' p' = R) ∧ p' + l'.size + 1 ≤ 1099511627776 ∧ acc.length + 4 * l'.size ≤ 4398046511104 ∧ w.heap.size + 1 < wr.heap.size) (fun _ wr => tlen b wr)
 case atStart =>
  exact ⟨stepOk l, [], adv l, p + 1, rfl, ht1, hbl1, hc41, hgb1, HR, by have := dn_bounds l h0; omega, by simp; omega, by have := hgb1.size; have hh : w.heap.size + 1 < w1.heap.size := (hbl1.elim (fun x => x.lt) (fun x => x.lt)); exact hh⟩
 case round =>
  clear ht1 hbl1 hc41 hgb1 HR hadv hadl h0 hl h w1
  obtain ⟨fine, acc, l', p', rfl, ht, hbl, hc4, hgb, HS, hp, hacc, hsz⟩ := hrel
  have hGr := hG.gb hb8 hgb
  have c0 := ht.c0
  by_cases h0 : l'.size = 0
  ·
   have he : l'.toList = [] := by
    rw [Lib.toList_data]; exact List.eq_nil_of_length_eq_zero (by rw [← Lib.size_eq]; exact h0)
   have hi : (!l'.toList.isEmpty) = false := by rw [he]; rfl
   have hfin : R = ((Tok.no, 13), l', p') := by rw [← HS.out]; exact textF_end h0
   have HF := Lib.hid hfin
   clear hfin
   have r0 := hc4.c0
   have r1 := hc4.c1
   have r2 := hc4.c2
   have r3 := hc4.c3
   have fr := hc4.f
   have h4 := put4_cell hc4 Tok.no
   have ht4 := put4_tape (t := Tok.no) ht (by omega : b ≠ w.heap.size)
   have hg4 := put4_gb Tok.no hgb (Nat.le_refl _)
   have d0 := h4.c0
   have d1 := h4.c1
   have d2 := h4.c2
   have d3 := h4.c3
   go_wp2
   refine bodyPost_ret (v := .tuple #[Tok.no.v, .int .i64 13]) ?_ rfl ⟨by rw [HF.out], by rw [HF.out]; exact ht4, hg4⟩
   exact results4 rfl h4 rfl rfl
  ·
   have he : ¬ l'.toList = [] := by
    intro he
    rw [Lib.toList_data] at he
    exact h0 (by rw [Lib.size_eq, he]; rfl)
   have hi : (!l'.toList.isEmpty) = true := by simp [he]
   have hlt := adv_lt l' h0
   have hdb := dn_bounds l' h0
   have had := adv_size l'
   have hm : tlen b wr = l'.size := tlen_of ht
   have HM := Lib.hid hm
   have HA := Lib.hid had
   have hpa : p' + 1 + (adv l').size + 1 ≤ 1099511627776 := by omega
   have hlena : acc.length + 4 + 4 * (adv l').size ≤ 4398046511104 := by omega
   have hdr := dr_le l'
   clear hm had
   by_cases h34 : dr l' = 34
   ·
    have hfin : R = ((if fine = false then (Tok.no, 9) else if 256 < acc.length then (Tok.no, 4) else (⟨5, ⟨acc.toArray⟩, 0, 0⟩, 0)), adv l', p' + 1) := by rw [← HS.out]; exact textF_close h0 h34
    have h34b : (dr l' == 34) = true := by simp [h34]
    have HF := Lib.hid hfin
    clear hfin h34
    go_wp2_with (go_at_call 101; refine (peek_any b l' p' _ hGr ht).mono ?_)
    rintro e w2 ⟨rfl, hb2⟩
    have hG2 := hGr.self hb2
    have ht2 := ht.below hb2 ht.lt
    go_wp2_with (go_at_call 102; refine (step_any b l' p' _ hG2 ht2 (by omega)).mono ?_)
    rintro e w3 ⟨rfl, ht3, hg3⟩
    rw [stepP_pos p' h0] at ht3
    have hbl3 := IsBuilderF_gb (IsBuilderF_below hbl hb2) hg3 (by omega)
    have hc43 := (hc4.below hb2 (by omega)).gb hg3 (by omega)
    have hgb3 := gb_trans (gb_trans hgb (gb_of_below hb2 _)) hg3
    have hsz3 : w.heap.size + 1 < w3.heap.size := by have := hb2.size; have := hg3.size; omega
    clear ht ht2 hbl hc4 hgb hg3 hb2 hG2 hGr c0
    have r0 := hc43.c0
    have r1 := hc43.c1
    have r2 := hc43.c2
    have r3 := hc43.c3
    have fr := hc43.f
    cases fine with
    | false =>
     have h4 := put4_cell hc43 Tok.no
     have ht4 := put4_tape (t := Tok.no) ht3 (by omega : b ≠ w.heap.size)
     have hg4 := put4_gb Tok.no hgb3 (Nat.le_refl _)
     go_wp2_with fail
     refine bodyPost_ret (v := .tuple #[Tok.no.v, .int .i64 9]) ?_ rfl ⟨by rw [HF.out]; rfl, by rw [HF.out]; exact ht4, hg4⟩
     exact results4 rfl h4 rfl rfl
    | true =>
     by_cases hlong : 256 < acc.length
     ·
      have hlI : (256 : Int) < ((Lib.byteCells acc).length : Nat) := by rw [Lib.byteCells_length]; omega
      have h4 := put4_cell hc43 Tok.no
      have ht4 := put4_tape (t := Tok.no) ht3 (by omega : b ≠ w.heap.size)
      have hg4 := put4_gb Tok.no hgb3 (Nat.le_refl _)
      go_wp2_with (go_at_call 121; refine (Tryz.Builder_Len_f _ _ _ _ hbl3).mono ?_; rintro e w4 ⟨rfl, rfl⟩)
      refine bodyPost_ret (v := .tuple #[Tok.no.v, .int .i64 4]) ?_ rfl ⟨by rw [HF.out, if_neg (by simp), if_pos hlong], by rw [HF.out]; exact ht4, hg4⟩
      exact results4 rfl h4 rfl rfl
     ·
      have hlI : ¬ (256 : Int) < ((Lib.byteCells acc).length : Nat) := by rw [Lib.byteCells_length]; omega
      go_wp2_with (first | (go_at_call 121; refine (Tryz.Builder_Len_f _ _ _ _ hbl3).mono ?_; rintro e w4 ⟨rfl, rfl⟩) | (go_at_call 122; refine (Tryz.Builder_String_any_k _ _ acc _ hbl3 (by omega)).mono ?_))
      rintro e w4 ⟨rfl, _, hb4, _⟩
      have ht5 := ht3.below hb4 (by omega)
      have hc5 := hc43.below hb4 (by omega)
      have hgb5 := gb_then_below hgb3 hb4 (by omega)
      clear r0 r1 r2 r3 fr ht3 hc43 hgb3 hbl3
      have r0 := hc5.c0
      have r1 := hc5.c1
      have r2 := hc5.c2
      have r3 := hc5.c3
      have fr := hc5.f
      have h4 := put4_cell hc5 ⟨5, ⟨acc.toArray⟩, 0, 0⟩
      have ht4 := put4_tape (t := ⟨5, ⟨acc.toArray⟩, 0, 0⟩) ht5 (by omega : b ≠ w.heap.size)
      have hg4 := put4_gb ⟨5, ⟨acc.toArray⟩, 0, 0⟩ hgb5 (Nat.le_refl _)
      go_wp2_with fail
      refine bodyPost_ret (v := .tuple #[Tok.v ⟨5, ⟨acc.toArray⟩, 0, 0⟩, .int .i64 0]) ?_ rfl ⟨by rw [HF.out, if_neg (by simp), if_neg hlong], by rw [HF.out]; exact ht4, hg4⟩
      exact results4 rfl h4 rfl rfl
   ·
    have h34b : (dr l' == 34) = false := by simp [h34]
    by_cases h92 : dr l' = 92
    ·
     have h92b : (dr l' == 92) = true := by simp [h92]
     cases hes : (escF (adv l') (p' + 1)).1.isSome with
     | false =>
      have hfin : R = ((Tok.no, 13), (escF (adv l') (p' + 1)).2.1, (escF (adv l') (p' + 1)).2.2) := by rw [← HS.out]; exact textF_bad h0 h92 hes
      have HF := Lib.hid hfin
      have HE := Lib.hid hes
      clear hfin h34 h92 hes
      go_wp2_with (go_at_call 101; refine (peek_any b l' p' _ hGr ht).mono ?_)
      rintro e w2 ⟨rfl, hb2⟩
      have hG2 := hGr.self hb2
      have ht2 := ht.below hb2 ht.lt
      go_wp2_with (go_at_call 102; refine (step_any b l' p' _ hG2 ht2 (by omega)).mono ?_)
      rintro e w3 ⟨rfl, ht3, hg3⟩
      rw [stepP_pos p' h0] at ht3
      have hG3 := hG2.gb hb8 hg3
      have hc43 := (hc4.below hb2 (by omega)).gb hg3 (by omega)
      have hgb3 := gb_trans (gb_trans hgb (gb_of_below hb2 _)) hg3
      clear ht ht2 hbl hc4 hgb hg3 hb2 hG2 hGr c0
      go_wp2_with (go_at_call 123; refine (escape_any b _ _ _ hG3 hb8 ht3 (by omega)).mono ?_)
      rintro e w4 ⟨rfl, ht4', hg4'⟩
      rw [HE.out]
      have hc5 := hc43.gb hg4' (by omega)
      have hgb5 := gb_trans hgb3 hg4'
      clear ht3 hc43 hgb3 hg4' hG3
      have r0 := hc5.c0
      have r1 := hc5.c1
      have r2 := hc5.c2
      have r3 := hc5.c3
      have fr := hc5.f
      have h4 := put4_cell hc5 Tok.no
      have ht4 := put4_tape (t := Tok.no) ht4' (by omega : b ≠ w.heap.size)
      have hg4 := put4_gb Tok.no hgb5 (Nat.le_refl _)
      go_wp2_with fail
      refine bodyPost_ret (v := .tuple #[Tok.no.v, .int .i64 13]) ?_ rfl ⟨by rw [HF.out], by rw [HF.out]; exact ht4, hg4⟩
      exact results4 rfl h4 rfl rfl
     | true =>
      have hnext : textF fine (acc ++ Lib.encodeRune ((escF (adv l') (p' + 1)).1.getD 0)) (escF (adv l') (p' + 1)).2.1 (escF (adv l') (p' + 1)).2.2 = R := by rw [← HS.out]; exact (textF_esc h0 h92 hes).symm
      have HN := Lib.hid hnext
      have HE := Lib.hid hes
      have hesz := escF_size (adv l') (p' + 1)
      have hxr : -2147483648 ≤ (escF (adv l') (p' + 1)).1.getD 0 ∧ (escF (adv l') (p' + 1)).1.getD 0 ≤ 2147483647 := by have := escF_range (adv l') (p' + 1); omega
      clear hnext h34 h92 hes
      go_wp2_with (go_at_call 101; refine (peek_any b l' p' _ hGr ht).mono ?_)
      rintro e w2 ⟨rfl, hb2⟩
      have hG2 := hGr.self hb2
      have ht2 := ht.below hb2 ht.lt
      go_wp2_with (go_at_call 102; refine (step_any b l' p' _ hG2 ht2 (by omega)).mono ?_)
      rintro e w3 ⟨rfl, ht3, hg3⟩
      rw [stepP_pos p' h0] at ht3
      have hG3 := hG2.gb hb8 hg3
      have hbl3 := IsBuilderF_gb (IsBuilderF_below hbl hb2) hg3 (by omega)
      have hc43 := (hc4.below hb2 (by omega)).gb hg3 (by omega)
      have hgb3 := gb_trans (gb_trans hgb (gb_of_below hb2 _)) hg3
      have hsz3 : w.heap.size + 1 < w3.heap.size := by have := hb2.size; have := hg3.size; omega
      clear ht ht2 hbl hc4 hgb hg3 hb2 hG2 hGr c0
      go_wp2_with (go_at_call 123; refine (escape_any b _ _ _ hG3 hb8 ht3 (by omega)).mono ?_)
      rintro e w4 ⟨rfl, ht5, hg5⟩
      rw [HE.out]
      have hbl5 := IsBuilderF_gb hbl3 hg5 (by omega)
      have hc5 := hc43.gb hg5 (by omega)
      have hgb5 := gb_trans hgb3 hg5
      have hsz5 : w.heap.size + 1 < w4.heap.size := by have := hg5.size; omega
      clear ht3 hc43 hgb3 hg5 hG3 hbl3 hsz3
      obtain ⟨X, hX⟩ : ∃ X, escF (adv l') (p' + 1) = X := ⟨_, rfl⟩
      rw [hX] at HN hesz hxr ht5 ⊢
      clear hX HE
      go_wp2_with (go_at_call 124; refine (WriteRune_k _ _ (Lib.byteCells acc) _ hxr.1 hxr.2 _ hbl5 (by rw [Lib.byteCells_length]; omega) (by omega)).mono ?_)
      rintro e w6 ⟨rfl, hbl6, hb6, _⟩
      have ht6 := ht5.below hb6 (by omega)
      have hc6 := hc5.below hb6 (by omega)
      have hgb6 := gb_then_below hgb5 hb6 (by omega)
      have hsz6 : w.heap.size + 1 < w6.heap.size := by have := hb6.size; omega
      have hen := encodeRune_len (X.1.getD 0)
      rw [← Lib.byteCells_encodeRune, ← Lib.byteCells_append] at hbl6
      clear ht5 hc5 hgb5 hbl5 hb6 hsz5
      go_wp2
      go_roundw
      case rel => exact ⟨fine, acc ++ Lib.encodeRune (X.1.getD 0), X.2.1, X.2.2, rfl, ht6, Or.inr hbl6, hc6, hgb6, HN, by omega, by simp; omega, hsz6⟩
      case measure => rw [HM.out, tlen_of ht6]; omega
    ·
     have h92b : (dr l' == 92) = false := by simp [h92]
     have hnext : textF (fine && stepOk l') (acc ++ Lib.encodeRune (dr l')) (adv l') (p' + 1) = R := by rw [← HS.out]; exact (textF_rune h0 h34 h92).symm
     have HN := Lib.hid hnext
     clear hnext h34 h92
     go_wp2_with (go_at_call 101; refine (peek_any b l' p' _ hGr ht).mono ?_)
     rintro e w2 ⟨rfl, hb2⟩
     have hG2 := hGr.self hb2
     have ht2 := ht.below hb2 ht.lt
     go_wp2_with (go_at_call 102; refine (step_any b l' p' _ hG2 ht2 (by omega)).mono ?_)
     rintro e w3 ⟨rfl, ht3, hg3⟩
     rw [stepP_pos p' h0] at ht3
     have hbl3 := IsBuilderF_gb (IsBuilderF_below hbl hb2) hg3 (by omega)
     have hc43 := (hc4.below hb2 (by omega)).gb hg3 (by omega)
     have hgb3 := gb_trans (gb_trans hgb (gb_of_below hb2 _)) hg3
     have hsz3 : w.heap.size + 1 < w3.heap.size := by have := hb2.size; have := hg3.size; omega
     clear ht ht2 hbl hc4 hgb hg3 hb2 hG2 hGr c0
     cases fine
     all_goals
      go_wp2_with (go_at_call 124; refine (WriteRune_k _ _ (Lib.byteCells acc) (dr l') (by omega) (by omega) _ hbl3 (by rw [Lib.byteCells_length]; omega) (by omega)).mono ?_)
      rintro e w6 ⟨rfl, hbl6, hb6, _⟩
      have ht6 := ht3.below hb6 (by omega)
      have hc6 := hc43.below hb6 (by omega)
      have hgb6 := gb_then_below hgb3 hb6 (by omega)
      have hsz6 : w.heap.size + 1 < w6.heap.size := by have := hb6.size; omega
      have hen := encodeRune_len (dr l')
      rw [← Lib.byteCells_encodeRune, ← Lib.byteCells_append] at hbl6
      go_wp2
      go_roundw
      case rel => exact ⟨_, acc ++ Lib.encodeRune (dr l'), adv l', p' + 1, rfl, ht6, Or.inr hbl6, hc6, hgb6, HN, by omega, by simp; omega, hsz6⟩
      case measure => rw [HM.out, tlen_of ht6]; omega
end Go.Proofs.YtgjfbbmachoolaaGreatDoor.lx
namespace Go.Proofs.YtgjfbbmachoolaaGreatDoor.lx
open Go.RowKit

theorem results1 {fn : Func} {q : Tmp} (hf : fn.results = #[.cell q 144]) {tmps : Array Value} {B : Nat} {t : Tok} {w : World} (h : Cell4 B t w)
  (hq : tmps.getD q undef = .pointer (some ⟨B, 0, none⟩)) : (results fn tmps).run Tryz.prog w = .ok t.v w :=
 results_cell_row hf tmps w B 144 _ (0, 0) _ hq h Tryz.underlying144 rfl (by kernel_rfl)

theorem keep_cellP {w w' : World} (hb : Below w.heap.size w w') {b o : Nat} {u : Value} (h : w.cell? ⟨b, o, none⟩ = some u) : w'.cell? ⟨b, o, none⟩ = some u :=
 (World.cell?_of_block (a := ⟨b, o, none⟩) (hb.block b (World.block_lt_of_cell? w _ h))).trans h
theorem fldk (a b c d : Value) (W : World) : (Instr.field 144 (.agg #[a, b, c, d]) 0).run Tryz.prog W = .ok a W := by kernel_rfl
theorem flds (a b c d : Value) (W : World) : (Instr.field 144 (.agg #[a, b, c, d]) 1).run Tryz.prog W = .ok b W := by kernel_rfl
theorem flda (a b c d : Value) (W : World) : (Instr.field 144 (.agg #[a, b, c, d]) 3).run Tryz.prog W = .ok d W := by kernel_rfl

/-- tokens that lie in a block below A -/
def TRow (A : Nat) (ao : Option Addr) (l : List Tok) (w : World) : Prop :=
 l.length = 0 ∨ ∃ b o, ao = some ⟨b, o, none⟩ ∧ b < A ∧ ∀ (i : Nat) t, l[i]? = some t →
  w.cell? ⟨b, o + i * 4, none⟩ = some (.int .u8 t.k) ∧ w.cell? ⟨b, o + i * 4 + 1, none⟩ = some (.string t.s) ∧ w.cell? ⟨b, o + i * 4 + 2, none⟩ = some (.int .i64 t.n) ∧ w.cell? ⟨b, o + i * 4 + 3, none⟩ = some (.int .i64 t.a)
theorem TRow.kept {A : Nat} {ao : Option Addr} {l : List Tok} {w w' : World} (h : TRow A ao l w) (hk : ∀ k, k < A → w'.heap[k]? = w.heap[k]?) : TRow A ao l w' := by
 rcases h with h | ⟨b, o, h1, h2, h3⟩
 ·
  exact .inl h
 ·
  refine .inr ⟨b, o, h1, h2, fun i t ht => ?_⟩
  obtain ⟨c0, c1, c2, c3⟩ := h3 i t ht
  have hb := hk b h2
  exact ⟨(World.cell?_of_block (a := ⟨b, _, none⟩) hb).trans c0, (World.cell?_of_block (a := ⟨b, _, none⟩) hb).trans c1, (World.cell?_of_block (a := ⟨b, _, none⟩) hb).trans c2, (World.cell?_of_block (a := ⟨b, _, none⟩) hb).trans c3⟩
theorem TRow.cons {A : Nat} {ao : Option Addr} {t : Tok} {l : List Tok} {w : World} (h : TRow A ao (t :: l) w) : ∃ b o, ao = some ⟨b, o, none⟩ ∧ b < A ∧
  w.cell? ⟨b, o, none⟩ = some (.int .u8 t.k) ∧ w.cell? ⟨b, o + 1, none⟩ = some (.string t.s) ∧ w.cell? ⟨b, o + 2, none⟩ = some (.int .i64 t.n) ∧ w.cell? ⟨b, o + 3, none⟩ = some (.int .i64 t.a) ∧
  TRow A (some ⟨b, o + 4, none⟩) l w := by
 obtain ⟨b, o, h1, h2, h3⟩ := h.resolve_left (by simp)
 obtain ⟨c0, c1, c2, c3⟩ := h3 0 t rfl
 simp only [Nat.zero_mul, Nat.add_zero] at c0 c1 c2 c3
 refine ⟨b, o, h1, h2, c0, c1, c2, c3, .inr ⟨b, o + 4, rfl, h2, fun i t' ht => ?_⟩⟩
 have := h3 (i + 1) t' (by simpa using ht)
 rw [show o + (i + 1) * 4 = o + 4 + i * 4 by omega] at this
 exact this
theorem TRow.nil (A : Nat) (ao : Option Addr) (w : World) : TRow A ao [] w := .inl rfl

/-- the walk's block -/
def AtW (A : Nat) (l : List Tok) (fin op : Int) (sv : Value) (w : World) : Prop :=
 ∃ ao cap, w.heap[A]? = some (.cells #[.slice ao l.length cap, .int .i64 fin, .int .i64 op, sv] 119 (0, 0)) ∧ l.length ≤ cap ∧ cap ≤ 9223372036854775807 ∧ TRow A ao l w
theorem AtW.lt {A : Nat} {l : List Tok} {fin op : Int} {sv : Value} {w : World} (h : AtW A l fin op sv w) : A < w.heap.size := by
 obtain ⟨_, _, h, _⟩ := h
 exact (Array.getElem?_eq_some_iff.1 h).1
theorem AtW.kept {A : Nat} {l : List Tok} {fin op : Int} {sv : Value} {w w' : World} (h : AtW A l fin op sv w) (hk : ∀ k, k ≤ A → w'.heap[k]? = w.heap[k]?) : AtW A l fin op sv w' := by
 obtain ⟨ao, cap, h1, h2, h3, h4⟩ := h
 exact ⟨ao, cap, (hk A (Nat.le_refl _)).trans h1, h2, h3, h4.kept fun k hk' => hk k (by omega)⟩
theorem AtW.below {A : Nat} {l : List Tok} {fin op : Int} {sv : Value} {w w' : World} (h : AtW A l fin op sv w) (hb : Below w.heap.size w w') : AtW A l fin op sv w' :=
 h.kept fun k hk => hb.block k (by have := h.lt; omega)

/-- the next token; of no kind, if there is none -/
def tokAt (l : List Tok) (fin : Int) : Tok := match l with | [] => ⟨0, ⟨#[]⟩, 0, fin⟩ | t :: _ => t

set_option maxHeartbeats 4000000 in
set_option maxRecDepth 100000 in
theorem wpeek_any {A : Nat} {l : List Tok} {fin op : Int} {sv : Value} {w : World} (h : AtW A l fin op sv w) :
  Calls Tryz.prog 105 #[.pointer (some ⟨A, 0, none⟩)] w fun e w' => e = .returned (tokAt l fin).v ∧ Below w.heap.size w w' := by
 have hlt := h.lt
 obtain ⟨ao, cap, hA, hc, hm, hT⟩ := h
 have c0 : w.cell? ⟨A, 0, none⟩ = some (.slice ao l.length cap) := by rw [Lib.cell_of_heap hA]; rfl
 have c1 : w.cell? ⟨A, 1, none⟩ = some (.int .i64 fin) := by rw [Lib.cell_of_heap hA]; rfl
 clear hA
 cases l with
 | nil =>
  simp only [List.length_nil] at c0
  go_enter Tryz.func105, Tryz.ntmps105
  go_wp2_with fail
  refine bodyPost_ret (v := (⟨0, ⟨#[]⟩, 0, fin⟩ : Tok).v) (results1 rfl (B := w.heap.size) ?_ rfl) rfl ⟨rfl, (Below.refl w.heap.size w).alloc (Nat.le_refl _) _⟩
  unfold Cell4
  rw [heap_alloc_new]
 | cons t l =>
  obtain ⟨b, o, rfl, hb, d0, d1, d2, d3, _⟩ := hT.cons
  clear hT
  have hl0 : ((l.length : Int) + 1 == 0) = false := by simp; omega
  have hbw : b < w.heap.size := by omega
  simp only [List.length_cons] at c0
  go_enter Tryz.func105, Tryz.ntmps105
  go_wp2_with fail
  refine bodyPost_ret (v := t.v) (results1 rfl (B := w.heap.size) ?_ rfl) rfl ⟨rfl, (Below.refl w.heap.size w).alloc (Nat.le_refl _) _⟩
  unfold Cell4
  rw [heap_alloc_new]

set_option maxHeartbeats 4000000 in
set_option maxRecDepth 100000 in
theorem must_yes {p : Value} {why : Int} {w : World} {is : Bool} (hi : is = true) :
  Calls Tryz.prog 92 #[p, .bool is, .int .i64 why] w fun e w' => e = .returned (.tuple #[]) ∧ w = w' := by
 subst hi
 go_enter Tryz.func92, Tryz.ntmps92
 go_wp2_with fail
 exact bodyPost_end (results_none rfl _ _ _) rfl ⟨rfl, rfl⟩
set_option maxHeartbeats 4000000 in
set_option maxRecDepth 100000 in
theorem must_no {A : Nat} {l : List Tok} {fin op why : Int} {sv : Value} {w : World} {is : Bool} (hi : is = false) (h : AtW A l fin op sv w) :
  Calls Tryz.prog 92 #[.pointer (some ⟨A, 0, none⟩), .bool is, .int .i64 why] w fun e w' => e = .panicked [{ v := .iface 115 (.agg #[.int .i64 why, .int .i64 (tokAt l fin).a]), recovered := false }] ∧ Below w.heap.size w w' := by
 go_enter Tryz.func92, Tryz.ntmps92
 obtain ⟨t, ht⟩ : ∃ t, tokAt l fin = t := ⟨_, rfl⟩
 have hp := wpeek_any h
 rw [ht] at hp ⊢
 unfold Tok.v at hp
 have hfl := flda (.int .u8 t.k) (.string t.s) (.int .i64 t.n) (.int .i64 t.a)
 clear h
 go_wp2_with (go_at_call 105; refine hp.mono ?_; rintro e w2 ⟨rfl, hb2⟩; refine Hid.out ?_)
 refine Lib.hid ?_
 go_wp2_with fail
 exact ⟨rfl, rfl, hb2⟩
set_option maxHeartbeats 4000000 in
set_option maxRecDepth 100000 in
theorem closes_any {A : Nat} {l : List Tok} {fin op : Int} {sv : Value} {w : World} (h : AtW A l fin op sv w) :
  Calls Tryz.prog 107 #[.pointer (some ⟨A, 0, none⟩)] w fun e w' => e = .returned (.bool ((tokAt l fin).k == 2)) ∧ Below w.heap.size w w' := by
 obtain ⟨t, ht⟩ : ∃ t, tokAt l fin = t := ⟨_, rfl⟩
 have hp := wpeek_any h
 rw [ht] at hp ⊢
 unfold Tok.v at hp
 have hfl := fldk (.int .u8 t.k) (.string t.s) (.int .i64 t.n) (.int .i64 t.a)
 clear h
 go_enter Tryz.func107, Tryz.ntmps107
 go_wp2_with (go_at_call 105; refine hp.mono ?_; rintro e w2 ⟨rfl, hb2⟩; refine Hid.out ?_)
 refine Lib.hid ?_
 go_wp2_with fail
 go_ret
 exact ⟨rfl, hb2⟩
end Go.Proofs.YtgjfbbmachoolaaGreatDoor.lx
