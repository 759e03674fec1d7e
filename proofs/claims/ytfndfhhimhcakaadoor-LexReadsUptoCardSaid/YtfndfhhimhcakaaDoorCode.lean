/-
  The lexer's code (a rune by its number in an escape), for every tape. Conditions: the tape lies in a block behind the package-level variables, which are laid; a text's place is below 2^62.
-/
import Derived.Test.YtfndfhhimhcakaaDoorHex
import Derived.BigRegion
namespace Go.Proofs.YtfndfhhimhcakaaDoor.lx
open Go.RowKit

theorem cell_of_var {w : World} {name : String} {g : Nat} {v : Value} (hg : Tryd.prog.globalNamed name = some g) (h : w.var? Tryd.prog name = some #[v]) : w.cell? ⟨g, 0, none⟩ = some v := by
  simp only [World.var?, hg, Option.bind_some] at h
  split at h
  · rename_i cs _ _ he
    injection h with h
    subst h
    simp [World.cell?, he]
  · cases h

set_option maxHeartbeats 2000000 in
set_option maxRecDepth 100000 in
theorem pu_ok (s : ByteArray) (hne : s.size ≠ 0) (hmax : s.size ≤ 6) (n : Nat) (h : hexN 0 s.data.toList = some n) (w : World) :
    Calls Tryd.prog 63 #[.string s, .int .i64 16, .int .i64 32] w fun e w' => e = .returned (.tuple #[.int .u64 n, .nilIface]) ∧ Below w.heap.size w w' := by
  have hI := iParseUint16 s hne hmax w
  rw [h] at hI
  have hI : Calls Tryd.prog 66 #[.string s, .int .i64 16, .int .i64 32] w fun e w' => e = .returned (.tuple #[.int .u64 n, .nilIface]) ∧ Below w.heap.size w w' :=
    hI.mono fun e w' ⟨h1, h2⟩ => ⟨h1, by rw [h2]; exact Lib.bytesWorld_below _ _ _⟩
  clear h
  go_enter Tryd.func63, Tryd.ntmps63
  go_wp2_with (go_at_call 66; refine hI.mono ?_; rintro e W1 ⟨rfl, hW⟩)
  go_wp2
  go_ret2
  exact ⟨rfl, hW⟩

set_option maxHeartbeats 2000000 in
set_option maxRecDepth 100000 in
theorem pu_bad (s : ByteArray) (hne : s.size ≠ 0) (hmax : s.size ≤ 6) (h : hexN 0 s.data.toList = none) (w : World) (hG : Glob w) :
    Calls Tryd.prog 63 #[.string s, .int .i64 16, .int .i64 32] w fun e w' => ∃ N, e = .returned (.tuple #[.int .u64 0, .iface 110 (.pointer (some ⟨N, 0, none⟩))]) ∧ Below w.heap.size w w' := by
  obtain ⟨tp, pv, hvar⟩ := hG.esy
  have hv := cell_of_var g_esy hvar
  have hI := iParseUint16 s hne hmax w
  rw [h] at hI
  have hI : Calls Tryd.prog 66 #[.string s, .int .i64 16, .int .i64 32] w fun e w' => e = .returned (.tuple #[.int .u64 0, .iface 109 (.int .i64 2)]) ∧ Below w.heap.size w w' :=
    hI.mono fun e w' ⟨h1, h2⟩ => ⟨h1, by rw [h2]; exact Lib.bytesWorld_below _ _ _⟩
  have hg0 : 3 < w.heap.size := Nat.lt_of_lt_of_le (by decide) hG.size
  clear h hvar
  go_enter Tryd.func63, Tryd.ntmps63
  go_wp2_with (go_at_call 66; refine hI.mono ?_)
  rintro e W1 ⟨rfl, hb1⟩
  have hv1 : W1.cell? ⟨3, 0, none⟩ = some (.iface tp pv) := (hb1.cell (p := ⟨3, 0, none⟩) hg0).trans hv
  go_wp2_with (go_at_call 52; refine (Tryd.strconv_toError_syntax ⟨#[80, 97, 114, 115, 101, 85, 105, 110, 116]⟩ s 16 32 (.iface tp pv) _ (by omega) hv1 (.inr ⟨_, _, rfl⟩)).mono ?_)
  rintro e W2 ⟨N, rfl, _, _, h3⟩
  go_wp2
  go_ret2
  exact ⟨N, rfl, below_self hb1 h3⟩

def cset : List UInt8 := [48, 49, 50, 51, 52, 53, 54, 55, 56, 57, 97, 98, 99, 100, 101, 102]
def codeX (l : ByteArray) (e : Nat) : ByteArray := l.extract 1 e
/-- what code reads: the rune, and where the closing brace stands -/
def codeF (l : ByteArray) : Option (Nat × Nat) :=
  if Lib.hasPrefix l.data.toList [123] = false then none
  else if Lib.indexByte l.data.toList 125 < 2 ∨ 7 < Lib.indexByte l.data.toList 125 then none
  else match hexN 0 (codeX l (Lib.indexByte l.data.toList 125).toNat).data.toList with
    | none => none
    | some n => if Lib.trimS (codeX l (Lib.indexByte l.data.toList 125).toNat).data.toList cset ≠ [] then none
      else if Lib.validRune n = false then none else some (n, (Lib.indexByte l.data.toList 125).toNat)

theorem idx_lt (l : List UInt8) (c : UInt8) : Lib.indexByte l c < l.length := by
  induction l with
  | nil => simp [Lib.indexByte]
  | cons b l ih =>
    simp only [Lib.indexByte, List.length_cons]
    repeat' split
    all_goals omega
theorem hexN_lt (l : List UInt8) : ∀ (acc n k : Nat), acc < 16 ^ k → hexN acc l = some n → n < 16 ^ (k + l.length) := by
  induction l with
  | nil => intro acc n k h h'; simp [hexN] at h'; subst h'; simpa using h
  | cons c l ih =>
    intro acc n k h h'
    cases hv : hexv c.toNat with
    | none => rw [hexN_cons_none hv] at h'; cases h'
    | some d =>
      rw [hexN_cons_some hv] at h'
      have hd := hexv_lt hv
      have := ih (acc * 16 + d) n (k + 1) (by rw [Nat.pow_succ]; omega) h'
      simpa [List.length_cons, Nat.add_comm, Nat.add_left_comm, Nat.add_assoc] using this

set_option maxHeartbeats 4000000 in
set_option maxRecDepth 100000 in
theorem code_no (b : Nat) (l : ByteArray) (p : Nat) (w : World) (hG : Glob w) (h : Tape b l p w) (hn : codeF l = none) :
    Calls Tryd.prog 49 #[.pointer (some ⟨b, 0, none⟩)] w fun e w' => e = .returned (.tuple #[.int .i32 0, .bool false]) ∧ Below w.heap.size w w' := by
  have c0 := h.c0
  have hp : ∀ w, Calls Tryd.prog 61 #[.string l, .string ⟨#[123]⟩] w fun e w' => e = .returned (.bool (Lib.hasPrefix l.data.toList [123])) ∧ w' = w := fun w => Tryd.strings_HasPrefix l ⟨#[123]⟩ w
  cases hpx : Lib.hasPrefix l.data.toList [123] with
  | false =>
    rw [hpx] at hp
    have HP := Lib.hid hp
    clear hp hpx hn
    go_enter Tryd.func49, Tryd.ntmps49
    go_wp2_with (go_at_call 61; refine (HP.out _).mono ?_; rintro e w' ⟨rfl, rfl⟩)
    go_ret2
    exact ⟨rfl, Below.refl _ _⟩
  | true =>
    rw [hpx] at hp
    have HP := Lib.hid hp
    have hi : ∀ w, Calls Tryd.prog 62 #[.string l, .int .u8 125] w fun e w' => e = .returned (.int .i64 (Lib.indexByte l.data.toList 125)) ∧ w' = w := fun w => Tryd.strings_IndexByte l 125 w
    have hlt := idx_lt l.data.toList 125
    rw [← Lib.size_eq] at hlt
    simp only [codeF, hpx, Bool.true_eq_false, if_false] at hn
    obtain ⟨j, hj⟩ : ∃ j, Lib.indexByte l.data.toList 125 = j := ⟨_, rfl⟩
    rw [hj] at hi hn hlt
    have HI := Lib.hid hi
    clear hp hpx hi hj
    by_cases h2 : j < 2
    · clear hn
      go_enter Tryd.func49, Tryd.ntmps49
      go_wp2_with (first | (go_at_call 61; refine (HP.out _).mono ?_; rintro e w' ⟨rfl, rfl⟩) | (go_at_call 62; refine (HI.out _).mono ?_; rintro e w' ⟨rfl, rfl⟩))
      go_ret2
      exact ⟨rfl, Below.refl _ _⟩
    · by_cases h7 : 7 < j
      · clear hn
        go_enter Tryd.func49, Tryd.ntmps49
        go_wp2_with (first | (go_at_call 61; refine (HP.out _).mono ?_; rintro e w' ⟨rfl, rfl⟩) | (go_at_call 62; refine (HI.out _).mono ?_; rintro e w' ⟨rfl, rfl⟩))
        go_ret2
        exact ⟨rfl, Below.refl _ _⟩
      · rw [if_neg (by omega)] at hn
        obtain ⟨m, rfl⟩ : ∃ m : Nat, j = m := ⟨j.toNat, by omega⟩
        simp only [Int.toNat_natCast] at hn
        have hxs : (codeX l m).size = m - 1 := by simp [codeX, ByteArray.size_extract]; omega
        have hex : l.extract 1 m = codeX l m := rfl
        obtain ⟨x, hx⟩ : ∃ x, codeX l m = x := ⟨_, rfl⟩
        rw [hx] at hxs hn hex
        clear hx
        have hm1 : 1 ≤ m := by omega
        have hm2 : m ≤ l.size := by omega
        have hx6 : x.size ≤ 6 := by omega
        have hx0 : x.size ≠ 0 := by omega
        cases hh : hexN 0 x.data.toList with
        | none =>
          have hpu := fun w hG => pu_bad x hx0 hx6 hh w hG
          have HU := Lib.hid hpu
          clear hpu hh hn hxs hx0
          go_enter Tryd.func49, Tryd.ntmps49
          go_wp2_with (first | (go_at_call 61; refine (HP.out _).mono ?_; rintro e w' ⟨rfl, rfl⟩) | (go_at_call 62; refine (HI.out _).mono ?_; rintro e w' ⟨rfl, rfl⟩) | (go_at_call 63; refine (HU.out _ hG).mono ?_; rintro e w1 ⟨N, rfl, hb1⟩))
          go_ret2
          exact ⟨rfl, hb1⟩
        | some n =>
          have hpu := fun w => pu_ok x hx0 hx6 n hh w
          have HU := Lib.hid hpu
          have hn24 : n < 16777216 := by
            have := hexN_lt x.data.toList 0 n 0 (by decide) hh
            rw [Nat.zero_add, ← Lib.size_eq] at this
            exact Nat.lt_of_lt_of_le this (Nat.le_trans (Nat.pow_le_pow_right (by decide) hx6) (by decide))
          rw [hh] at hn
          simp only at hn
          have htr := fun w => Tryd.strings_Trim_laid x ⟨#[48, 49, 50, 51, 52, 53, 54, 55, 56, 57, 97, 98, 99, 100, 101, 102]⟩ w (by omega) (by decide) (ascii_of_all (by decide))
          have hcs : (⟨#[48, 49, 50, 51, 52, 53, 54, 55, 56, 57, 97, 98, 99, 100, 101, 102]⟩ : ByteArray).data.toList = cset := rfl
          rw [hcs] at htr
          obtain ⟨tr, htrE⟩ : ∃ tr, Lib.trimS x.data.toList cset = tr := ⟨_, rfl⟩
          rw [htrE] at htr hn
          have hvr : ∀ w, Calls Tryd.prog 65 #[.int .i32 n] w fun e w' => e = .returned (.bool (Lib.validRune n)) ∧ w' = w := fun w => Tryd.utf8_ValidRune n w
          cases tr with
          | cons y ys =>
            have HT := Lib.hid htr
            have hne : (!(⟨(y :: ys).toArray⟩ : ByteArray).toList.isEmpty) = true := by rw [Lib.toList_data]; rfl
            clear htr hcs htrE hvr hpu hh hn hxs hx0
            go_enter Tryd.func49, Tryd.ntmps49
            go_wp2_with (first | (go_at_call 61; refine (HP.out _).mono ?_; rintro e w' ⟨rfl, rfl⟩) | (go_at_call 62; refine (HI.out _).mono ?_; rintro e w' ⟨rfl, rfl⟩) | (go_at_call 63; refine (HU.out _).mono ?_; rintro e w1 ⟨rfl, hb1⟩) | (go_at_call 64; refine (HT.out _).mono ?_; rintro e w2 ⟨rfl, hb2⟩))
            go_ret2
            exact ⟨rfl, below_self hb1 hb2⟩
          | nil =>
            cases hvx : Lib.validRune n with
            | true => simp [hvx] at hn
            | false =>
              rw [hvx] at hvr
              have HT := Lib.hid htr
              have HV := Lib.hid hvr
              clear htr hcs htrE hvr hpu hh hn hxs hx0 hvx
              go_enter Tryd.func49, Tryd.ntmps49
              go_wp2_with (first | (go_at_call 61; refine (HP.out _).mono ?_; rintro e w' ⟨rfl, rfl⟩) | (go_at_call 62; refine (HI.out _).mono ?_; rintro e w' ⟨rfl, rfl⟩) | (go_at_call 63; refine (HU.out _).mono ?_; rintro e w1 ⟨rfl, hb1⟩) | (go_at_call 64; refine (HT.out _).mono ?_; rintro e w2 ⟨rfl, hb2⟩) | (go_at_call 65; refine (HV.out _).mono ?_; rintro e w3 ⟨rfl, rfl⟩))
              go_ret2
              exact ⟨rfl, below_self hb1 hb2⟩

set_option maxHeartbeats 4000000 in
set_option maxRecDepth 100000 in
theorem code_yes (b : Nat) (l : ByteArray) (p : Nat) (w : World) (hG : Glob w) (h : Tape b l p w) (hl : p + l.size ≤ 4611686018427387904) (n m : Nat) (hn : codeF l = some (n, m)) :
    Calls Tryd.prog 49 #[.pointer (some ⟨b, 0, none⟩)] w fun e w' => e = .returned (.tuple #[.int .i32 n, .bool true]) ∧ Tape b (l.extract (m + 1) l.size) (p + m + 1) w' ∧ w.grownBy w' (some b) := by
  have c0 := h.c0
  have hp : ∀ w, Calls Tryd.prog 61 #[.string l, .string ⟨#[123]⟩] w fun e w' => e = .returned (.bool (Lib.hasPrefix l.data.toList [123])) ∧ w' = w := fun w => Tryd.strings_HasPrefix l ⟨#[123]⟩ w
  have hi : ∀ w, Calls Tryd.prog 62 #[.string l, .int .u8 125] w fun e w' => e = .returned (.int .i64 (Lib.indexByte l.data.toList 125)) ∧ w' = w := fun w => Tryd.strings_IndexByte l 125 w
  have hlt := idx_lt l.data.toList 125
  rw [← Lib.size_eq] at hlt
  unfold codeF at hn
  split at hn
  · cases hn
  rename_i hpx
  simp only [Bool.not_eq_false] at hpx
  rw [hpx] at hp
  have HP := Lib.hid hp
  split at hn
  · cases hn
  rename_i hrng
  split at hn
  · cases hn
  rename_i n' hh
  split at hn
  · cases hn
  rename_i htr0
  split at hn
  · cases hn
  rename_i hvx
  simp only [Option.some.injEq, Prod.mk.injEq] at hn
  obtain ⟨rfl, hmE⟩ := hn
  simp only [Bool.not_eq_false] at hvx
  simp only [ne_eq, Decidable.not_not] at htr0
  have hmI : Lib.indexByte l.data.toList 125 = (m : Int) := by omega
  rw [hmI] at hlt hi hrng
  rw [hmE] at hh htr0
  have HI := Lib.hid hi
  have hm1 : 2 ≤ m := by omega
  have hm7 : m ≤ 7 := by omega
  have hm2 : m < l.size := by omega
  have hxs : (codeX l m).size = m - 1 := by simp [codeX, ByteArray.size_extract]; omega
  have hex : l.extract 1 m = codeX l m := rfl
  clear hp hi hpx hmI hmE hrng
  obtain ⟨x, hx⟩ : ∃ x, codeX l m = x := ⟨_, rfl⟩
  rw [hx] at hxs hh htr0 hex
  clear hx
  have hx6 : x.size ≤ 6 := by omega
  have hx0 : x.size ≠ 0 := by omega
  have hpu := fun w => pu_ok x hx0 hx6 n' hh w
  have HU := Lib.hid hpu
  have hn24 : n' < 16777216 := by
    have := hexN_lt x.data.toList 0 n' 0 (by decide) hh
    rw [Nat.zero_add, ← Lib.size_eq] at this
    exact Nat.lt_of_lt_of_le this (Nat.le_trans (Nat.pow_le_pow_right (by decide) hx6) (by decide))
  have htr := fun w => Tryd.strings_Trim_laid x ⟨#[48, 49, 50, 51, 52, 53, 54, 55, 56, 57, 97, 98, 99, 100, 101, 102]⟩ w (by omega) (by decide) (ascii_of_all (by decide))
  have hcs : (⟨#[48, 49, 50, 51, 52, 53, 54, 55, 56, 57, 97, 98, 99, 100, 101, 102]⟩ : ByteArray).data.toList = cset := rfl
  rw [hcs, htr0] at htr
  have HT := Lib.hid htr
  have hvr : ∀ w, Calls Tryd.prog 65 #[.int .i32 n'] w fun e w' => e = .returned (.bool (Lib.validRune n')) ∧ w' = w := fun w => Tryd.utf8_ValidRune n' w
  rw [hvx] at hvr
  have HV := Lib.hid hvr
  clear htr hcs htr0 hvr hpu hh hxs hx0 hvx
  go_enter Tryd.func49, Tryd.ntmps49
  go_wp2_with (first | (go_at_call 61; refine (HP.out _).mono ?_; rintro e w' ⟨rfl, rfl⟩) | (go_at_call 62; refine (HI.out _).mono ?_; rintro e w' ⟨rfl, rfl⟩) | (go_at_call 63; refine (HU.out _).mono ?_; rintro e w1 ⟨rfl, hb1⟩) | (go_at_call 64; refine (HT.out _).mono ?_; rintro e w2 ⟨rfl, hb2⟩) | (go_at_call 65; refine (HV.out _).mono ?_; rintro e w3 ⟨rfl, rfl⟩))
  have hb := below_self hb1 hb2
  have ht := h.below hb h.lt
  clear hb1 hb2
  have d0 := ht.c0
  have d1 := ht.c1
  have f0 := ht.f 0
  have f1 := ht.f 1
  go_region
  go_wp2
  go_ret2
  refine ⟨rfl, ?_, gb_set (gb_set (gb_drew (gb_of_below hb _)) _ _) _ _⟩
  have := (ht.set0 (l.extract (m + 1) l.size)).set1 (p + m + 1)
  exact this
end Go.Proofs.YtfndfhhimhcakaaDoor.lx
