/-
  What stays as it is while the program runs: the package-level variables that the library's texts read, and frames of worlds. Plain lemmas; no condition. bind's must, fine. No condition. bind's rules: what a step takes and makes. No condition. The operations of a region, by their places. No condition. The lexer's tape: what peek and step do, for every tape. Conditions: the tape's two cells lie in a block of their own, and the two tables of package unicode/utf8 are laid. The lexer's ends: digit, end, bare, for every tape. Conditions: the tape lies in a block behind the package-level variables, which are laid. The lexer's bare: runes up to an end, for every tape. Conditions as for end. strconv.ParseUint at base 16 and 32 bits, at one to six bytes, whatever they are: the number, or an error. Conditions: the length; the package's errors are laid.
-/
import Derived.Test.YtgjfbbmachoolaaGreatDoorM00
import Derived.WalkKit
import Derived.BigCall
import Derived.BigQuiet
import Derived.Deep.QuietTactic
import Derived.Handy
import Derived.WalkSpells
import Derived.WalkLawsBesides
import Derived.Lib.LaidTab
import Derived.Lib.ItoaNum
import Derived.Lib.TrailingZeros
import Derived.Maps.OwnOps
import Derived.Carry
import Derived.Maps.OwnSet
import Derived.RowKit
import Derived.Deep.RegionHeld
namespace Go.Proofs.YtgjfbbmachoolaaGreatDoor.lx
open Go.RowKit

theorem ret_bool {a b : Bool} (h : a = b) : Ending.returned (.bool a) = .returned (.bool b) := by rw [h]
theorem ret_int {k : IntKind} {a b : Int} (h : a = b) : Ending.returned (.int k a) = .returned (.int k b) := by rw [h]
theorem gb_of_below {w w' : World} (h : Below w.heap.size w w') (r : Option Nat) : w.grownBy w' r := ⟨h.os, h.tape, h.output, h.size, fun i hi _ => h.block i hi⟩
theorem gb_set {w w' : World} {b : Nat} (h : w.grownBy w' (some b)) (o : Nat) (v : Value) : w.grownBy (w'.setCell ⟨b, o, none⟩ v) (some b) :=
  ⟨h.os, h.tape, h.output, by simpa [World.setCell] using h.size, fun k hk hne => (Below.heap_setCell _ _ _ _ (fun e => hne (by simp [e]))).trans (h.block k hk hne)⟩
theorem gb_refl (w : World) (r : Option Nat) : w.grownBy w r := ⟨rfl, rfl, rfl, Nat.le_refl _, fun _ _ _ => rfl⟩
theorem gb_trans {w w1 w2 : World} {r : Option Nat} (h : w.grownBy w1 r) (k : w1.grownBy w2 r) : w.grownBy w2 r :=
  ⟨k.os.trans h.os, k.tape.trans h.tape, k.output.trans h.output, Nat.le_trans h.size k.size, fun i hi hne => (k.block i (Nat.lt_of_lt_of_le hi h.size) hne).trans (h.block i hi hne)⟩
theorem gb_below {w w' : World} {b B : Nat} (h : w.grownBy w' (some b)) (hB : B ≤ b) (hs : B ≤ w.heap.size) : Below B w w' :=
  ⟨h.os, h.tape, h.output, h.size, fun k hk => h.block k (by omega) (by intro e; injection e; omega)⟩
theorem gb_drew {w w' : World} {r : Option Nat} (h : w.grownBy w' r) : w.grownBy w'.drew r := ⟨h.os, h.tape, h.output, h.size, h.block⟩
theorem below_then {B : Nat} {w w1 w2 : World} (h : Below B w w1) (hB : B ≤ w1.heap.size) (k : Below w1.heap.size w1 w2) : Below B w w2 :=
  h.trans ⟨k.os, k.tape, k.output, k.size, fun i hi => k.block i (Nat.lt_of_lt_of_le hi hB)⟩
theorem below_self {w w1 w2 : World} (h : Below w.heap.size w w1) (k : Below w1.heap.size w1 w2) : Below w.heap.size w w2 := below_then h h.size k

/-! ### the package-level variables -/
structure Glob (w : World) : Prop where
  size : 11 ≤ w.heap.size
  utf : Lib.Utf8Tabs 0 1 w
  pow : Lib.TabIs Tryz.prog w "internal/strconv.uint64pow10" .u64 Lib.pow10Tab
  db : Lib.TabIs Tryz.prog w "math/bits.deBruijn64tab" .u8 (Lib.deBruijn64tab.map fun (n : Nat) => (n : Int))
  esy : ∃ tp p, w.var? Tryz.prog "strconv.ErrSyntax" = some #[.iface tp p]
  era : ∃ tp p, w.var? Tryz.prog "strconv.ErrRange" = some #[.iface tp p]

theorem g_pow : Tryz.prog.globalNamed "internal/strconv.uint64pow10" = some 3 := by kernel_rfl
theorem g_db : Tryz.prog.globalNamed "math/bits.deBruijn64tab" = some 6 := by kernel_rfl
theorem g_esy : Tryz.prog.globalNamed "strconv.ErrSyntax" = some 7 := by kernel_rfl
theorem g_era : Tryz.prog.globalNamed "strconv.ErrRange" = some 8 := by kernel_rfl

theorem var_of_block {w w' : World} {name : String} {g : Nat} (hg : Tryz.prog.globalNamed name = some g) (h : w'.heap[g]? = w.heap[g]?) : w'.var? Tryz.prog name = w.var? Tryz.prog name := by
  simp [World.var?, hg, h]

/-- What stands in the first blocks stands. -/
theorem Glob.of {w w' : World} (h : Glob w) (hs : w.heap.size ≤ w'.heap.size) (hk : ∀ k, k < 11 → w'.heap[k]? = w.heap[k]?) : Glob w' where
  size := Nat.le_trans h.size hs
  utf := ⟨fun c hc => (World.cell?_of_block (hk 0 (by decide))).trans (h.utf.1 c hc), fun i hi => ⟨(World.cell?_of_block (hk 1 (by decide))).trans (h.utf.2 i hi).1, (World.cell?_of_block (hk 1 (by decide))).trans (h.utf.2 i hi).2⟩⟩
  pow := (var_of_block g_pow (hk _ (by decide))).trans h.pow
  db := (var_of_block g_db (hk _ (by decide))).trans h.db
  esy := by obtain ⟨tp, p, e⟩ := h.esy; exact ⟨tp, p, (var_of_block g_esy (hk _ (by decide))).trans e⟩
  era := by obtain ⟨tp, p, e⟩ := h.era; exact ⟨tp, p, (var_of_block g_era (hk _ (by decide))).trans e⟩
theorem Glob.below {w w' : World} (h : Glob w) {B : Nat} (hB : 11 ≤ B) (hb : Below B w w') : Glob w' := h.of hb.size fun k hk => hb.block k (by omega)
theorem Glob.self {w w' : World} (h : Glob w) (hb : Below w.heap.size w w') : Glob w' := h.below h.size hb
theorem Glob.gb {w w' : World} (h : Glob w) {b : Nat} (hB : 11 ≤ b) (hb : w.grownBy w' (some b)) : Glob w' := h.of hb.size fun k hk => hb.block k (by have := h.size; omega) (by intro e; injection e; omega)
end Go.Proofs.YtgjfbbmachoolaaGreatDoor.lx
namespace Go.Proofs.YtgjfbbmachoolaaGreatDoor.lx
open Go.RowKit

/-- the error's number that is panicked with -/
def flE (why : Int) : PanicEntry := { v := .iface 33 (.int .i64 why), recovered := false }
set_option maxHeartbeats 4000000 in
set_option maxRecDepth 100000 in
theorem bmust_yes {why : Int} {w : World} {is : Bool} (hi : is = true) :
    Calls Tryz.prog 26 #[.bool is, .int .i64 why] w fun e w' => e = .returned (.tuple #[]) ∧ w = w' := by
  subst hi
  go_enter Tryz.func26, Tryz.ntmps26
  go_wp2_with fail
  exact bodyPost_end (results_none rfl _ _ _) rfl ⟨rfl, rfl⟩
set_option maxHeartbeats 4000000 in
set_option maxRecDepth 100000 in
theorem bmust_no {why : Int} {w : World} {is : Bool} (hi : is = false) :
    Calls Tryz.prog 26 #[.bool is, .int .i64 why] w fun e w' => e = .panicked [flE why] ∧ w = w' := by
  subst hi
  go_enter Tryz.func26, Tryz.ntmps26
  go_wp2_with fail
  exact ⟨rfl, rfl, rfl⟩
set_option maxHeartbeats 4000000 in
set_option maxRecDepth 100000 in
theorem fine_yes {w : World} : Calls Tryz.prog 21 #[.int .i64 0] w fun e w' => e = .returned (.tuple #[]) ∧ w = w' := by
  go_enter Tryz.func21, Tryz.ntmps21
  go_wp2_with (go_at_call 26; refine (bmust_yes rfl).mono ?_; rintro e w2 ⟨rfl, rfl⟩; refine Hid.out ?_)
  refine Lib.hid ?_
  go_wp2_with fail
  exact bodyPost_end (results_none rfl _ _ _) rfl ⟨rfl, rfl⟩
set_option maxHeartbeats 4000000 in
set_option maxRecDepth 100000 in
theorem fine_no {w : World} {why : Int} (hy : why ≠ 0) : Calls Tryz.prog 21 #[.int .i64 why] w fun e w' => e = .panicked [flE why] ∧ w = w' := by
  have h0 : (why == 0) = false := beq_eq_false_iff_ne.2 hy
  go_enter Tryz.func21, Tryz.ntmps21
  go_wp2_with (go_at_call 26; refine (bmust_no rfl).mono ?_; rintro e w2 ⟨rfl, rfl⟩; exact ⟨rfl, rfl, rfl⟩)
end Go.Proofs.YtgjfbbmachoolaaGreatDoor.lx
namespace Go.Proofs.YtgjfbbmachoolaaGreatDoor.lx
open Go.RowKit Go.Maps

/-- how a rule reads -/
def ruleElem : Value → Option (DataW Unit × List MemPlace)
  | .agg cs => match cs.toList with
    | [.int .u8 a, .int .u8 b] => some (.agg [.lit (.int .u8 a), .lit (.int .u8 b)], [])
    | _ => none
  | _ => none
theorem ruleElem_mk (a b : Int) : ruleElem (.agg #[.int .u8 a, .int .u8 b]) = some (.agg [.lit (.int .u8 a), .lit (.int .u8 b)], []) := rfl
theorem ruleElem_inv {v : Value} {a b : Int} {ps : List MemPlace} (h : ruleElem v = some (.agg [.lit (.int .u8 a), .lit (.int .u8 b)], ps)) : v = .agg #[.int .u8 a, .int .u8 b] := by
  unfold ruleElem at h
  split at h
  · rename_i cs
    split at h
    · rename_i x y hc
      simp only [Option.some.injEq, Prod.mk.injEq, DataW.agg.injEq, List.cons.injEq, DataW.lit.injEq, Lit.int.injEq, true_and, and_true] at h
      obtain ⟨⟨rfl, rfl⟩, _⟩ := h
      rw [show cs = #[Value.int .u8 x, .int .u8 y] from Array.toList_inj.1 hc]
    · cases h
  · cases h
def rulesD : DataW Unit := (((((((((((((DataW.map []).put (.int .u8 1) (.agg [.lit (.int .u8 0), .lit (.int .u8 0)])).put (.int .u8 2) (.agg [.lit (.int .u8 1), .lit (.int .u8 1)])).put (.int .u8 3) (.agg [.lit (.int .u8 1), .lit (.int .u8 1)])).put (.int .u8 4) (.agg [.lit (.int .u8 2), .lit (.int .u8 2)])).put (.int .u8 5) (.agg [.lit (.int .u8 0), .lit (.int .u8 3)])).put (.int .u8 7) (.agg [.lit (.int .u8 2), .lit (.int .u8 2)])).put (.int .u8 8) (.agg [.lit (.int .u8 1), .lit (.int .u8 1)])).put (.int .u8 10) (.agg [.lit (.int .u8 3), .lit (.int .u8 2)])).put (.int .u8 11) (.agg [.lit (.int .u8 2), .lit (.int .u8 2)])).put (.int .u8 12) (.agg [.lit (.int .u8 2), .lit (.int .u8 2)])).put (.int .u8 13) (.agg [.lit (.int .u8 2), .lit (.int .u8 2)])).put (.int .u8 20) (.agg [.lit (.int .u8 1), .lit (.int .u8 1)])).put (.int .u8 21) (.agg [.lit (.int .u8 1), .lit (.int .u8 1)])
theorem step_keyed : Keyed Tryz.prog 48 := int_keyed Tryz.underlying48
theorem zero_rule (w : World) : (zeroValue 135).run Tryz.prog w = .ok (.agg #[.int .u8 0, .int .u8 0]) w := by kernel_rfl
theorem key8 {a : Int} (h : 0 ≤ a ∧ a ≤ 255) : keyOf Tryz.prog 48 (.int .u8 a) = some (.int .u8 a) := keyOf_int_mk Tryz.underlying48 (by simp only [Lit.wf, Bool.and_eq_true, decide_eq_true_eq]; rw [show IntKind.min .u8 = 0 by decide, show IntKind.max .u8 = 255 by decide]; exact h)

/-- the two rules that stand by themselves -/
structure RuC (A : Nat) (w : World) : Prop where
  num : w.heap[A]? = some (.cells #[.int .u8 2, .int .u8 2] 135 (0, 0))
  flag : w.heap[A + 1]? = some (.cells #[.int .u8 1, .int .u8 1] 135 (0, 0))
theorem RuC.gb {A b : Nat} {w w' : World} (h : RuC A w) (hg : w.grownBy w' (some b)) (hb : A + 1 < b) : RuC A w' :=
  ⟨(hg.block _ (Array.getElem?_eq_some_iff.1 h.num).1 (by intro e; injection e; omega)).trans h.num, (hg.block _ (Array.getElem?_eq_some_iff.1 h.flag).1 (by intro e; injection e; omega)).trans h.flag⟩
theorem RuC.n {A : Nat} {w : World} (h : RuC A w) : w.cell? ⟨A, 0, none⟩ = some (.int .u8 2) ∧ w.cell? ⟨A, 1, none⟩ = some (.int .u8 2) := by rw [Lib.cell_of_heap h.num, Lib.cell_of_heap h.num]; exact ⟨rfl, rfl⟩
theorem RuC.f {A : Nat} {w : World} (h : RuC A w) : w.cell? ⟨A + 1, 0, none⟩ = some (.int .u8 1) ∧ w.cell? ⟨A + 1, 1, none⟩ = some (.int .u8 1) := by rw [Lib.cell_of_heap h.flag, Lib.cell_of_heap h.flag]; exact ⟨rfl, rfl⟩

set_option maxHeartbeats 4000000 in
set_option maxRecDepth 100000 in
theorem rules_any (w : World) : Calls Tryz.prog 76 #[] w fun e w' => ∃ b, e = .returned (.map (some b)) ∧ w'.ownsMap Tryz.prog 48 ruleElem b 13 rulesD ∧ Below w.heap.size w w' := by
  have HB := Lib.hid ((((Below.refl w.heap.size w).alloc (Nat.le_refl _) (.cells #[.int .u8 2, .int .u8 2] 135)).alloc (by simp) (.cells #[.int .u8 1, .int .u8 1] 135)))
  have hn1 : ((w.alloc (.cells #[.int .u8 2, .int .u8 2] 135)).alloc (.cells #[.int .u8 1, .int .u8 1] 135)).heap[w.heap.size]? = some (.cells #[.int .u8 2, .int .u8 2] 135 (0, 0)) := by
    rw [heap_alloc_old _ _ (by simp)]; exact heap_alloc_new _ _
  have hn2 : ((w.alloc (.cells #[.int .u8 2, .int .u8 2] 135)).alloc (.cells #[.int .u8 1, .int .u8 1] 135)).heap[w.heap.size + 1]? = some (.cells #[.int .u8 1, .int .u8 1] 135 (0, 0)) := by
    have := heap_alloc_new (w.alloc (.cells #[.int .u8 2, .int .u8 2] 135)) (.cells #[.int .u8 1, .int .u8 1] 135)
    rwa [World.size_alloc] at this
  go_enter Tryz.func76, Tryz.ntmps76
  go_upto_region 2 with fail
  have hR : Hid (RuC w.heap.size ((w.alloc (.cells #[.int .u8 2, .int .u8 2] 135)).alloc (.cells #[.int .u8 1, .int .u8 1] 135))) := Lib.hid ⟨hn1, hn2⟩
  have hz : ((w.alloc (.cells #[.int .u8 2, .int .u8 2] 135)).alloc (.cells #[.int .u8 1, .int .u8 1] 135)).heap.size = w.heap.size + 2 := by simp
  clear hn1 hn2
  generalize (w.alloc (.cells #[.int .u8 2, .int .u8 2] 135)).alloc (.cells #[.int .u8 1, .int .u8 1] 135) = W at *
  have o0 := World.ownsMap_made (H := Unit) W Tryz.prog 48 ruleElem
  have g0 := World.grownBy_alloc W (.map #[] 0) (some W.heap.size)
  have s0 := Lib.hid (hR.out.gb g0 (by omega))
  have u := Tryz.underlying137
  obtain ⟨w1, r1, o1, g1'⟩ := o0.update step_keyed u (by unfold maxLen; omega) (key8 (a := 1) (by decide)) (ruleElem_mk 0 0)
  have s1 := Lib.hid (s0.out.gb g1' (by omega))
  have g1 := gb_trans g0 g1'
  clear g0 g1'
  obtain ⟨a1, b1⟩ := s1.out.f
  obtain ⟨w2, r2, o2, g2'⟩ := o1.update step_keyed u (by unfold maxLen; omega) (key8 (a := 2) (by decide)) (ruleElem_mk 1 1)
  have s2 := Lib.hid (s1.out.gb g2' (by omega))
  have g2 := gb_trans g1 g2'
  clear g1 g2'
  obtain ⟨a2, b2⟩ := s2.out.f
  obtain ⟨w3, r3, o3, g3'⟩ := o2.update step_keyed u (by unfold maxLen; omega) (key8 (a := 3) (by decide)) (ruleElem_mk 1 1)
  have s3 := Lib.hid (s2.out.gb g3' (by omega))
  have g3 := gb_trans g2 g3'
  clear g2 g3'
  obtain ⟨a3, b3⟩ := s3.out.n
  obtain ⟨w4, r4, o4, g4'⟩ := o3.update step_keyed u (by unfold maxLen; omega) (key8 (a := 4) (by decide)) (ruleElem_mk 2 2)
  have s4 := Lib.hid (s3.out.gb g4' (by omega))
  have g4 := gb_trans g3 g4'
  clear g3 g4'
  obtain ⟨w5, r5, o5, g5'⟩ := o4.update step_keyed u (by unfold maxLen; omega) (key8 (a := 5) (by decide)) (ruleElem_mk 0 3)
  have s5 := Lib.hid (s4.out.gb g5' (by omega))
  have g5 := gb_trans g4 g5'
  clear g4 g5'
  obtain ⟨a5, b5⟩ := s5.out.n
  obtain ⟨w6, r6, o6, g6'⟩ := o5.update step_keyed u (by unfold maxLen; omega) (key8 (a := 7) (by decide)) (ruleElem_mk 2 2)
  have s6 := Lib.hid (s5.out.gb g6' (by omega))
  have g6 := gb_trans g5 g6'
  clear g5 g6'
  obtain ⟨a6, b6⟩ := s6.out.f
  obtain ⟨w7, r7, o7, g7'⟩ := o6.update step_keyed u (by unfold maxLen; omega) (key8 (a := 8) (by decide)) (ruleElem_mk 1 1)
  have s7 := Lib.hid (s6.out.gb g7' (by omega))
  have g7 := gb_trans g6 g7'
  clear g6 g7'
  obtain ⟨w8, r8, o8, g8'⟩ := o7.update step_keyed u (by unfold maxLen; omega) (key8 (a := 10) (by decide)) (ruleElem_mk 3 2)
  have s8 := Lib.hid (s7.out.gb g8' (by omega))
  have g8 := gb_trans g7 g8'
  clear g7 g8'
  obtain ⟨a8, b8⟩ := s8.out.n
  obtain ⟨w9, r9, o9, g9'⟩ := o8.update step_keyed u (by unfold maxLen; omega) (key8 (a := 11) (by decide)) (ruleElem_mk 2 2)
  have s9 := Lib.hid (s8.out.gb g9' (by omega))
  have g9 := gb_trans g8 g9'
  clear g8 g9'
  obtain ⟨a9, b9⟩ := s9.out.n
  obtain ⟨w10, r10, o10, g10'⟩ := o9.update step_keyed u (by unfold maxLen; omega) (key8 (a := 12) (by decide)) (ruleElem_mk 2 2)
  have s10 := Lib.hid (s9.out.gb g10' (by omega))
  have g10 := gb_trans g9 g10'
  clear g9 g10'
  obtain ⟨a10, b10⟩ := s10.out.n
  obtain ⟨w11, r11, o11, g11'⟩ := o10.update step_keyed u (by unfold maxLen; omega) (key8 (a := 13) (by decide)) (ruleElem_mk 2 2)
  have s11 := Lib.hid (s10.out.gb g11' (by omega))
  have g11 := gb_trans g10 g11'
  clear g10 g11'
  obtain ⟨a11, b11⟩ := s11.out.f
  obtain ⟨w12, r12, o12, g12'⟩ := o11.update step_keyed u (by unfold maxLen; omega) (key8 (a := 20) (by decide)) (ruleElem_mk 1 1)
  have s12 := Lib.hid (s11.out.gb g12' (by omega))
  have g12 := gb_trans g11 g12'
  clear g11 g12'
  obtain ⟨a12, b12⟩ := s12.out.f
  obtain ⟨w13, r13, o13, g13'⟩ := o12.update step_keyed u (by unfold maxLen; omega) (key8 (a := 21) (by decide)) (ruleElem_mk 1 1)
  have s13 := Lib.hid (s12.out.gb g13' (by omega))
  have g13 := gb_trans g12 g13'
  clear g12 g13'
  have HO := Lib.hid o13
  have HE := Lib.hid (below_then HB.out (by omega) (gb_below g13 (Nat.le_refl _) (Nat.le_refl _)))
  clear g13 hz u o0 s0 o1 s1 o2 s2 o3 s3 o4 s4 o5 s5 o6 s6 o7 s7 o8 s8 o9 s9 o10 s10 o11 s11 o12 s12 o13 s13
  have hmm := @run_makeMap Tryz.prog
  go_wp2_with fail
  go_ret
  exact ⟨_, rfl, HO.out, HE.out⟩
end Go.Proofs.YtgjfbbmachoolaaGreatDoor.lx
namespace Go.Proofs.YtgjfbbmachoolaaGreatDoor.lx
theorem opAt0 { o : Oper} {l : List Oper} : (List.toArray (o :: l))[0]? = some o := rfl
theorem opAt1 {a0 o : Oper} {l : List Oper} : (List.toArray (a0 :: o :: l))[1]? = some o := rfl
theorem opAt2 {a0 a1 o : Oper} {l : List Oper} : (List.toArray (a0 :: a1 :: o :: l))[2]? = some o := rfl
theorem opAt3 {a0 a1 a2 o : Oper} {l : List Oper} : (List.toArray (a0 :: a1 :: a2 :: o :: l))[3]? = some o := rfl
theorem opAt4 {a0 a1 a2 a3 o : Oper} {l : List Oper} : (List.toArray (a0 :: a1 :: a2 :: a3 :: o :: l))[4]? = some o := rfl
theorem opAt5 {a0 a1 a2 a3 a4 o : Oper} {l : List Oper} : (List.toArray (a0 :: a1 :: a2 :: a3 :: a4 :: o :: l))[5]? = some o := rfl
theorem opAt6 {a0 a1 a2 a3 a4 a5 o : Oper} {l : List Oper} : (List.toArray (a0 :: a1 :: a2 :: a3 :: a4 :: a5 :: o :: l))[6]? = some o := rfl
theorem opAt7 {a0 a1 a2 a3 a4 a5 a6 o : Oper} {l : List Oper} : (List.toArray (a0 :: a1 :: a2 :: a3 :: a4 :: a5 :: a6 :: o :: l))[7]? = some o := rfl
theorem opAt8 {a0 a1 a2 a3 a4 a5 a6 a7 o : Oper} {l : List Oper} : (List.toArray (a0 :: a1 :: a2 :: a3 :: a4 :: a5 :: a6 :: a7 :: o :: l))[8]? = some o := rfl
theorem opAt9 {a0 a1 a2 a3 a4 a5 a6 a7 a8 o : Oper} {l : List Oper} : (List.toArray (a0 :: a1 :: a2 :: a3 :: a4 :: a5 :: a6 :: a7 :: a8 :: o :: l))[9]? = some o := rfl
theorem opAt10 {a0 a1 a2 a3 a4 a5 a6 a7 a8 a9 o : Oper} {l : List Oper} : (List.toArray (a0 :: a1 :: a2 :: a3 :: a4 :: a5 :: a6 :: a7 :: a8 :: a9 :: o :: l))[10]? = some o := rfl
theorem opAt11 {a0 a1 a2 a3 a4 a5 a6 a7 a8 a9 a10 o : Oper} {l : List Oper} : (List.toArray (a0 :: a1 :: a2 :: a3 :: a4 :: a5 :: a6 :: a7 :: a8 :: a9 :: a10 :: o :: l))[11]? = some o := rfl
theorem opAt12 {a0 a1 a2 a3 a4 a5 a6 a7 a8 a9 a10 a11 o : Oper} {l : List Oper} : (List.toArray (a0 :: a1 :: a2 :: a3 :: a4 :: a5 :: a6 :: a7 :: a8 :: a9 :: a10 :: a11 :: o :: l))[12]? = some o := rfl
theorem opAt13 {a0 a1 a2 a3 a4 a5 a6 a7 a8 a9 a10 a11 a12 o : Oper} {l : List Oper} : (List.toArray (a0 :: a1 :: a2 :: a3 :: a4 :: a5 :: a6 :: a7 :: a8 :: a9 :: a10 :: a11 :: a12 :: o :: l))[13]? = some o := rfl
theorem opAt14 {a0 a1 a2 a3 a4 a5 a6 a7 a8 a9 a10 a11 a12 a13 o : Oper} {l : List Oper} : (List.toArray (a0 :: a1 :: a2 :: a3 :: a4 :: a5 :: a6 :: a7 :: a8 :: a9 :: a10 :: a11 :: a12 :: a13 :: o :: l))[14]? = some o := rfl
theorem opAt15 {a0 a1 a2 a3 a4 a5 a6 a7 a8 a9 a10 a11 a12 a13 a14 o : Oper} {l : List Oper} : (List.toArray (a0 :: a1 :: a2 :: a3 :: a4 :: a5 :: a6 :: a7 :: a8 :: a9 :: a10 :: a11 :: a12 :: a13 :: a14 :: o :: l))[15]? = some o := rfl
theorem opAt16 {a0 a1 a2 a3 a4 a5 a6 a7 a8 a9 a10 a11 a12 a13 a14 a15 o : Oper} {l : List Oper} : (List.toArray (a0 :: a1 :: a2 :: a3 :: a4 :: a5 :: a6 :: a7 :: a8 :: a9 :: a10 :: a11 :: a12 :: a13 :: a14 :: a15 :: o :: l))[16]? = some o := rfl
theorem opAt17 {a0 a1 a2 a3 a4 a5 a6 a7 a8 a9 a10 a11 a12 a13 a14 a15 a16 o : Oper} {l : List Oper} : (List.toArray (a0 :: a1 :: a2 :: a3 :: a4 :: a5 :: a6 :: a7 :: a8 :: a9 :: a10 :: a11 :: a12 :: a13 :: a14 :: a15 :: a16 :: o :: l))[17]? = some o := rfl
theorem opAt18 {a0 a1 a2 a3 a4 a5 a6 a7 a8 a9 a10 a11 a12 a13 a14 a15 a16 a17 o : Oper} {l : List Oper} : (List.toArray (a0 :: a1 :: a2 :: a3 :: a4 :: a5 :: a6 :: a7 :: a8 :: a9 :: a10 :: a11 :: a12 :: a13 :: a14 :: a15 :: a16 :: a17 :: o :: l))[18]? = some o := rfl
theorem opAt19 {a0 a1 a2 a3 a4 a5 a6 a7 a8 a9 a10 a11 a12 a13 a14 a15 a16 a17 a18 o : Oper} {l : List Oper} : (List.toArray (a0 :: a1 :: a2 :: a3 :: a4 :: a5 :: a6 :: a7 :: a8 :: a9 :: a10 :: a11 :: a12 :: a13 :: a14 :: a15 :: a16 :: a17 :: a18 :: o :: l))[19]? = some o := rfl
theorem opAt20 {a0 a1 a2 a3 a4 a5 a6 a7 a8 a9 a10 a11 a12 a13 a14 a15 a16 a17 a18 a19 o : Oper} {l : List Oper} : (List.toArray (a0 :: a1 :: a2 :: a3 :: a4 :: a5 :: a6 :: a7 :: a8 :: a9 :: a10 :: a11 :: a12 :: a13 :: a14 :: a15 :: a16 :: a17 :: a18 :: a19 :: o :: l))[20]? = some o := rfl
theorem opAt21 {a0 a1 a2 a3 a4 a5 a6 a7 a8 a9 a10 a11 a12 a13 a14 a15 a16 a17 a18 a19 a20 o : Oper} {l : List Oper} : (List.toArray (a0 :: a1 :: a2 :: a3 :: a4 :: a5 :: a6 :: a7 :: a8 :: a9 :: a10 :: a11 :: a12 :: a13 :: a14 :: a15 :: a16 :: a17 :: a18 :: a19 :: a20 :: o :: l))[21]? = some o := rfl
theorem opAt22 {a0 a1 a2 a3 a4 a5 a6 a7 a8 a9 a10 a11 a12 a13 a14 a15 a16 a17 a18 a19 a20 a21 o : Oper} {l : List Oper} : (List.toArray (a0 :: a1 :: a2 :: a3 :: a4 :: a5 :: a6 :: a7 :: a8 :: a9 :: a10 :: a11 :: a12 :: a13 :: a14 :: a15 :: a16 :: a17 :: a18 :: a19 :: a20 :: a21 :: o :: l))[22]? = some o := rfl
theorem opAt23 {a0 a1 a2 a3 a4 a5 a6 a7 a8 a9 a10 a11 a12 a13 a14 a15 a16 a17 a18 a19 a20 a21 a22 o : Oper} {l : List Oper} : (List.toArray (a0 :: a1 :: a2 :: a3 :: a4 :: a5 :: a6 :: a7 :: a8 :: a9 :: a10 :: a11 :: a12 :: a13 :: a14 :: a15 :: a16 :: a17 :: a18 :: a19 :: a20 :: a21 :: a22 :: o :: l))[23]? = some o := rfl
theorem opAt24 {a0 a1 a2 a3 a4 a5 a6 a7 a8 a9 a10 a11 a12 a13 a14 a15 a16 a17 a18 a19 a20 a21 a22 a23 o : Oper} {l : List Oper} : (List.toArray (a0 :: a1 :: a2 :: a3 :: a4 :: a5 :: a6 :: a7 :: a8 :: a9 :: a10 :: a11 :: a12 :: a13 :: a14 :: a15 :: a16 :: a17 :: a18 :: a19 :: a20 :: a21 :: a22 :: a23 :: o :: l))[24]? = some o := rfl
theorem opAt25 {a0 a1 a2 a3 a4 a5 a6 a7 a8 a9 a10 a11 a12 a13 a14 a15 a16 a17 a18 a19 a20 a21 a22 a23 a24 o : Oper} {l : List Oper} : (List.toArray (a0 :: a1 :: a2 :: a3 :: a4 :: a5 :: a6 :: a7 :: a8 :: a9 :: a10 :: a11 :: a12 :: a13 :: a14 :: a15 :: a16 :: a17 :: a18 :: a19 :: a20 :: a21 :: a22 :: a23 :: a24 :: o :: l))[25]? = some o := rfl
theorem opAt26 {a0 a1 a2 a3 a4 a5 a6 a7 a8 a9 a10 a11 a12 a13 a14 a15 a16 a17 a18 a19 a20 a21 a22 a23 a24 a25 o : Oper} {l : List Oper} : (List.toArray (a0 :: a1 :: a2 :: a3 :: a4 :: a5 :: a6 :: a7 :: a8 :: a9 :: a10 :: a11 :: a12 :: a13 :: a14 :: a15 :: a16 :: a17 :: a18 :: a19 :: a20 :: a21 :: a22 :: a23 :: a24 :: a25 :: o :: l))[26]? = some o := rfl
theorem opAt27 {a0 a1 a2 a3 a4 a5 a6 a7 a8 a9 a10 a11 a12 a13 a14 a15 a16 a17 a18 a19 a20 a21 a22 a23 a24 a25 a26 o : Oper} {l : List Oper} : (List.toArray (a0 :: a1 :: a2 :: a3 :: a4 :: a5 :: a6 :: a7 :: a8 :: a9 :: a10 :: a11 :: a12 :: a13 :: a14 :: a15 :: a16 :: a17 :: a18 :: a19 :: a20 :: a21 :: a22 :: a23 :: a24 :: a25 :: a26 :: o :: l))[27]? = some o := rfl
theorem opAt28 {a0 a1 a2 a3 a4 a5 a6 a7 a8 a9 a10 a11 a12 a13 a14 a15 a16 a17 a18 a19 a20 a21 a22 a23 a24 a25 a26 a27 o : Oper} {l : List Oper} : (List.toArray (a0 :: a1 :: a2 :: a3 :: a4 :: a5 :: a6 :: a7 :: a8 :: a9 :: a10 :: a11 :: a12 :: a13 :: a14 :: a15 :: a16 :: a17 :: a18 :: a19 :: a20 :: a21 :: a22 :: a23 :: a24 :: a25 :: a26 :: a27 :: o :: l))[28]? = some o := rfl
theorem opAt29 {a0 a1 a2 a3 a4 a5 a6 a7 a8 a9 a10 a11 a12 a13 a14 a15 a16 a17 a18 a19 a20 a21 a22 a23 a24 a25 a26 a27 a28 o : Oper} {l : List Oper} : (List.toArray (a0 :: a1 :: a2 :: a3 :: a4 :: a5 :: a6 :: a7 :: a8 :: a9 :: a10 :: a11 :: a12 :: a13 :: a14 :: a15 :: a16 :: a17 :: a18 :: a19 :: a20 :: a21 :: a22 :: a23 :: a24 :: a25 :: a26 :: a27 :: a28 :: o :: l))[29]? = some o := rfl
theorem opAt30 {a0 a1 a2 a3 a4 a5 a6 a7 a8 a9 a10 a11 a12 a13 a14 a15 a16 a17 a18 a19 a20 a21 a22 a23 a24 a25 a26 a27 a28 a29 o : Oper} {l : List Oper} : (List.toArray (a0 :: a1 :: a2 :: a3 :: a4 :: a5 :: a6 :: a7 :: a8 :: a9 :: a10 :: a11 :: a12 :: a13 :: a14 :: a15 :: a16 :: a17 :: a18 :: a19 :: a20 :: a21 :: a22 :: a23 :: a24 :: a25 :: a26 :: a27 :: a28 :: a29 :: o :: l))[30]? = some o := rfl
theorem opT {a0 a1 a2 a3 a4 a5 a6 a7 a8 a9 o : Oper} {l : List Oper} {n : Nat} (h : (List.toArray l)[n]? = some o) : (List.toArray (a0 :: a1 :: a2 :: a3 :: a4 :: a5 :: a6 :: a7 :: a8 :: a9 :: l))[n + 10]? = some o := by
  simpa using h
section
variable {P : Program} {ops : Array Oper} {Q : Exit → Act → World → Prop} {md : Region.Mode} {S : World → Prop} {i : Nat} {oi : Oper} {v : Value} {fuel : Nat} {listed : Array Bool} {a : Act} {w : World}
/-- an operation is taken first (its value in any world), passed over; the same where a condition holds -/
theorem tkA (hi : ops[i]? = some oi) (hy : ∀ w, (execOp a.eval oi).run P w = .ok (.value v) w) (h : wpAny P md ops Q fuel (listed.setIfInBounds i true) (a.put oi.dst v) w) (hs : Region.noSelect ops = true := by kernel_rfl) (hf : Region.free md ops listed i = true := by kernel_rfl)
    (hr : (Region.ready md ops listed).contains i = true := by kernel_rfl) (hw : Region.wanted oi (yielded ops a.tmps) = true := by kernel_rfl) (hQ : ∀ c a w, Q (.panic c) (a.put oi.dst v) w → Q (.panic c) a w := by exact fun _ _ _ h => h) : wpAny P md ops Q (fuel + 1) listed a w :=
  wpAny_take hi hs hf hr hQ (.inl ⟨hw, hy⟩) h
end
end Go.Proofs.YtgjfbbmachoolaaGreatDoor.lx
namespace Go.Proofs.YtgjfbbmachoolaaGreatDoor.lx
open Go.RowKit

def dr (l : ByteArray) : Int := ((Lib.decodeGo l).1 : Nat)
def dn (l : ByteArray) : Nat := (Lib.decodeGo l).2

def Tape (b : Nat) (l : ByteArray) (p : Nat) (w : World) : Prop := w.heap[b]? = some (.cells #[.string l, .int .i64 p] 141 (0, 0))

theorem Tape.c0 {b : Nat} {l : ByteArray} {p : Nat} {w : World} (h : Tape b l p w) : w.cell? ⟨b, 0, none⟩ = some (.string l) := by
  unfold Tape at h; simp [World.cell?, h]
theorem Tape.c1 {b : Nat} {l : ByteArray} {p : Nat} {w : World} (h : Tape b l p w) : w.cell? ⟨b, 1, none⟩ = some (.int .i64 p) := by
  unfold Tape at h; simp [World.cell?, h]
theorem Tape.f {b : Nat} {l : ByteArray} {p : Nat} {w : World} (h : Tape b l p w) (o : Nat) : w.frozen? ⟨b, o, none⟩ = false := by
  unfold Tape at h; simp [World.frozen?, h]
theorem Tape.lt {b : Nat} {l : ByteArray} {p : Nat} {w : World} (h : Tape b l p w) : b < w.heap.size := (Array.getElem?_eq_some_iff.1 h).1
theorem Tape.below {b : Nat} {l : ByteArray} {p : Nat} {w w' : World} (h : Tape b l p w) {B : Nat} (hb : Below B w w') (hB : b < B) : Tape b l p w' := (hb.block b hB).trans h

set_option maxHeartbeats 400000 in
theorem peek_any (b : Nat) (l : ByteArray) (p : Nat) (w : World) (hG : Glob w) (h : Tape b l p w) :
    Calls Tryz.prog 101 #[.pointer (some ⟨b, 0, none⟩)] w fun e w' => e = .returned (.tuple #[.int .i32 (dr l), .int .i64 (dn l)]) ∧ Below w.heap.size w w' := by
  have c0 := h.c0
  go_enter Tryz.func101, Tryz.ntmps101
  go_wp2_with (go_at_call 120; refine (Tryz.utf8_DecodeRuneInString _ _ hG.utf).mono ?_; rintro e w' ⟨rfl, hb⟩)
  go_ret2
  exact ⟨rfl, hb⟩

def adv (l : ByteArray) : ByteArray := l.extract (dn l) l.size
def stepOk (l : ByteArray) : Bool := decide (1 < dn l) || (dn l == 1 && dr l != 65533)
def stepP (l : ByteArray) (p : Nat) : Nat := if 0 < dn l then p + 1 else p

theorem dn_bounds (l : ByteArray) (h : l.size ≠ 0) : 1 ≤ dn l ∧ dn l ≤ 4 ∧ dn l ≤ l.size := by
  unfold dn Lib.decodeGo
  rw [if_neg h, Lib.decode_at]
  unfold Lib.decodeN
  repeat' split
  all_goals simp only [Nat.sub_zero] at *
  all_goals omega
theorem dn_zero (l : ByteArray) (h : l.size = 0) : dn l = 0 ∧ dr l = 65533 := by
  unfold dn dr Lib.decodeGo
  rw [if_pos h]
  exact ⟨rfl, rfl⟩
theorem dn_le (l : ByteArray) : dn l ≤ l.size := by
  by_cases h : l.size = 0
  · rw [(dn_zero l h).1]; exact Nat.zero_le _
  · exact (dn_bounds l h).2.2
theorem dr_le (l : ByteArray) : 0 ≤ dr l ∧ dr l ≤ 1114111 := by
  unfold dr Lib.decodeGo
  split
  · simp
  rw [Lib.decode_at]
  unfold Lib.decodeN
  repeat' split
  all_goals simp only at *
  all_goals omega
theorem adv_size (l : ByteArray) : (adv l).size = l.size - dn l := by
  have := dn_le l
  simp [adv, ByteArray.size_extract]
theorem adv_lt (l : ByteArray) (h : l.size ≠ 0) : (adv l).size < l.size := by
  have := dn_bounds l h
  rw [adv_size]; omega

theorem stepOk_one {l : ByteArray} (h : dn l = 1) : stepOk l = (dr l != 65533) := by simp [stepOk, h]
theorem stepOk_many {l : ByteArray} (h : 1 < dn l) : stepOk l = true := by simp [stepOk, h]
theorem stepOk_none {l : ByteArray} (h : dn l = 0) : stepOk l = false := by simp [stepOk, h]
theorem Tape.set0 {b : Nat} {l : ByteArray} {p : Nat} {w : World} (h : Tape b l p w) (l' : ByteArray) : Tape b l' p (w.setCell ⟨b, 0, none⟩ (.string l')) := by
  unfold Tape at *; simp [World.setCell, Array.getElem?_modify, h]
theorem Tape.set1 {b : Nat} {l : ByteArray} {p : Nat} {w : World} (h : Tape b l p w) (p' : Nat) : Tape b l p' (w.setCell ⟨b, 1, none⟩ (.int .i64 p')) := by
  unfold Tape at *; simp [World.setCell, Array.getElem?_modify, h]

set_option maxHeartbeats 1000000 in
theorem step_any (b : Nat) (l : ByteArray) (p : Nat) (w : World) (hG : Glob w) (h : Tape b l p w) (hp : p + 1 ≤ 9223372036854775807) :
    Calls Tryz.prog 102 #[.pointer (some ⟨b, 0, none⟩)] w fun e w' => e = .returned (.bool (stepOk l)) ∧ Tape b (adv l) (stepP l p) w' ∧ w.grownBy w' (some b) := by
  have hn := dn_le l
  go_enter Tryz.func102, Tryz.ntmps102
  go_wp2_with (go_at_call 101; refine (peek_any b l p _ hG h).mono ?_)
  rintro e w1 ⟨rfl, hb⟩
  have h1 := h.below hb h.lt
  have c0 := h1.c0
  have c1 := h1.c1
  have f0 := h1.f 0
  have f1 := h1.f 1
  have hs : w.grownBy ((w1.setCell ⟨b, 0, none⟩ (.string (adv l))).setCell ⟨b, 1, none⟩ (.int .i64 ((p + 1 : Nat) : Int))) (some b) := gb_set (gb_set (gb_of_below hb _) _ _) _ _
  have hs' : w.grownBy (w1.setCell ⟨b, 0, none⟩ (.string (adv l))) (some b) := gb_set (gb_of_below hb _) _ _
  have ht := (h1.set0 (adv l)).set1 (p + 1)
  have ht' := h1.set0 (adv l)
  go_wp2
  · go_ret
    exact ⟨ret_bool (by rw [stepOk_one (by omega)]; try (simp; omega)), by rw [stepP, if_pos (by omega)]; exact ht, hs⟩
  · go_ret
    exact ⟨ret_bool (by rw [stepOk_many (by omega)]; try (simp; omega)), by rw [stepP, if_pos (by omega)]; exact ht, hs⟩
  · go_ret
    exact ⟨ret_bool (by rw [stepOk_none (by omega)]; try (simp; omega)), by rw [stepP, if_neg (by omega)]; exact ht', hs'⟩

/-- how long the tape's rest is, in a world -/
def tlen (b : Nat) (w : World) : Nat := match w.cell? ⟨b, 0, none⟩ with | some (.string l) => l.size | _ => 0
theorem tlen_of {b : Nat} {l : ByteArray} {p : Nat} {w : World} (h : Tape b l p w) : tlen b w = l.size := by simp [tlen, h.c0]

def noted (note : Bool) (r : Int) : Bool := note && r != 10 || r == 59
def blankR (r : Int) : Bool := r == 32 || r == 9 || r == 13 || r == 10
/-- what skip leaves, and where -/
def skipF (note : Bool) (l : ByteArray) (p : Nat) : ByteArray × Nat :=
  if h : l.size = 0 then (l, p) else
    if noted note (dr l) || blankR (dr l) then skipF (noted note (dr l)) (adv l) (p + 1) else (l, p)
termination_by l.size
decreasing_by exact adv_lt l h

theorem skipF_end {note : Bool} {l : ByteArray} {p : Nat} (h : l.size = 0) : skipF note l p = (l, p) := by rw [skipF, dif_pos h]
theorem skipF_go {note : Bool} {l : ByteArray} {p : Nat} (h : l.size ≠ 0) (hr : (noted note (dr l) || blankR (dr l)) = true) : skipF note l p = skipF (noted note (dr l)) (adv l) (p + 1) := by rw [skipF, dif_neg h, if_pos hr]
theorem skipF_stop {note : Bool} {l : ByteArray} {p : Nat} (h : l.size ≠ 0) (hr : (noted note (dr l) || blankR (dr l)) = false) : skipF note l p = (l, p) := by rw [skipF, dif_neg h, if_neg (by simp [hr])]

theorem stepP_pos {l : ByteArray} (p : Nat) (h : l.size ≠ 0) : stepP l p = p + 1 := by
  have := dn_bounds l h
  rw [stepP, if_pos (by omega)]

set_option maxHeartbeats 2000000 in
theorem skip_any (b : Nat) (l : ByteArray) (p : Nat) (w : World) (hG : Glob w) (hb8 : 11 ≤ b) (h : Tape b l p w) (hp : p + l.size + 1 ≤ 9223372036854775807) :
    Calls Tryz.prog 77 #[.pointer (some ⟨b, 0, none⟩)] w fun e w' => e = .returned (.tuple #[]) ∧ Tape b (skipF false l p).1 (skipF false l p).2 w' ∧ w.grownBy w' (some b) := by
  obtain ⟨R, hR⟩ : ∃ R, skipF false l p = R := ⟨_, rfl⟩
  rw [hR]
  go_enter Tryz.func77, Tryz.ntmps77
  go_wp2
  go_loopw [2] (fun v wr => ∃ (note : Bool) (l' : ByteArray) (p' : Nat), v = .bool note ∧ Tape b l' p' wr ∧ w.grownBy wr (some b) ∧ skipF note l' p' = R ∧ p' + l'.size + 1 ≤ 9223372036854775807) (fun _ wr => tlen b wr)
  case atStart => exact ⟨false, l, p, rfl, h, gb_refl _ _, hR, hp⟩
  case round =>
    clear hR h hp
    obtain ⟨note, l', p', rfl, ht, hg, hs, hp⟩ := hrel
    have HS := Lib.hid hs
    clear hs
    have hGr := hG.gb hb8 hg
    have c0 := ht.c0
    by_cases h0 : l'.size = 0
    · have he : l'.toList = [] := by
        rw [Lib.toList_data]; exact List.eq_nil_of_length_eq_zero (by rw [← Lib.size_eq]; exact h0)
      have hi : (!l'.toList.isEmpty) = false := by rw [he]; rfl
      have hfin : R = (l', p') := by rw [← HS.out]; exact skipF_end h0
      have HF := Lib.hid hfin
      clear hfin
      go_wp2
      go_end0
      rw [HF.out]
      exact ⟨rfl, ht, hg⟩
    · have he : ¬ l'.toList = [] := by
        intro he
        rw [Lib.toList_data] at he
        exact h0 (by rw [Lib.size_eq, he]; rfl)
      have hi : (!l'.toList.isEmpty) = true := by simp [he]
      have hlt := adv_lt l' h0
      have hm : tlen b wr = l'.size := tlen_of ht
      have HM := Lib.hid hm
      clear hm
      cases hcond : (noted note (dr l') || blankR (dr l')) with
      | true =>
        have hnext : skipF (noted note (dr l')) (adv l') (p' + 1) = R := by rw [← HS.out, skipF_go h0 hcond]
        have HN := Lib.hid hnext
        clear hnext
        go_wp2_with (go_at_call 101; refine (peek_any b l' p' _ hGr ht).mono ?_)
        rintro e w1 ⟨rfl, hb1⟩
        have ht1 := ht.below hb1 ht.lt
        have hG1 := hGr.self hb1
        have hg1 : w.grownBy w1 (some b) := gb_trans hg (gb_of_below hb1 _)
        go_wp2_with (go_at_call 102; refine (step_any b l' p' _ hG1 ht1 (by omega)).mono ?_)
        all_goals first
          | (rintro e w2 ⟨rfl, ht2, hg2⟩
             rw [stepP_pos p' h0] at ht2
             go_wp2
             go_roundw
             case rel => exact ⟨noted note (dr l'), adv l', p' + 1, (by simp [noted, *]), ht2, gb_trans hg1 hg2, HN.out, by omega⟩
             case measure => rw [HM.out, tlen_of ht2]; exact hlt)
          | (exfalso; simp_all [noted, blankR])
      | false =>
        have hfin : R = (l', p') := by rw [← HS.out]; exact skipF_stop h0 hcond
        have HF := Lib.hid hfin
        clear hfin
        go_wp2_with (go_at_call 101; refine (peek_any b l' p' _ hGr ht).mono ?_)
        rintro e w1 ⟨rfl, hb1⟩
        have ht1 := ht.below hb1 ht.lt
        have hg1 : w.grownBy w1 (some b) := gb_trans hg (gb_of_below hb1 _)
        go_wp2_with fail
        all_goals first
          | (go_returns; rw [HF.out]; exact ⟨rfl, ht1, hg1⟩)
          | (exfalso; simp_all [noted, blankR]; done)
end Go.Proofs.YtgjfbbmachoolaaGreatDoor.lx
namespace Go.Proofs.YtgjfbbmachoolaaGreatDoor.lx
open Go.RowKit

theorem idx_ge (l : List UInt8) (c : UInt8) : -1 ≤ Lib.indexByte l c := by
  induction l with
  | nil => simp [Lib.indexByte]
  | cons b l ih => simp only [Lib.indexByte]; repeat' split
                   all_goals omega
theorem idx_mem (l : List UInt8) (c : UInt8) : 0 ≤ Lib.indexByte l c ↔ c ∈ l := by
  induction l with
  | nil => simp [Lib.indexByte]
  | cons b l ih =>
    have h := idx_ge l c
    simp only [Lib.indexByte, List.mem_cons]
    by_cases hb : b = c
    · subst hb; simp
    · have hb' : (b == c) = false := by simpa using hb
      rw [hb']
      simp only [Bool.false_eq_true, if_false]
      have hc : ¬ c = b := fun e => hb e.symm
      by_cases hn : Lib.indexByte l c = -1
      · rw [if_pos (by simpa using hn)]
        have : c ∉ l := fun hm => by have := ih.2 hm; omega
        simp [hc, this]
      · rw [if_neg (by simpa using hn)]
        have : c ∈ l := ih.1 (by omega)
        simp [this]; omega

/-- the runes at which an atom ends -/
def endR (r : Int) : Bool := r == 32 || r == 9 || r == 13 || r == 10 || r == 40 || r == 41 || r == 34 || r == 59
def endF (l : ByteArray) : Bool := l.size == 0 || endR (dr l)

theorem endR_iff (r : Int) : endR r = true ↔ (r = 32 ∨ r = 9 ∨ r = 13 ∨ r = 10 ∨ r = 40 ∨ r = 41 ∨ r = 34 ∨ r = 59) := by
  simp [endR, or_assoc]

theorem u8_of (c : Int) (k : Nat) (h0 : 0 ≤ c) (h1 : c < 256) (hk : k < 256) : c.toNat.toUInt8 = k.toUInt8 ↔ c = k := by
  constructor
  · intro h
    have := congrArg UInt8.toNat h
    simp [UInt8.toNat_ofNat'] at this
    omega
  · intro h; subst h; simp

theorem end_idx (c : Int) (h0 : 0 ≤ c) (h1 : c < 256) : 0 ≤ Lib.indexByte [32, 9, 13, 10, 40, 41, 34, 59] c.toNat.toUInt8 ↔ endR c = true := by
  rw [idx_mem, endR_iff]
  simp only [List.mem_cons, List.not_mem_nil, or_false]
  rw [show (32 : UInt8) = (32 : Nat).toUInt8 from rfl, show (9 : UInt8) = (9 : Nat).toUInt8 from rfl, show (13 : UInt8) = (13 : Nat).toUInt8 from rfl, show (10 : UInt8) = (10 : Nat).toUInt8 from rfl, show (40 : UInt8) = (40 : Nat).toUInt8 from rfl, show (41 : UInt8) = (41 : Nat).toUInt8 from rfl, show (34 : UInt8) = (34 : Nat).toUInt8 from rfl, show (59 : UInt8) = (59 : Nat).toUInt8 from rfl]
  simp only [u8_of c _ h0 h1 (by decide : (32 : Nat) < 256), u8_of c _ h0 h1 (by decide : (9 : Nat) < 256), u8_of c _ h0 h1 (by decide : (13 : Nat) < 256), u8_of c _ h0 h1 (by decide : (10 : Nat) < 256), u8_of c _ h0 h1 (by decide : (40 : Nat) < 256), u8_of c _ h0 h1 (by decide : (41 : Nat) < 256), u8_of c _ h0 h1 (by decide : (34 : Nat) < 256), u8_of c _ h0 h1 (by decide : (59 : Nat) < 256)]
  omega

/-- a rune of ASCII has one byte; one of one byte is ASCII, or the bad one's -/
theorem dn_of_dr (l : ByteArray) (h : l.size ≠ 0) : (dr l < 128 → dn l = 1) ∧ (dn l = 1 → dr l < 128 ∨ dr l = 65533) := by
  unfold dn dr Lib.decodeGo
  rw [if_neg h, Lib.decode_at]
  unfold Lib.decodeN
  repeat' split
  all_goals
    constructor <;> intro hh <;> simp only at hh ⊢ <;> first | rfl | omega | (left; omega) | (right; rfl)

theorem digit_any (c : Int) (w : World) : Calls Tryz.prog 126 #[.int .u8 c] w fun e w' => e = .returned (.bool (decide (48 ≤ c) && decide (c ≤ 57))) ∧ w = w' := by
  go_enter Tryz.func126, Tryz.ntmps126
  go_wp2
  all_goals
    go_ret
    exact ⟨ret_bool (by simp; try omega), rfl⟩

set_option maxHeartbeats 2000000 in
set_option maxRecDepth 100000 in
theorem end_any (b : Nat) (l : ByteArray) (p : Nat) (w : World) (hG : Glob w) (h : Tape b l p w) :
    Calls Tryz.prog 147 #[.pointer (some ⟨b, 0, none⟩)] w fun e w' => e = .returned (.bool (endF l)) ∧ Below w.heap.size w w' := by
  by_cases h0 : l.size = 0
  · have hd := (dn_zero l h0).1
    have he : endF l = true := by simp [endF, h0]
    have HE := Lib.hid he
    clear he
    have hdI : ((dn l : Int) == 0) = true := by simp [hd]
    go_enter Tryz.func147, Tryz.ntmps147
    go_wp2_with (go_at_call 101; refine (peek_any b l p _ hG h).mono ?_; rintro e w1 ⟨rfl, hb1⟩)
    go_ret
    exact ⟨ret_bool HE.out.symm, hb1⟩
  · obtain ⟨hp1, hp4, hps⟩ := dn_bounds l h0
    have hdr := dr_le l
    have hdI : ((dn l : Int) == 0) = false := by simp; omega
    by_cases h1 : dn l = 1
    · have hd1 : ((dn l : Int) == 1) = true := by simp [h1]
      by_cases hr : dr l < 128
      · have hw : IntKind.u8.wrap (dr l) = dr l := by simp [IntKind.wrap_u8]; omega
        have hix := end_idx (dr l) hdr.1 (by omega)
        have hle := decide_eq_true hr
        have he : endF l = endR (dr l) := by simp [endF, h0]
        have HE := Lib.hid he
        clear he
        cases hend : endR (dr l) with
        | true =>
          rw [hend] at hix
          have hgt : 0 ≤ Lib.indexByte [32, 9, 13, 10, 40, 41, 34, 59] (dr l).toNat.toUInt8 := hix.2 rfl
          clear hix
          go_enter Tryz.func147, Tryz.ntmps147
          go_wp2_with (first | (go_at_call 101; refine (peek_any b l p _ hG h).mono ?_; rintro e w1 ⟨rfl, hb1⟩) | (go_at_call 155; refine (Tryz.strings_IndexByte _ _ _).mono ?_; rintro e w' ⟨rfl, rfl⟩))
          go_ret
          exact ⟨ret_bool (by rw [HE.out, hend]), hb1⟩
        | false =>
          rw [hend] at hix
          have hgt : ¬ 0 ≤ Lib.indexByte [32, 9, 13, 10, 40, 41, 34, 59] (dr l).toNat.toUInt8 := fun hh => by simpa using hix.1 hh
          clear hix
          obtain ⟨j, hj, hj0⟩ : ∃ j, Lib.indexByte [32, 9, 13, 10, 40, 41, 34, 59] (dr l).toNat.toUInt8 = j ∧ j < 0 := ⟨_, rfl, by omega⟩
          have hidx : ∀ w, Calls Tryz.prog 155 #[.string ⟨#[32, 9, 13, 10, 40, 41, 34, 59]⟩, .int .u8 (dr l)] w fun e w' => e = .returned (.int .i64 j) ∧ w' = w := fun w => by
            rw [← hj]; exact Tryz.strings_IndexByte _ _ _
          clear hj hgt
          go_enter Tryz.func147, Tryz.ntmps147
          go_wp2_with (first | (go_at_call 101; refine (peek_any b l p _ hG h).mono ?_; rintro e w1 ⟨rfl, hb1⟩) | (go_at_call 155; refine (hidx _).mono ?_; rintro e w' ⟨rfl, rfl⟩))
          go_ret
          exact ⟨ret_bool (by rw [HE.out, hend]), hb1⟩
      · have hr3 : dr l = 65533 := by have := (dn_of_dr l h0).2 h1; omega
        have he : endF l = false := by simp [endF, h0, endR, hr3]
        have HE := Lib.hid he
        clear he
        have hix := end_idx 253 (by decide) (by decide)
        have hgt : ¬ 0 ≤ Lib.indexByte [32, 9, 13, 10, 40, 41, 34, 59] (253 : Int).toNat.toUInt8 := fun hh => by simpa [endR] using hix.1 hh
        clear hix
        go_enter Tryz.func147, Tryz.ntmps147
        go_wp2_with (first | (go_at_call 101; refine (peek_any b l p _ hG h).mono ?_; rintro e w1 ⟨rfl, hb1⟩) | (go_at_call 155; refine (Tryz.strings_IndexByte _ _ _).mono ?_; rintro e w' ⟨rfl, rfl⟩))
        go_ret
        exact ⟨ret_bool (by rw [HE.out]), hb1⟩
    · have hd1 : ((dn l : Int) == 1) = false := by simp; omega
      have he : endF l = false := by
        have hh : ¬ dr l < 128 := fun hh => h1 ((dn_of_dr l h0).1 hh)
        have : endR (dr l) = false := by
          cases hc : endR (dr l) with
          | false => rfl
          | true => rw [endR_iff] at hc; omega
        simp [endF, h0, this]
      have HE := Lib.hid he
      clear he
      go_enter Tryz.func147, Tryz.ntmps147
      go_wp2_with (first | (go_at_call 101; refine (peek_any b l p _ hG h).mono ?_; rintro e w1 ⟨rfl, hb1⟩) | (go_at_call 155; refine (Tryz.strings_IndexByte _ _ _).mono ?_; rintro e w' ⟨rfl, rfl⟩))
      go_ret
      exact ⟨ret_bool (by rw [HE.out]), hb1⟩
end Go.Proofs.YtgjfbbmachoolaaGreatDoor.lx
namespace Go.Proofs.YtgjfbbmachoolaaGreatDoor.lx
open Go.RowKit

def bareF (fine : Bool) (l : ByteArray) (p : Nat) : Bool × ByteArray × Nat :=
  if h : endF l = true then (fine, l, p) else bareF (stepOk l && fine) (adv l) (p + 1)
termination_by l.size
decreasing_by exact adv_lt l (fun h0 => h (by simp [endF, h0]))

theorem bareF_end {fine : Bool} {l : ByteArray} {p : Nat} (h : endF l = true) : bareF fine l p = (fine, l, p) := by rw [bareF, dif_pos h]
theorem bareF_go {fine : Bool} {l : ByteArray} {p : Nat} (h : endF l = false) : bareF fine l p = bareF (stepOk l && fine) (adv l) (p + 1) := by rw [bareF, dif_neg (by simp [h])]

theorem bareF_size (n : Nat) : ∀ (fine : Bool) (l : ByteArray) (p : Nat), l.size = n → (bareF fine l p).2.1.size ≤ l.size ∧ p ≤ (bareF fine l p).2.2 ∧ (bareF fine l p).2.2 + (bareF fine l p).2.1.size ≤ p + l.size := by
  induction n using Nat.strongRecOn with
  | _ n ih =>
    intro fine l p hn
    cases he : endF l with
    | true => rw [bareF_end he]; simp
    | false =>
      rw [bareF_go he]
      have h0 : l.size ≠ 0 := fun h0 => by simp [endF, h0] at he
      have hlt := adv_lt l h0
      have := ih (adv l).size (by omega) (stepOk l && fine) (adv l) (p + 1) rfl
      omega

set_option maxRecDepth 100000 in
set_option maxHeartbeats 2000000 in
theorem bare_any (b : Nat) (l : ByteArray) (p : Nat) (w : World) (hG : Glob w) (hb8 : 11 ≤ b) (h : Tape b l p w) (hp : p + l.size + 1 ≤ 9223372036854775807) :
    Calls Tryz.prog 125 #[.pointer (some ⟨b, 0, none⟩)] w fun e w' =>
      e = .returned (.tuple #[.string (l.extract 0 (l.size - (bareF true l p).2.1.size)), .bool (bareF true l p).1]) ∧ Tape b (bareF true l p).2.1 (bareF true l p).2.2 w' ∧ w.grownBy w' (some b) := by
  have hsz := (bareF_size _ true l p rfl).1
  obtain ⟨R, hR⟩ : ∃ R, bareF true l p = R := ⟨_, rfl⟩
  rw [hR] at hsz ⊢
  have c0 := h.c0
  go_enter Tryz.func125, Tryz.ntmps125
  go_wp2
  go_loopw [5] (fun v wr => ∃ (fine : Bool) (l' : ByteArray) (p' : Nat), v = .bool fine ∧ Tape b l' p' wr ∧ w.grownBy wr (some b) ∧ bareF fine l' p' = R ∧ p' + l'.size + 1 ≤ 9223372036854775807) (fun _ wr => tlen b wr)
  case atStart => exact ⟨true, l, p, rfl, h, gb_refl _ _, hR, hp⟩
  case round =>
    have hl : l.size ≤ 9223372036854775807 := by omega
    clear hR hp c0
    obtain ⟨fine, l', p', rfl, ht, hg, hs, hp⟩ := hrel
    have HS := Lib.hid hs
    clear hs
    have hGr := hG.gb hb8 hg
    have ht0 := ht
    cases he : endF l' with
    | true =>
      have hfin : R = (fine, l', p') := by rw [← HS.out]; exact bareF_end he
      have e1 : R.2.1.size = l'.size := by rw [hfin]
      rw [e1] at hsz
      have HF := Lib.hid hfin
      clear hfin e1
      go_wp2_with (go_at_call 147; refine (end_any b l' p' _ hGr ht).mono ?_)
      rintro e w1 ⟨rfl, hb1⟩
      have ht1 := ht.below hb1 ht.lt
      have hg1 : w.grownBy w1 (some b) := gb_trans hg (gb_of_below hb1 _)
      have c1 := ht1.c0
      go_wp2
      go_ret2
      rw [HF.out]
      exact ⟨rfl, ht1, hg1⟩
    | false =>
      have h0 : l'.size ≠ 0 := fun h0 => by simp [endF, h0] at he
      have hlt := adv_lt l' h0
      have hnext : bareF (stepOk l' && fine) (adv l') (p' + 1) = R := by rw [← HS.out, bareF_go he]
      have HN := Lib.hid hnext
      clear hnext
      have HM := Lib.hid (tlen_of ht)
      go_wp2_with (go_at_call 147; refine (end_any b l' p' _ hGr ht).mono ?_)
      rintro e w1 ⟨rfl, hb1⟩
      have ht1 := ht.below hb1 ht.lt
      have hG1 := hGr.self hb1
      have hg1 : w.grownBy w1 (some b) := gb_trans hg (gb_of_below hb1 _)
      go_wp2_with (go_at_call 102; refine (step_any b l' p' _ hG1 ht1 (by omega)).mono ?_)
      rintro e w2 ⟨rfl, ht2, hg2⟩
      rw [stepP_pos p' h0] at ht2
      go_wp2
      all_goals
        go_roundw
        case rel => exact ⟨stepOk l' && fine, adv l', p' + 1, (by simp [*]), ht2, gb_trans hg1 hg2, HN.out, by omega⟩
        case measure => rw [HM.out, tlen_of ht2]; exact hlt
end Go.Proofs.YtgjfbbmachoolaaGreatDoor.lx
namespace Go.Proofs.YtgjfbbmachoolaaGreatDoor.lx
open Go.RowKit

/-- c | 0x20 -/
def low (c : Nat) : Nat := c ||| 32
theorem low_bits : ∀ c : Fin 256, bits .or .u8 ((c.val : Nat) : Int) 32 = ((low c.val : Nat) : Int) := by decide +kernel
theorem low_lt : ∀ c : Fin 256, low c.val < 256 := by decide +kernel
/-- a hexadecimal digit's number, in either case -/
def hexv (c : Nat) : Option Nat := if 48 ≤ c ∧ c ≤ 57 then some (c - 48) else if 97 ≤ low c ∧ low c ≤ 102 then some (low c - 87) else none
theorem hexv_lt {c d : Nat} (h : hexv c = some d) : d < 16 := by
  unfold hexv at h
  split at h
  · injection h; omega
  · split at h
    · injection h; omega
    · cases h
def hexN : Nat → List UInt8 → Option Nat
  | acc, [] => some acc
  | acc, c :: l => match hexv c.toNat with | none => none | some d => hexN (acc * 16 + d) l
theorem hexN_cons_some {acc d : Nat} {c : UInt8} {l : List UInt8} (h : hexv c.toNat = some d) : hexN acc (c :: l) = hexN (acc * 16 + d) l := by simp [hexN, h]
theorem hexN_cons_none {acc : Nat} {c : UInt8} {l : List UInt8} (h : hexv c.toNat = none) : hexN acc (c :: l) = none := by simp [hexN, h]

def hexTuple : Option Nat → Value
  | some n => .tuple #[.int .u64 n, .nilIface]
  | none => .tuple #[.int .u64 0, .iface 227 (.int .i64 2)]

set_option maxHeartbeats 8000000 in
set_option maxRecDepth 100000 in
theorem iParseUint16 (t : ByteArray) (hne : t.size ≠ 0) (hmax : t.size ≤ 6) (w : World) :
    Calls Tryz.prog 161 #[.string t, .int .i64 16, .int .i64 32] w fun e w' => e = .returned (hexTuple (hexN 0 t.data.toList)) ∧ w' = Lib.bytesWorld w 5 t := by
  have hemp : t.toList.isEmpty = false := by
    rw [← decide_eq_emptyBytes]
    exact decide_eq_false (fun h => hne (by rw [h]; rfl))
  have hcv := Lib.run_convert_string_bytes (P := Tryz.prog) w 9 181 5 t (u := .string) Tryz.underlying9 Tryz.underlying181 Tryz.underlying5
  have hB : ∀ j, j < t.size → (Lib.bytesWorld w 5 t).cell? ⟨w.heap.size, j, none⟩ = some (.int .u8 (t.data.toList.getD j 0).toNat) := fun j hj => Lib.bytesWorld_cell w 5 t j hj
  obtain ⟨W1, hW1⟩ : ∃ W1, W1 = Lib.bytesWorld w 5 t := ⟨_, rfl⟩
  rw [← hW1] at hcv hB ⊢
  clear hW1
  obtain ⟨bs, hL⟩ : ∃ bs, bs = t.data.toList := ⟨_, rfl⟩
  have hLn : bs.length = t.size := by rw [hL, Lib.size_eq]
  rw [← hL] at hB ⊢
  clear hL
  have hmv : IntKind.u64.wrap (IntKind.u64.wrap 4294967296 - 1) = 4294967295 := by
    rw [IntKind.wrap_u64, IntKind.wrap_u64]
    decide
  obtain ⟨R, hR⟩ : ∃ R, hexN 0 bs = R := ⟨_, rfl⟩
  rw [hR]
  have HR := Lib.hid hR
  clear hR
  go_enter Tryz.func161, Tryz.ntmps161
  go_wp2
  go_loop [12, 13, 101] (fun vu vn vi => ∃ (k acc : Nat) (a : Int), vu = .bool false ∧ vn = .int .u64 a ∧ vi = .int .i64 k ∧ k ≤ t.size ∧ Hid (a = (acc : Int) ∧ acc < 16 ^ k ∧ R = hexN acc (bs.drop k)))
    (fun _ _ vi => t.size - (intOf vi).toNat)
  case atStart => exact ⟨0, 0, 0, rfl, rfl, rfl, by omega, rfl, by decide, HR.out.symm⟩
  case round =>
    obtain ⟨k, acc, a, rfl, rfl, rfl, hk, hh⟩ := hrel
    obtain ⟨ha, hacc, hdec⟩ := hh.out
    clear hh
    have hacc6 : acc < 16777216 := Nat.lt_of_lt_of_le hacc (Nat.le_trans (Nat.pow_le_pow_right (by decide) (show k ≤ 6 by omega)) (by decide))
    have a0 : 0 ≤ a := by omega
    have a1 : a < 16777216 := by omega
    by_cases hkn : k < t.size
    · have hc := hB k hkn
      have hdrop : bs.drop k = bs[k]'(by omega) :: bs.drop (k + 1) := List.drop_eq_getElem_cons (by omega)
      have hget : bs.getD k 0 = bs[k]'(by omega) := by simp [List.getD, List.getElem?_eq_getElem (show k < bs.length by omega)]
      rw [hdrop] at hdec
      rw [hget] at hc
      generalize bs[k]'(by omega) = c at hc hdec
      have hc256 : c.toNat < 256 := c.toNat_lt
      have hlow := low_bits ⟨c.toNat, hc256⟩
      have hlt := low_lt ⟨c.toNat, hc256⟩
      simp only at hlow hlt
      obtain ⟨j, hj⟩ : ∃ j, low c.toNat = j := ⟨_, rfl⟩
      rw [hj] at hlow hlt
      have hcl : ∀ w, Calls Tryz.prog 178 #[.int .u8 c.toNat] w fun e w' => e = .returned (.int .u8 j) ∧ w' = w := fun w => by
        rw [← hlow]; exact Tryz.internal_strconv_lower _ _
      have HL := Lib.hid hcl
      clear hB hdrop hget hlow hcl
      cases hv : hexv c.toNat with
      | some d =>
        have hd := hexv_lt hv
        rw [hexN_cons_some hv] at hdec
        have hpow : acc * 16 + d < 16 ^ (k + 1) := by rw [Nat.pow_succ]; omega
        by_cases hdig : 48 ≤ c.toNat ∧ c.toNat ≤ 57
        · obtain ⟨hd0, hd1⟩ := hdig
          have hdd : d = c.toNat - 48 := by simp [hexv, hd0, hd1] at hv; omega
          have HN : Hid (a * 16 + ((c.toNat : Int) - 48) = ((acc * 16 + d : Nat) : Int) ∧ acc * 16 + d < 16 ^ (k + 1) ∧ R = hexN (acc * 16 + d) (bs.drop (k + 1))) := Lib.hid ⟨by omega, hpow, hdec⟩
          clear hacc hdec ha hdd hpow hv hj HR
          go_wp2
          refine ⟨⟨k + 1, acc * 16 + d, a * 16 + ((c.toNat : Int) - 48), rfl, (by first | rfl | (congr 1; omega)), (by first | rfl | (congr 1; omega)), by omega, HN⟩, by simp [intOf]; omega⟩
        · obtain ⟨hl0, hl1, hdd⟩ : 97 ≤ j ∧ j ≤ 102 ∧ d = j - 87 := by
            unfold hexv at hv
            rw [if_neg hdig, hj] at hv
            split at hv
            · injection hv; omega
            · cases hv
          have HN : Hid (a * 16 + ((j : Int) - 97 + 10) = ((acc * 16 + d : Nat) : Int) ∧ acc * 16 + d < 16 ^ (k + 1) ∧ R = hexN (acc * 16 + d) (bs.drop (k + 1))) := Lib.hid ⟨by omega, hpow, hdec⟩
          have h95 : ((c.toNat : Int) == 95) = false := by
            apply beq_eq_false_iff_ne.2
            intro h
            have h' : c.toNat = 95 := by omega
            rw [h'] at hj
            have : low 95 = 127 := by decide
            omega
          have hnd : ¬ (48 ≤ c.toNat ∧ c.toNat ≤ 57) := hdig
          clear hacc hdec ha hdd hpow hv hj HR hdig
          by_cases h48 : 48 ≤ c.toNat
          all_goals
            have h57 : 48 ≤ c.toNat → ¬ c.toNat ≤ 57 := fun h h' => hnd ⟨h, h'⟩
            clear hnd
            go_wp2_with (go_at_call 178; refine (HL.out _).mono ?_; rintro e w' ⟨rfl, rfl⟩)
            exact ⟨⟨k + 1, acc * 16 + d, a * 16 + ((j : Int) - 97 + 10), rfl, rfl, (by go_num), by omega, HN⟩, by simp [intOf]; omega⟩
      | none =>
        have hR0 : R = none := by rw [hdec, hexN_cons_none hv]
        have HF := Lib.hid hR0
        obtain ⟨hnd, hnl⟩ : ¬ (48 ≤ c.toNat ∧ c.toNat ≤ 57) ∧ ¬ (97 ≤ j ∧ j ≤ 102) := by
          unfold hexv at hv
          split at hv
          · cases hv
          · rename_i h1
            rw [hj] at hv
            split at hv
            · cases hv
            · rename_i h2; exact ⟨h1, h2⟩
        clear hacc hdec ha hv hR0 HR hacc6
        have h57 : 48 ≤ c.toNat → ¬ c.toNat ≤ 57 := fun h h' => hnd ⟨h, h'⟩
        clear hnd
        by_cases h9 : c.toNat = 95
        · rw [h9] at hc hj
          have hj' : j = 127 := by rw [← hj]; decide
          subst hj'
          have hcl := HL.out
          rw [h9] at hcl
          have HL' := Lib.hid hcl
          clear hcl HL hj h57 hnl h9 hlt
          go_wp2_with (go_at_call 178; refine (HL'.out _).mono ?_; rintro e w' ⟨rfl, rfl⟩)
          all_goals go_ret2
          all_goals (rw [HF.out]; exact ⟨rfl, rfl⟩)
        · have h95 : ((c.toNat : Int) == 95) = false := by
            apply beq_eq_false_iff_ne.2
            omega
          clear h9 hj
          by_cases h48 : 48 ≤ c.toNat
          all_goals
            by_cases hj97 : 97 ≤ j
            all_goals
              have hj102 : 97 ≤ j → 103 ≤ j := fun h => by
                have : ¬ j ≤ 102 := fun h' => hnl ⟨h, h'⟩
                omega
              clear hnl
              go_wp2_with (go_at_call 178; refine (HL.out _).mono ?_; rintro e w' ⟨rfl, rfl⟩)
              all_goals go_ret2
              all_goals (rw [HF.out]; exact ⟨rfl, rfl⟩)
    · have hkk : k = t.size := by omega
      subst hkk
      rw [List.drop_eq_nil_of_le (by omega)] at hdec
      have hF : R = some acc := hdec
      have HF := Lib.hid hF
      subst ha
      clear hacc hdec hF a0 a1
      go_wp2
      go_ret2
      rw [HF.out]
      exact ⟨rfl, rfl⟩
end Go.Proofs.YtgjfbbmachoolaaGreatDoor.lx
