/-
  What stays as it is while the program runs: the package-level variables that the library's texts read, and frames of worlds. Plain lemmas; no condition.
-/
import Derived.Test.YtfndfhhimhcakaaDoorShelf
import Derived.WalkKit
import Derived.BigCall
import Derived.BigQuiet
import Derived.Deep.QuietTactic
import Derived.Handy
import Derived.WalkSpells
import Derived.WalkLawsBesides
import Derived.Lib.LaidTab
import Derived.Lib.ItoaNum
import Derived.Lib.TrailingZeros
namespace Go.Proofs.YtfndfhhimhcakaaDoor.lx
open Go.RowKit

theorem ret_bool {a b : Bool} (h : a = b) : Ending.returned (.bool a) = .returned (.bool b) := by rw [h]
theorem ret_int {k : IntKind} {a b : Int} (h : a = b) : Ending.returned (.int k a) = .returned (.int k b) := by rw [h]
theorem ret_str {a b : ByteArray} (h : a = b) : Ending.returned (.string a) = .returned (.string b) := by rw [h]

/-! ### frames -/
theorem gb_of_below {w w' : World} (h : Below w.heap.size w w') (r : Option Nat) : w.grownBy w' r := ⟨h.os, h.tape, h.output, h.size, fun i hi _ => h.block i hi⟩
theorem gb_set {w w' : World} {b : Nat} (h : w.grownBy w' (some b)) (o : Nat) (v : Value) : w.grownBy (w'.setCell ⟨b, o, none⟩ v) (some b) :=
  ⟨h.os, h.tape, h.output, by simpa [World.setCell] using h.size, fun k hk hne => (Below.heap_setCell _ _ _ _ (fun e => hne (by simp [e]))).trans (h.block k hk hne)⟩
theorem gb_refl (w : World) (r : Option Nat) : w.grownBy w r := ⟨rfl, rfl, rfl, Nat.le_refl _, fun _ _ _ => rfl⟩
theorem gb_trans {w w1 w2 : World} {r : Option Nat} (h : w.grownBy w1 r) (k : w1.grownBy w2 r) : w.grownBy w2 r :=
  ⟨k.os.trans h.os, k.tape.trans h.tape, k.output.trans h.output, Nat.le_trans h.size k.size, fun i hi hne => (k.block i (Nat.lt_of_lt_of_le hi h.size) hne).trans (h.block i hi hne)⟩
theorem gb_below {w w' : World} {b B : Nat} (h : w.grownBy w' (some b)) (hB : B ≤ b) (hs : B ≤ w.heap.size) : Below B w w' :=
  ⟨h.os, h.tape, h.output, h.size, fun k hk => h.block k (by omega) (by intro e; injection e; omega)⟩
theorem gb_drew {w w' : World} {r : Option Nat} (h : w.grownBy w' r) : w.grownBy w'.drew r := ⟨h.os, h.tape, h.output, h.size, h.block⟩
theorem below_then {B : Nat} {w w1 w2 : World} (h : Below B w w1) (hB : B ≤ w1.heap.size) (k : Below w1.heap.size w1 w2) : Below B w w2 :=
  h.trans ⟨k.os, k.tape, k.output, k.size, fun i hi => k.block i (Nat.lt_of_lt_of_le hi hB)⟩
theorem below_self {w w1 w2 : World} (h : Below w.heap.size w w1) (k : Below w1.heap.size w1 w2) : Below w.heap.size w w2 := below_then h h.size k

/-! ### the package-level variables -/
structure Glob (w : World) : Prop where
  size : 8 ≤ w.heap.size
  utf : Lib.Utf8Tabs 1 2 w
  pow : Lib.TabIs Tryd.prog w "internal/strconv.uint64pow10" .u64 Lib.pow10Tab
  db : Lib.TabIs Tryd.prog w "math/bits.deBruijn64tab" .u8 (Lib.deBruijn64tab.map fun (n : Nat) => (n : Int))
  esy : ∃ tp p, w.var? Tryd.prog "strconv.ErrSyntax" = some #[.iface tp p]
  era : ∃ tp p, w.var? Tryd.prog "strconv.ErrRange" = some #[.iface tp p]

theorem g_first : Tryd.prog.globalNamed "unicode/utf8.first" = some 1 := by kernel_rfl
theorem g_accept : Tryd.prog.globalNamed "unicode/utf8.acceptRanges" = some 2 := by kernel_rfl
theorem g_pow : Tryd.prog.globalNamed "internal/strconv.uint64pow10" = some 0 := by kernel_rfl
theorem g_db : Tryd.prog.globalNamed "math/bits.deBruijn64tab" = some 6 := by kernel_rfl
theorem g_esy : Tryd.prog.globalNamed "strconv.ErrSyntax" = some 3 := by kernel_rfl
theorem g_era : Tryd.prog.globalNamed "strconv.ErrRange" = some 4 := by kernel_rfl

theorem var_of_block {w w' : World} {name : String} {g : Nat} (hg : Tryd.prog.globalNamed name = some g) (h : w'.heap[g]? = w.heap[g]?) : w'.var? Tryd.prog name = w.var? Tryd.prog name := by
  simp [World.var?, hg, h]

/-- What stands in the first blocks stands. -/
theorem Glob.of {w w' : World} (h : Glob w) (hs : w.heap.size ≤ w'.heap.size) (hk : ∀ k, k < 8 → w'.heap[k]? = w.heap[k]?) : Glob w' where
  size := Nat.le_trans h.size hs
  utf := ⟨fun c hc => (World.cell?_of_block (hk 1 (by decide))).trans (h.utf.1 c hc), fun i hi => ⟨(World.cell?_of_block (hk 2 (by decide))).trans (h.utf.2 i hi).1, (World.cell?_of_block (hk 2 (by decide))).trans (h.utf.2 i hi).2⟩⟩
  pow := (var_of_block g_pow (hk _ (by decide))).trans h.pow
  db := (var_of_block g_db (hk _ (by decide))).trans h.db
  esy := by obtain ⟨tp, p, e⟩ := h.esy; exact ⟨tp, p, (var_of_block g_esy (hk _ (by decide))).trans e⟩
  era := by obtain ⟨tp, p, e⟩ := h.era; exact ⟨tp, p, (var_of_block g_era (hk _ (by decide))).trans e⟩
theorem Glob.below {w w' : World} (h : Glob w) {B : Nat} (hB : 8 ≤ B) (hb : Below B w w') : Glob w' := h.of hb.size fun k hk => hb.block k (by omega)
theorem Glob.self {w w' : World} (h : Glob w) (hb : Below w.heap.size w w') : Glob w' := h.below h.size hb
theorem Glob.gb {w w' : World} (h : Glob w) {b : Nat} (hB : 8 ≤ b) (hb : w.grownBy w' (some b)) : Glob w' := h.of hb.size fun k hk => hb.block k (by have := h.size; omega) (by intro e; injection e; omega)
end Go.Proofs.YtfndfhhimhcakaaDoor.lx
