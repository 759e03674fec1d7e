/-
  The parser's take. Conditions: the walk lies there; how many brackets are open is no great number. The parser's take, where it takes. Conditions: the walk lies there; how many brackets are open is no great number. strconv.FormatInt at base 16, for a number of at most two digits. Conditions: the package-level variables are laid. quoted: a text between quotes, for every text of at most 2^40 bytes. Conditions: the package-level variables are laid. The parser's names: operators, words, name, column. Conditions: the package-level variables are laid; the text is no great one.
-/
import Derived.Test.YtgjfbbmachoolaaGreatDoorM03
import Derived.Deep.Cut
import Derived.Test.YtgjfbbmachoolaaGreatDoorM01
import Derived.Test.YtgjfbbmachoolaaGreatDoorM02
import Derived.Stop.FmtQuoteTie
import Derived.Lib.Split
import Derived.Lib.SlicesS
namespace Go.Proofs.YtgjfbbmachoolaaGreatDoor.lx
open Go.RowKit

def flt (y p : Int) : PanicEntry := { v := .iface 115 (.agg #[.int .i64 y, .int .i64 p]), recovered := false }
/-- what take comes to -/
def TakeP (A : Nat) (fin : Int) (sv : Value) (t : Tok) (w : World) (R : Res (List Tok × Int)) (e : Ending) (w' : World) : Prop :=
 match R with
 | .ok x => e = .returned t.v ∧ AtW A x.1 fin x.2 sv w' ∧ w.grownBy w' (some A)
 | .bad y p => e = .panicked [flt y p] ∧ w.grownBy w' (some A)
theorem TakeP.ok {A : Nat} {fin : Int} {sv : Value} {t : Tok} {w : World} {x : List Tok × Int} {e : Ending} {w' : World} (h : TakeP A fin sv t w (.ok x) e w') : e = .returned t.v ∧ AtW A x.1 fin x.2 sv w' ∧ w.grownBy w' (some A) := h
theorem TakeP.bad {A : Nat} {fin : Int} {sv : Value} {t : Tok} {w : World} {y p : Int} {e : Ending} {w' : World} (h : TakeP A fin sv t w (.bad y p) e w') : e = .panicked [flt y p] ∧ w.grownBy w' (some A) := h

theorem below_gb {w w' : World} {A : Nat} (h : Below w.heap.size w w') : w.grownBy w' (some A) := gb_of_below h _
theorem set_gb {w w' : World} {A : Nat} (h : w.grownBy w' (some A)) (j : Nat) (v : Value) : w.grownBy (w'.setCell ⟨A, j, none⟩ v) (some A) := gb_set h j v
theorem put4_gbw {w w' : World} {A R : Nat} (h : w.grownBy w' (some A)) (hR : w.heap.size ≤ R) (t : Tok) : w.grownBy (put4 R t w') (some A) :=
 ⟨h.os, h.tape, h.output, by simpa [put4, World.setCell] using h.size, fun k hk hne => (put4_other R t w' k (by omega)).trans (h.block k hk hne)⟩
theorem atw_left {w : World} {A : Nat} {fin op : Value} {sv x y : Value} {ty : TypeId} (h : w.heap[A]? = some (.cells #[x, fin, op, sv] ty (0, 0))) : (w.setCell ⟨A, 0, none⟩ y).heap[A]? = some (.cells #[y, fin, op, sv] ty (0, 0)) := by
 simp [World.setCell, Array.getElem?_modify, h]
theorem atw_open {w : World} {A : Nat} {fin op : Value} {sv x y : Value} {ty : TypeId} (h : w.heap[A]? = some (.cells #[x, fin, op, sv] ty (0, 0))) : (w.setCell ⟨A, 2, none⟩ y).heap[A]? = some (.cells #[x, fin, y, sv] ty (0, 0)) := by
 simp [World.setCell, Array.getElem?_modify, h]
theorem TRow.other {A B : Nat} {ao : Option Addr} {l : List Tok} {w : World} (h : TRow A ao l w) (hB : A ≤ B) (j : Nat) (v : Value) : TRow A ao l (w.setCell ⟨B, j, none⟩ v) :=
 h.kept fun k hk => Below.heap_setCell _ _ _ _ (by show k ≠ B; omega)

abbrev frT (w : World) : World := w.alloc (.cells #[.int .u8 0, .string ⟨#[]⟩, .int .i64 0, .int .i64 0] 144)
abbrev tkT (w : World) (t : Tok) : World := w.alloc (.cells #[.int .u8 t.k, .string t.s, .int .i64 t.n, .int .i64 t.a] 144)
/-- what holds when take has its token -/
structure Taken (A : Nat) (l : List Tok) (fin op : Int) (sv : Value) (t : Tok) (w w2 : World) : Prop where
 at_ : AtW A l fin op sv w2
 size : w.heap.size < w2.heap.size
 lt : A < w.heap.size
 below : Below w.heap.size w w2
 res : Cell4 w.heap.size Tok.no w2
theorem Taken.mk' {A : Nat} {l : List Tok} {fin op : Int} {sv : Value} {w w2 : World} {t : Tok} (h : AtW A l fin op sv w) (hb : Below (frT w).heap.size (frT w) w2) : Taken A l fin op sv t w w2 := by
 have hb0 : Below w.heap.size w (frT w) := (Below.refl _ w).alloc (Nat.le_refl _) _
 have hsz := hb.size
 have hs1 : (frT w).heap.size = w.heap.size + 1 := by simp [frT]
 refine ⟨(h.below hb0).below hb, by omega, h.lt, below_self hb0 hb, ?_⟩
 have hc : Cell4 w.heap.size Tok.no (frT w) := by
  unfold Cell4
  rw [heap_alloc_new]
  rfl
 exact hc.below hb (by omega)
theorem Taken.tk {A : Nat} {l : List Tok} {fin op : Int} {sv : Value} {w w2 : World} {t : Tok} (h : Taken A l fin op sv t w w2) : AtW A l fin op sv (tkT w2 t) := h.at_.below ((Below.refl w2.heap.size w2).alloc (Nat.le_refl _) _)
theorem Taken.c2 {A : Nat} {l : List Tok} {fin op : Int} {sv : Value} {w w2 : World} {t : Tok} (h : Taken A l fin op sv t w w2) : w2.cell? ⟨A, 2, none⟩ = some (.int .i64 op) := by
 obtain ⟨ao, cap, hA, _⟩ := h.at_; rw [Lib.cell_of_heap hA]; rfl
theorem Taken.gb {A : Nat} {l : List Tok} {fin op : Int} {sv : Value} {w w2 w3 : World} {t : Tok} (h : Taken A l fin op sv t w w2) (hb : Below (tkT w2 t).heap.size (tkT w2 t) w3) : w.grownBy w3 (some A) :=
 below_gb (below_self (h.below.alloc h.below.size _) hb)

set_option maxHeartbeats 8000000 in
set_option maxRecDepth 100000 in
/-- too deep -/
theorem take_deep {A : Nat} {l : List Tok} {fin op k : Int} {sv may : Value} {w : World} (h : AtW A l fin op sv w) (h1 : (tokAt l fin).k = 1) (h8 : ¬ op < 8) :
  Calls Tryz.prog 79 #[.pointer (some ⟨A, 0, none⟩), .int .u8 k, may] w fun e w' => e = .panicked [flt 10 (tokAt l fin).a] ∧ w.grownBy w' (some A) := by
 have hp := wpeek_any (h.below ((Below.refl _ w).alloc (Nat.le_refl _) (.cells #[.int .u8 0, .string ⟨#[]⟩, .int .i64 0, .int .i64 0] 144)))
 have HT := Lib.hid fun w2 hb => Taken.mk' (w2 := w2) (t := tokAt l fin) h hb
 have HM := Lib.hid fun w2 (H : AtW A l fin op sv w2) => must_no (why := 10) (is := decide (op < 8)) (decide_eq_false h8) H
 have HL := Lib.hid h.lt
 generalize tokAt l fin = t at hp h1 HT HM ⊢
 obtain ⟨tk, ts, tn, ta⟩ := t
 unfold Tok.v at hp
 simp only at h1 hp
 subst h1
 clear h
 go_enter Tryz.func79, Tryz.ntmps79
 go_wp2_with (go_at_call 105; refine hp.mono ?_; rintro e w2 ⟨rfl, hb2⟩; refine Hid.out ?_)
 refine Lib.hid ?_
 have ht := HT.out w2 hb2
 have c2 := ht.c2
 have hlt2 : A < w2.heap.size := ht.at_.lt
 have HTk := Lib.hid ht
 clear hp hb2 HT ht
 go_wp2_with (go_at_call 92; refine (HM.out _ HTk.out.tk).mono ?_; rintro e w3 ⟨rfl, hb3⟩; refine Hid.out ?_)
 refine Lib.hid ?_
 exact ⟨rfl, rfl, HTk.out.gb hb3⟩

set_option maxHeartbeats 8000000 in
set_option maxRecDepth 100000 in
/-- of another kind -/
theorem take_kind {A : Nat} {l : List Tok} {fin op k : Int} {sv may : Value} {w : World} (h : AtW A l fin op sv w) (h1 : ¬ ((tokAt l fin).k = 1 ∧ ¬ op < 8)) (hk : (tokAt l fin).k ≠ k) :
  Calls Tryz.prog 79 #[.pointer (some ⟨A, 0, none⟩), .int .u8 k, may] w fun e w' => e = .panicked [flt 13 (tokAt l fin).a] ∧ w.grownBy w' (some A) := by
 have hp := wpeek_any (h.below ((Below.refl _ w).alloc (Nat.le_refl _) (.cells #[.int .u8 0, .string ⟨#[]⟩, .int .i64 0, .int .i64 0] 144)))
 have HT := Lib.hid fun w2 hb => Taken.mk' (w2 := w2) (t := tokAt l fin) h hb
 have HM := Lib.hid fun w2 is (hi : is = false) (H : AtW A l fin op sv w2) => must_no (why := 13) (is := is) hi H
 generalize tokAt l fin = t at hp h1 hk HT HM ⊢
 obtain ⟨tk, ts, tn, ta⟩ := t
 unfold Tok.v at hp
 simp only at h1 hp hk HM
 clear h
 by_cases htk : tk = 1
 ·
  have h8 : op < 8 := by by_cases h8 : op < 8; exact h8; exact absurd ⟨htk, h8⟩ h1
  subst htk
  have HY := Lib.hid fun w2 p is (hi : is = true) => must_yes (w := w2) (p := p) (why := 10) (is := is) hi
  clear h1
  go_enter Tryz.func79, Tryz.ntmps79
  go_wp2_with (go_at_call 105; refine hp.mono ?_; rintro e w2 ⟨rfl, hb2⟩; refine Hid.out ?_)
  refine Lib.hid ?_
  have ht := HT.out w2 hb2
  have c2 := ht.c2
  have hlt2 : A < w2.heap.size := ht.at_.lt
  have HTk := Lib.hid ht
  clear hp hb2 HT ht
  go_wp2_with (go_at_call 92; refine (HY.out _ _ _ (by first | rfl | simpa using h8)).mono ?_; rintro e w3 ⟨rfl, rfl⟩; refine Hid.out ?_)
  refine Lib.hid ?_
  go_wp2_with (go_at_call 92; refine (HM.out _ _ (by simpa using hk) HTk.out.tk).mono ?_; rintro e w3 ⟨rfl, hb3⟩; refine Hid.out ?_)
  refine Lib.hid ?_
  exact ⟨rfl, rfl, HTk.out.gb hb3⟩
 ·
  have hne : (tk != 1) = true := by simp [htk]
  have HY := Lib.hid fun w2 p is (hi : is = true) => must_yes (w := w2) (p := p) (why := 10) (is := is) hi
  clear h1
  go_enter Tryz.func79, Tryz.ntmps79
  go_wp2_with (go_at_call 105; refine hp.mono ?_; rintro e w2 ⟨rfl, hb2⟩; refine Hid.out ?_)
  refine Lib.hid ?_
  have ht := HT.out w2 hb2
  have c2 := ht.c2
  have hlt2 : A < w2.heap.size := ht.at_.lt
  have HTk := Lib.hid ht
  clear hp hb2 HT ht
  go_wp2_with (go_at_call 92; refine (HY.out _ _ _ (by first | rfl | simp [htk])).mono ?_; rintro e w3 ⟨rfl, rfl⟩; refine Hid.out ?_)
  refine Lib.hid ?_
  go_wp2_with (go_at_call 92; refine (HM.out _ _ (by simpa using hk) HTk.out.tk).mono ?_; rintro e w3 ⟨rfl, hb3⟩; refine Hid.out ?_)
  refine Lib.hid ?_
  exact ⟨rfl, rfl, HTk.out.gb hb3⟩
end Go.Proofs.YtgjfbbmachoolaaGreatDoor.lx
namespace Go.Proofs.YtgjfbbmachoolaaGreatDoor.lx
open Go.RowKit

theorem Taken.c0 {A : Nat} {l : List Tok} {fin op : Int} {sv : Value} {w w2 : World} {t : Tok} (h : Taken A l fin op sv t w w2) : ∃ ao cap, w2.cell? ⟨A, 0, none⟩ = some (.slice ao l.length cap) ∧ w2.heap[A]? = some (.cells #[.slice ao l.length cap, .int .i64 fin, .int .i64 op, sv] 119 (0, 0)) ∧ l.length ≤ cap ∧ cap ≤ 9223372036854775807 ∧ TRow A ao l w2 := by
 obtain ⟨ao, cap, hA, h1, h2, h3⟩ := h.at_
 exact ⟨ao, cap, by rw [Lib.cell_of_heap hA]; rfl, hA, h1, h2, h3⟩
theorem Taken.f {A : Nat} {l : List Tok} {fin op : Int} {sv : Value} {w w2 : World} {t : Tok} (h : Taken A l fin op sv t w w2) (j : Nat) : w2.frozen? ⟨A, j, none⟩ = false := by
 obtain ⟨ao, cap, hA, _⟩ := h.at_
 exact Lib.frozen_of_heap hA j
theorem Cell4.set {B A : Nat} {t : Tok} {w : World} (h : Cell4 B t w) (hne : B ≠ A) (j : Nat) (v : Value) : Cell4 B t (w.setCell ⟨A, j, none⟩ v) := (Below.heap_setCell _ _ _ _ hne).trans h
theorem Cell4.alloc {B : Nat} {t : Tok} {w : World} (h : Cell4 B t w) (o : Obj) : Cell4 B t (w.alloc o) := (Lib.alloc_old _ _ _ (Array.getElem?_eq_some_iff.1 h).1).trans h
theorem setCell_size (w : World) (a : Addr) (v : Value) : (w.setCell a v).heap.size = w.heap.size := by simp [World.setCell]
/-- the walk with its first token gone, and the token's cell -/
abbrev leftT (A : Nat) (w : World) (t : Tok) (v : Value) : World := (w.setCell ⟨A, 0, none⟩ v).alloc (.cells #[.int .u8 t.k, .string t.s, .int .i64 t.n, .int .i64 t.a] 144)
/-- what holds when take has taken, ahead of handing its token on -/
structure Took (A R : Nat) (rest : List Tok) (fin op : Int) (sv : Value) (t : Tok) (w w2 W : World) : Prop where
 at_ : AtW A rest fin op sv W
 gb : w.grownBy W (some A)
 res : Cell4 w.heap.size Tok.no W
 tok : Cell4 R t W
theorem Took.of {A : Nat} {l rest : List Tok} {fin op op' : Int} {sv : Value} {t : Tok} {w w2 : World} {ao : Option Addr} {cap : Nat} {x : Value} (h : Taken A l fin op sv t w w2) 
  (w3 : World) (h3 : ∀ k, k ≠ A → w3.heap[k]? = w2.heap[k]?) (h3A : w3.heap[A]? = some (.cells #[x, .int .i64 fin, .int .i64 op', sv] 119 (0, 0))) (hsz : w3.heap.size = w2.heap.size) (hos : w3.os = w2.os) (htp : w3.tape = w2.tape) (hou : w3.output = w2.output)
  (hc : rest.length ≤ cap) (hm : cap ≤ 9223372036854775807) (hT : TRow A ao rest w2) : Took A w2.heap.size rest fin op' sv t w w2 (leftT A w3 t (.slice ao rest.length cap)) := by
 have hlt := h.lt
 have hsz2 := h.size
 have hb : ∀ k, k ≠ A → k < w2.heap.size → (leftT A w3 t (.slice ao rest.length cap)).heap[k]? = w2.heap[k]? := fun k hk hl => by
  rw [leftT, Lib.alloc_old _ _ _ (by rw [setCell_size, hsz]; exact hl), Below.heap_setCell _ _ _ _ hk, h3 k hk]
 refine ⟨⟨ao, cap, ?_, hc, hm, hT.kept fun k hk => hb k (by omega) (by omega)⟩, ⟨hos.trans h.below.os, htp.trans h.below.tape, hou.trans h.below.output, ?_, fun k hk hne => ?_⟩, ?_, ?_⟩
 ·
  rw [leftT, Lib.alloc_old _ _ _ (by rw [setCell_size, hsz]; omega)]
  exact atw_left h3A
 ·
  show _ ≤ ((w3.setCell _ _).heap.push _).size; rw [Array.size_push, setCell_size, hsz]; omega
 ·
  exact (hb k (fun e => hne (by rw [e])) (by omega)).trans (h.below.block k hk)
 ·
  exact (hb _ (by omega) hsz2).trans h.res
 ·
  unfold Cell4
  have : (w3.setCell ⟨A, 0, none⟩ (.slice ao rest.length cap)).heap.size = w2.heap.size := by rw [setCell_size, hsz]
  rw [← this, leftT, heap_alloc_new]
theorem Took.of2 {A : Nat} {l rest : List Tok} {fin op op' : Int} {sv : Value} {t : Tok} {w w2 : World} {ao : Option Addr} {cap : Nat} {x : Value} (h : Taken A l fin op sv t w w2) (hA : w2.heap[A]? = some (.cells #[x, .int .i64 fin, .int .i64 op, sv] 119 (0, 0)))
  (hc : rest.length ≤ cap) (hm : cap ≤ 9223372036854775807) (hT : TRow A ao rest w2) : Took A w2.heap.size rest fin op' sv t w w2 (leftT A (w2.setCell ⟨A, 2, none⟩ (.int .i64 op')) t (.slice ao rest.length cap)) := by
 exact Took.of (op' := op') h (x := x) _ (fun k hk => Below.heap_setCell _ _ _ _ hk) (atw_open hA) (setCell_size _ _ _) rfl rfl rfl hc hm hT
theorem AtW.put4w {A R : Nat} {l : List Tok} {fin op : Int} {sv : Value} {w : World} (h : AtW A l fin op sv w) (hR : A < R) (t : Tok) : AtW A l fin op sv (put4 R t w) := h.kept fun k hk => put4_other R t w k (by omega)

set_option maxHeartbeats 1000000 in
set_option maxRecDepth 100000 in
theorem take_atom {A : Nat} {t : Tok} {rest : List Tok} {fin op k : Int} {sv : Value} {w : World} (h : AtW A (t :: rest) fin op sv w) (hk : t.k = k) (h1 : t.k ≠ 1) (h2 : t.k ≠ 2) :
  Calls Tryz.prog 79 #[.pointer (some ⟨A, 0, none⟩), .int .u8 k, .slice none 0 0] w fun e w' => e = .returned t.v ∧ AtW A rest fin op sv w' ∧ w.grownBy w' (some A) := by
 have hp := wpeek_any (h.below ((Below.refl _ w).alloc (Nat.le_refl _) (.cells #[.int .u8 0, .string ⟨#[]⟩, .int .i64 0, .int .i64 0] 144)))
 have HT := Lib.hid fun w2 hb => Taken.mk' (w2 := w2) (t := t) h hb
 have HY := Lib.hid fun w2 p y is (hi : is = true) => must_yes (w := w2) (p := p) (why := y) (is := is) hi
 rw [show tokAt (t :: rest) fin = t from rfl] at hp
 subst hk
 obtain ⟨tk, ts, tn, ta⟩ := t
 unfold Tok.v at hp
 simp only at h1 h2 hp ⊢
 have e1 : (tk != 1) = true := by simp [h1]
 have e2 : (tk == 1) = false := by simp [h1]
 have e3 : (tk == 2) = false := by simp [h2]
 clear h
 go_enter Tryz.func79, Tryz.ntmps79
 go_wp2_with (go_at_call 105; refine hp.mono ?_; rintro e w2 ⟨rfl, hb2⟩; refine Hid.out ?_)
 refine Lib.hid ?_
 have ht := HT.out w2 hb2
 obtain ⟨ao, cap, c0, hA, hc, hm, hR⟩ := ht.c0
 obtain ⟨b, o, rfl, hbA, d0, d1, d2, d3, hR'⟩ := hR.cons
 have c2 := ht.c2
 have f0 := ht.f 0
 have f2 := ht.f 2
 have hlt2 : A < w2.heap.size := ht.at_.lt
 have hRlt := ht.size
 have hlt := ht.lt
 simp only [List.length_cons] at c0 hc hA
 have HTk := Lib.hid ht
 have HA := Lib.hid hA
 have HR := Lib.hid hR'
 clear hp hb2 HT ht hA hR hR' d0 d1 d2 d3
 go_wp2_with (go_at_call 92; refine (HY.out _ _ _ _ (by first | rfl | simp [h1])).mono ?_; rintro e w3 ⟨rfl, rfl⟩; refine Hid.out ?_)
 refine Lib.hid ?_
 go_wp2_with (go_at_call 92; refine (HY.out _ _ _ _ (by first | rfl | simp)).mono ?_; rintro e w3 ⟨rfl, rfl⟩; refine Hid.out ?_)
 refine Lib.hid ?_
 go_wp2_with fail
 go_loopw [32] (fun v wr => v = .int .i64 0 ∧ wr = w2.alloc (.cells #[.int .u8 tk, .string ts, .int .i64 tn, .int .i64 ta] 144)) (fun _ _ => 0)
 case atStart => exact ⟨rfl, rfl⟩
 case round =>
  obtain ⟨rfl, rfl⟩ := hrel
  go_upto_region 14 with fail
  by_cases hcp : cap = 1
  ·
   have hr0 : rest.length = 0 := by omega
   subst hcp
   rw [hr0] at c0
   have HK : Took A w2.heap.size rest fin op sv ⟨tk, ts, tn, ta⟩ w w2 (leftT A w2 ⟨tk, ts, tn, ta⟩ (.slice (some ⟨b, o, none⟩) 0 0)) := by
    have h0 := Took.of (ao := some ⟨b, o, none⟩) (cap := 0) HTk.out w2 (fun _ _ => rfl) HA.out rfl rfl rfl rfl (by omega) (by omega) (.inl hr0)
    rw [hr0] at h0
    exact h0
   go_upto_region 15 with fail
   have HKT := Lib.hid HK
   obtain ⟨W, hW⟩ : ∃ W, leftT A w2 ⟨tk, ts, tn, ta⟩ (.slice (some ⟨b, o, none⟩) 0 0) = W := ⟨_, rfl⟩
   rw [hW] at HK HKT
   unfold leftT at hW
   rw [hW]
   have r0 := HK.res.c0
   have r1 := HK.res.c1
   have r2 := HK.res.c2
   have r3 := HK.res.c3
   have fr := HK.res.f
   have q0 := HK.tok.c0
   have q1 := HK.tok.c1
   have q2 := HK.tok.c2
   have q3 := HK.tok.c3
   clear hW HK HTk HA HR HY c0 c2 f0 f2
   go_wp2_with fail
   exact bodyPost_ret (v := (⟨tk, ts, tn, ta⟩ : Tok).v) (results1 rfl (put4_cell HKT.out.res ⟨tk, ts, tn, ta⟩) rfl) rfl ⟨rfl, HKT.out.at_.put4w hlt ⟨tk, ts, tn, ta⟩, put4_gbw HKT.out.gb (Nat.le_refl _) ⟨tk, ts, tn, ta⟩⟩
  ·
   skip
   have HK : Took A w2.heap.size rest fin op sv ⟨tk, ts, tn, ta⟩ w w2 (leftT A w2 ⟨tk, ts, tn, ta⟩ (.slice (some ⟨b, o + 4, none⟩) rest.length (cap - 1))) := by
    have h0 := Took.of (ao := some ⟨b, o + 4, none⟩) (cap := cap - 1) HTk.out w2 (fun _ _ => rfl) HA.out rfl rfl rfl rfl (by omega) (by omega) HR.out
    exact h0
   go_upto_region 15 with fail
   have HKT := Lib.hid HK
   obtain ⟨W, hW⟩ : ∃ W, leftT A w2 ⟨tk, ts, tn, ta⟩ (.slice (some ⟨b, o + 4, none⟩) rest.length (cap - 1)) = W := ⟨_, rfl⟩
   rw [hW] at HK HKT
   unfold leftT at hW
   rw [hW]
   have r0 := HK.res.c0
   have r1 := HK.res.c1
   have r2 := HK.res.c2
   have r3 := HK.res.c3
   have fr := HK.res.f
   have q0 := HK.tok.c0
   have q1 := HK.tok.c1
   have q2 := HK.tok.c2
   have q3 := HK.tok.c3
   clear hW HK HTk HA HR HY c0 c2 f0 f2
   go_wp2_with fail
   exact bodyPost_ret (v := (⟨tk, ts, tn, ta⟩ : Tok).v) (results1 rfl (put4_cell HKT.out.res ⟨tk, ts, tn, ta⟩) rfl) rfl ⟨rfl, HKT.out.at_.put4w hlt ⟨tk, ts, tn, ta⟩, put4_gbw HKT.out.gb (Nat.le_refl _) ⟨tk, ts, tn, ta⟩⟩

set_option maxHeartbeats 1000000 in
set_option maxRecDepth 100000 in
theorem take_open {A : Nat} {t : Tok} {rest : List Tok} {fin op : Int} {sv : Value} {w : World} (h : AtW A (t :: rest) fin op sv w) (hk : t.k = 1) (h8 : op < 8) (hlo : -4611686018427387904 ≤ op) :
  Calls Tryz.prog 79 #[.pointer (some ⟨A, 0, none⟩), .int .u8 1, .slice none 0 0] w fun e w' => e = .returned t.v ∧ AtW A rest fin (op + 1) sv w' ∧ w.grownBy w' (some A) := by
 have hp := wpeek_any (h.below ((Below.refl _ w).alloc (Nat.le_refl _) (.cells #[.int .u8 0, .string ⟨#[]⟩, .int .i64 0, .int .i64 0] 144)))
 have HT := Lib.hid fun w2 hb => Taken.mk' (w2 := w2) (t := t) h hb
 have HY := Lib.hid fun w2 p y is (hi : is = true) => must_yes (w := w2) (p := p) (why := y) (is := is) hi
 rw [show tokAt (t :: rest) fin = t from rfl] at hp
 obtain ⟨tk, ts, tn, ta⟩ := t
 unfold Tok.v at hp
 simp only at hk hp ⊢
 subst hk
 clear h
 go_enter Tryz.func79, Tryz.ntmps79
 go_wp2_with (go_at_call 105; refine hp.mono ?_; rintro e w2 ⟨rfl, hb2⟩; refine Hid.out ?_)
 refine Lib.hid ?_
 have ht := HT.out w2 hb2
 obtain ⟨ao, cap, c0, hA, hc, hm, hR⟩ := ht.c0
 obtain ⟨b, o, rfl, hbA, d0, d1, d2, d3, hR'⟩ := hR.cons
 have c2 := ht.c2
 have f0 := ht.f 0
 have f2 := ht.f 2
 have hlt2 : A < w2.heap.size := ht.at_.lt
 have hRlt := ht.size
 have hlt := ht.lt
 simp only [List.length_cons] at c0 hc hA
 have HTk := Lib.hid ht
 have HA := Lib.hid hA
 have HR := Lib.hid hR'
 clear hp hb2 HT ht hA hR hR' d0 d1 d2 d3
 go_wp2_with (go_at_call 92; refine (HY.out _ _ _ _ (by first | rfl | simpa using h8)).mono ?_; rintro e w3 ⟨rfl, rfl⟩; refine Hid.out ?_)
 refine Lib.hid ?_
 go_wp2_with (go_at_call 92; refine (HY.out _ _ _ _ (by first | rfl | simp)).mono ?_; rintro e w3 ⟨rfl, rfl⟩; refine Hid.out ?_)
 refine Lib.hid ?_
 go_wp2_with fail
 go_loopw [32] (fun v wr => v = .int .i64 0 ∧ wr = w2.alloc (.cells #[.int .u8 1, .string ts, .int .i64 tn, .int .i64 ta] 144)) (fun _ _ => 0)
 case atStart => exact ⟨rfl, rfl⟩
 case round =>
  obtain ⟨rfl, rfl⟩ := hrel
  go_upto_region 14 with fail
  by_cases hcp : cap = 1
  ·
   have hr0 : rest.length = 0 := by omega
   subst hcp
   rw [hr0] at c0
   have HK : Took A w2.heap.size rest fin (op + 1) sv ⟨1, ts, tn, ta⟩ w w2 (leftT A (w2.setCell ⟨A, 2, none⟩ (.int .i64 (op + 1))) ⟨1, ts, tn, ta⟩ (.slice (some ⟨b, o, none⟩) 0 0)) := by
    have h0 := Took.of2 (op' := (op + 1)) (ao := some ⟨b, o, none⟩) (cap := 0) HTk.out HA.out (by omega) (by omega) (.inl hr0)
    rw [hr0] at h0
    exact h0
   go_upto_region 15 with fail
   have HKT := Lib.hid HK
   obtain ⟨W, hW⟩ : ∃ W, leftT A (w2.setCell ⟨A, 2, none⟩ (.int .i64 (op + 1))) ⟨1, ts, tn, ta⟩ (.slice (some ⟨b, o, none⟩) 0 0) = W := ⟨_, rfl⟩
   rw [hW] at HK HKT
   unfold leftT at hW
   rw [hW]
   have r0 := HK.res.c0
   have r1 := HK.res.c1
   have r2 := HK.res.c2
   have r3 := HK.res.c3
   have fr := HK.res.f
   have q0 := HK.tok.c0
   have q1 := HK.tok.c1
   have q2 := HK.tok.c2
   have q3 := HK.tok.c3
   clear hW HK HTk HA HR HY c0 c2 f0 f2
   go_wp2_with fail
   exact bodyPost_ret (v := (⟨1, ts, tn, ta⟩ : Tok).v) (results1 rfl (put4_cell HKT.out.res ⟨1, ts, tn, ta⟩) rfl) rfl ⟨rfl, HKT.out.at_.put4w hlt ⟨1, ts, tn, ta⟩, put4_gbw HKT.out.gb (Nat.le_refl _) ⟨1, ts, tn, ta⟩⟩
  ·
   skip
   have HK : Took A w2.heap.size rest fin (op + 1) sv ⟨1, ts, tn, ta⟩ w w2 (leftT A (w2.setCell ⟨A, 2, none⟩ (.int .i64 (op + 1))) ⟨1, ts, tn, ta⟩ (.slice (some ⟨b, o + 4, none⟩) rest.length (cap - 1))) := by
    have h0 := Took.of2 (op' := (op + 1)) (ao := some ⟨b, o + 4, none⟩) (cap := cap - 1) HTk.out HA.out (by omega) (by omega) HR.out
    exact h0
   go_upto_region 15 with fail
   have HKT := Lib.hid HK
   obtain ⟨W, hW⟩ : ∃ W, leftT A (w2.setCell ⟨A, 2, none⟩ (.int .i64 (op + 1))) ⟨1, ts, tn, ta⟩ (.slice (some ⟨b, o + 4, none⟩) rest.length (cap - 1)) = W := ⟨_, rfl⟩
   rw [hW] at HK HKT
   unfold leftT at hW
   rw [hW]
   have r0 := HK.res.c0
   have r1 := HK.res.c1
   have r2 := HK.res.c2
   have r3 := HK.res.c3
   have fr := HK.res.f
   have q0 := HK.tok.c0
   have q1 := HK.tok.c1
   have q2 := HK.tok.c2
   have q3 := HK.tok.c3
   clear hW HK HTk HA HR HY c0 c2 f0 f2
   go_wp2_with fail
   exact bodyPost_ret (v := (⟨1, ts, tn, ta⟩ : Tok).v) (results1 rfl (put4_cell HKT.out.res ⟨1, ts, tn, ta⟩) rfl) rfl ⟨rfl, HKT.out.at_.put4w hlt ⟨1, ts, tn, ta⟩, put4_gbw HKT.out.gb (Nat.le_refl _) ⟨1, ts, tn, ta⟩⟩

set_option maxHeartbeats 1000000 in
set_option maxRecDepth 100000 in
theorem take_close {A : Nat} {t : Tok} {rest : List Tok} {fin op : Int} {sv : Value} {w : World} (h : AtW A (t :: rest) fin op sv w) (hk : t.k = 2) (hlo : -4611686018427387904 ≤ op) (hhi : op ≤ 4611686018427387904) :
  Calls Tryz.prog 79 #[.pointer (some ⟨A, 0, none⟩), .int .u8 2, .slice none 0 0] w fun e w' => e = .returned t.v ∧ AtW A rest fin (op - 1) sv w' ∧ w.grownBy w' (some A) := by
 have hp := wpeek_any (h.below ((Below.refl _ w).alloc (Nat.le_refl _) (.cells #[.int .u8 0, .string ⟨#[]⟩, .int .i64 0, .int .i64 0] 144)))
 have HT := Lib.hid fun w2 hb => Taken.mk' (w2 := w2) (t := t) h hb
 have HY := Lib.hid fun w2 p y is (hi : is = true) => must_yes (w := w2) (p := p) (why := y) (is := is) hi
 rw [show tokAt (t :: rest) fin = t from rfl] at hp
 obtain ⟨tk, ts, tn, ta⟩ := t
 unfold Tok.v at hp
 simp only at hk hp ⊢
 subst hk
 clear h
 go_enter Tryz.func79, Tryz.ntmps79
 go_wp2_with (go_at_call 105; refine hp.mono ?_; rintro e w2 ⟨rfl, hb2⟩; refine Hid.out ?_)
 refine Lib.hid ?_
 have ht := HT.out w2 hb2
 obtain ⟨ao, cap, c0, hA, hc, hm, hR⟩ := ht.c0
 obtain ⟨b, o, rfl, hbA, d0, d1, d2, d3, hR'⟩ := hR.cons
 have c2 := ht.c2
 have f0 := ht.f 0
 have f2 := ht.f 2
 have hlt2 : A < w2.heap.size := ht.at_.lt
 have hRlt := ht.size
 have hlt := ht.lt
 simp only [List.length_cons] at c0 hc hA
 have HTk := Lib.hid ht
 have HA := Lib.hid hA
 have HR := Lib.hid hR'
 clear hp hb2 HT ht hA hR hR' d0 d1 d2 d3
 go_wp2_with (go_at_call 92; refine (HY.out _ _ _ _ (by first | rfl | simp)).mono ?_; rintro e w3 ⟨rfl, rfl⟩; refine Hid.out ?_)
 refine Lib.hid ?_
 go_wp2_with (go_at_call 92; refine (HY.out _ _ _ _ (by first | rfl | simp)).mono ?_; rintro e w3 ⟨rfl, rfl⟩; refine Hid.out ?_)
 refine Lib.hid ?_
 go_wp2_with fail
 go_loopw [32] (fun v wr => v = .int .i64 0 ∧ wr = w2.alloc (.cells #[.int .u8 2, .string ts, .int .i64 tn, .int .i64 ta] 144)) (fun _ _ => 0)
 case atStart => exact ⟨rfl, rfl⟩
 case round =>
  obtain ⟨rfl, rfl⟩ := hrel
  go_upto_region 14 with fail
  by_cases hcp : cap = 1
  ·
   have hr0 : rest.length = 0 := by omega
   subst hcp
   rw [hr0] at c0
   have HK : Took A w2.heap.size rest fin (op - 1) sv ⟨2, ts, tn, ta⟩ w w2 (leftT A (w2.setCell ⟨A, 2, none⟩ (.int .i64 (op - 1))) ⟨2, ts, tn, ta⟩ (.slice (some ⟨b, o, none⟩) 0 0)) := by
    have h0 := Took.of2 (op' := (op - 1)) (ao := some ⟨b, o, none⟩) (cap := 0) HTk.out HA.out (by omega) (by omega) (.inl hr0)
    rw [hr0] at h0
    exact h0
   go_upto_region 15 with fail
   have HKT := Lib.hid HK
   obtain ⟨W, hW⟩ : ∃ W, leftT A (w2.setCell ⟨A, 2, none⟩ (.int .i64 (op - 1))) ⟨2, ts, tn, ta⟩ (.slice (some ⟨b, o, none⟩) 0 0) = W := ⟨_, rfl⟩
   rw [hW] at HK HKT
   unfold leftT at hW
   rw [hW]
   have r0 := HK.res.c0
   have r1 := HK.res.c1
   have r2 := HK.res.c2
   have r3 := HK.res.c3
   have fr := HK.res.f
   have q0 := HK.tok.c0
   have q1 := HK.tok.c1
   have q2 := HK.tok.c2
   have q3 := HK.tok.c3
   clear hW HK HTk HA HR HY c0 c2 f0 f2
   go_wp2_with fail
   exact bodyPost_ret (v := (⟨2, ts, tn, ta⟩ : Tok).v) (results1 rfl (put4_cell HKT.out.res ⟨2, ts, tn, ta⟩) rfl) rfl ⟨rfl, HKT.out.at_.put4w hlt ⟨2, ts, tn, ta⟩, put4_gbw HKT.out.gb (Nat.le_refl _) ⟨2, ts, tn, ta⟩⟩
  ·
   skip
   have HK : Took A w2.heap.size rest fin (op - 1) sv ⟨2, ts, tn, ta⟩ w w2 (leftT A (w2.setCell ⟨A, 2, none⟩ (.int .i64 (op - 1))) ⟨2, ts, tn, ta⟩ (.slice (some ⟨b, o + 4, none⟩) rest.length (cap - 1))) := by
    have h0 := Took.of2 (op' := (op - 1)) (ao := some ⟨b, o + 4, none⟩) (cap := cap - 1) HTk.out HA.out (by omega) (by omega) HR.out
    exact h0
   go_upto_region 15 with fail
   have HKT := Lib.hid HK
   obtain ⟨W, hW⟩ : ∃ W, leftT A (w2.setCell ⟨A, 2, none⟩ (.int .i64 (op - 1))) ⟨2, ts, tn, ta⟩ (.slice (some ⟨b, o + 4, none⟩) rest.length (cap - 1)) = W := ⟨_, rfl⟩
   rw [hW] at HK HKT
   unfold leftT at hW
   rw [hW]
   have r0 := HK.res.c0
   have r1 := HK.res.c1
   have r2 := HK.res.c2
   have r3 := HK.res.c3
   have fr := HK.res.f
   have q0 := HK.tok.c0
   have q1 := HK.tok.c1
   have q2 := HK.tok.c2
   have q3 := HK.tok.c3
   clear hW HK HTk HA HR HY c0 c2 f0 f2
   go_wp2_with fail
   exact bodyPost_ret (v := (⟨2, ts, tn, ta⟩ : Tok).v) (results1 rfl (put4_cell HKT.out.res ⟨2, ts, tn, ta⟩) rfl) rfl ⟨rfl, HKT.out.at_.put4w hlt ⟨2, ts, tn, ta⟩, put4_gbw HKT.out.gb (Nat.le_refl _) ⟨2, ts, tn, ta⟩⟩
end Go.Proofs.YtgjfbbmachoolaaGreatDoor.lx
namespace Go.Proofs.YtgjfbbmachoolaaGreatDoor.lx
open Go.RowKit

/-- the digit of a number below 16 -/
def hexD (u : Nat) : UInt8 := UInt8.ofNat (if u < 10 then 48 + u else 87 + u)

/-- the digits of a number below 256 at base 16 -/
def hexN2 (u : Nat) : List UInt8 := if u < 16 then [hexD u] else [hexD (u / 16), hexD (u % 16)]

end Go.Proofs.YtgjfbbmachoolaaGreatDoor.lx
namespace Go.Proofs.YtgjfbbmachoolaaGreatDoor.lx
open Go.RowKit

/-- how quoted writes a rune -/
def quotR (r : Int) : List UInt8 :=
 if r = 34 ∨ r = 92 then 92 :: Lib.encodeRune r else if r < 32 ∨ r = 127 then [92, 117, 123] ++ hexN2 r.toNat ++ [125] else Lib.encodeRune r
def quotL (l : ByteArray) : List UInt8 :=
 if _h : l.size = 0 then [] else if _h2 : (adv l).size < l.size then quotR (dr l) ++ quotL (adv l) else []
termination_by l.size
def quotF (s : ByteArray) : ByteArray := ⟨(34 :: (quotL s ++ [34])).toArray⟩

theorem rest_size (s : ByteArray) (pos : Nat) : (s.extract pos s.size).size = s.size - pos := Lib.size_rest s pos
theorem decode_rest (s : ByteArray) (pos : Nat) (h : pos < s.size) : Lib.decodeGo (s.extract pos s.size) = Utf8.decode s pos := by
 unfold Lib.decodeGo
 rw [if_neg (by rw [rest_size]; omega)]
 exact Go.Extern.FmtText.decode_extract s pos
theorem adv_rest (s : ByteArray) (pos : Nat) (h : pos < s.size) : adv (s.extract pos s.size) = s.extract (pos + (Utf8.decode s pos).2) s.size := by
 unfold adv dn
 rw [decode_rest s pos h]
 exact Go.Extern.FmtText.extract_extract s pos _
theorem dr_rest (s : ByteArray) (pos : Nat) (h : pos < s.size) : dr (s.extract pos s.size) = ((Utf8.decode s pos).1 : Int) := by unfold dr; rw [decode_rest s pos h]
theorem dn_rest (s : ByteArray) (pos : Nat) (h : pos < s.size) : dn (s.extract pos s.size) = (Utf8.decode s pos).2 := by unfold dn; rw [decode_rest s pos h]
theorem all_rest (s : ByteArray) : s.extract 0 s.size = s := by apply ByteArray.ext; simp

end Go.Proofs.YtgjfbbmachoolaaGreatDoor.lx
namespace Go.Proofs.YtgjfbbmachoolaaGreatDoor.lx
open Go.RowKit

/-- what the parser's library reads -/
structure PGlob (w : World) : Prop where
 glob : Glob w
 asp : Lib.TabIs Tryz.prog w "strings.asciiSpace" .u8 Lib.asciiSpaceTab
 mxl : ∃ m, w.cell? ⟨2, 0, none⟩ = some (.int .i64 m)
theorem g_asp : Tryz.prog.globalNamed "strings.asciiSpace" = some 4 := by kernel_rfl
theorem PGlob.of {w w' : World} (h : PGlob w) (hs : w.heap.size ≤ w'.heap.size) (hk : ∀ k, k < 11 → w'.heap[k]? = w.heap[k]?) : PGlob w' where
 glob := h.glob.of hs hk
 asp := (var_of_block g_asp (hk _ (by decide))).trans h.asp
 mxl := by obtain ⟨m, hm⟩ := h.mxl; exact ⟨m, (World.cell?_of_block (hk 2 (by decide))).trans hm⟩
theorem PGlob.self {w w' : World} (h : PGlob w) (hb : Below w.heap.size w w') : PGlob w' := h.of hb.size fun k hk => hb.block k (by have := h.glob.size; omega)
theorem PGlob.gb {w w' : World} (h : PGlob w) {b : Nat} (hB : 11 ≤ b) (hb : w.grownBy w' (some b)) : PGlob w' := h.of hb.size fun k hk => hb.block k (by have := h.glob.size; omega) (by intro e; injection e; omega)

/-- strings in a block of their own -/
def SBlk (b : Nat) (zs : List ByteArray) (w : World) : Prop := ∀ j, j < zs.length → w.cell? ⟨b, 0 + j, none⟩ = some (.string (zs.getD j ByteArray.empty))
theorem SBlk.below {b : Nat} {zs : List ByteArray} {w w' : World} (h : SBlk b zs w) (hb : Below w.heap.size w w') : SBlk b zs w' := fun j hj => keep_cellP hb (h j hj)
theorem sblk_new (w : World) (zs : List ByteArray) (cs : Array Value) (t : TypeId) (hcs : ∀ j, j < zs.length → cs[j]? = some (.string (zs.getD j ByteArray.empty))) : SBlk w.heap.size zs (w.alloc (.cells cs t)) := by
 intro j hj
 rw [Lib.cell_of_heap (heap_alloc_new _ _), Nat.zero_add]
 exact hcs j hj

set_option maxRecDepth 100000 in
theorem operators_any (w : World) (hG : PGlob w) :
  Calls Tryz.prog 131 #[] w fun e w' => e = .returned (.slice (some ⟨w.heap.size, 0, none⟩) 15 15) ∧ SBlk w.heap.size opsL w' ∧ Below w.heap.size w w' := by
 have hf : Lib.fields [110, 101, 103, 32, 110, 111, 116, 32, 110, 117, 108, 108, 63, 32, 108, 101, 110, 103, 116, 104, 32, 43, 32, 45, 32, 42, 32, 61, 32, 60, 62, 32, 60, 32, 60, 61, 32, 62, 32, 62, 61, 32, 97, 110, 100, 32, 111, 114] = opsL.map (·.data.toList) := by decide +kernel
 have hc := Tryz.strings_Fields_laid ⟨#[110, 101, 103, 32, 110, 111, 116, 32, 110, 117, 108, 108, 63, 32, 108, 101, 110, 103, 116, 104, 32, 43, 32, 45, 32, 42, 32, 61, 32, 60, 62, 32, 60, 32, 60, 61, 32, 62, 32, 62, 61, 32, 97, 110, 100, 32, 111, 114]⟩ w (by decide) (fun j b hb => by
  have h : ([110, 101, 103, 32, 110, 111, 116, 32, 110, 117, 108, 108, 63, 32, 108, 101, 110, 103, 116, 104, 32, 43, 32, 45, 32, 42, 32, 61, 32, 60, 62, 32, 60, 32, 60, 61, 32, 62, 32, 62, 61, 32, 97, 110, 100, 32, 111, 114] : List UInt8).all (fun b => decide (b.toNat < 128)) = true := by decide +kernel
  exact of_decide_eq_true (List.all_eq_true.1 h b (List.mem_of_getElem? hb))) hG.asp
 simp only [hf] at hc
 have hb : Below w.heap.size w (w.alloc (.cells ((opsL.map (·.data.toList)).map fun l => Value.string ⟨l.toArray⟩).toArray 9)) := (Below.refl _ w).alloc (Nat.le_refl _) _
 have hS : SBlk w.heap.size opsL (w.alloc (.cells ((opsL.map (·.data.toList)).map fun l => Value.string ⟨l.toArray⟩).toArray 9)) := sblk_new w opsL _ _ (by
  intro j hj
  have hj15 : j < 15 := hj
  have : ∀ k : Fin 15, (((opsL.map (·.data.toList)).map fun l => Value.string ⟨l.toArray⟩).toArray)[k.val]? = some (.string (opsL.getD k.val ByteArray.empty)) := by
   intro k
   match k with
   | ⟨0, _⟩ => rfl | ⟨1, _⟩ => rfl | ⟨2, _⟩ => rfl | ⟨3, _⟩ => rfl | ⟨4, _⟩ => rfl | ⟨5, _⟩ => rfl | ⟨6, _⟩ => rfl | ⟨7, _⟩ => rfl
   | ⟨8, _⟩ => rfl | ⟨9, _⟩ => rfl | ⟨10, _⟩ => rfl | ⟨11, _⟩ => rfl | ⟨12, _⟩ => rfl | ⟨13, _⟩ => rfl | ⟨14, _⟩ => rfl
  exact this ⟨j, hj15⟩)
 have hl : (opsL.map (·.data.toList)).length = 15 := by decide
 rw [hl] at hc
 generalize hW : w.alloc (.cells ((opsL.map (·.data.toList)).map fun l => Value.string ⟨l.toArray⟩).toArray 9) = W at hc hb hS
 clear hW hf hl
 go_enter Tryz.func131, Tryz.ntmps131
 go_wp2_with (go_at_call 150; refine hc.mono ?_; rintro e w2 ⟨rfl, rfl⟩; refine Hid.out ?_)
 refine Lib.hid ?_
 go_wp2_with fail
 go_ret
 exact ⟨rfl, hS, hb⟩

set_option maxRecDepth 100000 in
theorem words_any (w : World) :
  Calls Tryz.prog 108 #[] w fun e w' => e = .returned (.slice (some ⟨w.heap.size, 0, none⟩) 5 5) ∧ SBlk w.heap.size wordsL w' ∧ Below w.heap.size w w' := by
 go_enter Tryz.func108, Tryz.ntmps108
 go_wp2_with fail
 go_ret
 refine ⟨rfl, sblk_new w wordsL _ _ ?_, (Below.refl _ w).alloc (Nat.le_refl _) _⟩
 intro j hj
 have hj5 : j < 5 := hj
 have : ∀ k : Fin 5, (#[Value.string ⟨#[]⟩, .string ⟨#[99, 111, 117, 110, 116]⟩, .string ⟨#[115, 117, 109]⟩, .string ⟨#[109, 105, 110]⟩, .string ⟨#[109, 97, 120]⟩] : Array Value)[k.val]? = some (.string (wordsL.getD k.val ByteArray.empty)) := by
  intro k
  match k with
  | ⟨0, _⟩ => rfl | ⟨1, _⟩ => rfl | ⟨2, _⟩ => rfl | ⟨3, _⟩ => rfl | ⟨4, _⟩ => rfl
 exact this ⟨j, hj5⟩

/-- where the range over a name stands -/
def NmAt (s : ByteArray) (pos : Nat) : Prop := nameG (decide (pos = 0)) (gl (B (s.extract pos s.size))) = nameG true (gl (B s))
def okRune (first : Bool) (r : Int) : Bool := (97 ≤ r && r ≤ 122) || (65 ≤ r && r ≤ 90) || r == 95 || 128 ≤ r || (!first && 48 ≤ r && r ≤ 57)
theorem NmAt.step {s : ByteArray} {pos q r : Nat} (h : NmAt s pos) (hp : pos < s.size) (hr : (Utf8.decode s pos).1 = r) (hq : pos + (Utf8.decode s pos).2 = q) (h1 : pos < q) :
  if okRune (decide (pos = 0)) (r : Int) = true then NmAt s q else nameG true (gl (B s)) = false := by
 unfold NmAt at h ⊢
 rw [glB_cons (by rw [rest_size]; omega), dr_rest s pos hp, adv_rest s pos hp, hr, hq] at h
 have hd : decide (q = 0) = false := by simp; omega
 rw [hd]
 split
 ·
  rename_i hk
  rw [← h]
  show _ = (okRune (decide (pos = 0)) (r : Int) && _)
  rw [hk, Bool.true_and]
 ·
  rename_i hk
  rw [← h]
  show (okRune (decide (pos = 0)) (r : Int) && _) = false
  rw [Bool.eq_false_iff.2 hk, Bool.false_and]
theorem NmAt.done {s : ByteArray} {pos : Nat} (h : NmAt s pos) (hp : ¬ pos < s.size) : nameG true (gl (B s)) = true := by
 unfold NmAt at h
 rw [← h, glB_nil (by rw [rest_size]; omega)]
 rfl
theorem name_no {s : ByteArray} (h : s.size = 0 ∨ 64 < s.size ∨ Lib.validD s.data.toList = false ∨ Lib.containsS [nullB, trueB, falseB] s = true ∨ nameG true (gl (B s)) = false) : nameR s = false := by
 unfold nameR
 rcases h with h | h | h | h | h
 ·
  simp [h]
 ·
  rw [decide_eq_false (show ¬ s.size ≤ 64 by omega)]; simp
 ·
  rw [h]; simp
 ·
  rw [h]; simp
 ·
  rw [h]; simp
theorem name_yes {s : ByteArray} (h0 : s.size ≠ 0) (h1 : s.size ≤ 64) (h2 : Lib.validD s.data.toList = true) (h3 : Lib.containsS [nullB, trueB, falseB] s = false) (h4 : nameG true (gl (B s)) = true) : nameR s = true := by
 unfold nameR
 rw [h2, h3, h4, decide_eq_true h0, decide_eq_true h1]
 rfl

set_option maxHeartbeats 16000000 in
set_option maxRecDepth 100000 in
theorem name_any (s : ByteArray) (w : World) (hG : Glob w) (hs : s.size ≤ 9223372036854775807) :
  Calls Tryz.prog 41 #[.string s] w fun e w' => e = .returned (.bool (nameR s)) ∧ Below w.heap.size w w' := by
 obtain ⟨N, hN⟩ : ∃ N, nameR s = N := ⟨_, rfl⟩
 rw [hN]
 by_cases h0 : s.size = 0
 ·
  have hi : s.toList.isEmpty = true := by rw [Lib.toList_data, show s.data.toList = [] from B_nil h0]; rfl
  have hF := Lib.hid (hN.symm.trans (name_no (.inl h0)))
  clear hN h0
  go_enter Tryz.func41, Tryz.ntmps41
  go_wp2_with fail
  go_ret
  exact ⟨ret_bool hF.out.symm, Below.refl _ _⟩
 have hl : ¬ s.toList = [] := by rw [Lib.toList_data]; exact B_ne h0
 have hi : s.toList.isEmpty = false := by simp [hl]
 by_cases h64 : 64 < s.size
 ·
  have hF := Lib.hid (hN.symm.trans (name_no (.inr (.inl h64))))
  have hI : (64 : Int) < (s.size : Int) := by omega
  clear hN
  go_enter Tryz.func41, Tryz.ntmps41
  go_wp2_with fail
  go_ret
  exact ⟨ret_bool hF.out.symm, Below.refl _ _⟩
 have hI : ¬ (64 : Int) < (s.size : Int) := by omega
 have hv := Tryz.utf8_ValidString_laid s w hs hG.utf
 cases hvd : Lib.validD s.data.toList with
 | false =>
  rw [hvd] at hv
  have hF := Lib.hid (hN.symm.trans (name_no (.inr (.inr (.inl hvd)))))
  clear hN hvd
  go_enter Tryz.func41, Tryz.ntmps41
  go_wp2_with (go_at_call 63; refine hv.mono ?_; rintro e w2 ⟨rfl, hb2⟩; refine Hid.out ?_)
  refine Lib.hid ?_
  go_wp2_with fail
  go_ret
  exact ⟨ret_bool hF.out.symm, hb2⟩
 | true =>
 rw [hvd] at hv
 have hlit : ∀ w2 : World, SBlk w2.heap.size [nullB, trueB, falseB] (w2.alloc (.cells #[.string ⟨#[110, 117, 108, 108]⟩, .string ⟨#[116, 114, 117, 101]⟩, .string ⟨#[102, 97, 108, 115, 101]⟩] 9)) := fun w2 => sblk_new w2 _ _ _ (by
  intro j hj
  have hj3 : j < 3 := hj
  match j, hj3 with
  | 0, _ => rfl
  | 1, _ => rfl
  | 2, _ => rfl)
 have hcn := fun w2 => Tryz.slices_Contains_string (World.heap w2).size 0 3 3 [nullB, trueB, falseB] s _ (by decide) (by decide) (hlit w2)
 rw [show List.take 3 [nullB, trueB, falseB] = [nullB, trueB, falseB] from rfl] at hcn
 have hcn := fun w2 => (hcn w2).mono fun e w' ⟨h1, h2⟩ => (⟨h1, h2 ▸ (Below.refl w2.heap.size w2).alloc (Nat.le_refl _) _⟩ : e = _ ∧ Below w2.heap.size w2 w')
 cases hct : Lib.containsS [nullB, trueB, falseB] s with
 | true =>
  rw [hct] at hcn
  have hF := Lib.hid (hN.symm.trans (name_no (.inr (.inr (.inr (.inl hct))))))
  clear hN hvd hct hlit
  go_enter Tryz.func41, Tryz.ntmps41
  go_wp2_with (go_at_call 63; refine hv.mono ?_; rintro e w2 ⟨rfl, hb2⟩; refine Hid.out ?_)
  refine Lib.hid ?_
  go_wp2_with (go_at_call 64; refine (hcn _).mono ?_; rintro e w3 ⟨rfl, hb3⟩; refine Hid.out ?_)
  refine Lib.hid ?_
  go_wp2_with fail
  go_ret
  exact ⟨ret_bool hF.out.symm, below_self hb2 hb3⟩
 | false =>
 rw [hct] at hcn
 have HY : Hid (nameG true (gl (B s)) = true → N = true) := Lib.hid fun h4 => hN.symm.trans (name_yes h0 (by omega) hvd hct h4)
 have HNO : Hid (nameG true (gl (B s)) = false → N = false) := Lib.hid fun h4 => hN.symm.trans (name_no (.inr (.inr (.inr (.inr h4)))))
 clear hN hvd hct hlit
 go_enter Tryz.func41, Tryz.ntmps41
 go_wp2_with (go_at_call 63; refine hv.mono ?_; rintro e w2 ⟨rfl, hb2⟩; refine Hid.out ?_)
 refine Lib.hid ?_
 go_wp2_with (go_at_call 64; refine (hcn _).mono ?_; rintro e w3 ⟨rfl, hb3'⟩; refine Hid.out ?_)
 refine Lib.hid ?_
 have hb3 : Below w.heap.size w w3 := below_self hb2 hb3'
 clear hb3' hcn hv hb2
 have hsz3 := hb3.size
 go_wp2_with fail
 go_loopw [] (fun wr => ∃ (pos : Nat), wr.heap[w3.heap.size]? = some (.stringIter s pos) ∧ Below w3.heap.size w3 wr ∧ Hid (NmAt s pos) ∧ pos ≤ s.size) (fun wr => s.size - wr.iterPos w3.heap.size)
 case atStart =>
  refine ⟨0, ?_, (Below.refl _ w3).alloc (Nat.le_refl _) _, Lib.hid (by unfold NmAt; rw [all_rest]; rfl), by omega⟩
  have := World.iter_heap w3 s 0
  simpa using this
 case round =>
  obtain ⟨pos, hit, hbr, HA, hps⟩ := hrel
  by_cases hp : pos < s.size
  ·
   have hnxt : ∀ ty, (Instr.next (.pointer (some ⟨w3.heap.size, 0, none⟩)) true ty).run Tryz.prog wr = _ := fun ty => Lib.run_next_any_at wr w3.heap.size s pos ty hit hp
   have hwd : 1 ≤ (Utf8.decode s pos).2 := by rw [← dn_rest s pos hp]; exact (dn_bounds _ (by rw [rest_size]; omega)).1
   have hwe : pos + (Utf8.decode s pos).2 ≤ s.size := by
    have := (dn_bounds (s.extract pos s.size) (by rw [rest_size]; omega)).2.2
    rw [dn_rest s pos hp, rest_size] at this
    omega
   obtain ⟨r, hr⟩ : ∃ r, (Utf8.decode s pos).1 = r := ⟨_, rfl⟩
   obtain ⟨q, hq⟩ : ∃ q, pos + (Utf8.decode s pos).2 = q := ⟨_, rfl⟩
   have hst := HA.out.step hp hr hq (by omega)
   have hit2 := Lib.iterAt_heap wr w3.heap.size s pos q hit
   have hbr2 := Lib.below_iterAt hbr (k := w3.heap.size) (Nat.le_refl _) s q
   rw [hq] at hnxt hwe
   rw [hr] at hnxt
   have HM : Hid (s.size - q < s.size - wr.iterPos w3.heap.size) := Lib.hid (by simp only [World.iterPos, hit]; omega)
   have hbz := below_self hb3 hbr2
   clear HA hr hq hwd hbr
   by_cases x1 : 97 ≤ r
   ·
    by_cases x2 : r ≤ 122
    ·
     skip
     have hk : okRune (decide (pos = 0)) (r : Int) = true := by unfold okRune; simp; omega
     rw [if_pos hk] at hst
     have HST := Lib.hid hst
     clear hst hk
     have a97 : (97 : Int) ≤ (r : Int) := by omega
     have b122 : (r : Int) ≤ (122 : Int) := by omega
     go_wp2_with fail
     exact ⟨⟨q, hit2, hbr2, HST, hwe⟩, by simp only [World.iterPos, hit2]; exact HM.out⟩
    ·
     by_cases x3 : 128 ≤ r
     ·
      skip
      have hk : okRune (decide (pos = 0)) (r : Int) = true := by unfold okRune; simp; omega
      rw [if_pos hk] at hst
      have HST := Lib.hid hst
      clear hst hk
      have a97 : (97 : Int) ≤ (r : Int) := by omega
      have b122 : ¬ (r : Int) ≤ (122 : Int) := by omega
      have a65 : (65 : Int) ≤ (r : Int) := by omega
      have b90 : ¬ (r : Int) ≤ (90 : Int) := by omega
      have e95 : ((r : Int) == 95) = false := by simp; omega
      have a128 : (128 : Int) ≤ (r : Int) := by omega
      go_wp2_with fail
      exact ⟨⟨q, hit2, hbr2, HST, hwe⟩, by simp only [World.iterPos, hit2]; exact HM.out⟩
     ·
      skip
      by_cases x4 : pos = 0
      ·
       have p0 : ¬ (0 : Int) < (pos : Int) := by omega
       have hk : ¬ okRune (decide (pos = 0)) (r : Int) = true := by unfold okRune; simp; omega
       rw [if_neg hk] at hst
       have HF := Lib.hid (HNO.out hst)
       clear hst hk
       have a97 : (97 : Int) ≤ (r : Int) := by omega
       have b122 : ¬ (r : Int) ≤ (122 : Int) := by omega
       have a65 : (65 : Int) ≤ (r : Int) := by omega
       have b90 : ¬ (r : Int) ≤ (90 : Int) := by omega
       have e95 : ((r : Int) == 95) = false := by simp; omega
       have a128 : ¬ (128 : Int) ≤ (r : Int) := by omega
       go_wp2_with fail
       go_ret
       exact ⟨ret_bool HF.out.symm, hbz⟩
      ·
       have p0 : (0 : Int) < (pos : Int) := by omega
       have hk : ¬ okRune (decide (pos = 0)) (r : Int) = true := by unfold okRune; simp; omega
       rw [if_neg hk] at hst
       have HF := Lib.hid (HNO.out hst)
       clear hst hk
       have a97 : (97 : Int) ≤ (r : Int) := by omega
       have b122 : ¬ (r : Int) ≤ (122 : Int) := by omega
       have a65 : (65 : Int) ≤ (r : Int) := by omega
       have b90 : ¬ (r : Int) ≤ (90 : Int) := by omega
       have e95 : ((r : Int) == 95) = false := by simp; omega
       have a128 : ¬ (128 : Int) ≤ (r : Int) := by omega
       have a48 : (48 : Int) ≤ (r : Int) := by omega
       have b57 : ¬ (r : Int) ≤ (57 : Int) := by omega
       go_wp2_with fail
       go_ret
       exact ⟨ret_bool HF.out.symm, hbz⟩
   ·
    by_cases x2 : 65 ≤ r
    ·
     by_cases x3 : r ≤ 90
     ·
      skip
      have hk : okRune (decide (pos = 0)) (r : Int) = true := by unfold okRune; simp; omega
      rw [if_pos hk] at hst
      have HST := Lib.hid hst
      clear hst hk
      have a97 : ¬ (97 : Int) ≤ (r : Int) := by omega
      have a65 : (65 : Int) ≤ (r : Int) := by omega
      have b90 : (r : Int) ≤ (90 : Int) := by omega
      go_wp2_with fail
      exact ⟨⟨q, hit2, hbr2, HST, hwe⟩, by simp only [World.iterPos, hit2]; exact HM.out⟩
     ·
      by_cases x4 : r = 95
      ·
       skip
       have hk : okRune (decide (pos = 0)) (r : Int) = true := by unfold okRune; simp; omega
       rw [if_pos hk] at hst
       have HST := Lib.hid hst
       clear hst hk
       have a97 : ¬ (97 : Int) ≤ (r : Int) := by omega
       have a65 : (65 : Int) ≤ (r : Int) := by omega
       have b90 : ¬ (r : Int) ≤ (90 : Int) := by omega
       have e95 : ((r : Int) == 95) = true := by simp; omega
       go_wp2_with fail
       exact ⟨⟨q, hit2, hbr2, HST, hwe⟩, by simp only [World.iterPos, hit2]; exact HM.out⟩
      ·
       by_cases x5 : pos = 0
       ·
        have p0 : ¬ (0 : Int) < (pos : Int) := by omega
        have hk : ¬ okRune (decide (pos = 0)) (r : Int) = true := by unfold okRune; simp; omega
        rw [if_neg hk] at hst
        have HF := Lib.hid (HNO.out hst)
        clear hst hk
        have a97 : ¬ (97 : Int) ≤ (r : Int) := by omega
        have a65 : (65 : Int) ≤ (r : Int) := by omega
        have b90 : ¬ (r : Int) ≤ (90 : Int) := by omega
        have e95 : ((r : Int) == 95) = false := by simp; omega
        have a128 : ¬ (128 : Int) ≤ (r : Int) := by omega
        go_wp2_with fail
        go_ret
        exact ⟨ret_bool HF.out.symm, hbz⟩
       ·
        have p0 : (0 : Int) < (pos : Int) := by omega
        have hk : ¬ okRune (decide (pos = 0)) (r : Int) = true := by unfold okRune; simp; omega
        rw [if_neg hk] at hst
        have HF := Lib.hid (HNO.out hst)
        clear hst hk
        have a97 : ¬ (97 : Int) ≤ (r : Int) := by omega
        have a65 : (65 : Int) ≤ (r : Int) := by omega
        have b90 : ¬ (r : Int) ≤ (90 : Int) := by omega
        have e95 : ((r : Int) == 95) = false := by simp; omega
        have a128 : ¬ (128 : Int) ≤ (r : Int) := by omega
        have a48 : (48 : Int) ≤ (r : Int) := by omega
        have b57 : ¬ (r : Int) ≤ (57 : Int) := by omega
        go_wp2_with fail
        go_ret
        exact ⟨ret_bool HF.out.symm, hbz⟩
    ·
     by_cases x5 : pos = 0
     ·
      have p0 : ¬ (0 : Int) < (pos : Int) := by omega
      have hk : ¬ okRune (decide (pos = 0)) (r : Int) = true := by unfold okRune; simp; omega
      rw [if_neg hk] at hst
      have HF := Lib.hid (HNO.out hst)
      clear hst hk
      have a97 : ¬ (97 : Int) ≤ (r : Int) := by omega
      have a65 : ¬ (65 : Int) ≤ (r : Int) := by omega
      have e95 : ((r : Int) == 95) = false := by simp; omega
      have a128 : ¬ (128 : Int) ≤ (r : Int) := by omega
      go_wp2_with fail
      go_ret
      exact ⟨ret_bool HF.out.symm, hbz⟩
     ·
      have p0 : (0 : Int) < (pos : Int) := by omega
      by_cases x6 : 48 ≤ r
      ·
       by_cases x7 : r ≤ 57
       ·
        skip
        have hk : okRune (decide (pos = 0)) (r : Int) = true := by unfold okRune; simp; omega
        rw [if_pos hk] at hst
        have HST := Lib.hid hst
        clear hst hk
        have a97 : ¬ (97 : Int) ≤ (r : Int) := by omega
        have a65 : ¬ (65 : Int) ≤ (r : Int) := by omega
        have e95 : ((r : Int) == 95) = false := by simp; omega
        have a128 : ¬ (128 : Int) ≤ (r : Int) := by omega
        have a48 : (48 : Int) ≤ (r : Int) := by omega
        have b57 : (r : Int) ≤ (57 : Int) := by omega
        go_wp2_with fail
        exact ⟨⟨q, hit2, hbr2, HST, hwe⟩, by simp only [World.iterPos, hit2]; exact HM.out⟩
       ·
        skip
        have hk : ¬ okRune (decide (pos = 0)) (r : Int) = true := by unfold okRune; simp; omega
        rw [if_neg hk] at hst
        have HF := Lib.hid (HNO.out hst)
        clear hst hk
        have a97 : ¬ (97 : Int) ≤ (r : Int) := by omega
        have a65 : ¬ (65 : Int) ≤ (r : Int) := by omega
        have e95 : ((r : Int) == 95) = false := by simp; omega
        have a128 : ¬ (128 : Int) ≤ (r : Int) := by omega
        have a48 : (48 : Int) ≤ (r : Int) := by omega
        have b57 : ¬ (r : Int) ≤ (57 : Int) := by omega
        go_wp2_with fail
        go_ret
        exact ⟨ret_bool HF.out.symm, hbz⟩
      ·
       skip
       have hk : ¬ okRune (decide (pos = 0)) (r : Int) = true := by unfold okRune; simp; omega
       rw [if_neg hk] at hst
       have HF := Lib.hid (HNO.out hst)
       clear hst hk
       have a97 : ¬ (97 : Int) ≤ (r : Int) := by omega
       have a65 : ¬ (65 : Int) ≤ (r : Int) := by omega
       have e95 : ((r : Int) == 95) = false := by simp; omega
       have a128 : ¬ (128 : Int) ≤ (r : Int) := by omega
       have a48 : ¬ (48 : Int) ≤ (r : Int) := by omega
       go_wp2_with fail
       go_ret
       exact ⟨ret_bool HF.out.symm, hbz⟩
  ·
   have hnxt : ∀ ty, (Instr.next (.pointer (some ⟨w3.heap.size, 0, none⟩)) true ty).run Tryz.prog wr = _ := fun ty => Lib.run_next_end_at wr w3.heap.size s pos ty hit hp
   have HF := Lib.hid (HY.out (HA.out.done hp))
   have hbz := below_self hb3 hbr
   clear HA
   go_wp2_with fail
   go_ret
   exact ⟨ret_bool HF.out.symm, hbz⟩
end Go.Proofs.YtgjfbbmachoolaaGreatDoor.lx
