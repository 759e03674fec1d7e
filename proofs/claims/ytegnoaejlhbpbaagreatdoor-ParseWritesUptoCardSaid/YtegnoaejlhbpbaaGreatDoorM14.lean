/-
  What Parse catches. Conditions: its three results lie there. Tokens compared: '==' and '!=' of two tokens' values. No condition. Show, for every token (a text of at most 2^30 bytes). Conditions: the package-level variables are laid. Escapes as laws on glyphs: plain laws, no program in sight.
-/
import Derived.Test.YtegnoaejlhbpbaaGreatDoorM13
import Derived.Defers
import Derived.Recover
import Derived.Laws.Pointers
import Derived.RegionTactic
import Derived.Test.YtegnoaejlhbpbaaGreatDoorM02
import Derived.Laws.StructEq
import Derived.Test.YtegnoaejlhbpbaaGreatDoorM03
import Derived.Test.YtegnoaejlhbpbaaGreatDoorM05
import Derived.Test.YtegnoaejlhbpbaaGreatDoorM04
import Derived.Lib.TrimAscii
namespace Go.Proofs.YtegnoaejlhbpbaaGreatDoor.lx
open Go.RowKit

/-- Parse's results in memory -/
structure PRes (Q : Nat) (w : World) : Prop where
  q : ∃ a b c d e f g, w.heap[Q]? = some (.cells #[a, b, c, d, e, f, g] 26 (0, 0))
  y : ∃ v, w.heap[Q + 1]? = some (.cells #[.int .i64 v] 30 (0, 0))
  p : ∃ v, w.heap[Q + 2]? = some (.cells #[.int .i64 v] 3 (0, 0))
/-- .. what they hold -/
structure PHas (Q : Nat) (v : Array Value) (y p : Int) (w : World) : Prop where
  q : w.heap[Q]? = some (.cells v 26 (0, 0))
  y : w.heap[Q + 1]? = some (.cells #[.int .i64 y] 30 (0, 0))
  p : w.heap[Q + 2]? = some (.cells #[.int .i64 p] 3 (0, 0))
def zeroQ : Array Value := #[.slice none 0 0, .string ⟨#[]⟩, .string ⟨#[]⟩, .string ⟨#[]⟩, .string ⟨#[]⟩, .slice none 0 0, .slice none 0 0]

/-- the world behind -/
def caught (Q : Nat) (a b c d e f g y p : Value) (o : Obj) (w : World) : World := ((((set7 Q a b c d e f g w).setCell ⟨Q + 1, 0, none⟩ y).setCell ⟨Q + 2, 0, none⟩ p).alloc o).drew
theorem drew_heap (w : World) : w.drew.heap = w.heap := rfl
theorem caught_heap {Q : Nat} {a b c d e f g y p : Value} {o : Obj} {w : World} {k : Nat} (hk : k < w.heap.size) : (caught Q a b c d e f g y p o w).heap[k]? = (((set7 Q a b c d e f g w).setCell ⟨Q + 1, 0, none⟩ y).setCell ⟨Q + 2, 0, none⟩ p).heap[k]? := by
  unfold caught
  rw [drew_heap]
  exact heap_alloc_old _ _ (by rw [setCell_size, setCell_size, set7_size]; exact hk)
theorem caught_has {Q : Nat} {a b c d e f g a' b' c' d' e' f' g' : Value} {y p vy vp : Int} {o : Obj} {w : World} (hq : w.heap[Q]? = some (.cells #[a', b', c', d', e', f', g'] 26 (0, 0)))
    (hy : w.heap[Q + 1]? = some (.cells #[.int .i64 vy] 30 (0, 0))) (hp : w.heap[Q + 2]? = some (.cells #[.int .i64 vp] 3 (0, 0))) : PHas Q #[a, b, c, d, e, f, g] y p (caught Q a b c d e f g (.int .i64 y) (.int .i64 p) o w) := by
  have hql := (Array.getElem?_eq_some_iff.1 hq).1
  have hyl := (Array.getElem?_eq_some_iff.1 hy).1
  have hpl := (Array.getElem?_eq_some_iff.1 hp).1
  refine ⟨?_, ?_, ?_⟩
  · rw [caught_heap hql, Below.heap_setCell _ _ _ _ (by show Q ≠ Q + 2; omega), Below.heap_setCell _ _ _ _ (by show Q ≠ Q + 1; omega)]
    exact set7_at hq
  · rw [caught_heap hyl, Below.heap_setCell _ _ _ _ (by show Q + 1 ≠ Q + 2; omega)]
    have h1 : Boxed (set7 Q a b c d e f g w) (Q + 1) 30 (.int .i64 vy) := (set7_ne (by omega)).trans hy
    exact h1.set _
  · rw [caught_heap hpl]
    have h1 : Boxed ((set7 Q a b c d e f g w).setCell ⟨Q + 1, 0, none⟩ (.int .i64 y)) (Q + 2) 3 (.int .i64 vp) := (Below.heap_setCell _ _ _ _ (by show Q + 2 ≠ Q + 1; omega)).trans ((set7_ne (by omega)).trans hp)
    exact h1.set _
theorem caught_below {Q : Nat} {a b c d e f g y p : Value} {o : Obj} {w : World} (hQ : Q ≤ w.heap.size) : Below Q w (caught Q a b c d e f g y p o w) := by
  unfold caught set7
  have h0 : Below Q w ((((((((( w.setCell ⟨Q, 0, none⟩ a).setCell ⟨Q, 1, none⟩ b).setCell ⟨Q, 2, none⟩ c).setCell ⟨Q, 3, none⟩ d).setCell ⟨Q, 4, none⟩ e).setCell ⟨Q, 5, none⟩ f).setCell ⟨Q, 6, none⟩ g).setCell ⟨Q + 1, 0, none⟩ y).setCell ⟨Q + 2, 0, none⟩ p) :=
    (((((((((Below.refl Q w).setCell (p := ⟨Q, 0, none⟩) (Nat.le_refl _) _).setCell (p := ⟨Q, 1, none⟩) (Nat.le_refl _) _).setCell (p := ⟨Q, 2, none⟩) (Nat.le_refl _) _).setCell (p := ⟨Q, 3, none⟩) (Nat.le_refl _) _).setCell (p := ⟨Q, 4, none⟩) (Nat.le_refl _) _).setCell (p := ⟨Q, 5, none⟩) (Nat.le_refl _) _).setCell (p := ⟨Q, 6, none⟩) (Nat.le_refl _) _).setCell (p := ⟨Q + 1, 0, none⟩) (Nat.le_succ Q) _).setCell (p := ⟨Q + 2, 0, none⟩) (by show Q ≤ Q + 2; omega) _
  exact (h0.alloc (by rw [setCell_size, setCell_size, setCell_size, setCell_size, setCell_size, setCell_size, setCell_size, setCell_size, setCell_size]; exact hQ) o).drew

set_option maxHeartbeats 2000000 in
set_option maxRecDepth 100000 in
theorem catch_panicking {Q : Nat} {y p : Int} {older : List PanicEntry} {w : World} (h : PRes Q w) :
    CallsD Tryz.prog 40 #[.pointer (some ⟨Q, 0, none⟩), .pointer (some ⟨Q + 1, 0, none⟩), .pointer (some ⟨Q + 2, 0, none⟩)] (.panicking (flt y p :: older)) w fun e u' w' =>
      e = .returned (.tuple #[]) ∧ u' = .panicking ({ flt y p with recovered := true } :: older) ∧ PHas Q zeroQ y p w' ∧ Below Q w w' := by
  obtain ⟨⟨a, b, c, d, e, f, g, hq⟩, ⟨vy, hy⟩, ⟨vp, hp⟩⟩ := h
  unfold flt
  refine callsD_of_wpS Tryz.func40 rfl fun c₀ cs hu => ?_
  apply wpS_seq
  apply wpS_region
  simp [wpOpsS, go_sem, recoverD, hu, Tryz.ntmps40, Exit.thenS]
  apply wpS_seq
  apply wpS_region
  simp [wpOpsS, go_sem, Exit.thenS]
  refine wpS_cond (t := true) (by simp [Act.eval, Array.replicate, go_sem]) ?_
  simp only [if_true]
  refine wpS_of_wp ?_
  have hta : ∀ w, (Instr.typeAssert (.iface 65 (.agg #[.int .i64 y, .int .i64 p])) 20 65 true).run Tryz.prog w = .ok (.tuple #[.agg #[.int .i64 y, .int .i64 p], .bool true]) w := fun w => by kernel_rfl
  simp only [Array.replicate_succ, Array.replicate_zero, List.push_toArray, List.append_toArray, List.nil_append, List.cons_append, List.setIfInBounds_toArray, List.set_cons_zero, List.set_cons_succ]
  have hql := (Array.getElem?_eq_some_iff.1 hq).1
  have hyl := (Array.getElem?_eq_some_iff.1 hy).1
  have hpl := (Array.getElem?_eq_some_iff.1 hp).1
  have k0 : w.cell? ⟨Q, 0, none⟩ = some a := by rw [Lib.cell_of_heap hq]; rfl
  have k1 : w.cell? ⟨Q, 1, none⟩ = some b := by rw [Lib.cell_of_heap hq]; rfl
  have k2 : w.cell? ⟨Q, 2, none⟩ = some c := by rw [Lib.cell_of_heap hq]; rfl
  have k3 : w.cell? ⟨Q, 3, none⟩ = some d := by rw [Lib.cell_of_heap hq]; rfl
  have k4 : w.cell? ⟨Q, 4, none⟩ = some e := by rw [Lib.cell_of_heap hq]; rfl
  have k5 : w.cell? ⟨Q, 5, none⟩ = some f := by rw [Lib.cell_of_heap hq]; rfl
  have k6 : w.cell? ⟨Q, 6, none⟩ = some g := by rw [Lib.cell_of_heap hq]; rfl
  have ky : w.cell? ⟨Q + 1, 0, none⟩ = some (.int .i64 vy) := by rw [Lib.cell_of_heap hy]; rfl
  have kp : w.cell? ⟨Q + 2, 0, none⟩ = some (.int .i64 vp) := by rw [Lib.cell_of_heap hp]; rfl
  have kf : ∀ j, w.frozen? ⟨Q, j, none⟩ = false := Lib.frozen_of_heap hq
  have kfy : w.frozen? ⟨Q + 1, 0, none⟩ = false := Lib.frozen_of_heap hy 0
  have kfp : w.frozen? ⟨Q + 2, 0, none⟩ = false := Lib.frozen_of_heap hp 0
  go_wp2
  go_region
  refine ⟨rfl, _, rfl, _, results_none rfl _ _ _, rfl, rfl, ?_, ?_⟩
  · exact caught_has hq hy hp
  · exact caught_below (Nat.le_of_lt hql)

set_option maxHeartbeats 2000000 in
set_option maxRecDepth 100000 in
theorem catch_idle (a b c : Value) (w : World) :
    CallsD Tryz.prog 40 #[a, b, c] .returning w fun e u' w' => e = .returned (.tuple #[]) ∧ u' = .returning ∧ w' = w := by
  refine callsD_of_wpS Tryz.func40 rfl fun c₀ cs hu => ?_
  apply wpS_seq
  apply wpS_region
  simp [wpOpsS, go_sem, recoverD, hu, Tryz.ntmps40, Exit.thenS]
  apply wpS_seq
  apply wpS_region
  simp [wpOpsS, go_sem, Exit.thenS]
  refine wpS_cond (t := false) (by simp [Act.eval, Array.replicate, go_sem]) ?_
  simp only [Bool.false_eq_true, if_false]
  refine wpS_of_wp (wp_skip ?_)
  cases c₀
  simp_all [bodyPostS, results, Tryz.results40]
end Go.Proofs.YtegnoaejlhbpbaaGreatDoor.lx
namespace Go.Proofs.YtegnoaejlhbpbaaGreatDoor.lx
open Go.RowKit
instance : DecidableEq Tok := fun a b =>
  if h : a.k = b.k ∧ a.s = b.s ∧ a.n = b.n ∧ a.a = b.a then isTrue (by cases a; cases b; simp only at h; obtain ⟨rfl, rfl, rfl, rfl⟩ := h; rfl)
  else isFalse (by intro e; subst e; exact h ⟨rfl, rfl, rfl, rfl⟩)

theorem tok_eqIn (x y : Tok) (w : World) : (Op.equalIn 10000 79 x.v y.v).run Tryz.prog w = .ok (decide (x = y)) w := by
  obtain ⟨k, s, n, a⟩ := x
  obtain ⟨k', s', n', a'⟩ := y
  unfold Tok.v
  have hs : (s.toList = s'.toList) ↔ s = s' := ⟨fun h => ByteArray.ext (Array.toList_inj.1 (by simpa [Lib.toList_data] using h)), fun h => by rw [h]⟩
  simp [go_sem, hs]
  by_cases h1 : k = k' <;> by_cases h2 : s = s' <;> by_cases h3 : n = n' <;> by_cases h4 : a = a' <;> simp [h1, h2, h3, h4]

theorem tok_eq (x y : Tok) (w : World) : (binOp .eql 79 x.v y.v).run Tryz.prog w = .ok (.bool (decide (x = y))) w := by
  rw [Tok.v, Tok.v, run_eql_struct, ← Tok.v, ← Tok.v, tok_eqIn]; rfl
theorem tok_neq (x y : Tok) (w : World) : (binOp .neq 79 x.v y.v).run Tryz.prog w = .ok (.bool (decide (x ≠ y))) w := by
  rw [Tok.v, Tok.v, run_neq_struct, ← Tok.v, ← Tok.v, tok_eqIn]
  by_cases h : x = y <;> simp [Result.andThen, h]
end Go.Proofs.YtegnoaejlhbpbaaGreatDoor.lx
namespace Go.Proofs.YtegnoaejlhbpbaaGreatDoor.lx
open Go.RowKit

/-- the text that Show tries -/
def showS (t : Tok) : ByteArray :=
  if t.k = 1 then ⟨#[40]⟩ else if t.k = 2 then ⟨#[41]⟩ else if t.k = 4 then ⟨(Lib.itoa t.n).toArray⟩ else if t.k = 5 then quotF t.s else t.s
def showOk (t : Tok) : Prop := (lexR (showS t)).2.1 = 0 ∧ (lexR (showS t)).1 = [t.at 0]
open Classical in
noncomputable def showF (t : Tok) : ByteArray × Int := if showOk t then (showS t, 0) else (⟨#[]⟩, 13)

theorem lexR_long {s : ByteArray} (h : 2048 < s.size) : lexR s = ([], 4, 0) := if_pos h
theorem below_drewN {B : Nat} {w W : World} (h : Below B w W) (n : Nat) : Below B w (W.drewN n) := ⟨h.os, h.tape, h.output, h.size, h.block⟩
/-- Lex, for every text -/
theorem Lex_any (s : ByteArray) (w : World) (hG : Glob w) (hs : s.size ≤ 9223372036854775807) :
    Calls Tryz.prog 39 #[.string s] w fun e w' => ∃ v, e = .returned (.tuple #[v, .int .i64 (lexR s).2.1, .int .i64 (lexR s).2.2]) ∧
      w'.ownsRow w.heap.size 79 4 v (lexR s).1.length (tokCells (lexR s).1) ∧ Below w.heap.size w w' := by
  by_cases h : 2048 < s.size
  · refine (Lex_long s w h hs).mono ?_
    rintro e w' ⟨rfl, rfl⟩
    rw [lexR_long h]
    exact ⟨_, rfl, World.ownsRow_nil _ _ _ _, Below.refl _ _⟩
  · exact Lex_short s w hG h

/-- a row that is owned, as a slice -/
theorem own_slice {w : World} {B : Nat} {v : Value} {ts : List Tok} (h : w.ownsRow B 79 4 v ts.length (tokCells ts)) :
    ∃ ao cap, v = .slice ao ts.length cap ∧ (ts.length = 0 ∨ ∃ g, ao = some ⟨g, 0, none⟩ ∧ B ≤ g ∧ g < w.heap.size ∧ ∀ (j : Nat) u, (tokCells ts)[j]? = some u → w.cell? ⟨g, j, none⟩ = some u) := by
  rcases h.2 with ⟨hv, h0⟩ | ⟨g, cap, cur, hv, hb, hg, rest⟩
  · exact ⟨none, 0, by rw [hv, h0], .inl h0⟩
  · refine ⟨_, cap, hv, .inr ⟨g, rfl, hb, (Array.getElem?_eq_some_iff.1 hg).1, ?_⟩⟩
    intro j u hu
    rw [Lib.cell_of_heap hg]
    rw [← rest.2.2.2, List.getElem?_take] at hu
    split at hu
    · simpa using hu
    · cases hu

theorem cell4_at {B : Nat} {k n a : Int} {s : ByteArray} {w : World} (h : Cell4 B ⟨k, s, n, a⟩ w) : Cell4 B ⟨k, s, n, 0⟩ (w.setCell ⟨B, 3, none⟩ (.int .i64 0)) := by
  unfold Cell4 at *
  simp [World.setCell, Array.getElem?_modify, h]
theorem quotL_size (n : Nat) : ∀ l : ByteArray, l.size = n → (quotL l).length ≤ 6 * n := by
  induction n using Nat.strongRecOn with
  | _ n ih =>
    intro l hn
    by_cases h0 : l.size = 0
    · rw [quotL_end h0]; simp
    · rw [quotL_go h0]
      have := adv_lt l h0
      have := ih (adv l).size (by omega) (adv l) rfl
      have := quotR_len (dr l)
      simp
      omega
theorem quotF_size (s : ByteArray) (h : s.size ≤ 1073741824) : (quotF s).size ≤ 9223372036854775807 := by
  have := quotL_size s.size s rfl
  simp [quotF, ByteArray.size]
  omega
theorem nDigits_le (u : Nat) (h : u < 18446744073709551616) : Lib.nDigits u ≤ 20 := by
  by_cases h0 : u = 0
  · subst h0; rw [Lib.nDigits_small (by decide)]; decide
  · have := Lib.numDigits_eq u (by omega) h; split at this <;> omega
theorem itoa_len (n : Int) (h0 : -9223372036854775808 ≤ n) (h1 : n ≤ 9223372036854775807) : (Lib.itoa n).length ≤ 21 := by
  unfold Lib.itoa
  split
  · have := nDigits_le n.natAbs (by omega)
    simp [Lib.decDigits_length]; omega
  · have := nDigits_le n.toNat (by omega)
    simp [Lib.decDigits_length]; omega
theorem itoa_size (n : Int) (h0 : -9223372036854775808 ≤ n) (h1 : n ≤ 9223372036854775807) : (⟨(Lib.itoa n).toArray⟩ : ByteArray).size ≤ 9223372036854775807 := by
  have := itoa_len n h0 h1
  simp [ByteArray.size]
  omega

set_option maxHeartbeats 8000000 in
set_option maxRecDepth 100000 in
theorem Show_any (t : Tok) (w : World) (hG : Glob w) (hs : t.s.size ≤ 1073741824) (hn0 : -9223372036854775808 ≤ t.n) (hn1 : t.n ≤ 9223372036854775807) :
    Calls Tryz.prog 47 #[t.v] w fun e w' => e = .returned (.tuple #[.string (showF t).1, .int .i64 (showF t).2]) ∧ Below w.heap.size w w' := by
  obtain ⟨S, hS⟩ : ∃ S, showS t = S := ⟨_, rfl⟩
  obtain ⟨F, hF⟩ : ∃ F, showF t = F := ⟨_, rfl⟩
  rw [hF]
  obtain ⟨k, s, n, a⟩ := t
  obtain ⟨⟨L, y, p⟩, hR⟩ : ∃ R, lexR S = R := ⟨_, rfl⟩
  have hLA := Lex_any S
  rw [hR] at hLA
  simp only at hs hLA hn0 hn1
  unfold Tok.v
  by_cases h1 : k = 1
  · subst h1
    have hS1 : S = ⟨#[40]⟩ := by rw [← hS]; rfl
    have hb0 : Below w.heap.size w (w.alloc (.cells #[.int .u8 1, .string s, .int .i64 n, .int .i64 0] 79)) := (Below.refl _ w).alloc (Nat.le_refl _) _
    have hG1 := hG.self hb0
    have hcell : Cell4 w.heap.size ⟨1, s, n, 0⟩ (w.alloc (.cells #[.int .u8 1, .string s, .int .i64 n, .int .i64 0] 79)) := by
      unfold Cell4; rw [heap_alloc_new]
    have hL1 := hLA _ hG1
    rw [hS1] at hL1
    go_enter Tryz.func47, Tryz.ntmps47
    go_wp2_with (go_at_call 39; refine (hL1 (by decide)).mono ?_; rintro e w2 ⟨v, rfl, hown, hb⟩; refine Hid.out ?_)
    refine Lib.hid ?_
    have hcell2 := hcell.below hb (by simp)
    have hb2 := below_self hb0 hb
    obtain ⟨ao, cap, rfl, hrow⟩ := own_slice hown
    have c0 := hcell2.c0
    have c1 := hcell2.c1
    have c2 := hcell2.c2
    have c3 := hcell2.c3
    clear hcell hcell2 hL1
    by_cases hy : y = 0
    · subst hy
      by_cases hn : L.length = 1
      · obtain ⟨u, rfl⟩ : ∃ u, L = [u] := List.length_eq_one_iff.1 hn
        obtain ⟨g, rfl, hg⟩ := hrow.resolve_left (by omega)
        have d0 := hg.2.2 0 _ rfl
        have d1 := hg.2.2 1 _ rfl
        have d2 := hg.2.2 2 _ rfl
        have d3 := hg.2.2 3 _ rfl
        have hne := tok_neq u ⟨1, s, n, 0⟩
        simp only [Tok.v] at hne
        clear hrow hg hown hn
        by_cases hu : u = ⟨1, s, n, 0⟩
        · have hcmp : ∀ W, (binOp .neq 79 (.agg #[.int .u8 u.k, .string u.s, .int .i64 u.n, .int .i64 u.a]) (.agg #[.int .u8 1, .string s, .int .i64 n, .int .i64 0])).run Tryz.prog W = .ok (.bool false) W := fun W => by rw [hne W, hu]; simp
          clear hne
          go_wp2_with fail
          go_quiet (fail)
          go_wp2_with fail
          go_ret2
          refine ⟨?_, below_drewN hb2 _⟩
          rw [← hF, showF, if_pos (by rw [showOk, hS, hR, hu]; exact ⟨rfl, rfl⟩), hS]
          rw [hS1]; rfl
        · have hcmp : ∀ W, (binOp .neq 79 (.agg #[.int .u8 u.k, .string u.s, .int .i64 u.n, .int .i64 u.a]) (.agg #[.int .u8 1, .string s, .int .i64 n, .int .i64 0])).run Tryz.prog W = .ok (.bool true) W := fun W => by rw [hne W]; simp [hu]
          clear hne
          go_wp2_with fail
          go_quiet (fail)
          go_wp2_with fail
          go_ret2
          refine ⟨?_, below_drewN hb2 _⟩
          rw [← hF, showF, if_neg (by intro h; rw [showOk, hS, hR] at h; exact hu (by simpa [Tok.at] using h.2))]
          rfl
      · have hnb : ((L.length : Int) != 1) = true := by simp; omega
        go_wp2_with fail
        go_quiet (fail)
        go_wp2_with fail
        go_ret2
        refine ⟨?_, below_drewN hb2 _⟩
        rw [← hF, showF, if_neg (by intro h; rw [showOk, hS, hR] at h; simp only at h; rw [h.2] at hn; exact hn rfl)]
        rfl
    · have hyb : (y != 0) = true := by simp [hy]
      go_wp2_with fail
      go_quiet (fail)
      go_wp2_with fail
      go_ret2
      refine ⟨?_, below_drewN hb2 _⟩
      rw [← hF, showF, if_neg (by intro h; rw [showOk, hS, hR] at h; exact hy h.1)]
      rfl
  by_cases h2 : k = 2
  · subst h2
    have hS1 : S = ⟨#[41]⟩ := by rw [← hS]; rfl
    have hb0 : Below w.heap.size w (w.alloc (.cells #[.int .u8 2, .string s, .int .i64 n, .int .i64 0] 79)) := (Below.refl _ w).alloc (Nat.le_refl _) _
    have hG1 := hG.self hb0
    have hcell : Cell4 w.heap.size ⟨2, s, n, 0⟩ (w.alloc (.cells #[.int .u8 2, .string s, .int .i64 n, .int .i64 0] 79)) := by
      unfold Cell4; rw [heap_alloc_new]
    have hL1 := hLA _ hG1
    rw [hS1] at hL1
    go_enter Tryz.func47, Tryz.ntmps47
    go_wp2_with (go_at_call 39; refine (hL1 (by decide)).mono ?_; rintro e w2 ⟨v, rfl, hown, hb⟩; refine Hid.out ?_)
    refine Lib.hid ?_
    have hcell2 := hcell.below hb (by simp)
    have hb2 := below_self hb0 hb
    obtain ⟨ao, cap, rfl, hrow⟩ := own_slice hown
    have c0 := hcell2.c0
    have c1 := hcell2.c1
    have c2 := hcell2.c2
    have c3 := hcell2.c3
    clear hcell hcell2 hL1
    by_cases hy : y = 0
    · subst hy
      by_cases hn : L.length = 1
      · obtain ⟨u, rfl⟩ : ∃ u, L = [u] := List.length_eq_one_iff.1 hn
        obtain ⟨g, rfl, hg⟩ := hrow.resolve_left (by omega)
        have d0 := hg.2.2 0 _ rfl
        have d1 := hg.2.2 1 _ rfl
        have d2 := hg.2.2 2 _ rfl
        have d3 := hg.2.2 3 _ rfl
        have hne := tok_neq u ⟨2, s, n, 0⟩
        simp only [Tok.v] at hne
        clear hrow hg hown hn
        by_cases hu : u = ⟨2, s, n, 0⟩
        · have hcmp : ∀ W, (binOp .neq 79 (.agg #[.int .u8 u.k, .string u.s, .int .i64 u.n, .int .i64 u.a]) (.agg #[.int .u8 2, .string s, .int .i64 n, .int .i64 0])).run Tryz.prog W = .ok (.bool false) W := fun W => by rw [hne W, hu]; simp
          clear hne
          go_wp2_with fail
          go_quiet (fail)
          go_wp2_with fail
          go_ret2
          refine ⟨?_, below_drewN hb2 _⟩
          rw [← hF, showF, if_pos (by rw [showOk, hS, hR, hu]; exact ⟨rfl, rfl⟩), hS]
          rw [hS1]; rfl
        · have hcmp : ∀ W, (binOp .neq 79 (.agg #[.int .u8 u.k, .string u.s, .int .i64 u.n, .int .i64 u.a]) (.agg #[.int .u8 2, .string s, .int .i64 n, .int .i64 0])).run Tryz.prog W = .ok (.bool true) W := fun W => by rw [hne W]; simp [hu]
          clear hne
          go_wp2_with fail
          go_quiet (fail)
          go_wp2_with fail
          go_ret2
          refine ⟨?_, below_drewN hb2 _⟩
          rw [← hF, showF, if_neg (by intro h; rw [showOk, hS, hR] at h; exact hu (by simpa [Tok.at] using h.2))]
          rfl
      · have hnb : ((L.length : Int) != 1) = true := by simp; omega
        go_wp2_with fail
        go_quiet (fail)
        go_wp2_with fail
        go_ret2
        refine ⟨?_, below_drewN hb2 _⟩
        rw [← hF, showF, if_neg (by intro h; rw [showOk, hS, hR] at h; simp only at h; rw [h.2] at hn; exact hn rfl)]
        rfl
    · have hyb : (y != 0) = true := by simp [hy]
      go_wp2_with fail
      go_quiet (fail)
      go_wp2_with fail
      go_ret2
      refine ⟨?_, below_drewN hb2 _⟩
      rw [← hF, showF, if_neg (by intro h; rw [showOk, hS, hR] at h; exact hy h.1)]
      rfl
  by_cases h4 : k = 4
  · subst h4
    have hS1 : S = ⟨(Lib.itoa n).toArray⟩ := by rw [← hS]; rfl
    have hb0 : Below w.heap.size w (w.alloc (.cells #[.int .u8 4, .string s, .int .i64 n, .int .i64 a] 79)) := (Below.refl _ w).alloc (Nat.le_refl _) _
    have hG1 := hG.self hb0
    have hcell0 : Cell4 w.heap.size ⟨4, s, n, a⟩ (w.alloc (.cells #[.int .u8 4, .string s, .int .i64 n, .int .i64 a] 79)) := by
      unfold Cell4; rw [heap_alloc_new]
    go_enter Tryz.func47, Tryz.ntmps47
    go_wp2_with (go_at_call 75; refine (fi_any n hn0 hn1 _ hG1).mono ?_; rintro e w1 ⟨rfl, hb⟩; refine Hid.out ?_)
    refine Lib.hid ?_
    have hcell1 := hcell0.below hb (by simp)
    have hb1 := below_self hb0 hb
    have hcell := cell4_at hcell1
    have hb2 := hb1.setCell (p := ⟨w.heap.size, 3, none⟩) (Nat.le_refl _) (.int .i64 0)
    have hG2 := hG.self hb2
    have hL1 := hLA _ hG2
    have hlt : w.heap.size < w1.heap.size := (Array.getElem?_eq_some_iff.1 hcell1).1
    have f3 := hcell1.f 3
    have b0 := hcell1.c0
    have b1 := hcell1.c1
    have b2 := hcell1.c2
    have b3 := hcell1.c3
    have hbk := hb2
    clear hcell0 hcell1 hb hb1 hb0 hG1 hG2 hb2
    rw [hS1] at hL1
    go_wp2_with (go_at_call 39; refine (hL1 (itoa_size n hn0 hn1)).mono ?_; rintro e w2 ⟨v, rfl, hown, hb⟩; refine Hid.out ?_)
    refine Lib.hid ?_
    clear b0 b1 b2 b3 f3
    have hcell2 := hcell.below hb (by simpa using hlt)
    have hb2 := below_then hbk (by have := hbk.size; omega) hb
    clear hbk hb
    obtain ⟨ao, cap, rfl, hrow⟩ := own_slice hown
    have c0 := hcell2.c0
    have c1 := hcell2.c1
    have c2 := hcell2.c2
    have c3 := hcell2.c3
    clear hcell hcell2 hL1
    by_cases hy : y = 0
    · subst hy
      by_cases hn : L.length = 1
      · obtain ⟨u, rfl⟩ : ∃ u, L = [u] := List.length_eq_one_iff.1 hn
        obtain ⟨g, rfl, hg⟩ := hrow.resolve_left (by omega)
        have d0 := hg.2.2 0 _ rfl
        have d1 := hg.2.2 1 _ rfl
        have d2 := hg.2.2 2 _ rfl
        have d3 := hg.2.2 3 _ rfl
        have hne := tok_neq u ⟨4, s, n, 0⟩
        simp only [Tok.v] at hne
        clear hrow hg hown hn
        by_cases hu : u = ⟨4, s, n, 0⟩
        · have hcmp : ∀ W, (binOp .neq 79 (.agg #[.int .u8 u.k, .string u.s, .int .i64 u.n, .int .i64 u.a]) (.agg #[.int .u8 4, .string s, .int .i64 n, .int .i64 0])).run Tryz.prog W = .ok (.bool false) W := fun W => by rw [hne W, hu]; simp
          clear hne
          go_wp2_with fail
          go_quiet (fail)
          go_wp2_with fail
          go_ret2
          refine ⟨?_, below_drewN hb2 _⟩
          rw [← hF, showF, if_pos (by rw [showOk, hS, hR, hu]; exact ⟨rfl, rfl⟩), hS]
          rw [hS1]; rfl
        · have hcmp : ∀ W, (binOp .neq 79 (.agg #[.int .u8 u.k, .string u.s, .int .i64 u.n, .int .i64 u.a]) (.agg #[.int .u8 4, .string s, .int .i64 n, .int .i64 0])).run Tryz.prog W = .ok (.bool true) W := fun W => by rw [hne W]; simp [hu]
          clear hne
          go_wp2_with fail
          go_quiet (fail)
          go_wp2_with fail
          go_ret2
          refine ⟨?_, below_drewN hb2 _⟩
          rw [← hF, showF, if_neg (by intro h; rw [showOk, hS, hR] at h; exact hu (by simpa [Tok.at] using h.2))]
          rfl
      · have hnb : ((L.length : Int) != 1) = true := by simp; omega
        go_wp2_with fail
        go_quiet (fail)
        go_wp2_with fail
        go_ret2
        refine ⟨?_, below_drewN hb2 _⟩
        rw [← hF, showF, if_neg (by intro h; rw [showOk, hS, hR] at h; simp only at h; rw [h.2] at hn; exact hn rfl)]
        rfl
    · have hyb : (y != 0) = true := by simp [hy]
      go_wp2_with fail
      go_quiet (fail)
      go_wp2_with fail
      go_ret2
      refine ⟨?_, below_drewN hb2 _⟩
      rw [← hF, showF, if_neg (by intro h; rw [showOk, hS, hR] at h; exact hy h.1)]
      rfl
  by_cases h5 : k = 5
  · subst h5
    have hS1 : S = quotF s := by rw [← hS]; rfl
    have hb0 : Below w.heap.size w (w.alloc (.cells #[.int .u8 5, .string s, .int .i64 n, .int .i64 a] 79)) := (Below.refl _ w).alloc (Nat.le_refl _) _
    have hG1 := hG.self hb0
    have hcell0 : Cell4 w.heap.size ⟨5, s, n, a⟩ (w.alloc (.cells #[.int .u8 5, .string s, .int .i64 n, .int .i64 a] 79)) := by
      unfold Cell4; rw [heap_alloc_new]
    go_enter Tryz.func47, Tryz.ntmps47
    go_wp2_with (go_at_call 76; refine (quoted_any s _ hG1 (by omega)).mono ?_; rintro e w1 ⟨rfl, hb⟩; refine Hid.out ?_)
    refine Lib.hid ?_
    have hcell1 := hcell0.below hb (by simp)
    have hb1 := below_self hb0 hb
    have hcell := cell4_at hcell1
    have hb2 := hb1.setCell (p := ⟨w.heap.size, 3, none⟩) (Nat.le_refl _) (.int .i64 0)
    have hG2 := hG.self hb2
    have hL1 := hLA _ hG2
    have hlt : w.heap.size < w1.heap.size := (Array.getElem?_eq_some_iff.1 hcell1).1
    have f3 := hcell1.f 3
    have b0 := hcell1.c0
    have b1 := hcell1.c1
    have b2 := hcell1.c2
    have b3 := hcell1.c3
    have hbk := hb2
    clear hcell0 hcell1 hb hb1 hb0 hG1 hG2 hb2
    rw [hS1] at hL1
    go_wp2_with (go_at_call 39; refine (hL1 (quotF_size s hs)).mono ?_; rintro e w2 ⟨v, rfl, hown, hb⟩; refine Hid.out ?_)
    refine Lib.hid ?_
    clear b0 b1 b2 b3 f3
    have hcell2 := hcell.below hb (by simpa using hlt)
    have hb2 := below_then hbk (by have := hbk.size; omega) hb
    clear hbk hb
    obtain ⟨ao, cap, rfl, hrow⟩ := own_slice hown
    have c0 := hcell2.c0
    have c1 := hcell2.c1
    have c2 := hcell2.c2
    have c3 := hcell2.c3
    clear hcell hcell2 hL1
    by_cases hy : y = 0
    · subst hy
      by_cases hn : L.length = 1
      · obtain ⟨u, rfl⟩ : ∃ u, L = [u] := List.length_eq_one_iff.1 hn
        obtain ⟨g, rfl, hg⟩ := hrow.resolve_left (by omega)
        have d0 := hg.2.2 0 _ rfl
        have d1 := hg.2.2 1 _ rfl
        have d2 := hg.2.2 2 _ rfl
        have d3 := hg.2.2 3 _ rfl
        have hne := tok_neq u ⟨5, s, n, 0⟩
        simp only [Tok.v] at hne
        clear hrow hg hown hn
        by_cases hu : u = ⟨5, s, n, 0⟩
        · have hcmp : ∀ W, (binOp .neq 79 (.agg #[.int .u8 u.k, .string u.s, .int .i64 u.n, .int .i64 u.a]) (.agg #[.int .u8 5, .string s, .int .i64 n, .int .i64 0])).run Tryz.prog W = .ok (.bool false) W := fun W => by rw [hne W, hu]; simp
          clear hne
          go_wp2_with fail
          go_quiet (fail)
          go_wp2_with fail
          go_ret2
          refine ⟨?_, below_drewN hb2 _⟩
          rw [← hF, showF, if_pos (by rw [showOk, hS, hR, hu]; exact ⟨rfl, rfl⟩), hS]
          rw [hS1]; rfl
        · have hcmp : ∀ W, (binOp .neq 79 (.agg #[.int .u8 u.k, .string u.s, .int .i64 u.n, .int .i64 u.a]) (.agg #[.int .u8 5, .string s, .int .i64 n, .int .i64 0])).run Tryz.prog W = .ok (.bool true) W := fun W => by rw [hne W]; simp [hu]
          clear hne
          go_wp2_with fail
          go_quiet (fail)
          go_wp2_with fail
          go_ret2
          refine ⟨?_, below_drewN hb2 _⟩
          rw [← hF, showF, if_neg (by intro h; rw [showOk, hS, hR] at h; exact hu (by simpa [Tok.at] using h.2))]
          rfl
      · have hnb : ((L.length : Int) != 1) = true := by simp; omega
        go_wp2_with fail
        go_quiet (fail)
        go_wp2_with fail
        go_ret2
        refine ⟨?_, below_drewN hb2 _⟩
        rw [← hF, showF, if_neg (by intro h; rw [showOk, hS, hR] at h; simp only at h; rw [h.2] at hn; exact hn rfl)]
        rfl
    · have hyb : (y != 0) = true := by simp [hy]
      go_wp2_with fail
      go_quiet (fail)
      go_wp2_with fail
      go_ret2
      refine ⟨?_, below_drewN hb2 _⟩
      rw [← hF, showF, if_neg (by intro h; rw [showOk, hS, hR] at h; exact hy h.1)]
      rfl
  have hS1 : S = s := by rw [← hS, showS, if_neg h1, if_neg h2, if_neg h4, if_neg h5]
  have hb0 : Below w.heap.size w (w.alloc (.cells #[.int .u8 k, .string s, .int .i64 n, .int .i64 0] 79)) := (Below.refl _ w).alloc (Nat.le_refl _) _
  have hG1 := hG.self hb0
  have hcell : Cell4 w.heap.size ⟨k, s, n, 0⟩ (w.alloc (.cells #[.int .u8 k, .string s, .int .i64 n, .int .i64 0] 79)) := by
    unfold Cell4; rw [heap_alloc_new]
  have hL1 := hLA _ hG1
  rw [hS1] at hL1
  go_enter Tryz.func47, Tryz.ntmps47
  go_wp2_with (go_at_call 39; refine (hL1 (by omega)).mono ?_; rintro e w2 ⟨v, rfl, hown, hb⟩; refine Hid.out ?_)
  refine Lib.hid ?_
  have hcell2 := hcell.below hb (by simp)
  have hb2 := below_self hb0 hb
  obtain ⟨ao, cap, rfl, hrow⟩ := own_slice hown
  have c0 := hcell2.c0
  have c1 := hcell2.c1
  have c2 := hcell2.c2
  have c3 := hcell2.c3
  clear hcell hcell2 hL1
  by_cases hy : y = 0
  · subst hy
    by_cases hn : L.length = 1
    · obtain ⟨u, rfl⟩ : ∃ u, L = [u] := List.length_eq_one_iff.1 hn
      obtain ⟨g, rfl, hg⟩ := hrow.resolve_left (by omega)
      have d0 := hg.2.2 0 _ rfl
      have d1 := hg.2.2 1 _ rfl
      have d2 := hg.2.2 2 _ rfl
      have d3 := hg.2.2 3 _ rfl
      have hne := tok_neq u ⟨k, s, n, 0⟩
      simp only [Tok.v] at hne
      clear hrow hg hown hn
      by_cases hu : u = ⟨k, s, n, 0⟩
      · have hcmp : ∀ W, (binOp .neq 79 (.agg #[.int .u8 u.k, .string u.s, .int .i64 u.n, .int .i64 u.a]) (.agg #[.int .u8 k, .string s, .int .i64 n, .int .i64 0])).run Tryz.prog W = .ok (.bool false) W := fun W => by rw [hne W, hu]; simp
        clear hne
        go_wp2_with fail
        go_quiet (fail)
        go_wp2_with fail
        go_ret2
        refine ⟨?_, below_drewN hb2 _⟩
        rw [← hF, showF, if_pos (by rw [showOk, hS, hR, hu]; exact ⟨rfl, rfl⟩), hS]
        rw [hS1]; rfl
      · have hcmp : ∀ W, (binOp .neq 79 (.agg #[.int .u8 u.k, .string u.s, .int .i64 u.n, .int .i64 u.a]) (.agg #[.int .u8 k, .string s, .int .i64 n, .int .i64 0])).run Tryz.prog W = .ok (.bool true) W := fun W => by rw [hne W]; simp [hu]
        clear hne
        go_wp2_with fail
        go_quiet (fail)
        go_wp2_with fail
        go_ret2
        refine ⟨?_, below_drewN hb2 _⟩
        rw [← hF, showF, if_neg (by intro h; rw [showOk, hS, hR] at h; exact hu (by simpa [Tok.at] using h.2))]
        rfl
    · have hnb : ((L.length : Int) != 1) = true := by simp; omega
      go_wp2_with fail
      go_quiet (fail)
      go_wp2_with fail
      go_ret2
      refine ⟨?_, below_drewN hb2 _⟩
      rw [← hF, showF, if_neg (by intro h; rw [showOk, hS, hR] at h; simp only at h; rw [h.2] at hn; exact hn rfl)]
      rfl
  · have hyb : (y != 0) = true := by simp [hy]
    go_wp2_with fail
    go_quiet (fail)
    go_wp2_with fail
    go_ret2
    refine ⟨?_, below_drewN hb2 _⟩
    rw [← hF, showF, if_neg (by intro h; rw [showOk, hS, hR] at h; exact hy h.1)]
    rfl
end Go.Proofs.YtegnoaejlhbpbaaGreatDoor.lx
namespace Go.Proofs.YtegnoaejlhbpbaaGreatDoor.lx
open Go.RowKit

theorem gl_ascii {b : UInt8} (t : List UInt8) (h : b.toNat < 128) : gl (b :: t) = (((b.toNat : Nat) : Int), true) :: gl t := by
  rw [gl_cons (by simp), Lib.decodeL_ascii b t h]
  have : ¬ b.toNat = 65533 := by omega
  simp [this]
theorem gl_asciis : ∀ (ds t : List UInt8), (∀ b ∈ ds, b.toNat < 128) → gl (ds ++ t) = (ds.map fun b => (((b.toNat : Nat) : Int), true)) ++ gl t
  | [], t, _ => rfl
  | b :: ds, t, h => by
    rw [List.cons_append, gl_ascii _ (h b (by simp)), gl_asciis ds t (fun x hx => h x (by simp [hx]))]
    rfl
/-- a glyph below 128 is its byte -/
theorem gl_low {l : List UInt8} {r : Int} {o : Bool} {gs : List G} (h : gl l = (r, o) :: gs) (hr : r < 128) : ∃ b t, l = b :: t ∧ ((b.toNat : Nat) : Int) = r ∧ o = true ∧ gl t = gs := by
  cases l with
  | nil => rw [gl_nil] at h; cases h
  | cons b t =>
    have h' := h
    rw [gl_cons (by simp)] at h
    injection h with h1 h2
    injection h1 with h3 h4
    have hb : b.toNat < 128 := by
      rw [Lib.decodeL_N] at h3
      rcases Lib.decodeN_shape (b :: t).length ((b :: t).getD 0 0).toNat ((b :: t).getD 1 0).toNat ((b :: t).getD 2 0).toNat ((b :: t).getD 3 0).toNat with ⟨c, e⟩ | ⟨c1, c2, c3, cv, e⟩ | ⟨c1, c2, c3, c4, cv, cs, e⟩ | ⟨c1, c2, c3, c4, c5, cv, cw, e⟩ | e
      · simpa using c
      all_goals (rw [e] at h3; simp only at h3; omega)
    rw [gl_ascii t hb] at h'
    injection h' with h5 h6
    injection h5 with h7 h8
    exact ⟨b, t, rfl, h7, h8.symm, h6⟩

def isHexR (r : Int) : Bool := decide (48 ≤ r ∧ r ≤ 57) || decide (97 ≤ r ∧ r ≤ 102)
def hexR (r : Int) : Nat := if r ≤ 57 then (r - 48).toNat else (r - 87).toNat
def hexG (gs : List G) : Nat := gs.foldl (fun x g => 16 * x + hexR g.1) 0
/-- what stands between the brackets of an escape, and what is behind -/
def codeG (gs : List G) : Option (Nat × List G) :=
  match gs with
  | [] => none
  | g :: gs => if g.1 = 123 then
      (match gs.dropWhile fun g => isHexR g.1 with
      | [] => none
      | e :: rest => if e.1 = 125 ∧ 1 ≤ (gs.takeWhile fun g => isHexR g.1).length ∧ (gs.takeWhile fun g => isHexR g.1).length ≤ 6 ∧ Lib.validRune (hexG (gs.takeWhile fun g => isHexR g.1)) = true
          then some (hexG (gs.takeWhile fun g => isHexR g.1), rest) else none)
    else none

def isHexB (b : UInt8) : Bool := cset.contains b
theorem isHexB_iff : ∀ b : UInt8, isHexB b = isHexR ((b.toNat : Nat) : Int) := by
  intro b
  have : ∀ k : Fin 256, isHexB (UInt8.ofNat k.val) = isHexR (((UInt8.ofNat k.val).toNat : Nat) : Int) := by decide +kernel
  have h := this ⟨b.toNat, b.toNat_lt⟩
  simpa using h
theorem isHexB_lt {b : UInt8} (h : isHexB b = true) : b.toNat < 128 := by
  rw [isHexB_iff] at h
  simp [isHexR] at h
  omega
theorem hexv_hex {b : UInt8} (h : isHexB b = true) : hexv b.toNat = some (hexR ((b.toNat : Nat) : Int)) := by
  have : ∀ k : Fin 256, isHexB (UInt8.ofNat k.val) = true → hexv (UInt8.ofNat k.val).toNat = some (hexR (((UInt8.ofNat k.val).toNat : Nat) : Int)) := by decide +kernel
  have h' := this ⟨b.toNat, b.toNat_lt⟩
  simp only [UInt8.ofNat_toNat] at h'
  exact h' h
theorem hexN_hex : ∀ (ds : List UInt8) (x : Nat), (∀ b ∈ ds, isHexB b = true) → hexN x ds = some ((ds.map fun b => ((((b.toNat : Nat) : Int), true) : G)).foldl (fun x g => 16 * x + hexR g.1) x)
  | [], x, _ => rfl
  | b :: ds, x, h => by
    rw [hexN_cons_some (hexv_hex (h b (by simp))), hexN_hex ds _ (fun c hc => h c (by simp [hc])), Nat.mul_comm]
    rfl

theorem hexN_hexG (ds : List UInt8) (h : ∀ b ∈ ds, isHexB b = true) : hexN 0 ds = some (hexG (ds.map fun b => ((((b.toNat : Nat) : Int), true) : G))) := hexN_hex ds 0 h

theorem mem_dropWhile {α : Type} {p : α → Bool} {b : α} : ∀ {l : List α}, b ∈ l → p b = false → b ∈ l.dropWhile p
  | [], h, _ => by cases h
  | x :: l, h, hp => by
    rw [List.dropWhile_cons]
    split
    · rename_i hx
      rcases List.mem_cons.1 h with rfl | h
      · rw [hp] at hx; cases hx
      · exact mem_dropWhile h hp
    · exact h
theorem mem_takeWhile {α : Type} {p : α → Bool} {b : α} : ∀ {l : List α}, b ∈ l.takeWhile p → p b = true
  | [], h => by cases h
  | x :: l, h => by
    rw [List.takeWhile_cons] at h
    split at h
    · rename_i hx
      rcases List.mem_cons.1 h with rfl | h
      · exact hx
      · exact mem_takeWhile h
    · cases h
theorem dropWhile_all {α : Type} {p : α → Bool} : ∀ {l : List α}, (∀ b ∈ l, p b = true) → l.dropWhile p = []
  | [], _ => rfl
  | x :: l, h => by rw [List.dropWhile_cons, if_pos (h x (by simp))]; exact dropWhile_all fun b hb => h b (by simp [hb])
theorem trimS_nil {l cs : List UInt8} (h : ∀ b ∈ l, cs.contains b = true) : Lib.trimS l cs = [] := by
  have e : Lib.trimRightS l cs = [] := by
    unfold Lib.trimRightS
    rw [dropWhile_all (fun b hb => h b (by simpa using hb))]
    rfl
  unfold Lib.trimS
  rw [e]
  rfl
theorem trimS_ne {l cs : List UInt8} {b : UInt8} (hb : b ∈ l) (h : cs.contains b = false) : Lib.trimS l cs ≠ [] := by
  have e : b ∈ Lib.trimRightS l cs := by
    unfold Lib.trimRightS
    rw [List.mem_reverse]
    exact mem_dropWhile (by simpa using hb) h
  have : b ∈ Lib.trimS l cs := mem_dropWhile e h
  intro e
  rw [e] at this
  cases this

theorem indexByte_at (c : UInt8) : ∀ (ds t : List UInt8), (∀ b ∈ ds, b ≠ c) → Lib.indexByte (ds ++ c :: t) c = (ds.length : Int)
  | [], t, _ => by simp [Lib.indexByte]
  | b :: ds, t, h => by
    have hb : (b == c) = false := by simpa using h b (by simp)
    have ih := indexByte_at c ds t (fun x hx => h x (by simp [hx]))
    rw [List.cons_append, Lib.indexByte, hb, ih]
    have : ((ds.length : Int) == -1) = false := by simp
    simp [this]

/-- takeWhile and dropWhile of glyphs are of bytes, where all that is taken is ASCII -/
theorem gl_while (p : Int → Bool) (hp : ∀ r, p r = true → r < 128) : ∀ l : List UInt8,
    (gl l).takeWhile (fun g => p g.1) = (l.takeWhile fun b => p ((b.toNat : Nat) : Int)).map (fun b => ((((b.toNat : Nat) : Int), true) : G)) ∧
    (gl l).dropWhile (fun g => p g.1) = gl (l.dropWhile fun b => p ((b.toNat : Nat) : Int))
  | [] => by simp [gl_nil]
  | b :: t => by
    cases hb : p ((b.toNat : Nat) : Int) with
    | true =>
      have hlt := hp _ hb
      obtain ⟨ih1, ih2⟩ := gl_while p hp t
      rw [gl_ascii t (by omega)]
      simp [hb, ih1, ih2]
    | false =>
      have hg : ∀ g gs, gl (b :: t) = g :: gs → p g.1 = false := by
        intro g gs hg
        cases hpg : p g.1 with
        | false => rfl
        | true =>
          obtain ⟨b', t', e, h1, h2, h3⟩ := gl_low (r := g.1) (o := g.2) (gs := gs) hg (hp _ hpg)
          injection e with e1 e2
          rw [← h1, ← e1, hb] at hpg
          exact hpg.symm
      obtain ⟨g, gs, hgg⟩ : ∃ g gs, gl (b :: t) = g :: gs := ⟨_, _, gl_cons (by simp)⟩
      have := hg g gs hgg
      rw [List.takeWhile_cons, List.dropWhile_cons, hgg, List.takeWhile_cons, List.dropWhile_cons]
      simp [hb, this, hgg]

theorem isHexR_lt (r : Int) (h : isHexR r = true) : r < 128 := by simp [isHexR] at h; omega

/-- code, of bytes -/
theorem codeF_gl (l : ByteArray) : match codeF l with
    | none => codeG (gl (B l)) = none
    | some (n, m) => codeG (gl (B l)) = some (n, gl (B (l.extract (m + 1) l.size))) ∧ m + 1 + (gl (B (l.extract (m + 1) l.size))).length = (gl (B l)).length := by
  unfold codeF
  by_cases hpf : Lib.hasPrefix (B l) [123] = false
  · rw [if_pos hpf]
    simp only
    unfold codeG
    cases hgl : gl (B l) with
    | nil => rfl
    | cons g gs =>
      simp only
      rw [if_neg]
      intro hg
      obtain ⟨b, t, e, h1, h2, h3⟩ := gl_low (r := g.1) (o := g.2) (gs := gs) hgl (by omega)
      rw [e] at hpf
      have hb : b = 123 := by
        apply UInt8.toNat_inj.1
        have : b.toNat = 123 := by omega
        simpa using this
      subst hb
      simp [Lib.hasPrefix] at hpf
  · rw [if_neg hpf]
    obtain ⟨t, ht⟩ : ∃ t, B l = 123 :: t := by
      cases hB : B l with
      | nil => rw [hB] at hpf; simp [Lib.hasPrefix] at hpf
      | cons b t =>
        rw [hB] at hpf
        simp [Lib.hasPrefix] at hpf
        exact ⟨t, by rw [hpf]⟩
    have hX : ∀ e, (codeX l e).data.toList = (t.take (e - 1)) := by
      intro e
      show (l.extract 1 e).data.toList = _
      rw [ByteArray.data_extract, Array.toList_extract, List.extract_eq_take_drop, show l.data.toList = 123 :: t from ht]
      rfl
    have hE : ∀ m, B (l.extract (m + 1) l.size) = t.drop m := by intro m; rw [B_drop, ht]; rfl
    have hg0 : gl (B l) = ((((123 : UInt8).toNat : Nat) : Int), true) :: gl t := by rw [ht, gl_ascii t (by decide)]
    rw [show l.data.toList = 123 :: t from ht, hg0]
    obtain ⟨hw1, hw2⟩ := gl_while isHexR isHexR_lt t
    have hfun : (fun b : UInt8 => isHexR ((b.toNat : Nat) : Int)) = isHexB := by funext b; rw [isHexB_iff]
    rw [hfun] at hw1 hw2
    have hall : ∀ b ∈ t.takeWhile isHexB, isHexB b = true := fun b hb => mem_takeWhile hb
    have hsplit := List.takeWhile_append_dropWhile (p := isHexB) (l := t)
    have hhead : ∀ b r', t.dropWhile isHexB = b :: r' → isHexB b = false := by
      intro b r' hb
      have := List.head?_dropWhile_not isHexB t
      rw [hb] at this
      simpa using this
    have hcg : codeG (((((123 : UInt8).toNat : Nat) : Int), true) :: gl t) = match gl (t.dropWhile isHexB) with
      | [] => none
      | e :: rest => if e.1 = 125 ∧ 1 ≤ (t.takeWhile isHexB).length ∧ (t.takeWhile isHexB).length ≤ 6 ∧ Lib.validRune (hexG ((t.takeWhile isHexB).map fun b => ((((b.toNat : Nat) : Int), true) : G))) = true
          then some (hexG ((t.takeWhile isHexB).map fun b => ((((b.toNat : Nat) : Int), true) : G)), rest) else none := by
      unfold codeG
      simp only
      rw [if_pos (by decide), hw1, hw2]
      simp only [List.length_map]
    rw [hcg]
    generalize t.takeWhile isHexB = ds at *
    generalize t.dropWhile isHexB = r at *
    subst hsplit
    clear hcg hw1 hw2 hpf hg0
    by_cases hr : ∃ rest, r = 125 :: rest
    · obtain ⟨rest, rfl⟩ := hr
      have hidx : Lib.indexByte (123 :: (ds ++ 125 :: rest)) 125 = ((ds.length + 1 : Nat) : Int) := by
        have := indexByte_at 125 (123 :: ds) rest (by
          intro b hb
          rcases List.mem_cons.1 hb with rfl | hb
          · decide
          · rintro rfl
            have := hall _ hb
            revert this; decide)
        simpa using this
      rw [hidx, gl_ascii rest (by decide)]
      simp only
      by_cases hlen : 1 ≤ ds.length ∧ ds.length ≤ 6
      · rw [if_neg (by omega)]
        have hx : (codeX l ((ds.length + 1 : Nat) : Int).toNat).data.toList = ds := by
          rw [hX]; simp
        have hrest : B (l.extract ((((ds.length + 1 : Nat) : Int).toNat) + 1) l.size) = rest := by
          rw [hE]; simp
        have hlg : ((ds.length + 1 : Nat) : Int).toNat + 1 + (gl rest).length = (((((123 : UInt8).toNat : Nat) : Int), true) :: gl (ds ++ 125 :: rest)).length := by
          rw [gl_asciis ds _ (fun b hb => isHexB_lt (hall b hb)), gl_ascii rest (by decide)]
          simp
          omega
        rw [hx, hexN_hexG ds hall]
        simp only
        rw [if_neg (not_not_intro (trimS_nil (l := ds) (cs := cset) hall))]
        generalize hexG (ds.map fun b => ((((b.toNat : Nat) : Int), true) : G)) = V
        cases hv : Lib.validRune (V : Int) with
        | true =>
          rw [if_neg (by simp)]
          simp only
          rw [if_pos ⟨by decide, hlen.1, hlen.2, by trivial⟩, hrest]
          exact ⟨rfl, hlg⟩
        | false =>
          rw [if_pos rfl]
          simp only
          rw [if_neg (by intro hh; cases hh.2.2.2)]
      · rw [if_pos (by omega)]
        simp only
        rw [if_neg (by intro hh; exact hlen ⟨hh.2.1, hh.2.2.1⟩)]
    · have hnone : (match gl r with
        | [] => none
        | e :: rest => if e.1 = 125 ∧ 1 ≤ ds.length ∧ ds.length ≤ 6 ∧ Lib.validRune (hexG (ds.map fun b => ((((b.toNat : Nat) : Int), true) : G))) = true
            then some (hexG (ds.map fun b => ((((b.toNat : Nat) : Int), true) : G)), rest) else none) = none := by
        cases hg : gl r with
        | nil => rfl
        | cons e rest =>
          simp only
          rw [if_neg]
          intro hh
          obtain ⟨b, t', e1, h1, h2, h3⟩ := gl_low (r := e.1) (o := e.2) (gs := rest) hg (by omega)
          have hb : b = 125 := by
            apply UInt8.toNat_inj.1
            have : b.toNat = 125 := by omega
            simpa using this
          subst hb
          exact hr ⟨t', e1⟩
      by_cases hi : Lib.indexByte (123 :: (ds ++ r)) 125 < 2 ∨ 7 < Lib.indexByte (123 :: (ds ++ r)) 125
      · rw [if_pos hi]; exact hnone
      · rw [if_neg hi]
        obtain ⟨i, hii⟩ : ∃ i : Nat, Lib.indexByte (123 :: (ds ++ r)) 125 = ((i + 1 : Nat) : Int) := ⟨(Lib.indexByte (123 :: (ds ++ r)) 125).toNat - 1, by omega⟩
        obtain ⟨h1, h2⟩ := Lib.indexByte_some hii
        have h1' : (ds ++ r)[i]? = some 125 := by simpa using h1
        have hid : ds.length ≤ i := by
          apply Nat.le_of_not_lt
          intro hlt
          rw [List.getElem?_append_left hlt] at h1'
          have := hall _ (List.mem_of_getElem? h1')
          revert this; decide
        rw [List.getElem?_append_right hid] at h1'
        cases r with
        | nil => simp at h1'
        | cons b r' =>
          have hb := hhead b r' rfl
          have hne : i ≠ ds.length := by
            intro e
            rw [e, Nat.sub_self] at h1'
            simp at h1'
            exact hr ⟨r', by rw [h1']⟩
          have hx : (codeX l (Lib.indexByte (123 :: (ds ++ b :: r')) 125).toNat).data.toList = ds ++ b :: r'.take (i - ds.length - 1) := by
            rw [hX, hii]
            have : ((i + 1 : Nat) : Int).toNat - 1 = ds.length + (i - ds.length - 1 + 1) := by omega
            rw [this, List.take_append, List.take_of_length_le (by omega)]
            have : ds.length + (i - ds.length - 1 + 1) - ds.length = i - ds.length - 1 + 1 := by omega
            rw [this]
            rfl
          rw [hx]
          have htr : Lib.trimS (ds ++ b :: r'.take (i - ds.length - 1)) cset ≠ [] := trimS_ne (b := b) (by simp) hb
          cases hexN 0 (ds ++ b :: r'.take (i - ds.length - 1)) with
          | none => exact hnone
          | some n => simp only; rw [if_pos htr]; exact hnone

end Go.Proofs.YtegnoaejlhbpbaaGreatDoor.lx
