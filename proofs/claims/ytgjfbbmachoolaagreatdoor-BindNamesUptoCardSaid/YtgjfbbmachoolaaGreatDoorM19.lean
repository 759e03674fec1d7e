/-
  Rows behind a change of one block. No condition. bind's Bind, whole. Conditions: the package-level variables are laid; the query and the tables lie there.
-/
import Derived.Test.YtgjfbbmachoolaaGreatDoorM16
import Derived.Test.YtgjfbbmachoolaaGreatDoorM18
import Derived.Test.YtgjfbbmachoolaaGreatDoorM15
namespace Go.Proofs.YtgjfbbmachoolaaGreatDoor.lx
open Go.RowKit

/-! rows behind a change of one block -/
theorem StpRow.off {ao : Option Addr} {L : List Stp} {w w' : World} {R : Nat} (h : StpRow ao L w) (hno : ∀ j x, w.cell? ⟨R, j, none⟩ ≠ some (.int .u8 x)) (hk : ∀ k, k ≠ R → w'.heap[k]? = w.heap[k]?) : StpRow ao L w' := by
 rcases h with h | ⟨b, o, h1, h2⟩
 ·
  exact .inl h
 ·
  by_cases hb : b = R
  ·
   subst hb
   cases L with
   | nil => exact .inl rfl
   | cons t L => exact absurd (h2 0 t rfl).1 (hno _ _)
  ·
   refine .inr ⟨b, o, h1, fun i t ht => ?_⟩
   obtain ⟨c0, c1, c2⟩ := h2 i t ht
   exact ⟨(World.cell?_of_block (a := ⟨b, _, none⟩) (hk b hb)).trans c0, (World.cell?_of_block (a := ⟨b, _, none⟩) (hk b hb)).trans c1, (World.cell?_of_block (a := ⟨b, _, none⟩) (hk b hb)).trans c2⟩
theorem KRow.off {ao : Option Addr} {L : List Int} {w w' : World} {R : Nat} (h : KRow ao L w) (hno : ∀ j x, w.cell? ⟨R, j, none⟩ ≠ some (.int .u8 x)) (hk : ∀ k, k ≠ R → w'.heap[k]? = w.heap[k]?) : KRow ao L w' := by
 rcases h with h | ⟨b, o, h1, h2⟩
 ·
  exact .inl h
 ·
  by_cases hb : b = R
  ·
   subst hb
   cases L with
   | nil => exact .inl rfl
   | cons t L => exact absurd (h2 0 t rfl) (hno _ _)
  ·
   exact .inr ⟨b, o, h1, fun i t ht => (World.cell?_of_block (a := ⟨b, _, none⟩) (hk b hb)).trans (h2 i t ht)⟩
theorem ItmRow.off {ao : Option Addr} {L : List Itm} {w w' : World} {R : Nat} (h : ItmRow ao L w) (hno : ∀ j x, w.cell? ⟨R, j, none⟩ ≠ some (.int .u8 x)) (hk : ∀ k, k ≠ R → w'.heap[k]? = w.heap[k]?) : ItmRow ao L w' := by
 rcases h with h | ⟨b, o, h1, h2⟩
 ·
  exact .inl h
 ·
  by_cases hb : b = R
  ·
   subst hb
   cases L with
   | nil => exact .inl rfl
   | cons t L =>
    obtain ⟨_, _, c0, _⟩ := h2 0 t rfl
    exact absurd c0 (hno _ _)
  ·
   refine .inr ⟨b, o, h1, fun i t ht => ?_⟩
   obtain ⟨eo, ec, c0, c1, hr⟩ := h2 i t ht
   exact ⟨eo, ec, (World.cell?_of_block (a := ⟨b, _, none⟩) (hk b hb)).trans c0, (World.cell?_of_block (a := ⟨b, _, none⟩) (hk b hb)).trans c1, hr.off hno hk⟩
theorem ColRow.off {ao : Option Addr} {L : List Clm} {w w' : World} {R : Nat} (h : ColRow ao L w) (hno : ∀ j x, w.cell? ⟨R, j, none⟩ ≠ some (.int .u8 x)) (hk : ∀ k, k ≠ R → w'.heap[k]? = w.heap[k]?) : ColRow ao L w' := by
 rcases h with h | ⟨b, o, h1, h2⟩
 ·
  exact .inl h
 ·
  by_cases hb : b = R
  ·
   subst hb
   cases L with
   | nil => exact .inl rfl
   | cons t L => exact absurd (h2 0 t rfl).2 (hno _ _)
  ·
   refine .inr ⟨b, o, h1, fun i t ht => ?_⟩
   obtain ⟨c0, c1⟩ := h2 i t ht
   exact ⟨(World.cell?_of_block (a := ⟨b, _, none⟩) (hk b hb)).trans c0, (World.cell?_of_block (a := ⟨b, _, none⟩) (hk b hb)).trans c1⟩
theorem zero_tbl {w : World} {R : Nat} (h : w.heap[R]? = some (.cells #[.string ⟨#[]⟩, .slice none 0 0, .slice none 0 0] 53 (0, 0))) : ∀ j x, w.cell? ⟨R, j, none⟩ ≠ some (.int .u8 x) := by
 intro j x
 rw [Lib.cell_of_heap h]
 match j with
 | 0 | 1 | 2 => intro h; cases h
 | n + 3 => intro h; cases h
theorem TxtRow.off {ao : Option Addr} {L : List ByteArray} {w w' : World} {R : Nat} (h : TxtRow ao L w) (hno : ∀ g o, ao = some ⟨g, o, none⟩ → g ≠ R) (hk : ∀ k, k ≠ R → w'.heap[k]? = w.heap[k]?) : TxtRow ao L w' := by
 rcases h with h | ⟨b, o, h1, h2⟩
 ·
  exact .inl h
 ·
  exact .inr ⟨b, o, h1, fun i t ht => (World.cell?_of_block (a := ⟨b, _, none⟩) (hk b (hno b o h1))).trans (h2 i t ht)⟩
theorem IntRow.off {ao : Option Addr} {L : List Int} {w w' : World} {R : Nat} (h : IntRow ao L w) (hno : ∀ g o, ao = some ⟨g, o, none⟩ → g ≠ R) (hk : ∀ k, k ≠ R → w'.heap[k]? = w.heap[k]?) : IntRow ao L w' := by
 rcases h with h | ⟨b, o, h1, h2⟩
 ·
  exact .inl h
 ·
  exact .inr ⟨b, o, h1, fun i t ht => (World.cell?_of_block (a := ⟨b, _, none⟩) (hk b (hno b o h1))).trans (h2 i t ht)⟩
theorem BndIn.off {b : Bnd} {wo ga ia na ka : Option Addr} {w w' : World} {R : Nat} (h : BndIn b wo ga ia na ka w) (hno : ∀ j x, w.cell? ⟨R, j, none⟩ ≠ some (.int .u8 x)) (hg : ∀ g o, ga = some ⟨g, o, none⟩ → g ≠ R) (hn : ∀ g o, na = some ⟨g, o, none⟩ → g ≠ R) (hk : ∀ k, k ≠ R → w'.heap[k]? = w.heap[k]?) : BndIn b wo ga ia na ka w' :=
 ⟨h.wher.off hno hk, h.group.off hg hk, h.items.off hno hk, h.names.off hn hk, h.kinds.off hno hk⟩
theorem zero_bnd {w : World} {R : Nat} (h : w.heap[R]? = some (.cells #[.string ⟨#[]⟩, .string ⟨#[]⟩, .int .i64 0, .int .i64 0, .int .i64 0, .slice none 0 0, .slice none 0 0, .slice none 0 0, .bool false, .slice none 0 0, .slice none 0 0] 32 (0, 0))) : ∀ j x, w.cell? ⟨R, j, none⟩ ≠ some (.int .u8 x) := by
 intro j x
 rw [Lib.cell_of_heap h]
 match j with
 | 0 | 1 | 2 | 3 | 4 | 5 | 6 | 7 | 8 | 9 | 10 => intro h; cases h
 | n + 11 => intro h; cases h
/-- four blocks made -/
theorem alloc4 (w : World) (o0 o1 o2 o3 : Obj) : ((((w.alloc o0).alloc o1).alloc o2).alloc o3).heap.size = w.heap.size + 4 ∧ Below w.heap.size w ((((w.alloc o0).alloc o1).alloc o2).alloc o3) ∧
  ((((w.alloc o0).alloc o1).alloc o2).alloc o3).heap[w.heap.size]? = some o0 ∧ ((((w.alloc o0).alloc o1).alloc o2).alloc o3).heap[w.heap.size + 1]? = some o1 ∧ ((((w.alloc o0).alloc o1).alloc o2).alloc o3).heap[w.heap.size + 2]? = some o2 ∧ ((((w.alloc o0).alloc o1).alloc o2).alloc o3).heap[w.heap.size + 3]? = some o3 := by
 have e1 : (w.alloc o0).heap.size = w.heap.size + 1 := alloc_sz _ _
 have e2 : ((w.alloc o0).alloc o1).heap.size = w.heap.size + 2 := by rw [alloc_sz, e1]
 have e3 : (((w.alloc o0).alloc o1).alloc o2).heap.size = w.heap.size + 3 := by rw [alloc_sz, e2]
 refine ⟨by rw [alloc_sz, e3], ((((Below.refl _ w).alloc (Nat.le_refl _) _).alloc (by rw [e1]; omega) _).alloc (by rw [e2]; omega) _).alloc (by rw [e3]; omega) _, ?_, ?_, ?_, ?_⟩
 ·
  rw [heap_alloc_old _ _ (by rw [e3]; omega), heap_alloc_old _ _ (by rw [e2]; omega), heap_alloc_old _ _ (by rw [e1]; omega)]
  exact heap_alloc_new _ _
 ·
  rw [heap_alloc_old _ _ (by rw [e3]; omega), heap_alloc_old _ _ (by rw [e2]; omega), ← e1]
  exact heap_alloc_new _ _
 ·
  rw [heap_alloc_old _ _ (by rw [e3]; omega), ← e2]
  exact heap_alloc_new _ _
 ·
  rw [← e3]
  exact heap_alloc_new _ _
/-- three blocks made -/
theorem alloc3 (w : World) (o0 o1 o2 : Obj) : (((w.alloc o0).alloc o1).alloc o2).heap.size = w.heap.size + 3 ∧ Below w.heap.size w (((w.alloc o0).alloc o1).alloc o2) ∧
  (((w.alloc o0).alloc o1).alloc o2).heap[w.heap.size]? = some o0 ∧ (((w.alloc o0).alloc o1).alloc o2).heap[w.heap.size + 1]? = some o1 ∧ (((w.alloc o0).alloc o1).alloc o2).heap[w.heap.size + 2]? = some o2 := by
 have e1 : (w.alloc o0).heap.size = w.heap.size + 1 := alloc_sz _ _
 have e2 : ((w.alloc o0).alloc o1).heap.size = w.heap.size + 2 := by rw [alloc_sz, e1]
 refine ⟨by rw [alloc_sz, e2], (((Below.refl _ w).alloc (Nat.le_refl _) _).alloc (by rw [e1]; omega) _).alloc (by rw [e2]; omega) _, ?_, ?_, ?_⟩
 ·
  rw [heap_alloc_old _ _ (by rw [e2]; omega), heap_alloc_old _ _ (by rw [e1]; omega)]
  exact heap_alloc_new _ _
 ·
  rw [heap_alloc_old _ _ (by rw [e2]; omega), ← e1]
  exact heap_alloc_new _ _
 ·
  rw [← e2]
  exact heap_alloc_new _ _
/-- two blocks made -/
theorem alloc2 (w : World) (o0 o1 : Obj) : ((w.alloc o0).alloc o1).heap.size = w.heap.size + 2 ∧ Below w.heap.size w ((w.alloc o0).alloc o1) ∧ ((w.alloc o0).alloc o1).heap[w.heap.size]? = some o0 ∧ ((w.alloc o0).alloc o1).heap[w.heap.size + 1]? = some o1 := by
 have e1 : (w.alloc o0).heap.size = w.heap.size + 1 := alloc_sz _ _
 refine ⟨by rw [alloc_sz, e1], ((Below.refl _ w).alloc (Nat.le_refl _) _).alloc (by rw [e1]; omega) _, ?_, ?_⟩
 ·
  rw [heap_alloc_old _ _ (by rw [e1]; omega)]
  exact heap_alloc_new _ _
 ·
  rw [← e1]
  exact heap_alloc_new _ _
end Go.Proofs.YtgjfbbmachoolaaGreatDoor.lx
namespace Go.Proofs.YtgjfbbmachoolaaGreatDoor.lx
open Go.RowKit
set_option linter.unusedVariables false
set_option linter.unusedSimpArgs false

theorem bindA_ok {q : Qry} {l : List Tbl} {b : Bnd} (h : bindR q l = .ok b) : bindA q l = (b, 0) := by unfold bindA; rw [h]
theorem bindA_no {q : Qry} {l : List Tbl} {y : Int} (h : bindR q l = .no y) : bindA q l = (Bnd.none, y) := by unfold bindA; rw [h]

theorem setCell_same {Q : Nat} {v : Value} {t : TypeId} {f : Nat × Nat} {w : World} (h : w.heap[Q]? = some (.cells #[v] t f)) : w.setCell ⟨Q, 0, none⟩ v = w := by
 unfold World.setCell
 have e : ∀ (g : Obj → Obj), g (.cells #[v] t f) = .cells #[v] t f → w.heap.modify Q g = w.heap := fun g hg => by
  apply Array.ext_getElem?
  intro i
  rw [Array.getElem?_modify]
  split
  ·
   subst_vars; rw [h]; simp [hg]
  ·
   rfl
 simp only
 rw [e _ (by simp)]
/-- eleven cells written -/
def set11 (Q : Nat) (a b c d e f g h i j k : Value) (w : World) : World :=
 ((((((((((w.setCell ⟨Q, 0, none⟩ a).setCell ⟨Q, 1, none⟩ b).setCell ⟨Q, 2, none⟩ c).setCell ⟨Q, 3, none⟩ d).setCell ⟨Q, 4, none⟩ e).setCell ⟨Q, 5, none⟩ f).setCell ⟨Q, 6, none⟩ g).setCell ⟨Q, 7, none⟩ h).setCell ⟨Q, 8, none⟩ i).setCell ⟨Q, 9, none⟩ j).setCell ⟨Q, 10, none⟩ k
theorem set11_at {Q : Nat} {a b c d e f g h i j k a' b' c' d' e' f' g' h' i' j' k' : Value} {ty : TypeId} {w : World} (hw : w.heap[Q]? = some (.cells #[a', b', c', d', e', f', g', h', i', j', k'] ty (0, 0))) : (set11 Q a b c d e f g h i j k w).heap[Q]? = some (.cells #[a, b, c, d, e, f, g, h, i, j, k] ty (0, 0)) := by
 simp [set11, World.setCell, Array.getElem?_modify, hw]
theorem below11 {B Q : Nat} {a b c d e f g h i j k : Value} {w w' : World} (hb : Below B w w') (hQ : B ≤ Q) : Below B w (set11 Q a b c d e f g h i j k w') := by
 unfold set11
 refine Below.setCell (Below.setCell (Below.setCell (Below.setCell (Below.setCell (Below.setCell (Below.setCell (Below.setCell (Below.setCell (Below.setCell (Below.setCell hb ?_ _) ?_ _) ?_ _) ?_ _) ?_ _) ?_ _) ?_ _) ?_ _) ?_ _) ?_ _) ?_ _ <;> exact hQ
theorem set11_ne {Q m : Nat} {a b c d e f g h i j k : Value} {w : World} (hm : m ≠ Q) : (set11 Q a b c d e f g h i j k w).heap[m]? = w.heap[m]? := by
 simp [set11, World.setCell, Array.getElem?_modify, Ne.symm hm]
theorem results_bnd {fn : Func} {p u : Tmp} (hf : fn.results = #[.cell p 32, .tmp u]) {tmps : Array Value} {A : Nat} {a b c d e f g h i j k x : Value} {w : World} (hc : w.heap[A]? = some (.cells #[a, b, c, d, e, f, g, h, i, j, k] 32 (0, 0))) (hq : tmps.getD p undef = .pointer (some ⟨A, 0, none⟩)) (hu : tmps.getD u undef = x) :
  (results fn tmps).run Tryz.prog w = .ok (.tuple #[.agg #[a, b, c, d, e, f, g, h, i, j, k], x]) w := by
 have hcl : ∀ (m : Nat) v, (#[a, b, c, d, e, f, g, h, i, j, k] : Array Value)[m]? = some v → w.cell? ⟨A, m, none⟩ = some v := fun m v hv => by rw [Lib.cell_of_heap hc]; exact hv
 have c0 := hcl 0 _ rfl
 have c1 := hcl 1 _ rfl
 have c2 := hcl 2 _ rfl
 have c3 := hcl 3 _ rfl
 have c4 := hcl 4 _ rfl
 have c5 := hcl 5 _ rfl
 have c6 := hcl 6 _ rfl
 have c7 := hcl 7 _ rfl
 have c8 := hcl 8 _ rfl
 have c9 := hcl 9 _ rfl
 have c10 := hcl 10 _ rfl
 clear hcl hc
 rw [results_cell_tmp hf, hq, hu]
 simp [go_sem, c0, c1, c2, c3, c4, c5, c6, c7, c8, c9, c10]
/-- a bound query as a value -/
abbrev bndA (b : Bnd) (wo : Option Addr) (wc : Nat) (ga : Option Addr) (gc : Nat) (ia : Option Addr) (ic : Nat) (na : Option Addr) (nc : Nat) (ka : Option Addr) (kc : Nat) : Array Value :=
 #[.string b.table, .string b.join, .int .i64 b.width, .int .i64 b.left, .int .i64 b.right, .slice wo b.wher.length wc, .slice ga b.group.length gc, .slice ia b.items.length ic, .bool b.grouped, .slice na b.names.length nc, .slice ka b.kinds.length kc]
theorem bndIn_none (w : World) : BndIn Bnd.none none none none none none w := ⟨.inl rfl, .inl rfl, .inl rfl, .inl rfl, .inl rfl⟩
/-- what Bind answers -/
def BndAns (hi : Nat) (r : Bnd × Int) (e : Ending) (w' : World) : Prop := ∃ wo wc ga gc ia ic na nc ka kc, e = .returned (.tuple #[.agg (bndA r.1 wo wc ga gc ia ic na nc ka kc), .int .i64 r.2]) ∧ BndIn r.1 wo ga ia na ka w' ∧ r.1.group.length ≤ gc ∧ (∀ g o, ga = some ⟨g, o, none⟩ → hi ≤ g) ∧ (∀ g o, na = some ⟨g, o, none⟩ → hi ≤ g)

set_option maxHeartbeats 4000000 in
set_option maxRecDepth 100000 in
theorem Bind_any {q : Qry} {io wo go lo : Option Addr} {icp wcp gcp lcap : Nat} {L : List Tbl} {w : World} (hG : PGlob w) (hqi : QryIn q io wo go w) (hqo : QryOk q) (hwl : q.wher.length ≤ 1099511627776) (hxl : ∀ it ∈ q.items, it.e.length ≤ 1099511627776)
  (hL : TblRow lo L w) (hLo : TblsOk L) (hll : L.length ≤ 1099511627776) :
  Calls Tryz.prog 9 #[.agg #[.slice io q.items.length icp, .string q.table, .string q.join, .string q.left, .string q.right, .slice wo q.wher.length wcp, .slice go q.group.length gcp], .slice lo L.length lcap] w fun e w' => BndAns w.heap.size (bindA q L) e w' ∧ Below w.heap.size w w' := by
 have hmf : ∀ (fn : Fn) (first cap : Array Value) (w : World), (Instr.makeFunc fn first cap).run Tryz.prog w = .ok (.func fn first cap) w := fun _ _ _ _ => rfl
 obtain ⟨hz, hb0, h0, h1, h2, h3⟩ := alloc4 w (.cells #[.slice io q.items.length icp, .string q.table, .string q.join, .string q.left, .string q.right, .slice wo q.wher.length wcp, .slice go q.group.length gcp] 26) (.cells #[.slice lo L.length lcap] 27)
  (.cells #[.string ⟨#[]⟩, .string ⟨#[]⟩, .int .i64 0, .int .i64 0, .int .i64 0, .slice none 0 0, .slice none 0 0, .slice none 0 0, .bool false, .slice none 0 0, .slice none 0 0] 32)
  (.cells #[.string ⟨#[]⟩, .string ⟨#[]⟩, .int .i64 0, .int .i64 0, .int .i64 0, .slice none 0 0, .slice none 0 0, .slice none 0 0, .bool false, .slice none 0 0, .slice none 0 0] 32)
 obtain ⟨W0, hW0⟩ : ∃ W0, ((((w.alloc (.cells #[.slice io q.items.length icp, .string q.table, .string q.join, .string q.left, .string q.right, .slice wo q.wher.length wcp, .slice go q.group.length gcp] 26)).alloc (.cells #[.slice lo L.length lcap] 27)).alloc
  (.cells #[.string ⟨#[]⟩, .string ⟨#[]⟩, .int .i64 0, .int .i64 0, .int .i64 0, .slice none 0 0, .slice none 0 0, .slice none 0 0, .bool false, .slice none 0 0, .slice none 0 0] 32)).alloc
  (.cells #[.string ⟨#[]⟩, .string ⟨#[]⟩, .int .i64 0, .int .i64 0, .int .i64 0, .slice none 0 0, .slice none 0 0, .slice none 0 0, .bool false, .slice none 0 0, .slice none 0 0] 32)) = W0 := ⟨_, rfl⟩
 rw [hW0] at hz hb0 h0 h1 h2 h3
 have hbA := (Below.refl W0.heap.size W0).alloc (Nat.le_refl _) (.cells #[.int .i64 0] 33)
 have hb1 := below_self hb0 hbA
 have hfn := bindfn_any (q := q) (L := L) (Q := w.heap.size) (Lb := w.heap.size + 1) (Bb := w.heap.size + 3) hb1 hG hqi hqo hwl hxl hL hLo hll (Nat.le_refl _) (by omega) (by omega) (by omega) (by omega)
  ((hbA.block _ (by omega)).trans h0) ((hbA.block _ (by omega)).trans h1) ((hbA.block _ (by omega)).trans h3)
 have HCA := Lib.hid (caught_any (w := W0) (enters_of Tryz.func20 (by kernel_rfl) rfl) (hfn.mono fun e w' he => ⟨he, by
  have hg : ((W0.alloc (.cells #[.int .i64 0] 33)).grownBy w' (some (w.heap.size + 3))) := by
   rcases he with ⟨_, _, hg⟩ | ⟨_, _, _, hg⟩ <;> exact hg
  exact (hg.block _ (by rw [alloc_sz]; omega) (by intro e; injection e; omega)).trans (heap_alloc_new _ _)⟩))
 have HB1 := Lib.hid hb1
 have HZ := Lib.hid hz
 have H2 := Lib.hid ((hbA.block _ (show w.heap.size + 2 < W0.heap.size by omega)).trans h2)
 have hnz := fun y => bindR_nz (q := q) (l := L) (y := y)
 obtain ⟨R, hR⟩ : ∃ R, bindR q L = R := ⟨_, rfl⟩
 have hok := fun b => bindA_ok (q := q) (l := L) (b := b)
 have hno := fun y => bindA_no (q := q) (l := L) (y := y)
 rw [hR] at HCA hnz hok hno
 generalize bindA q L = A at *
 have HN := Lib.hid hnz
 have HOK := Lib.hid hok
 have HNO := Lib.hid hno
 clear hG hqi hqo hxl hL hLo hb0 hb1 hfn h0 h1 h2 h3 hbA hz hR hnz hok hno
 go_enter Tryz.func9, Tryz.ntmps9
 go_upto_region 2 with fail
 try rw [hW0]
 clear hW0
 go_wp2_with (go_at_call 19; refine HCA.out.mono ?_; rintro e w2 ⟨y, w1, rfl, ⟨hr, hg⟩, he, rfl⟩; refine Hid.out ?_)
 refine Lib.hid ?_
 have hz := HZ.out
 have hsz := hg.size
 rw [alloc_sz] at hsz
 have hB1 : Below w.heap.size w w1 := below_gbB HB1.out hg (by omega) (by rw [alloc_sz]; omega)
 have hn2 := (Below.heap_setCell w1 ⟨W0.heap.size, 0, none⟩ (.int .i64 y) (w.heap.size + 2) (by show w.heap.size + 2 ≠ W0.heap.size; omega)).trans ((hg.block _ (by rw [alloc_sz]; omega) (by intro e; injection e; omega)).trans H2.out)
 have HB3 := Lib.hid (hB1.setCell (p := ⟨W0.heap.size, 0, none⟩) (by show w.heap.size ≤ W0.heap.size; omega) (.int .i64 y))
 have hkeep : ∀ k, k ≠ W0.heap.size → (w1.setCell ⟨W0.heap.size, 0, none⟩ (.int .i64 y)).heap[k]? = w1.heap[k]? := fun k hk => Below.heap_setCell w1 ⟨W0.heap.size, 0, none⟩ (.int .i64 y) k hk
 cases R with
 | no z =>
  have hy : y = z := hr
  subst hy
  have hy := HN.out _ rfl
  have hA := HNO.out _ rfl
  subst hA
  clear hg he HCA hB1 hkeep HN HOK HNO hr
  generalize w1.setCell ⟨W0.heap.size, 0, none⟩ (.int .i64 y) = w3 at *
  have f2 := Lib.frozen_of_heap hn2
  have hcl : ∀ (m : Nat) v, (#[.string ⟨#[]⟩, .string ⟨#[]⟩, .int .i64 0, .int .i64 0, .int .i64 0, .slice none 0 0, .slice none 0 0, .slice none 0 0, .bool false, .slice none 0 0, .slice none 0 0] : Array Value)[m]? = some v → w3.cell? ⟨w.heap.size + 2, m, none⟩ = some v := fun m v hv => by rw [Lib.cell_of_heap hn2]; exact hv
  have c0 := hcl 0 _ rfl
  have c1 := hcl 1 _ rfl
  have c2 := hcl 2 _ rfl
  have c3 := hcl 3 _ rfl
  have c4 := hcl 4 _ rfl
  have c5 := hcl 5 _ rfl
  have c6 := hcl 6 _ rfl
  have c7 := hcl 7 _ rfl
  have c8 := hcl 8 _ rfl
  have c9 := hcl 9 _ rfl
  have c10 := hcl 10 _ rfl
  have HX := Lib.hid hn2
  clear hcl hn2 hsz hz HZ H2 HB1
  go_wp2_with fail
  refine bodyPost_ret (v := .tuple #[.agg (bndA Bnd.none none 0 none 0 none 0 none 0 none 0), .int .i64 y]) (by exact results_bnd rfl (set11_at HX.out) rfl rfl) rfl ⟨⟨_, _, _, _, _, _, _, _, _, _, rfl, bndIn_none _, Nat.zero_le _, (fun _ _ h => by cases h), (fun _ _ h => by cases h)⟩, below11 HB3.out (by omega)⟩
 | ok b =>
  obtain ⟨rfl, wo, wc, ga, gc, ia, ic, na, nc, ka, kc, hbb, hbi, hgh, hnh, hgc⟩ := hr
  have hA := HOK.out _ rfl
  subst hA
  have hsame := setCell_same he
  rw [hsame] at hn2 HB3
  try rw [hsame]
  unfold bndC at hbb
  clear hg he HCA hB1 HN HOK HNO hkeep hsame
  have HBI := Lib.hid (hbi.off (w' := set11 (w.heap.size + 2) (.string b.table) (.string b.join) (.int .i64 b.width) (.int .i64 b.left) (.int .i64 b.right) (.slice wo b.wher.length wc) (.slice ga b.group.length gc) (.slice ia b.items.length ic) (.bool b.grouped) (.slice na b.names.length nc) (.slice ka b.kinds.length kc) w1) (zero_bnd hn2) (fun g o h => by have := hgh g o h; rw [alloc_sz] at this; omega) (fun g o h => by have := hnh g o h; rw [alloc_sz] at this; omega) fun k hk => set11_ne hk)
  have HGH : Hid (∀ g o, ga = some ⟨g, o, none⟩ → w.heap.size ≤ g) := Lib.hid fun g o h => by have := hgh g o h; rw [alloc_sz] at this; omega
  have HNH : Hid (∀ g o, na = some ⟨g, o, none⟩ → w.heap.size ≤ g) := Lib.hid fun g o h => by have := hnh g o h; rw [alloc_sz] at this; omega
  clear hbi hgh hnh
  have f2 := Lib.frozen_of_heap hn2
  have f3 := Lib.frozen_of_heap hbb
  have hcl : ∀ (m : Nat) v, (#[.string ⟨#[]⟩, .string ⟨#[]⟩, .int .i64 0, .int .i64 0, .int .i64 0, .slice none 0 0, .slice none 0 0, .slice none 0 0, .bool false, .slice none 0 0, .slice none 0 0] : Array Value)[m]? = some v → w1.cell? ⟨w.heap.size + 2, m, none⟩ = some v := fun m v hv => by rw [Lib.cell_of_heap hn2]; exact hv
  have hcm : ∀ (m : Nat) v, (bndA b wo wc ga gc ia ic na nc ka kc)[m]? = some v → w1.cell? ⟨w.heap.size + 3, m, none⟩ = some v := fun m v hv => by rw [Lib.cell_of_heap hbb]; exact hv
  have c0 := hcl 0 _ rfl
  have c1 := hcl 1 _ rfl
  have c2 := hcl 2 _ rfl
  have c3 := hcl 3 _ rfl
  have c4 := hcl 4 _ rfl
  have c5 := hcl 5 _ rfl
  have c6 := hcl 6 _ rfl
  have c7 := hcl 7 _ rfl
  have c8 := hcl 8 _ rfl
  have c9 := hcl 9 _ rfl
  have c10 := hcl 10 _ rfl
  have d0 := hcm 0 _ rfl
  have d1 := hcm 1 _ rfl
  have d2 := hcm 2 _ rfl
  have d3 := hcm 3 _ rfl
  have d4 := hcm 4 _ rfl
  have d5 := hcm 5 _ rfl
  have d6 := hcm 6 _ rfl
  have d7 := hcm 7 _ rfl
  have d8 := hcm 8 _ rfl
  have d9 := hcm 9 _ rfl
  have d10 := hcm 10 _ rfl
  have HX := Lib.hid hn2
  clear hcl hcm hn2 hbb hsz hz HZ H2 HB1
  go_wp2_with fail
  refine bodyPost_ret (v := .tuple #[.agg (bndA b wo wc ga gc ia ic na nc ka kc), .int .i64 0]) (by exact results_bnd rfl (set11_at HX.out) rfl rfl) rfl ⟨⟨_, _, _, _, _, _, _, _, _, _, rfl, HBI.out, hgc, HGH.out, HNH.out⟩, below11 HB3.out (by omega)⟩
end Go.Proofs.YtgjfbbmachoolaaGreatDoor.lx
