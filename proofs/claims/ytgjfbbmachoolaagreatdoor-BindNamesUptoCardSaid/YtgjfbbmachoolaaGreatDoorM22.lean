/-
  Arguments carried into the world behind the call; slices of structs opened; how much a reading holds. No condition. Arguments as they read: queries, rows of steps, steps. No condition. Arguments as they read: steps, columns, tables. No condition.
-/
import Derived.Test.YtgjfbbmachoolaaGreatDoorRows
import Derived.Test.YtgjfbbmachoolaaGreatDoorM01
import Derived.Deep.Slices
import Derived.Deep.Fields
import Derived.ChangeSame
import Derived.Carry
import Derived.ChangeOld
import Derived.Test.YtgjfbbmachoolaaGreatDoorM12
import Derived.Test.YtgjfbbmachoolaaGreatDoorM21
import Derived.Lib.SmallJoins
import Derived.Test.YtgjfbbmachoolaaGreatDoorM13
namespace Go.Proofs.YtgjfbbmachoolaaGreatDoor.lx
open Go.ChangeShapes Go.WideShapes Go.Deep Go.RowKit

section
variable {H : Type} {enc : TypeId × Value → H} {P : Program} {w : World} {base : Nat} {spare : Nat → Bool} {held : Bool}
theorem open_slice_fields {t e : TypeId} {fs : Array Field} {fuel : Nat} {cs : List Value} {x : DataW H × List MemPlace} (ht : P.underlying t = some (.slice e)) (he : P.underlying e = some (.struct fs))
  (hone : oneCellFields P fs = true) (hC : P.cellsOf e = fs.size) (h : DataW.trod enc P w base spare held fuel t cs = some x) :
  (cs = [.slice none 0 0] ∧ x = (.nil, [])) ∨
  ∃ (a : Addr) (len cap m : Nat) (D : Nat → DataW H) (Pl : Nat → List MemPlace), cs = [.slice (some a) len cap] ∧ base ≤ a.block ∧ len ≤ cap ∧ cap ≤ maxLen ∧ m = (if spare a.block then cap else len) ∧
   x = (.slice ((List.range len).map D) ((List.range (m - len)).map fun j => D (len + j)), MemPlace.row a (m * fs.size) ++ (List.range m).flatMap Pl) ∧
   ∀ i, i < m → ∃ (ys : List (DataW H × List MemPlace)) (n : Nat), D i = .agg (ys.map (·.1)) ∧ Pl i = ys.flatMap (·.2) ∧ ys.length = fs.size ∧
    ∀ (j : Nat) (f : Field), fs[j]? = some f → ∃ (v : Value) (y : DataW H × List MemPlace), w.cell? (a.add (i * fs.size + j)) = some v ∧ ys[j]? = some y ∧ DataW.trod enc P w base spare held n f.type [v] = some y := by
 rcases open_slice ht h with h0 | ⟨a, len, cap, m, n, D, Pl, hcs, hb, hl, hm, hmm, hx, hi⟩
 ·
  exact .inl h0
 ·
  refine .inr ⟨a, len, cap, m, D, Pl, hcs, hb, hl, hm, hmm, by rw [hC] at hx; exact hx, fun i him => ?_⟩
  obtain ⟨cs', hc, ht'⟩ := hi i him
  rw [hC] at hc
  obtain ⟨ys, n', hn', hy, hlen, hyl, hf⟩ := DataW.trod_struct he ht'
  obtain ⟨_, hcl, hat⟩ := World.cells?_some hc
  simp only [Prod.mk.injEq] at hy
  refine ⟨ys, n', hy.1, hy.2, hyl, fun j f hj => ?_⟩
  obtain ⟨ho, hk⟩ := hone_of hone j f hj
  have hjl : j < fs.size := (Array.getElem?_eq_some_iff.1 hj).1
  have hcell := hat j hjl
  have hv : cs'[j]? = some (cs'[j]'(by omega)) := List.getElem?_eq_getElem (by omega)
  have h1 := hf j f hj
  rw [ho, hk] at h1
  have hone' : (cs'.drop j).take 1 = [cs'[j]'(by omega)] := by
   rw [List.drop_eq_getElem_cons (by omega)]
   rfl
  rw [hone'] at h1
  have hys : ys[j]? = some (ys[j]'(by omega)) := List.getElem?_eq_getElem (by omega)
  refine ⟨_, _, ?_, hys, h1.trans hys⟩
  rw [← Go.Deep.add_add, hcell, hv]
end

namespace bulks
theorem one_le {H : Type} (d : DataW H) : 1 ≤ Rows.uptoBulk d := by
 cases d with
 | lit l => cases l <;> simp [Rows.uptoBulk]
 | nil => simp [Rows.uptoBulk]
 | ptr d => simp [Rows.uptoBulk]
 | slice elems spare => simp [Rows.uptoBulk]
 | agg parts => simp [Rows.uptoBulk]
 | iface t d => simp [Rows.uptoBulk]
 | map entries => simp [Rows.uptoBulk]
 | held h => simp [Rows.uptoBulk]

/-- a part's bulk is at most the whole's -/
theorem part_le {H : Type} {d : DataW H} {l : List (DataW H)} (h : d ∈ l) : Rows.uptoBulk d ≤ Rows.uptoBulkAll l := by
 induction l with
 | nil => cases h
 | cons x r ih =>
  simp only [Rows.uptoBulkAll]
  cases List.mem_cons.1 h with
  | inl e => subst e; omega
  | inr e => have := ih e; omega

theorem append {H : Type} (l r : List (DataW H)) : Rows.uptoBulkAll (l ++ r) = Rows.uptoBulkAll l + Rows.uptoBulkAll r := by
 induction l with
 | nil => simp [Rows.uptoBulkAll]
 | cons x l ih => simp only [List.cons_append, Rows.uptoBulkAll, ih]; omega

/-- so many values at the most -/
theorem length_le {H : Type} (l : List (DataW H)) : l.length ≤ Rows.uptoBulkAll l := by
 induction l with
 | nil => simp [Rows.uptoBulkAll]
 | cons x r ih => have := one_le x; simp only [Rows.uptoBulkAll, List.length_cons]; omega

/-- a slice's places, and what they hold -/
theorem slice_le {H : Type} (elems spare : List (DataW H)) : elems.length + spare.length + 1 ≤ Rows.uptoBulk (.slice elems spare) := by
 have h1 := length_le elems
 have h2 := length_le spare
 simp only [Rows.uptoBulk]
 omega
theorem slice_elems {H : Type} (elems spare : List (DataW H)) : Rows.uptoBulkAll elems + 1 ≤ Rows.uptoBulk (.slice elems spare) := by
 simp only [Rows.uptoBulk]
 omega

end bulks

theorem laidOutT : laidOutB Tryz.prog = true := by kernel_rfl
theorem carryP {P : Program} (hl : laidOutB P = true) {H : Type} {enc : TypeId × Value → H} {W W' : World} (hb : Below W.heap.size W W') : ∀ {ts : List TypeId} {vs : List Value} {ds : List (DataW H)} {ps : List MemPlace},
  (ts.all fun t => P.readableRec t && decide (t < P.types.size)) = true → DataW.TrodAll enc P W 0 (fun _ => true) true ts vs ds ps →
  DataW.TrodAll enc P W' 0 (fun b => decide (b < W.heap.size)) true ts vs ds ps
 | [], _, _, _, _, h => by
  obtain ⟨rfl, rfl, rfl⟩ := trodAll_nil h
  exact trodAll_mk0
 | t :: ts, _, _, _, ht, h => by
  have hlt := DataW.TrodAll.lt h
  simp only [List.all_cons, Bool.and_eq_true, decide_eq_true_eq] at ht
  obtain ⟨v, vs1, d, ds1, a, b, rfl, rfl, rfl, h1, h2⟩ := trodAll_cons h
  exact ⟨a, b, Below.trod hl ht.1.1 ht.1.2 h1 hb (fun x hx => hlt x (by simp [hx])), carryP hl hb ht.2 h2, rfl⟩
/-- the arguments read behind the call as they did before -/
theorem carryAll {H : Type} {enc : TypeId × Value → H} {W W' : World} (hb : Below W.heap.size W W') {ts : List TypeId} {vs : List Value} {ds : List (DataW H)} {ps : List MemPlace}
  (ht : (ts.all fun t => Tryz.prog.readableRec t && decide (t < Tryz.prog.types.size)) = true) (h : DataW.TrodAll enc Tryz.prog W 0 (fun _ => true) true ts vs ds ps) :
  DataW.TrodAll enc Tryz.prog W' 0 (fun b => decide (b < W.heap.size)) true ts vs ds ps := carryP laidOutT hb ht h

theorem add_none (b o k : Nat) : (⟨b, o, none⟩ : Addr).add k = ⟨b, o + k, none⟩ := by
 unfold Addr.add
 split <;> simp_all
theorem spot_of {w : World} {a : Addr} {u : Value} (h : w.cell? a = some u) : a.spot = none := by
 unfold World.cell? at h
 split at h
 ·
  cases hs : a.spot with
  | none => rfl
  | some x => simp [hs] at h
 ·
  simp at h

end Go.Proofs.YtgjfbbmachoolaaGreatDoor.lx
namespace Go.Proofs.YtgjfbbmachoolaaGreatDoor.lx
open Go.ChangeShapes Go.WideShapes Go.Deep Go.RowKit

def StpWf (t : Stp) : Prop := (Lit.int .u8 t.k).wf = true ∧ (Lit.int .i64 t.n).wf = true
def StpD {H : Type} (t : Stp) : DataW H := .agg [.lit (.int .u8 t.k), .lit (.string t.s.data.toList), .lit (.int .i64 t.n)]
theorem StpD_bulk {H : Type} (t : Stp) : Rows.uptoBulk (StpD (H := H) t) = t.s.size + 4 := by
 have := Lib.size_eq t.s
 simp only [StpD, Rows.uptoBulk, Rows.uptoBulkAll]
 omega
theorem range_get {α : Type} {f : Nat → α} {len i : Nat} {t : α} (h : ((List.range len).map f)[i]? = some t) : i < len ∧ f i = t := by
 rw [List.getElem?_map] at h
 obtain ⟨i', hi', rfl⟩ := Option.map_eq_some_iff.1 h
 obtain ⟨q1, q2⟩ := List.getElem?_eq_some_iff.1 hi'
 simp at q1 q2
 exact ⟨q1, by rw [q2]⟩
theorem slice_bulk {H : Type} {len m : Nat} {D : Nat → DataW H} {d : DataW H} (hd : d = .slice ((List.range len).map D) ((List.range (m - len)).map fun j => D (len + j))) : len ≤ Rows.uptoBulk d ∧ ∀ i, i < len → Rows.uptoBulk (D i) ≤ Rows.uptoBulk d := by
 subst hd
 have h1 := bulks.slice_le ((List.range len).map D) ((List.range (m - len)).map fun j => D (len + j))
 have h2 := bulks.slice_elems ((List.range len).map D) ((List.range (m - len)).map fun j => D (len + j))
 refine ⟨?_, fun i hi => ?_⟩
 ·
  simp only [List.length_map, List.length_range] at h1
  omega
 ·
  have h3 := bulks.part_le (d := D i) (l := (List.range len).map D) (List.mem_map.2 ⟨i, List.mem_range.2 hi, rfl⟩)
  omega
variable {H : Type} {enc : TypeId × Value → H} {W : World}
set_option maxRecDepth 100000 in
theorem trod_stps {fuel : Nat} {v : Value} {y : DataW H × List MemPlace} (h : DataW.trod enc Tryz.prog W 0 (fun _ => true) true fuel 23 [v] = some y) :
  ∃ ao L cap, v = .slice ao L.length cap ∧ StpRow ao L W ∧ L.length ≤ cap ∧ L.length ≤ Rows.uptoBulk y.1 ∧ ∀ t ∈ L, StpWf t ∧ t.s.size ≤ Rows.uptoBulk y.1 := by
 rcases open_slice_fields Tryz.underlying23 Tryz.underlying50 (by kernel_rfl) (by kernel_rfl) h with ⟨hcs, hx⟩ | ⟨a, len, cap, m, D, Pl, hcs, hb, hl, hm, hmm, hx, hi⟩
 ·
  obtain rfl : v = .slice none 0 0 := by simpa using hcs
  exact ⟨none, [], 0, rfl, .inl rfl, Nat.le_refl _, Nat.zero_le _, fun t ht => by cases ht⟩
 ·
  obtain rfl : v = .slice (some a) len cap := by simpa using hcs
  have hmc : m = cap := by rw [hmm, if_pos rfl]
  subst hmc
  have hd : y.1 = .slice ((List.range len).map D) ((List.range (m - len)).map fun j => D (len + j)) := congrArg Prod.fst hx
  obtain ⟨b1, b2⟩ := slice_bulk hd
  have hall : ∀ i, ∃ t : Stp, i < m → (W.cell? (a.add (i * 3 + 0)) = some (.int .u8 t.k) ∧ W.cell? (a.add (i * 3 + 1)) = some (.string t.s) ∧ W.cell? (a.add (i * 3 + 2)) = some (.int .i64 t.n)) ∧ StpWf t ∧ D i = StpD t := by
   intro i
   by_cases him : i < m
   ·
    obtain ⟨ys, n, hD, _, hys, hfld⟩ := hi i him
    obtain ⟨v0, y0, c0, e0, t0⟩ := hfld 0 _ rfl
    obtain ⟨v1, y1, c1, e1, t1⟩ := hfld 1 _ rfl
    obtain ⟨v2, y2, c2, e2, t2⟩ := hfld 2 _ rfl
    obtain ⟨k, hk, rfl, wk⟩ := DataW.trod_int Tryz.underlying48 t0
    obtain ⟨s, hs, rfl, ws⟩ := DataW.trod_string Tryz.underlying9 t1
    obtain ⟨nn, hn, rfl, wn⟩ := DataW.trod_int Tryz.underlying2 t2
    obtain rfl : v0 = .int .u8 k := by simpa using hk
    obtain rfl : v1 = .string s := by simpa using hs
    obtain rfl : v2 = .int .i64 nn := by simpa using hn
    refine ⟨⟨k, s, nn⟩, fun _ => ⟨⟨c0, c1, c2⟩, ⟨wk, wn⟩, ?_⟩⟩
    rw [hD]
    have hys4 : ys.length = 3 := hys
    match ys, hys4, e0, e1, e2 with
    | [z0, z1, z2], _, e0, e1, e2 =>
     simp at e0 e1 e2
     rw [e0, e1, e2]
     rfl
   ·
    exact ⟨⟨0, ⟨#[]⟩, 0⟩, fun hh => absurd hh him⟩
  obtain ⟨f, hf2⟩ := Classical.skolem.1 hall
  refine ⟨some a, (List.range len).map f, m, by simp, ?_, by simpa using hl, by simpa using b1, ?_⟩
  ·
   by_cases h0 : len = 0
   ·
    exact .inl (by simp [h0])
   ·
    right
    obtain ⟨⟨c0, _⟩, _⟩ := hf2 0 (by omega)
    obtain ⟨b, o, sp⟩ := a
    obtain rfl : sp = none := spot_of c0
    refine ⟨b, o, rfl, fun i t ht => ?_⟩
    obtain ⟨hlt, rfl⟩ := range_get ht
    obtain ⟨⟨c0, c1, c2⟩, _⟩ := hf2 i (by omega)
    simp only [add_none] at c0 c1 c2
    exact ⟨c0, c1, c2⟩
  ·
   intro t ht
   obtain ⟨i, hi', rfl⟩ := List.mem_map.1 ht
   rw [List.mem_range] at hi'
   obtain ⟨_, w1, hD⟩ := hf2 i (by omega)
   refine ⟨w1, ?_⟩
   have h2 := b2 i hi'
   rw [hD, StpD_bulk] at h2
   omega
set_option maxRecDepth 100000 in
theorem trod_txts {fuel : Nat} {v : Value} {y : DataW H × List MemPlace} (h : DataW.trod enc Tryz.prog W 0 (fun _ => true) true fuel 24 [v] = some y) :
  ∃ ao L cap, v = .slice ao L.length cap ∧ TxtRow ao L W ∧ L.length ≤ cap ∧ L.length ≤ Rows.uptoBulk y.1 ∧ ∀ s ∈ L, s.size ≤ Rows.uptoBulk y.1 := by
 have hC : Tryz.prog.cellsOf 9 = 1 := by kernel_rfl
 rcases open_slice Tryz.underlying24 h with ⟨hcs, hx⟩ | ⟨a, len, cap, m, n, D, Pl, hcs, hb, hl, hm, hmm, hx, hi⟩
 ·
  obtain rfl : v = .slice none 0 0 := by simpa using hcs
  exact ⟨none, [], 0, rfl, .inl rfl, Nat.le_refl _, Nat.zero_le _, fun t ht => by cases ht⟩
 ·
  obtain rfl : v = .slice (some a) len cap := by simpa using hcs
  have hmc : m = cap := by rw [hmm, if_pos rfl]
  subst hmc
  have hd : y.1 = .slice ((List.range len).map D) ((List.range (m - len)).map fun j => D (len + j)) := congrArg Prod.fst hx
  obtain ⟨b1, b2⟩ := slice_bulk hd
  have hall : ∀ i, ∃ t : ByteArray, i < m → W.cell? (a.add i) = some (.string t) ∧ D i = .lit (.string t.data.toList) := by
   intro i
   by_cases him : i < m
   ·
    obtain ⟨cs', hc, ht⟩ := hi i him
    obtain ⟨s, hs, hD, _⟩ := DataW.trod_string Tryz.underlying9 ht
    obtain ⟨_, hcl, hat⟩ := World.cells?_some hc
    refine ⟨s, fun _ => ⟨?_, congrArg Prod.fst hD⟩⟩
    have h0 := hat 0 (by rw [hC]; decide)
    rw [hs, hC, Nat.mul_one, Go.Deep.add_add, Nat.add_zero] at h0
    exact h0
   ·
    exact ⟨⟨#[]⟩, fun hh => absurd hh him⟩
  obtain ⟨f, hf2⟩ := Classical.skolem.1 hall
  refine ⟨some a, (List.range len).map f, m, by simp, ?_, by simpa using hl, by simpa using b1, ?_⟩
  ·
   by_cases h0 : len = 0
   ·
    exact .inl (by simp [h0])
   ·
    right
    obtain ⟨c0, _⟩ := hf2 0 (by omega)
    obtain ⟨b, o, sp⟩ := a
    obtain rfl : sp = none := spot_of c0
    refine ⟨b, o, rfl, fun i t ht => ?_⟩
    obtain ⟨hlt, rfl⟩ := range_get ht
    obtain ⟨c0, _⟩ := hf2 i (by omega)
    simp only [add_none] at c0
    exact c0
  ·
   intro t ht
   obtain ⟨i, hi', rfl⟩ := List.mem_map.1 ht
   rw [List.mem_range] at hi'
   obtain ⟨_, hD⟩ := hf2 i (by omega)
   have h2 := b2 i hi'
   have := Lib.size_eq (f i)
   rw [hD, Rows.uptoBulk] at h2
   omega
set_option maxRecDepth 100000 in
theorem trod_itms {fuel : Nat} {v : Value} {y : DataW H × List MemPlace} (h : DataW.trod enc Tryz.prog W 0 (fun _ => true) true fuel 22 [v] = some y) :
  ∃ ao L cap, v = .slice ao L.length cap ∧ ItmRow ao L W ∧ L.length ≤ Rows.uptoBulk y.1 ∧ ∀ it ∈ L, (Lit.int .u8 it.agg).wf = true ∧ it.e.length ≤ Rows.uptoBulk y.1 ∧ ∀ t ∈ it.e, StpWf t ∧ t.s.size ≤ Rows.uptoBulk y.1 := by
 rcases open_slice_fields Tryz.underlying22 Tryz.underlying40 (by kernel_rfl) (by kernel_rfl) h with ⟨hcs, hx⟩ | ⟨a, len, cap, m, D, Pl, hcs, hb, hl, hm, hmm, hx, hi⟩
 ·
  obtain rfl : v = .slice none 0 0 := by simpa using hcs
  exact ⟨none, [], 0, rfl, .inl rfl, Nat.zero_le _, fun t ht => by cases ht⟩
 ·
  obtain rfl : v = .slice (some a) len cap := by simpa using hcs
  have hmc : m = cap := by rw [hmm, if_pos rfl]
  subst hmc
  have hd : y.1 = .slice ((List.range len).map D) ((List.range (m - len)).map fun j => D (len + j)) := congrArg Prod.fst hx
  obtain ⟨b1, b2⟩ := slice_bulk hd
  have hall : ∀ i, ∃ it : Itm, i < m → (∃ eo ecap, W.cell? (a.add (i * 2 + 0)) = some (.int .u8 it.agg) ∧ W.cell? (a.add (i * 2 + 1)) = some (.slice eo it.e.length ecap) ∧ StpRow eo it.e W) ∧ (Lit.int .u8 it.agg).wf = true ∧ it.e.length ≤ Rows.uptoBulk (D i) ∧ ∀ t ∈ it.e, StpWf t ∧ t.s.size ≤ Rows.uptoBulk (D i) := by
   intro i
   by_cases him : i < m
   ·
    obtain ⟨ys, n, hD, _, hys, hfld⟩ := hi i him
    obtain ⟨v0, y0, c0, e0, t0⟩ := hfld 0 _ rfl
    obtain ⟨v1, y1, c1, e1, t1⟩ := hfld 1 _ rfl
    obtain ⟨k, hk, rfl, wk⟩ := DataW.trod_int Tryz.underlying38 t0
    obtain ⟨eo, L, ecap, rfl, hr, _, hbl, hbs⟩ := trod_stps t1
    obtain rfl : v0 = .int .u8 k := by simpa using hk
    have hle : Rows.uptoBulk y1.1 ≤ Rows.uptoBulk (D i) := by
     rw [hD]
     have := bulks.part_le (d := y1.1) (l := ys.map (·.1)) (List.mem_map.2 ⟨y1, List.mem_of_getElem? e1, rfl⟩)
     rw [Rows.uptoBulk]
     omega
    exact ⟨⟨k, L⟩, fun _ => ⟨⟨eo, ecap, c0, c1, hr⟩, wk, Nat.le_trans hbl hle, fun t ht => ⟨(hbs t ht).1, Nat.le_trans (hbs t ht).2 hle⟩⟩⟩
   ·
    exact ⟨⟨0, []⟩, fun hh => absurd hh him⟩
  obtain ⟨f, hf2⟩ := Classical.skolem.1 hall
  refine ⟨some a, (List.range len).map f, m, by simp, ?_, by simpa using b1, ?_⟩
  ·
   by_cases h0 : len = 0
   ·
    exact .inl (by simp [h0])
   ·
    right
    obtain ⟨⟨_, _, c0, _⟩, _⟩ := hf2 0 (by omega)
    obtain ⟨b, o, sp⟩ := a
    obtain rfl : sp = none := spot_of c0
    refine ⟨b, o, rfl, fun i t ht => ?_⟩
    obtain ⟨hlt, rfl⟩ := range_get ht
    obtain ⟨⟨eo, ecap, c0, c1, hr⟩, _⟩ := hf2 i (by omega)
    simp only [add_none] at c0 c1
    exact ⟨eo, ecap, c0, c1, hr⟩
  ·
   intro t ht
   obtain ⟨i, hi', rfl⟩ := List.mem_map.1 ht
   rw [List.mem_range] at hi'
   obtain ⟨_, w1, h1, h2⟩ := hf2 i (by omega)
   have h3 := b2 i hi'
   exact ⟨w1, Nat.le_trans h1 h3, fun t ht => ⟨(h2 t ht).1, Nat.le_trans (h2 t ht).2 h3⟩⟩
/-- a query that came in -/
structure QryArg (b : Nat) (q : Qry) (v : Value) (w : World) : Prop where
 val : ∃ io ic wo wc go gc, v = .agg #[.slice io q.items.length ic, .string q.table, .string q.join, .string q.left, .string q.right, .slice wo q.wher.length wc, .slice go q.group.length gc] ∧ QryIn q io wo go w ∧ q.group.length ≤ gc
 ilen : q.items.length ≤ b
 wlen : q.wher.length ≤ b
 glen : q.group.length ≤ b
 items : ∀ it ∈ q.items, (0 ≤ it.agg ∧ it.agg ≤ 255) ∧ it.e.length ≤ b ∧ ∀ t ∈ it.e, StpWf t ∧ t.s.size ≤ b
 wher : ∀ t ∈ q.wher, StpWf t ∧ t.s.size ≤ b
 group : ∀ s ∈ q.group, s.size ≤ b
 table : q.table.size ≤ b
 join : q.join.size ≤ b
 left : q.left.size ≤ b
 right : q.right.size ≤ b
set_option maxRecDepth 100000 in
theorem open_qry {r : Reach} {base : Nat} {v : Value} {d : DataW H} {ps : List MemPlace} (hval : Value.okWide Tryz.prog W r base 26 v)
  (h : DataW.Trod enc Tryz.prog W 0 (fun _ => true) true 26 v d ps) : ∃ q : Qry, QryArg (Rows.uptoBulk d) q v W := by
 obtain ⟨cs, rfl, hsz⟩ := okWide_struct Tryz.underlying26 hval
 have hC : Tryz.prog.cellsOf 26 = 7 := by kernel_rfl
 obtain ⟨l⟩ := cs
 match l, hsz.trans hC with
 | [c0, c1, c2, c3, c4, c5, c6], _ =>
  obtain ⟨fuel, hf⟩ := h
  obtain ⟨xs, n, _, hx, _, hlen, hg⟩ := DataW.trod_struct Tryz.underlying26 hf
  match xs, hlen with
  | [y0, y1, y2, y3, y4, y5, y6], _ =>
   have t0 : DataW.trod enc Tryz.prog W 0 (fun _ => true) true n 22 [c0] = some y0 := hg 0 _ rfl
   have t1 : DataW.trod enc Tryz.prog W 0 (fun _ => true) true n 9 [c1] = some y1 := hg 1 _ rfl
   have t2 : DataW.trod enc Tryz.prog W 0 (fun _ => true) true n 9 [c2] = some y2 := hg 2 _ rfl
   have t3 : DataW.trod enc Tryz.prog W 0 (fun _ => true) true n 9 [c3] = some y3 := hg 3 _ rfl
   have t4 : DataW.trod enc Tryz.prog W 0 (fun _ => true) true n 9 [c4] = some y4 := hg 4 _ rfl
   have t5 : DataW.trod enc Tryz.prog W 0 (fun _ => true) true n 23 [c5] = some y5 := hg 5 _ rfl
   have t6 : DataW.trod enc Tryz.prog W 0 (fun _ => true) true n 24 [c6] = some y6 := hg 6 _ rfl
   obtain ⟨io, its, ic, rfl, hi, hil, hib⟩ := trod_itms t0
   obtain ⟨tb, e1, rfl, _⟩ := DataW.trod_string Tryz.underlying9 t1
   obtain ⟨jn, e2, rfl, _⟩ := DataW.trod_string Tryz.underlying9 t2
   obtain ⟨lf, e3, rfl, _⟩ := DataW.trod_string Tryz.underlying9 t3
   obtain ⟨rt, e4, rfl, _⟩ := DataW.trod_string Tryz.underlying9 t4
   obtain ⟨wo, wh, wc, rfl, hw, _, hwl, hwb⟩ := trod_stps t5
   obtain ⟨go, gr, gc, rfl, hgr, hgc, hgl, hgb⟩ := trod_txts t6
   obtain rfl : c1 = .string tb := by simpa using e1
   obtain rfl : c2 = .string jn := by simpa using e2
   obtain rfl : c3 = .string lf := by simpa using e3
   obtain rfl : c4 = .string rt := by simpa using e4
   have hd : d = .agg [y0.1, .lit (.string tb.data.toList), .lit (.string jn.data.toList), .lit (.string lf.data.toList), .lit (.string rt.data.toList), y5.1, y6.1] := congrArg Prod.fst hx
   have hb : Rows.uptoBulk d = Rows.uptoBulk y0.1 + (tb.size + 1) + (jn.size + 1) + (lf.size + 1) + (rt.size + 1) + Rows.uptoBulk y5.1 + Rows.uptoBulk y6.1 + 1 := by
    have := Lib.size_eq tb
    have := Lib.size_eq jn
    have := Lib.size_eq lf
    have := Lib.size_eq rt
    rw [hd]
    simp only [Rows.uptoBulk, Rows.uptoBulkAll]
    omega
   refine ⟨⟨its, tb, jn, lf, rt, wh, gr⟩, ⟨⟨io, ic, wo, wc, go, gc, rfl, ⟨hi, hw, hgr⟩, hgc⟩, ?_, ?_, ?_, ?_, ?_, ?_, ?_, ?_, ?_, ?_⟩⟩
   ·
    show its.length ≤ _; omega
   ·
    show wh.length ≤ _; omega
   ·
    show gr.length ≤ _; omega
   ·
    intro it hit
    obtain ⟨a, b, c⟩ := hib it hit
    exact ⟨wfu8 a, by omega, fun t ht => ⟨(c t ht).1, by have := (c t ht).2; omega⟩⟩
   ·
    intro t ht
    exact ⟨(hwb t ht).1, by have := (hwb t ht).2; omega⟩
   ·
    intro s hs
    have := hgb s hs
    omega
   ·
    show tb.size ≤ _; omega
   ·
    show jn.size ≤ _; omega
   ·
    show lf.size ≤ _; omega
   ·
    show rt.size ≤ _; omega
theorem stps_okB {L : List Stp} {b : Nat} (h : ∀ t ∈ L, StpWf t ∧ t.s.size ≤ b) (hb : b ≤ 4294967280) : StpsOk L :=
 fun t ht => ⟨by have := (h t ht).2; omega, wfu8 (h t ht).1.1⟩
theorem QryArg.okB {b : Nat} {q : Qry} {v : Value} {w : World} (h : QryArg b q v w) (hb : b ≤ 4294967280) : QryOk q ∧ q.wher.length ≤ 1099511627776 ∧ ∀ it ∈ q.items, it.e.length ≤ 1099511627776 := by
 have h1 := h.ilen
 have h2 := h.wlen
 have h3 := h.glen
 have h4 := h.table
 have h5 := h.join
 have h6 := h.left
 have h7 := h.right
 refine ⟨⟨fun it hi => ?_, by omega, stps_okB h.wher hb, by omega, fun s hs => by have := h.group s hs; omega, by omega, by omega, by omega, by omega, by omega⟩, by omega, fun it hi => ?_⟩
 ·
  obtain ⟨a, c, d⟩ := h.items it hi
  exact ⟨stps_okB d hb, by omega, a.1, a.2⟩
 ·
  obtain ⟨a, c, d⟩ := h.items it hi
  omega
end Go.Proofs.YtgjfbbmachoolaaGreatDoor.lx
namespace Go.Proofs.YtgjfbbmachoolaaGreatDoor.lx
open Go.ChangeShapes Go.WideShapes Go.Deep Go.RowKit

variable {H : Type} {enc : TypeId × Value → H} {W : World}
set_option maxRecDepth 100000 in
theorem open_stps {r : Reach} {base : Nat} {v : Value} {d : DataW H} {ps : List MemPlace} (hval : Value.okWide Tryz.prog W r base 23 v)
  (h : DataW.Trod enc Tryz.prog W 0 (fun _ => true) true 23 v d ps) :
  ∃ ao L cap, v = .slice ao L.length cap ∧ StpRow ao L W ∧ L.length ≤ Rows.uptoBulk d ∧ ∀ t ∈ L, StpWf t ∧ t.s.size ≤ Rows.uptoBulk d := by
 obtain ⟨sa, len, cap, rfl⟩ := okWide_slice Tryz.underlying23 hval
 obtain ⟨fuel, hf⟩ := h
 have hcells : (Value.slice sa len cap).cells.toList = [.slice sa len cap] := by simp [Value.cells]
 rw [hcells] at hf
 obtain ⟨ao, L, c, e, h1, _, h2, h3⟩ := trod_stps hf
 exact ⟨ao, L, c, e, h1, h2, h3⟩
/-- a column that came in -/
def ClmWf (b : Nat) (c : Clm) : Prop := c.nm.size ≤ b ∧ 0 ≤ c.k ∧ c.k ≤ 255
set_option maxRecDepth 100000 in
theorem trod_cols {fuel : Nat} {v : Value} {y : DataW H × List MemPlace} (h : DataW.trod enc Tryz.prog W 0 (fun _ => true) true fuel 43 [v] = some y) :
  ∃ ao L cap, v = .slice ao L.length cap ∧ ColRow ao L W ∧ L.length ≤ cap ∧ cap ≤ 9223372036854775807 ∧ L.length ≤ Rows.uptoBulk y.1 ∧ ∀ t ∈ L, ClmWf (Rows.uptoBulk y.1) t := by
 rcases open_slice_fields Tryz.underlying43 Tryz.underlying47 (by kernel_rfl) (by kernel_rfl) h with ⟨hcs, hx⟩ | ⟨a, len, cap, m, D, Pl, hcs, hb, hl, hm, hmm, hx, hi⟩
 ·
  obtain rfl : v = .slice none 0 0 := by simpa using hcs
  exact ⟨none, [], 0, rfl, .inl rfl, Nat.le_refl _, by decide, Nat.zero_le _, fun t ht => by cases ht⟩
 ·
  obtain rfl : v = .slice (some a) len cap := by simpa using hcs
  have hmc : m = cap := by rw [hmm, if_pos rfl]
  subst hmc
  have hd : y.1 = .slice ((List.range len).map D) ((List.range (m - len)).map fun j => D (len + j)) := congrArg Prod.fst hx
  obtain ⟨b1, b2⟩ := slice_bulk hd
  have hall : ∀ i, ∃ t : Clm, i < m → (W.cell? (a.add (i * 2 + 0)) = some (.string t.nm) ∧ W.cell? (a.add (i * 2 + 1)) = some (.int .u8 t.k)) ∧ ClmWf (Rows.uptoBulk (D i)) t := by
   intro i
   by_cases him : i < m
   ·
    obtain ⟨ys, n, hD, _, hys, hfld⟩ := hi i him
    obtain ⟨v0, y0, c0, e0, t0⟩ := hfld 0 _ rfl
    obtain ⟨v1, y1, c1, e1, t1⟩ := hfld 1 _ rfl
    obtain ⟨s, hs, rfl, ws⟩ := DataW.trod_string Tryz.underlying9 t0
    obtain ⟨k, hk, rfl, wk⟩ := DataW.trod_int Tryz.underlying45 t1
    obtain rfl : v0 = .string s := by simpa using hs
    obtain rfl : v1 = .int .u8 k := by simpa using hk
    refine ⟨⟨s, k⟩, fun _ => ⟨⟨c0, c1⟩, ?_, wfu8 wk⟩⟩
    rw [hD]
    have := bulks.part_le (d := DataW.lit (H := H) (.string s.data.toList)) (l := ys.map (·.1)) (List.mem_map.2 ⟨_, List.mem_of_getElem? e0, rfl⟩)
    have hz := Lib.size_eq s
    have h2 : Rows.uptoBulk (DataW.lit (H := H) (.string s.data.toList)) = s.data.toList.length + 1 := by rw [Rows.uptoBulk]
    rw [h2] at this
    show s.size ≤ Rows.uptoBulk (DataW.agg (ys.map (·.1)))
    rw [Rows.uptoBulk]
    omega
   ·
    exact ⟨⟨⟨#[]⟩, 0⟩, fun hh => absurd hh him⟩
  obtain ⟨f, hf2⟩ := Classical.skolem.1 hall
  refine ⟨some a, (List.range len).map f, m, by simp, ?_, by simpa using hl, by unfold maxLen at hm; omega, by simpa using b1, ?_⟩
  ·
   by_cases h0 : len = 0
   ·
    exact .inl (by simp [h0])
   ·
    right
    obtain ⟨⟨c0, _⟩, _⟩ := hf2 0 (by omega)
    obtain ⟨b, o, sp⟩ := a
    obtain rfl : sp = none := spot_of c0
    refine ⟨b, o, rfl, fun i t ht => ?_⟩
    obtain ⟨hlt, rfl⟩ := range_get ht
    obtain ⟨⟨c0, c1⟩, _⟩ := hf2 i (by omega)
    simp only [add_none] at c0 c1
    exact ⟨c0, c1⟩
  ·
   intro t ht
   obtain ⟨i, hi', rfl⟩ := List.mem_map.1 ht
   rw [List.mem_range] at hi'
   obtain ⟨_, w1⟩ := hf2 i (by omega)
   have h2 := b2 i hi'
   exact ⟨Nat.le_trans w1.1 h2, w1.2⟩
set_option maxRecDepth 100000 in
theorem open_cols {r : Reach} {base : Nat} {v : Value} {d : DataW H} {ps : List MemPlace} (hval : Value.okWide Tryz.prog W r base 43 v)
  (h : DataW.Trod enc Tryz.prog W 0 (fun _ => true) true 43 v d ps) :
  ∃ ao L cap, v = .slice ao L.length cap ∧ ColRow ao L W ∧ L.length ≤ Rows.uptoBulk d ∧ ∀ t ∈ L, ClmWf (Rows.uptoBulk d) t := by
 obtain ⟨sa, len, cap, rfl⟩ := okWide_slice Tryz.underlying43 hval
 obtain ⟨fuel, hf⟩ := h
 have hcells : (Value.slice sa len cap).cells.toList = [.slice sa len cap] := by simp [Value.cells]
 rw [hcells] at hf
 obtain ⟨ao, L, c, e, h1, _, _, h2, h3⟩ := trod_cols hf
 exact ⟨ao, L, c, e, h1, h2, h3⟩
/-- a table that came in -/
def TblWf (b : Nat) (t : Tbl) : Prop := t.nm.size ≤ b ∧ t.cols.length ≤ b ∧ ∀ c ∈ t.cols, ClmWf b c
theorem TblWf.mono {b b' : Nat} {t : Tbl} (h : TblWf b t) (hb : b ≤ b') : TblWf b' t := ⟨Nat.le_trans h.1 hb, Nat.le_trans h.2.1 hb, fun c hc => ⟨Nat.le_trans (h.2.2 c hc).1 hb, (h.2.2 c hc).2⟩⟩
theorem tbls_ok {L : List Tbl} {b : Nat} (h : ∀ t ∈ L, TblWf b t) (hb : b ≤ 4294967280) : TblsOk L := fun t ht => by
 obtain ⟨h1, h2, h3⟩ := h t ht
 exact ⟨by omega, fun c hc => ⟨by have := (h3 c hc).1; omega, (h3 c hc).2⟩, by omega⟩
theorem trod_rows {fuel : Nat} {v : Value} {y : DataW H × List MemPlace} (h : DataW.trod enc Tryz.prog W 0 (fun _ => true) true fuel 51 [v] = some y) : ∃ ro rn rc, v = .slice ro rn rc := by
 rcases open_slice Tryz.underlying51 h with ⟨hcs, _⟩ | ⟨a, len, cap, m, n, D, Pl, hcs, _⟩
 ·
  exact ⟨none, 0, 0, by simpa using hcs⟩
 ·
  exact ⟨some a, len, cap, by simpa using hcs⟩
set_option maxRecDepth 100000 in
theorem trod_tbls {fuel : Nat} {v : Value} {y : DataW H × List MemPlace} (h : DataW.trod enc Tryz.prog W 0 (fun _ => true) true fuel 27 [v] = some y) :
  ∃ ao L cap, v = .slice ao L.length cap ∧ TblRow ao L W ∧ L.length ≤ Rows.uptoBulk y.1 ∧ ∀ t ∈ L, TblWf (Rows.uptoBulk y.1) t := by
 rcases open_slice_fields Tryz.underlying27 Tryz.underlying53 (by kernel_rfl) (by kernel_rfl) h with ⟨hcs, hx⟩ | ⟨a, len, cap, m, D, Pl, hcs, hb, hl, hm, hmm, hx, hi⟩
 ·
  obtain rfl : v = .slice none 0 0 := by simpa using hcs
  exact ⟨none, [], 0, rfl, .inl rfl, Nat.zero_le _, fun t ht => by cases ht⟩
 ·
  obtain rfl : v = .slice (some a) len cap := by simpa using hcs
  have hmc : m = cap := by rw [hmm, if_pos rfl]
  subst hmc
  have hd : y.1 = .slice ((List.range len).map D) ((List.range (m - len)).map fun j => D (len + j)) := congrArg Prod.fst hx
  obtain ⟨b1, b2⟩ := slice_bulk hd
  have hall : ∀ i, ∃ t : Tbl, i < m → (∃ co cc ro rn rc, W.cell? (a.add (i * 3 + 0)) = some (.string t.nm) ∧ W.cell? (a.add (i * 3 + 1)) = some (.slice co t.cols.length cc) ∧ W.cell? (a.add (i * 3 + 2)) = some (.slice ro rn rc) ∧ ColRow co t.cols W ∧ t.cols.length ≤ cc ∧ cc ≤ 9223372036854775807) ∧ TblWf (Rows.uptoBulk (D i)) t := by
   intro i
   by_cases him : i < m
   ·
    obtain ⟨ys, n, hD, _, hys, hfld⟩ := hi i him
    obtain ⟨v0, y0, c0, e0, t0⟩ := hfld 0 _ rfl
    obtain ⟨v1, y1, c1, e1, t1⟩ := hfld 1 _ rfl
    obtain ⟨v2, y2, c2, e2, t2⟩ := hfld 2 _ rfl
    obtain ⟨s, hs, rfl, ws⟩ := DataW.trod_string Tryz.underlying9 t0
    obtain ⟨co, L, cc, rfl, hr, hc1, hc2, hbl, hbs⟩ := trod_cols t1
    obtain ⟨ro, rn, rc, rfl⟩ := trod_rows t2
    obtain rfl : v0 = .string s := by simpa using hs
    have hle : ∀ z, z ∈ ys → Rows.uptoBulk z.1 ≤ Rows.uptoBulk (D i) := fun z hz => by
     rw [hD]
     have := bulks.part_le (d := z.1) (l := ys.map (·.1)) (List.mem_map.2 ⟨z, hz, rfl⟩)
     rw [Rows.uptoBulk]
     omega
    have h0 := hle _ (List.mem_of_getElem? e0)
    have h1 := hle _ (List.mem_of_getElem? e1)
    have hz := Lib.size_eq s
    have h2 : Rows.uptoBulk (DataW.lit (H := H) (.string s.data.toList)) = s.data.toList.length + 1 := by rw [Rows.uptoBulk]
    rw [h2] at h0
    exact ⟨⟨s, L⟩, fun _ => ⟨⟨co, cc, ro, rn, rc, c0, c1, c2, hr, hc1, hc2⟩, by show s.size ≤ _; omega, Nat.le_trans hbl h1, fun c hc => ⟨Nat.le_trans (hbs c hc).1 h1, (hbs c hc).2⟩⟩⟩
   ·
    exact ⟨⟨⟨#[]⟩, []⟩, fun hh => absurd hh him⟩
  obtain ⟨f, hf2⟩ := Classical.skolem.1 hall
  refine ⟨some a, (List.range len).map f, m, by simp, ?_, by simpa using b1, ?_⟩
  ·
   by_cases h0 : len = 0
   ·
    exact .inl (by simp [h0])
   ·
    right
    obtain ⟨⟨_, _, _, _, _, c0, _⟩, _⟩ := hf2 0 (by omega)
    obtain ⟨b, o, sp⟩ := a
    obtain rfl : sp = none := spot_of c0
    refine ⟨b, o, rfl, fun i t ht => ?_⟩
    obtain ⟨hlt, rfl⟩ := range_get ht
    obtain ⟨⟨co, cc, ro, rn, rc, c0, c1, c2, hr⟩, _⟩ := hf2 i (by omega)
    simp only [add_none] at c0 c1 c2
    exact ⟨co, cc, ro, rn, rc, c0, c1, c2, hr⟩
  ·
   intro t ht
   obtain ⟨i, hi', rfl⟩ := List.mem_map.1 ht
   rw [List.mem_range] at hi'
   exact (hf2 i (by omega)).2.mono (b2 i hi')
set_option maxRecDepth 100000 in
theorem open_tbls {r : Reach} {base : Nat} {v : Value} {d : DataW H} {ps : List MemPlace} (hval : Value.okWide Tryz.prog W r base 27 v)
  (h : DataW.Trod enc Tryz.prog W 0 (fun _ => true) true 27 v d ps) :
  ∃ ao L cap, v = .slice ao L.length cap ∧ TblRow ao L W ∧ L.length ≤ Rows.uptoBulk d ∧ ∀ t ∈ L, TblWf (Rows.uptoBulk d) t := by
 obtain ⟨sa, len, cap, rfl⟩ := okWide_slice Tryz.underlying27 hval
 obtain ⟨fuel, hf⟩ := h
 have hcells : (Value.slice sa len cap).cells.toList = [.slice sa len cap] := by simp [Value.cells]
 rw [hcells] at hf
 exact trod_tbls hf
/-- a table that came in by value -/
structure TblArg (b : Nat) (t : Tbl) (v : Value) (w : World) : Prop where
 val : ∃ co cc ro rn rc, v = .agg #[.string t.nm, .slice co t.cols.length cc, .slice ro rn rc] ∧ ColRow co t.cols w ∧ t.cols.length ≤ cc ∧ cc ≤ 9223372036854775807
 wf : TblWf b t
set_option maxRecDepth 100000 in
theorem open_tbl {r : Reach} {base : Nat} {v : Value} {d : DataW H} {ps : List MemPlace} (hval : Value.okWide Tryz.prog W r base 53 v)
  (h : DataW.Trod enc Tryz.prog W 0 (fun _ => true) true 53 v d ps) : ∃ t : Tbl, TblArg (Rows.uptoBulk d) t v W := by
 obtain ⟨v0, v1, v2, y0, y1, y2, n, rfl, rfl, rfl, t0, t1, t2⟩ := Go.Joins.open_agg3 Tryz.underlying53 (by kernel_rfl) (by kernel_rfl) hval h
 obtain ⟨s, hs, e0, ws⟩ := DataW.trod_string Tryz.underlying9 t0
 obtain ⟨co, L, cc, rfl, hr, hc1, hc2, hbl, hbs⟩ := trod_cols t1
 obtain ⟨ro, rn, rc, rfl⟩ := trod_rows t2
 obtain rfl : v0 = .string s := by simpa using hs
 have hz := Lib.size_eq s
 have h2 : Rows.uptoBulk (DataW.lit (H := H) (.string s.data.toList)) = s.data.toList.length + 1 := by rw [Rows.uptoBulk]
 have hb : Rows.uptoBulk (DataW.agg [y0.1, y1.1, y2.1]) = Rows.uptoBulk y0.1 + Rows.uptoBulk y1.1 + Rows.uptoBulk y2.1 + 1 := by
  simp only [Rows.uptoBulk, Rows.uptoBulkAll]
  omega
 have e1 : y0.1 = DataW.lit (.string s.data.toList) := by rw [e0]
 rw [e1, h2] at hb
 refine ⟨⟨s, L⟩, ⟨co, cc, ro, rn, rc, rfl, hr, hc1, hc2⟩, ?_, ?_, fun c hc => ⟨?_, (hbs c hc).2⟩⟩
 ·
  show s.size ≤ _; rw [e1, hb]; omega
 ·
  show L.length ≤ _; rw [e1, hb]; omega
 ·
  have := (hbs c hc).1; rw [e1, hb]; omega
end Go.Proofs.YtgjfbbmachoolaaGreatDoor.lx
