/-
  Arguments as they read: queries, rows of steps, steps. No condition. ParseClauses: what is printed of a query's parts, and the texts made of them. Plain law; no condition. ParseClauses, for every query that is no great one. Conditions: the package-level variables are laid.
-/
import Derived.Test.YtegnoaejlhbpbaaGreatDoorM17
import Derived.Test.YtegnoaejlhbpbaaGreatDoorM20
import Derived.Test.YtegnoaejlhbpbaaGreatDoorM23
import Derived.Lib.SmallJoins
import Derived.Test.YtegnoaejlhbpbaaGreatDoorM24
import Derived.IntWalk
import Derived.BigRegion
import Derived.BigQuiet
namespace Go.Proofs.YtegnoaejlhbpbaaGreatDoor.lx
open Go.ChangeShapes Go.WideShapes Go.Deep Go.RowKit

def StpWf (t : Stp) : Prop := (Lit.int .u8 t.k).wf = true ∧ (Lit.int .i64 t.n).wf = true
def StpD {H : Type} (t : Stp) : DataW H := .agg [.lit (.int .u8 t.k), .lit (.string t.s.data.toList), .lit (.int .i64 t.n)]
theorem StpD_bulk {H : Type} (t : Stp) : Rows.uptoBulk (StpD (H := H) t) = t.s.size + 4 := by
  have := Lib.size_eq t.s
  simp only [StpD, Rows.uptoBulk, Rows.uptoBulkAll]
  omega
theorem range_get {α : Type} {f : Nat → α} {len i : Nat} {t : α} (h : ((List.range len).map f)[i]? = some t) : i < len ∧ f i = t := by
  rw [List.getElem?_map] at h
  obtain ⟨i', hi', rfl⟩ := Option.map_eq_some_iff.1 h
  obtain ⟨q1, q2⟩ := List.getElem?_eq_some_iff.1 hi'
  simp at q1 q2
  exact ⟨q1, by rw [q2]⟩
theorem slice_bulk {H : Type} {len m : Nat} {D : Nat → DataW H} {d : DataW H} (hd : d = .slice ((List.range len).map D) ((List.range (m - len)).map fun j => D (len + j))) : len ≤ Rows.uptoBulk d ∧ ∀ i, i < len → Rows.uptoBulk (D i) ≤ Rows.uptoBulk d := by
  subst hd
  have h1 := bulks.slice_le ((List.range len).map D) ((List.range (m - len)).map fun j => D (len + j))
  have h2 := bulks.slice_elems ((List.range len).map D) ((List.range (m - len)).map fun j => D (len + j))
  refine ⟨?_, fun i hi => ?_⟩
  · simp only [List.length_map, List.length_range] at h1
    omega
  · have h3 := bulks.part_le (d := D i) (l := (List.range len).map D) (List.mem_map.2 ⟨i, List.mem_range.2 hi, rfl⟩)
    omega
variable {H : Type} {enc : TypeId × Value → H} {W : World}
set_option maxRecDepth 100000 in
theorem trod_stps {fuel : Nat} {v : Value} {y : DataW H × List MemPlace} (h : DataW.trod enc Tryz.prog W 0 (fun _ => true) true fuel 23 [v] = some y) :
    ∃ ao L cap, v = .slice ao L.length cap ∧ StpRow ao L W ∧ L.length ≤ cap ∧ L.length ≤ Rows.uptoBulk y.1 ∧ ∀ t ∈ L, StpWf t ∧ t.s.size ≤ Rows.uptoBulk y.1 := by
  rcases open_slice_fields Tryz.underlying23 Tryz.underlying29 (by kernel_rfl) (by kernel_rfl) h with ⟨hcs, hx⟩ | ⟨a, len, cap, m, D, Pl, hcs, hb, hl, hm, hmm, hx, hi⟩
  · obtain rfl : v = .slice none 0 0 := by simpa using hcs
    exact ⟨none, [], 0, rfl, .inl rfl, Nat.le_refl _, Nat.zero_le _, fun t ht => by cases ht⟩
  · obtain rfl : v = .slice (some a) len cap := by simpa using hcs
    have hmc : m = cap := by rw [hmm, if_pos rfl]
    subst hmc
    have hd : y.1 = .slice ((List.range len).map D) ((List.range (m - len)).map fun j => D (len + j)) := congrArg Prod.fst hx
    obtain ⟨b1, b2⟩ := slice_bulk hd
    have hall : ∀ i, ∃ t : Stp, i < m → (W.cell? (a.add (i * 3 + 0)) = some (.int .u8 t.k) ∧ W.cell? (a.add (i * 3 + 1)) = some (.string t.s) ∧ W.cell? (a.add (i * 3 + 2)) = some (.int .i64 t.n)) ∧ StpWf t ∧ D i = StpD t := by
      intro i
      by_cases him : i < m
      · obtain ⟨ys, n, hD, _, hys, hfld⟩ := hi i him
        obtain ⟨v0, y0, c0, e0, t0⟩ := hfld 0 _ rfl
        obtain ⟨v1, y1, c1, e1, t1⟩ := hfld 1 _ rfl
        obtain ⟨v2, y2, c2, e2, t2⟩ := hfld 2 _ rfl
        obtain ⟨k, hk, rfl, wk⟩ := DataW.trod_int Tryz.underlying27 t0
        obtain ⟨s, hs, rfl, ws⟩ := DataW.trod_string Tryz.underlying9 t1
        obtain ⟨nn, hn, rfl, wn⟩ := DataW.trod_int Tryz.underlying2 t2
        obtain rfl : v0 = .int .u8 k := by simpa using hk
        obtain rfl : v1 = .string s := by simpa using hs
        obtain rfl : v2 = .int .i64 nn := by simpa using hn
        refine ⟨⟨k, s, nn⟩, fun _ => ⟨⟨c0, c1, c2⟩, ⟨wk, wn⟩, ?_⟩⟩
        rw [hD]
        have hys4 : ys.length = 3 := hys
        match ys, hys4, e0, e1, e2 with
        | [z0, z1, z2], _, e0, e1, e2 =>
          simp at e0 e1 e2
          rw [e0, e1, e2]
          rfl
      · exact ⟨⟨0, ⟨#[]⟩, 0⟩, fun hh => absurd hh him⟩
    obtain ⟨f, hf2⟩ := Classical.skolem.1 hall
    refine ⟨some a, (List.range len).map f, m, by simp, ?_, by simpa using hl, by simpa using b1, ?_⟩
    · by_cases h0 : len = 0
      · exact .inl (by simp [h0])
      · right
        obtain ⟨⟨c0, _⟩, _⟩ := hf2 0 (by omega)
        obtain ⟨b, o, sp⟩ := a
        obtain rfl : sp = none := spot_of c0
        refine ⟨b, o, rfl, fun i t ht => ?_⟩
        obtain ⟨hlt, rfl⟩ := range_get ht
        obtain ⟨⟨c0, c1, c2⟩, _⟩ := hf2 i (by omega)
        simp only [add_none] at c0 c1 c2
        exact ⟨c0, c1, c2⟩
    · intro t ht
      obtain ⟨i, hi', rfl⟩ := List.mem_map.1 ht
      rw [List.mem_range] at hi'
      obtain ⟨_, w1, hD⟩ := hf2 i (by omega)
      refine ⟨w1, ?_⟩
      have h2 := b2 i hi'
      rw [hD, StpD_bulk] at h2
      omega
set_option maxRecDepth 100000 in
theorem trod_txts {fuel : Nat} {v : Value} {y : DataW H × List MemPlace} (h : DataW.trod enc Tryz.prog W 0 (fun _ => true) true fuel 24 [v] = some y) :
    ∃ ao L cap, v = .slice ao L.length cap ∧ TxtRow ao L W ∧ L.length ≤ cap ∧ L.length ≤ Rows.uptoBulk y.1 ∧ ∀ s ∈ L, s.size ≤ Rows.uptoBulk y.1 := by
  have hC : Tryz.prog.cellsOf 9 = 1 := by kernel_rfl
  rcases open_slice Tryz.underlying24 h with ⟨hcs, hx⟩ | ⟨a, len, cap, m, n, D, Pl, hcs, hb, hl, hm, hmm, hx, hi⟩
  · obtain rfl : v = .slice none 0 0 := by simpa using hcs
    exact ⟨none, [], 0, rfl, .inl rfl, Nat.le_refl _, Nat.zero_le _, fun t ht => by cases ht⟩
  · obtain rfl : v = .slice (some a) len cap := by simpa using hcs
    have hmc : m = cap := by rw [hmm, if_pos rfl]
    subst hmc
    have hd : y.1 = .slice ((List.range len).map D) ((List.range (m - len)).map fun j => D (len + j)) := congrArg Prod.fst hx
    obtain ⟨b1, b2⟩ := slice_bulk hd
    have hall : ∀ i, ∃ t : ByteArray, i < m → W.cell? (a.add i) = some (.string t) ∧ D i = .lit (.string t.data.toList) := by
      intro i
      by_cases him : i < m
      · obtain ⟨cs', hc, ht⟩ := hi i him
        obtain ⟨s, hs, hD, _⟩ := DataW.trod_string Tryz.underlying9 ht
        obtain ⟨_, hcl, hat⟩ := World.cells?_some hc
        refine ⟨s, fun _ => ⟨?_, congrArg Prod.fst hD⟩⟩
        have h0 := hat 0 (by rw [hC]; decide)
        rw [hs, hC, Nat.mul_one, Go.Deep.add_add, Nat.add_zero] at h0
        exact h0
      · exact ⟨⟨#[]⟩, fun hh => absurd hh him⟩
    obtain ⟨f, hf2⟩ := Classical.skolem.1 hall
    refine ⟨some a, (List.range len).map f, m, by simp, ?_, by simpa using hl, by simpa using b1, ?_⟩
    · by_cases h0 : len = 0
      · exact .inl (by simp [h0])
      · right
        obtain ⟨c0, _⟩ := hf2 0 (by omega)
        obtain ⟨b, o, sp⟩ := a
        obtain rfl : sp = none := spot_of c0
        refine ⟨b, o, rfl, fun i t ht => ?_⟩
        obtain ⟨hlt, rfl⟩ := range_get ht
        obtain ⟨c0, _⟩ := hf2 i (by omega)
        simp only [add_none] at c0
        exact c0
    · intro t ht
      obtain ⟨i, hi', rfl⟩ := List.mem_map.1 ht
      rw [List.mem_range] at hi'
      obtain ⟨_, hD⟩ := hf2 i (by omega)
      have h2 := b2 i hi'
      have := Lib.size_eq (f i)
      rw [hD, Rows.uptoBulk] at h2
      omega
set_option maxRecDepth 100000 in
theorem trod_itms {fuel : Nat} {v : Value} {y : DataW H × List MemPlace} (h : DataW.trod enc Tryz.prog W 0 (fun _ => true) true fuel 22 [v] = some y) :
    ∃ ao L cap, v = .slice ao L.length cap ∧ ItmRow ao L W ∧ L.length ≤ Rows.uptoBulk y.1 ∧ ∀ it ∈ L, (Lit.int .u8 it.agg).wf = true ∧ it.e.length ≤ Rows.uptoBulk y.1 ∧ ∀ t ∈ it.e, StpWf t ∧ t.s.size ≤ Rows.uptoBulk y.1 := by
  rcases open_slice_fields Tryz.underlying22 Tryz.underlying48 (by kernel_rfl) (by kernel_rfl) h with ⟨hcs, hx⟩ | ⟨a, len, cap, m, D, Pl, hcs, hb, hl, hm, hmm, hx, hi⟩
  · obtain rfl : v = .slice none 0 0 := by simpa using hcs
    exact ⟨none, [], 0, rfl, .inl rfl, Nat.zero_le _, fun t ht => by cases ht⟩
  · obtain rfl : v = .slice (some a) len cap := by simpa using hcs
    have hmc : m = cap := by rw [hmm, if_pos rfl]
    subst hmc
    have hd : y.1 = .slice ((List.range len).map D) ((List.range (m - len)).map fun j => D (len + j)) := congrArg Prod.fst hx
    obtain ⟨b1, b2⟩ := slice_bulk hd
    have hall : ∀ i, ∃ it : Itm, i < m → (∃ eo ecap, W.cell? (a.add (i * 2 + 0)) = some (.int .u8 it.agg) ∧ W.cell? (a.add (i * 2 + 1)) = some (.slice eo it.e.length ecap) ∧ StpRow eo it.e W) ∧ (Lit.int .u8 it.agg).wf = true ∧ it.e.length ≤ Rows.uptoBulk (D i) ∧ ∀ t ∈ it.e, StpWf t ∧ t.s.size ≤ Rows.uptoBulk (D i) := by
      intro i
      by_cases him : i < m
      · obtain ⟨ys, n, hD, _, hys, hfld⟩ := hi i him
        obtain ⟨v0, y0, c0, e0, t0⟩ := hfld 0 _ rfl
        obtain ⟨v1, y1, c1, e1, t1⟩ := hfld 1 _ rfl
        obtain ⟨k, hk, rfl, wk⟩ := DataW.trod_int Tryz.underlying46 t0
        obtain ⟨eo, L, ecap, rfl, hr, _, hbl, hbs⟩ := trod_stps t1
        obtain rfl : v0 = .int .u8 k := by simpa using hk
        have hle : Rows.uptoBulk y1.1 ≤ Rows.uptoBulk (D i) := by
          rw [hD]
          have := bulks.part_le (d := y1.1) (l := ys.map (·.1)) (List.mem_map.2 ⟨y1, List.mem_of_getElem? e1, rfl⟩)
          rw [Rows.uptoBulk]
          omega
        exact ⟨⟨k, L⟩, fun _ => ⟨⟨eo, ecap, c0, c1, hr⟩, wk, Nat.le_trans hbl hle, fun t ht => ⟨(hbs t ht).1, Nat.le_trans (hbs t ht).2 hle⟩⟩⟩
      · exact ⟨⟨0, []⟩, fun hh => absurd hh him⟩
    obtain ⟨f, hf2⟩ := Classical.skolem.1 hall
    refine ⟨some a, (List.range len).map f, m, by simp, ?_, by simpa using b1, ?_⟩
    · by_cases h0 : len = 0
      · exact .inl (by simp [h0])
      · right
        obtain ⟨⟨_, _, c0, _⟩, _⟩ := hf2 0 (by omega)
        obtain ⟨b, o, sp⟩ := a
        obtain rfl : sp = none := spot_of c0
        refine ⟨b, o, rfl, fun i t ht => ?_⟩
        obtain ⟨hlt, rfl⟩ := range_get ht
        obtain ⟨⟨eo, ecap, c0, c1, hr⟩, _⟩ := hf2 i (by omega)
        simp only [add_none] at c0 c1
        exact ⟨eo, ecap, c0, c1, hr⟩
    · intro t ht
      obtain ⟨i, hi', rfl⟩ := List.mem_map.1 ht
      rw [List.mem_range] at hi'
      obtain ⟨_, w1, h1, h2⟩ := hf2 i (by omega)
      have h3 := b2 i hi'
      exact ⟨w1, Nat.le_trans h1 h3, fun t ht => ⟨(h2 t ht).1, Nat.le_trans (h2 t ht).2 h3⟩⟩
/-- a query that came in -/
structure QryArg (b : Nat) (q : Qry) (v : Value) (w : World) : Prop where
  val : ∃ io ic wo wc go gc, v = .agg #[.slice io q.items.length ic, .string q.table, .string q.join, .string q.left, .string q.right, .slice wo q.wher.length wc, .slice go q.group.length gc] ∧ QryIn q io wo go w ∧ q.group.length ≤ gc
  ilen : q.items.length ≤ b
  wlen : q.wher.length ≤ b
  glen : q.group.length ≤ b
  items : ∀ it ∈ q.items, (0 ≤ it.agg ∧ it.agg ≤ 255) ∧ it.e.length ≤ b ∧ ∀ t ∈ it.e, StpWf t ∧ t.s.size ≤ b
  wher : ∀ t ∈ q.wher, StpWf t ∧ t.s.size ≤ b
  group : ∀ s ∈ q.group, s.size ≤ b
  table : q.table.size ≤ b
  join : q.join.size ≤ b
  left : q.left.size ≤ b
  right : q.right.size ≤ b
set_option maxRecDepth 100000 in
theorem open_qry {r : Reach} {base : Nat} {v : Value} {d : DataW H} {ps : List MemPlace} (hval : Value.okWide Tryz.prog W r base 26 v)
    (h : DataW.Trod enc Tryz.prog W 0 (fun _ => true) true 26 v d ps) : ∃ q : Qry, QryArg (Rows.uptoBulk d) q v W := by
  obtain ⟨cs, rfl, hsz⟩ := okWide_struct Tryz.underlying26 hval
  have hC : Tryz.prog.cellsOf 26 = 7 := by kernel_rfl
  obtain ⟨l⟩ := cs
  match l, hsz.trans hC with
  | [c0, c1, c2, c3, c4, c5, c6], _ =>
    obtain ⟨fuel, hf⟩ := h
    obtain ⟨xs, n, _, hx, _, hlen, hg⟩ := DataW.trod_struct Tryz.underlying26 hf
    match xs, hlen with
    | [y0, y1, y2, y3, y4, y5, y6], _ =>
      have t0 : DataW.trod enc Tryz.prog W 0 (fun _ => true) true n 22 [c0] = some y0 := hg 0 _ rfl
      have t1 : DataW.trod enc Tryz.prog W 0 (fun _ => true) true n 9 [c1] = some y1 := hg 1 _ rfl
      have t2 : DataW.trod enc Tryz.prog W 0 (fun _ => true) true n 9 [c2] = some y2 := hg 2 _ rfl
      have t3 : DataW.trod enc Tryz.prog W 0 (fun _ => true) true n 9 [c3] = some y3 := hg 3 _ rfl
      have t4 : DataW.trod enc Tryz.prog W 0 (fun _ => true) true n 9 [c4] = some y4 := hg 4 _ rfl
      have t5 : DataW.trod enc Tryz.prog W 0 (fun _ => true) true n 23 [c5] = some y5 := hg 5 _ rfl
      have t6 : DataW.trod enc Tryz.prog W 0 (fun _ => true) true n 24 [c6] = some y6 := hg 6 _ rfl
      obtain ⟨io, its, ic, rfl, hi, hil, hib⟩ := trod_itms t0
      obtain ⟨tb, e1, rfl, _⟩ := DataW.trod_string Tryz.underlying9 t1
      obtain ⟨jn, e2, rfl, _⟩ := DataW.trod_string Tryz.underlying9 t2
      obtain ⟨lf, e3, rfl, _⟩ := DataW.trod_string Tryz.underlying9 t3
      obtain ⟨rt, e4, rfl, _⟩ := DataW.trod_string Tryz.underlying9 t4
      obtain ⟨wo, wh, wc, rfl, hw, _, hwl, hwb⟩ := trod_stps t5
      obtain ⟨go, gr, gc, rfl, hgr, hgc, hgl, hgb⟩ := trod_txts t6
      obtain rfl : c1 = .string tb := by simpa using e1
      obtain rfl : c2 = .string jn := by simpa using e2
      obtain rfl : c3 = .string lf := by simpa using e3
      obtain rfl : c4 = .string rt := by simpa using e4
      have hd : d = .agg [y0.1, .lit (.string tb.data.toList), .lit (.string jn.data.toList), .lit (.string lf.data.toList), .lit (.string rt.data.toList), y5.1, y6.1] := congrArg Prod.fst hx
      have hb : Rows.uptoBulk d = Rows.uptoBulk y0.1 + (tb.size + 1) + (jn.size + 1) + (lf.size + 1) + (rt.size + 1) + Rows.uptoBulk y5.1 + Rows.uptoBulk y6.1 + 1 := by
        have := Lib.size_eq tb
        have := Lib.size_eq jn
        have := Lib.size_eq lf
        have := Lib.size_eq rt
        rw [hd]
        simp only [Rows.uptoBulk, Rows.uptoBulkAll]
        omega
      refine ⟨⟨its, tb, jn, lf, rt, wh, gr⟩, ⟨⟨io, ic, wo, wc, go, gc, rfl, ⟨hi, hw, hgr⟩, hgc⟩, ?_, ?_, ?_, ?_, ?_, ?_, ?_, ?_, ?_, ?_⟩⟩
      · show its.length ≤ _; omega
      · show wh.length ≤ _; omega
      · show gr.length ≤ _; omega
      · intro it hit
        obtain ⟨a, b, c⟩ := hib it hit
        exact ⟨wfu8 a, by omega, fun t ht => ⟨(c t ht).1, by have := (c t ht).2; omega⟩⟩
      · intro t ht
        exact ⟨(hwb t ht).1, by have := (hwb t ht).2; omega⟩
      · intro s hs
        have := hgb s hs
        omega
      · show tb.size ≤ _; omega
      · show jn.size ≤ _; omega
      · show lf.size ≤ _; omega
      · show rt.size ≤ _; omega
theorem stps_ok {L : List Stp} {b : Nat} (h : ∀ t ∈ L, StpWf t ∧ t.s.size ≤ b) (hb : b ≤ 1048576) : StpsOk L ∧ NumOk L :=
  ⟨fun t ht => ⟨by have := (h t ht).2; omega, wfu8 (h t ht).1.1⟩, fun t ht => wfi64 (h t ht).1.2⟩
theorem QryArg.ok {b : Nat} {q : Qry} {v : Value} {w : World} (h : QryArg b q v w) (hb : b ≤ 1048576) : QryOk q ∧ QryNum q := by
  have h1 := h.ilen
  have h2 := h.wlen
  have h3 := h.glen
  have h4 := h.table
  have h5 := h.join
  have h6 := h.left
  have h7 := h.right
  refine ⟨⟨fun it hi => ?_, by omega, (stps_ok h.wher hb).1, by omega, fun s hs => by have := h.group s hs; omega, by omega, by omega, by omega, by omega, by omega⟩, ⟨(stps_ok h.wher hb).2, fun it hi => (stps_ok (h.items it hi).2.2 hb).2⟩⟩
  obtain ⟨a, c, d⟩ := h.items it hi
  exact ⟨(stps_ok d hb).1, by omega, a.1, a.2⟩
end Go.Proofs.YtegnoaejlhbpbaaGreatDoor.lx
namespace Go.Proofs.YtegnoaejlhbpbaaGreatDoor.lx
open Go.RowKit

def bareQ (q : Qry) : Qry := { Qry.none with table := q.table }
def joinQ (q : Qry) : Qry := { bareQ q with join := q.join, left := q.left, right := q.right }
def whereQ (q : Qry) : Qry := { bareQ q with wher := q.wher }
def getQ (q : Qry) : Qry := { bareQ q with items := q.items }
theorem ok_check {q : Qry} (h : CheckOk q) : checkR q = 0 := by
  have hok : okR q = true := by
    unfold okR frontR
    simp only [Bool.and_eq_true, Bool.or_eq_true, List.all_eq_true, decide_eq_true_eq]
    refine ⟨⟨⟨⟨h.table, ?_⟩, h.wher⟩, h.items⟩, h.group⟩
    unfold singleR doubleR
    rcases h.joins with ⟨a, b, c⟩ | ⟨a, b, c, d⟩
    · left; rw [a, b, c]; rfl
    · right; rw [a, b, c, d]; rfl
  unfold checkR
  have h1 := h.ilen
  have h2 := h.glen
  rw [if_neg]
  rintro (h | h | h)
  · rw [hok] at h; cases h
  · omega
  · omega
theorem emptyS_nil : emptyS ⟨#[]⟩ = true := by
  unfold emptyS
  rw [Lib.toList_data]
  rfl
theorem nil_all {α : Type} {P : α → Prop} : ∀ x ∈ ([] : List α), P x := fun _ h => by cases h
theorem bare_ok {q : Qry} (h : CheckOk q) : CheckOk (bareQ q) := ⟨h.table, .inl ⟨emptyS_nil, emptyS_nil, emptyS_nil⟩, .inl rfl, nil_all, Nat.zero_le _, nil_all, Nat.zero_le _⟩
theorem join_ok {q : Qry} (h : CheckOk q) : CheckOk (joinQ q) := ⟨h.table, h.joins, .inl rfl, nil_all, Nat.zero_le _, nil_all, Nat.zero_le _⟩
theorem where_ok {q : Qry} (h : CheckOk q) : CheckOk (whereQ q) := ⟨h.table, .inl ⟨emptyS_nil, emptyS_nil, emptyS_nil⟩, h.wher, nil_all, Nat.zero_le _, nil_all, Nat.zero_le _⟩
theorem get_ok {q : Qry} (h : CheckOk q) : CheckOk (getQ q) := ⟨h.table, .inl ⟨emptyS_nil, emptyS_nil, emptyS_nil⟩, .inl rfl, h.items, h.ilen, nil_all, Nat.zero_le _⟩
theorem stpsOk_nil : StpsOk [] := fun _ h => by cases h
theorem numOk_nil : NumOk [] := fun _ h => by cases h
theorem bare_q {q : Qry} (h : QryOk q) : QryOk (bareQ q) ∧ QryNum (bareQ q) :=
  ⟨{ h with items := nil_all, ilen := Nat.zero_le _, wher := stpsOk_nil, wlen := Nat.zero_le _, group := nil_all, glen := Nat.zero_le _, join := Nat.zero_lt_of_lt h.join, left := Nat.zero_lt_of_lt h.left, right := Nat.zero_lt_of_lt h.right }, ⟨numOk_nil, nil_all⟩⟩
theorem join_q {q : Qry} (h : QryOk q) : QryOk (joinQ q) ∧ QryNum (joinQ q) :=
  ⟨{ (bare_q h).1 with join := h.join, left := h.left, right := h.right }, ⟨numOk_nil, nil_all⟩⟩
theorem where_q {q : Qry} (h : QryOk q) (hn : QryNum q) : QryOk (whereQ q) ∧ QryNum (whereQ q) :=
  ⟨{ (bare_q h).1 with wher := h.wher, wlen := h.wlen }, ⟨hn.wher, nil_all⟩⟩
theorem get_q {q : Qry} (h : QryOk q) (hn : QryNum q) : QryOk (getQ q) ∧ QryNum (getQ q) :=
  ⟨{ (bare_q h).1 with items := h.items, ilen := h.ilen }, ⟨numOk_nil, hn.items⟩⟩
/-- a front with clauses behind it -/
def frontT (q : Qry) (L : List ByteArray) : ByteArray := bracketT ([fromB, q.table] ++ L)
theorem joinL_nil {q : Qry} (h : q.join = ⟨#[]⟩) : joinL q = [] := by
  unfold joinL
  rw [h, if_pos emptyS_nil]
theorem print_bare {q : Qry} (h : CheckOk q) : printR (bareQ q) = (frontT q [], 0) := by
  rw [printR_ok (ok_check (bare_ok h)), joinL_nil (q := bareQ q) rfl]
  rfl
theorem print_join {q : Qry} (h : CheckOk q) : printR (joinQ q) = (frontT q (joinL q), 0) := by
  rw [printR_ok (ok_check (join_ok h))]
  show (bracketT ([fromB, q.table] ++ (joinL q ++ [])), (0 : Int)) = _
  rw [List.append_nil]
  rfl
theorem print_where {q : Qry} (h : CheckOk q) : printR (whereQ q) = (frontT q (whereL q), 0) := by
  rw [printR_ok (ok_check (where_ok h)), joinL_nil (q := whereQ q) rfl]
  show (bracketT ([fromB, q.table] ++ (whereL q ++ [])), (0 : Int)) = _
  rw [List.append_nil]
  rfl
theorem print_get {q : Qry} (h : CheckOk q) : printR (getQ q) = (frontT q (getL q), 0) := by
  rw [printR_ok (ok_check (get_ok h)), joinL_nil (q := getQ q) rfl]
  rfl
/-- what stands behind a front -/
def sfxL (L : List ByteArray) : List UInt8 := L.flatMap fun x => 32 :: B x
def sfxT (L : List ByteArray) : ByteArray := ⟨(sfxL L).toArray⟩
theorem B_sfx (L : List ByteArray) : B (sfxT L) = sfxL L := rfl
theorem joinT_app : ∀ (x : ByteArray) (L M : List ByteArray), joinT (x :: (L ++ M)) = joinT (x :: L) ++ sfxL M
  | x, [], M => by
    induction M generalizing x with
    | nil => simp [sfxL]
    | cons y M ih =>
      show joinT (x :: y :: M) = joinT [x] ++ sfxL (y :: M)
      have e := ih y
      rw [List.nil_append] at e
      have e1 : ∀ z : ByteArray, joinT [z] = B z := fun z => by unfold joinT; simp [Lib.join]
      rw [joinT_cons, e, e1, e1]
      rfl
  | x, y :: L, M => by
    show joinT (x :: y :: (L ++ M)) = joinT (x :: y :: L) ++ sfxL M
    rw [joinT_cons, joinT_app y L M, joinT_cons, List.append_assoc]
    rfl
theorem B_front (q : Qry) (L : List ByteArray) : B (frontT q L) = 40 :: (joinT [fromB, q.table] ++ (sfxL L ++ [41])) := by
  unfold frontT
  rw [B_bracket, show ([fromB, q.table] ++ L : List ByteArray) = fromB :: ([q.table] ++ L) from rfl, joinT_app, List.append_assoc]
/-- how long a front is -/
def frontN (q : Qry) : Nat := 1 + (joinT [fromB, q.table]).length
theorem front_size (q : Qry) (L : List ByteArray) : (frontT q L).size = frontN q + (sfxT L).size + 1 := by
  rw [← B_length, B_front]
  have : (sfxT L).size = (sfxL L).length := by rw [← B_length, B_sfx]
  rw [this]
  simp only [List.length_cons, List.length_append, List.length_nil, frontN]
  omega
theorem sfx_nil : (sfxT []).size = 0 := rfl
theorem front_cut (q : Qry) (L : List ByteArray) : (frontT q L).extract (frontN q) (frontN q + (sfxT L).size) = sfxT L := by
  have e : B ((frontT q L).extract (frontN q) (frontN q + (sfxT L).size)) = B (sfxT L) := by
    rw [B_extract, B_front, B_sfx]
    have h1 : (40 :: (joinT [fromB, q.table] ++ (sfxL L ++ [41])) : List UInt8) = (40 :: joinT [fromB, q.table]) ++ (sfxL L ++ [41]) := rfl
    have h2 : frontN q = (40 :: joinT [fromB, q.table] : List UInt8).length := by simp only [frontN, List.length_cons]; omega
    have h3 : (sfxT L).size = (sfxL L).length := by rw [← B_length, B_sfx]
    rw [h1, h2, List.drop_left, h3, Nat.add_sub_cancel_left, List.take_left]
  rw [← mkB ((frontT q L).extract _ _), e, mkB]
theorem front_head (q : Qry) : B ((frontT q []).extract 0 (frontN q)) = 40 :: joinT [fromB, q.table] := by
  rw [B_extract, B_front, List.drop_zero]
  have h1 : (40 :: (joinT [fromB, q.table] ++ (sfxL [] ++ [41])) : List UInt8) = (40 :: joinT [fromB, q.table]) ++ [41] := rfl
  have h2 : frontN q - 0 = (40 :: joinT [fromB, q.table] : List UInt8).length := by simp only [frontN, List.length_cons]; omega
  rw [h1, h2, List.take_left]
theorem B_append (a b : ByteArray) : B (a ++ b) = B a ++ B b := by simp [B, ByteArray.data_append]
theorem sfx_app (L M : List ByteArray) : sfxT L ++ sfxT M = sfxT (L ++ M) := by
  have e : B (sfxT L ++ sfxT M) = B (sfxT (L ++ M)) := by rw [B_append, B_sfx, B_sfx, B_sfx]; simp [sfxL]
  rw [← mkB (sfxT L ++ sfxT M), e, mkB]
/-- a front, what stands behind it, a bracket -/
theorem front_join (q : Qry) (L : List ByteArray) : (frontT q []).extract 0 (frontN q) ++ sfxT L ++ ⟨#[41]⟩ = frontT q L := by
  have e : B ((frontT q []).extract 0 (frontN q) ++ sfxT L ++ ⟨#[41]⟩) = B (frontT q L) := by
    rw [B_append, B_append, front_head, B_front, B_sfx]
    show (40 :: joinT [fromB, q.table]) ++ sfxL L ++ [41] = _
    simp
  rw [← mkB ((frontT q []).extract 0 (frontN q) ++ sfxT L ++ ⟨#[41]⟩), e, mkB]
theorem sfx_empty : ∀ {L : List ByteArray}, sfxT L = sfxT [] → L = []
  | [], _ => rfl
  | x :: L, h => by
    have := congrArg (fun s => (B s).length) h
    simp only [B_sfx] at this
    simp [sfxL] at this
/-- the six texts are none, but where they are one of the three -/
theorem orders {q : Qry} (h : CheckOk q) (hok : QryOk q) (hn : QryNum q) : ∀ x ∈ [sfxT (whereL q) ++ sfxT (joinL q), sfxT (getL q) ++ sfxT (whereL q), sfxT (getL q) ++ sfxT (joinL q), sfxT (joinL q) ++ sfxT (joinL q), sfxT (whereL q) ++ sfxT (whereL q), sfxT (getL q) ++ sfxT (getL q)],
    (x = sfxT (joinL q) ∨ x = sfxT (whereL q) ∨ x = sfxT (getL q)) ∨ (parseR ((frontT q []).extract 0 (frontN q) ++ x ++ ⟨#[41]⟩)).2.1 ≠ 0 := by
  have hJ := join_part h
  have hW := where_part h hok hn
  have hG := get_part h hok hn
  have one : ∀ {i j : Nat} {w v : ByteArray} {LA LB : List ByteArray} {gA gB : (Qry → Qry) → Prop} {nA nB : Prop}, PartP i w LA gA nA → PartP j v LB gB nB → ∀ {ws1 ws2 : List ByteArray}, clausesL = ws1 ++ w :: ws2 → ws1.length = i → (∀ x ∈ ws1, w ≠ x) → (∀ x ∈ ws2, v ≠ x) →
      (sfxT LA ++ sfxT LB = sfxT LA ∨ sfxT LA ++ sfxT LB = sfxT LB) ∨ (parseR ((frontT q []).extract 0 (frontN q) ++ (sfxT LA ++ sfxT LB) ++ ⟨#[41]⟩)).2.1 ≠ 0 := by
    intro i j w v LA LB gA gB nA nB hA hB ws1 ws2 h1 h2 h3 h4
    by_cases h0 : LA = []
    · left; right; rw [sfx_app, h0, List.nil_append]
    by_cases h0' : LB = []
    · left; left; rw [sfx_app, h0', List.append_nil]
    right
    rw [sfx_app, front_join]
    exact order_bad h hA hB h0 h0' h1 h2 h3 h4
  have e1 : clausesL = [joinB] ++ whereB :: [groupB, getB] := rfl
  have e0 : clausesL = [] ++ joinB :: [whereB, groupB, getB] := rfl
  have e3 : clausesL = [joinB, whereB, groupB] ++ getB :: [] := rfl
  have w1 : ∀ x ∈ [joinB], whereB ≠ x := by decide
  have w3 : ∀ x ∈ [joinB, whereB, groupB], getB ≠ x := by decide
  have j1 : ∀ x ∈ [groupB, getB], joinB ≠ x := by decide
  have j0 : ∀ x ∈ [whereB, groupB, getB], joinB ≠ x := by decide
  have v1 : ∀ x ∈ [groupB, getB], whereB ≠ x := by decide
  have nn : ∀ {w : ByteArray}, ∀ x ∈ ([] : List ByteArray), w ≠ x := nil_all
  intro x hx
  simp only [List.mem_cons, List.not_mem_nil, or_false] at hx
  rcases hx with rfl | rfl | rfl | rfl | rfl | rfl
  · rcases one hW hJ e1 rfl w1 j1 with (a | a) | a
    · exact .inl (.inr (.inl a))
    · exact .inl (.inl a)
    · exact .inr a
  · rcases one hG hW e3 rfl w3 nn with (a | a) | a
    · exact .inl (.inr (.inr a))
    · exact .inl (.inr (.inl a))
    · exact .inr a
  · rcases one hG hJ e3 rfl w3 nn with (a | a) | a
    · exact .inl (.inr (.inr a))
    · exact .inl (.inl a)
    · exact .inr a
  · rcases one hJ hJ e0 rfl nn j0 with (a | a) | a
    · exact .inl (.inl a)
    · exact .inl (.inl a)
    · exact .inr a
  · rcases one hW hW e1 rfl w1 v1 with (a | a) | a
    · exact .inl (.inr (.inl a))
    · exact .inl (.inr (.inl a))
    · exact .inr a
  · rcases one hG hG e3 rfl w3 nn with (a | a) | a
    · exact .inl (.inr (.inr a))
    · exact .inl (.inr (.inr a))
    · exact .inr a
theorem print_small {q : Qry} (h : checkR q = 0) (hn : QryNum q) : (printR q).1.size ≤ 6291464 := by
  unfold printR
  rw [if_neg (by simp [h])]
  have h1 := bracketT_le (parts_le (check_ok h) hn)
  have h2 := (parts_len q).2.2.2.2
  have : (parts4 q).length * (1048576 + 1) ≤ 6 * 1048577 := Nat.mul_le_mul_right _ h2
  show (bracketT (parts4 q)).size ≤ _
  omega
theorem front_small {q : Qry} (h : CheckOk q) (hok : QryOk q) (hn : QryNum q) : (frontT q []).size ≤ 6291464 ∧ (frontT q (joinL q)).size ≤ 6291464 ∧ (frontT q (whereL q)).size ≤ 6291464 ∧ (frontT q (getL q)).size ≤ 6291464 := by
  have a := print_small (ok_check (bare_ok h)) (bare_q hok).2
  have b := print_small (ok_check (join_ok h)) (join_q hok).2
  have c := print_small (ok_check (where_ok h)) (where_q hok hn).2
  have d := print_small (ok_check (get_ok h)) (get_q hok hn).2
  rw [print_bare h] at a
  rw [print_join h] at b
  rw [print_where h] at c
  rw [print_get h] at d
  exact ⟨a, b, c, d⟩
theorem wrap_pred {n : Nat} (m : Nat) (h : n = m + 1) (hs : n ≤ 6291464) : wrap64 ((n : Int) - 1) = (m : Int) := by
  unfold wrap64
  omega
theorem wrap_pred2 {n : Nat} (m : Nat) (h : n = m + 1) (hs : n ≤ 6291464) : IntKind.i64.wrap ((n : Int) - 1) = (m : Int) := by
  rw [IntWalk.i64_in _ (by omega)]
  omega
end Go.Proofs.YtegnoaejlhbpbaaGreatDoor.lx
namespace Go.Proofs.YtegnoaejlhbpbaaGreatDoor.lx
open Go.RowKit
set_option linter.unusedVariables false
set_option linter.unusedSimpArgs false

/-- three queries of the call's own -/
structure Trip (N A C D : Nat) (ca cc cd : Array Value) (w wx : World) : Prop where
  below : Below N w wx
  a : wx.heap[A]? = some (.cells ca 26 (0, 0))
  c : wx.heap[C]? = some (.cells cc 26 (0, 0))
  d : wx.heap[D]? = some (.cells cd 26 (0, 0))
  na : N ≤ A
  nc : N ≤ C
  nd : N ≤ D
  ac : A ≠ C
  ad : A ≠ D
  cd : C ≠ D
theorem set_in {w : World} {A j : Nat} {ca : Array Value} {t : TypeId} {v : Value} (h : w.heap[A]? = some (.cells ca t (0, 0))) : (w.setCell ⟨A, j, none⟩ v).heap[A]? = some (.cells (ca.setIfInBounds j v) t (0, 0)) := by
  simp [World.setCell, Array.getElem?_modify, h]
theorem Trip.setA {N A C D j : Nat} {ca cc cd : Array Value} {w wx : World} {v : Value} (h : Trip N A C D ca cc cd w wx) : Trip N A C D (ca.setIfInBounds j v) cc cd w (wx.setCell ⟨A, j, none⟩ v) :=
  ⟨h.below.setCell h.na v, set_in h.a, (Below.heap_setCell _ _ _ _ h.ac.symm).trans h.c, (Below.heap_setCell _ _ _ _ h.ad.symm).trans h.d, h.na, h.nc, h.nd, h.ac, h.ad, h.cd⟩
theorem Trip.setC {N A C D j : Nat} {ca cc cd : Array Value} {w wx : World} {v : Value} (h : Trip N A C D ca cc cd w wx) : Trip N A C D ca (cc.setIfInBounds j v) cd w (wx.setCell ⟨C, j, none⟩ v) :=
  ⟨h.below.setCell h.nc v, (Below.heap_setCell _ _ _ _ h.ac).trans h.a, set_in h.c, (Below.heap_setCell _ _ _ _ h.cd.symm).trans h.d, h.na, h.nc, h.nd, h.ac, h.ad, h.cd⟩
theorem Trip.setD {N A C D j : Nat} {ca cc cd : Array Value} {w wx : World} {v : Value} (h : Trip N A C D ca cc cd w wx) : Trip N A C D ca cc (cd.setIfInBounds j v) w (wx.setCell ⟨D, j, none⟩ v) :=
  ⟨h.below.setCell h.nd v, (Below.heap_setCell _ _ _ _ h.ad).trans h.a, (Below.heap_setCell _ _ _ _ h.cd).trans h.c, set_in h.d, h.na, h.nc, h.nd, h.ac, h.ad, h.cd⟩
theorem Trip.drew {N A C D : Nat} {ca cc cd : Array Value} {w wx : World} (h : Trip N A C D ca cc cd w wx) : Trip N A C D ca cc cd w wx.drew :=
  ⟨bdn h.below 1, h.a, h.c, h.d, h.na, h.nc, h.nd, h.ac, h.ad, h.cd⟩
theorem Trip.next {N A C D : Nat} {ca cc cd : Array Value} {w wx wy : World} (h : Trip N A C D ca cc cd w wx) (hN : N ≤ w.heap.size) (hb : Below wx.heap.size wx wy) : Trip N A C D ca cc cd w wy :=
  ⟨h.below.trans (hb.mono (Nat.le_trans hN h.below.size)), (hb.block _ (Array.getElem?_eq_some_iff.1 h.a).1).trans h.a, (hb.block _ (Array.getElem?_eq_some_iff.1 h.c).1).trans h.c, (hb.block _ (Array.getElem?_eq_some_iff.1 h.d).1).trans h.d, h.na, h.nc, h.nd, h.ac, h.ad, h.cd⟩
def bareV (t : ByteArray) : Array Value := #[.slice none 0 0, .string t, .string ⟨#[]⟩, .string ⟨#[]⟩, .string ⟨#[]⟩, .slice none 0 0, .slice none 0 0]
theorem trip_of {w : World} {cs : Array Value} {x y z : Nat} (hx : x < 3) (hy : y < 3) (hz : z < 3) (hxy : x ≠ y) (hxz : x ≠ z) (hyz : y ≠ z) :
    Trip w.heap.size (w.heap.size + x) (w.heap.size + y) (w.heap.size + z) cs cs cs w (((w.alloc (.cells cs 26)).alloc (.cells cs 26)).alloc (.cells cs 26)).drew := by
  have hall : ∀ k, k < 3 → (((w.alloc (.cells cs 26)).alloc (.cells cs 26)).alloc (.cells cs 26)).drew.heap[w.heap.size + k]? = some (.cells cs 26 (0, 0)) := by
    intro k hk
    show (((w.alloc (.cells cs 26)).alloc (.cells cs 26)).alloc (.cells cs 26)).heap[w.heap.size + k]? = _
    match k, hk with
    | 0, _ => rw [heap_alloc_old _ _ (by rw [alloc_sz, alloc_sz]; omega), heap_alloc_old _ _ (by rw [alloc_sz]; omega)]; exact heap_alloc_new _ _
    | 1, _ =>
      rw [heap_alloc_old _ _ (by rw [alloc_sz, alloc_sz]; omega)]
      have := heap_alloc_new (w.alloc (.cells cs 26)) (.cells cs 26)
      rw [alloc_sz] at this
      exact this
    | 2, _ =>
      have := heap_alloc_new ((w.alloc (.cells cs 26)).alloc (.cells cs 26)) (.cells cs 26)
      rw [alloc_sz, alloc_sz] at this
      exact this
  refine ⟨?_, hall x hx, hall y hy, hall z hz, by omega, by omega, by omega, by omega, by omega, by omega⟩
  exact bdn ((((Below.refl _ w).alloc (Nat.le_refl _) _).alloc (by rw [alloc_sz]; omega) _).alloc (by rw [alloc_sz, alloc_sz]; omega) _) 1

set_option maxHeartbeats 4000000 in
set_option maxRecDepth 100000 in
theorem Clauses_any {b : Nat} {q : Qry} {v : Value} {w : World} (hG : PGlob w) (hA : QryArg b q v w) (hb : b ≤ 1048576) :
    Calls Tryz.prog 5 #[v] w fun e w' => e = .returned (.bool true) ∧ Below w.heap.size w w' := by
  obtain ⟨hok, hnum⟩ := hA.ok hb
  obtain ⟨io, ci, wo, cw, go, cg, rfl, hq, hgc⟩ := hA.val
  have hn := heap_alloc_new w (.cells (qryV q io wo go ci cw cg) 26)
  have hbA := (Below.refl w.heap.size w).alloc (Nat.le_refl _) (.cells (qryV q io wo go ci cw cg) 26)
  have HG1 := Lib.hid (hG.self hbA)
  have HQ1 := Lib.hid (hq.self hbA)
  have HB1 := Lib.hid hbA
  have HOK := Lib.hid hok
  have hl1 := (Array.getElem?_eq_some_iff.1 hn).1
  have HN1 := Lib.hid hn
  clear hA hG hq hn hbA
  by_cases hc : checkR q = 0
  · have HC := Lib.hid (check_ok hc)
    have HCK := Lib.hid fun (w : World) (hG : PGlob w) (hR : QryIn q io wo go w) => check_any (icap := ci) (wcap := cw) (gcap := cg) hG hR hok
    rw [hc] at HCK
    clear hc hok
    go_enter Tryz.func5, Tryz.ntmps5
    unfold qryV at *
    go_upto_region 1 with fail
    generalize w.alloc (.cells #[.slice io q.items.length ci, .string q.table, .string q.join, .string q.left, .string q.right, .slice wo q.wher.length cw, .slice go q.group.length cg] 26) = W1 at *
    go_wp2_with (go_at_call 13; refine (lives3_any _ HG1.out).mono ?_; rintro e w2 ⟨rfl, hb2⟩; refine Hid.out ?_)
    refine Lib.hid ?_
    have HG2 := Lib.hid (HG1.out.self hb2)
    have HQ2 := Lib.hid (HQ1.out.self hb2)
    have HB2 := Lib.hid (below_self HB1.out hb2)
    have hn2 := (hb2.block _ hl1).trans HN1.out
    have hl2 := Nat.lt_of_lt_of_le hl1 hb2.size
    clear hb2 HG1 HQ1 HB1 HN1
    have hcl : ∀ (j : Nat) v, (#[.slice io q.items.length ci, .string q.table, .string q.join, .string q.left, .string q.right, .slice wo q.wher.length cw, .slice go q.group.length cg] : Array Value)[j]? = some v → w2.cell? ⟨w.heap.size, j, none⟩ = some v := fun j v h => by rw [Lib.cell_of_heap hn2]; exact h
    have k0 := hcl 0 _ rfl
    have k1 := hcl 1 _ rfl
    have k2 := hcl 2 _ rfl
    have k3 := hcl 3 _ rfl
    have k4 := hcl 4 _ rfl
    have k5 := hcl 5 _ rfl
    have k6 := hcl 6 _ rfl
    have HN2 := Lib.hid hn2
    clear hcl hn2
    go_wp2_with (go_at_call 14; refine (HCK.out _ HG2.out HQ2.out).mono ?_; rintro e w3 ⟨rfl, hb3⟩; refine Hid.out ?_)
    refine Lib.hid ?_
    have HG3 := Lib.hid (HG2.out.self hb3)
    have HQ3 := Lib.hid (HQ2.out.self hb3)
    have HB3 := Lib.hid (below_self HB2.out hb3)
    have hn3 := (hb3.block _ hl2).trans HN2.out
    have hl3 := Nat.lt_of_lt_of_le hl2 hb3.size
    clear hb3 HG2 HQ2 HB2 HN2 k0 k1 k2 k3 k4 k5 k6
    have k1 : w3.cell? ⟨w.heap.size, 1, none⟩ = some (.string q.table) := by rw [Lib.cell_of_heap hn3]; rfl
    have HN3 := Lib.hid hn3
    clear hn3
    go_upto_region 6 with fail
    have hn4 := heap_alloc_new w3 (.cells #[.slice none 0 0, .string q.table, .string ⟨#[]⟩, .string ⟨#[]⟩, .string ⟨#[]⟩, .slice none 0 0, .slice none 0 0] 26)
    have hb4 := (Below.refl w3.heap.size w3).alloc (Nat.le_refl _) (.cells #[.slice none 0 0, .string q.table, .string ⟨#[]⟩, .string ⟨#[]⟩, .string ⟨#[]⟩, .slice none 0 0, .slice none 0 0] 26)
    have HG4 := Lib.hid (HG3.out.self hb4)
    have HQ4 := Lib.hid (HQ3.out.self hb4)
    have HB4 := Lib.hid (below_self HB3.out hb4)
    have HNQ4 := Lib.hid ((hb4.block _ hl3).trans HN3.out)
    have hl4 := Nat.lt_of_lt_of_le hl3 hb4.size
    have hl4' := (Array.getElem?_eq_some_iff.1 hn4).1
    clear hb4 HG3 HQ3 HB3 HN3 k1
    generalize w3.alloc (.cells #[.slice none 0 0, .string q.table, .string ⟨#[]⟩, .string ⟨#[]⟩, .string ⟨#[]⟩, .slice none 0 0, .slice none 0 0] 26) = W4 at *
    have hcl : ∀ (j : Nat) v, (#[.slice none 0 0, .string q.table, .string ⟨#[]⟩, .string ⟨#[]⟩, .string ⟨#[]⟩, .slice none 0 0, .slice none 0 0] : Array Value)[j]? = some v → W4.cell? ⟨w3.heap.size, j, none⟩ = some v := fun j v h => by rw [Lib.cell_of_heap hn4]; exact h
    have k0 := hcl 0 _ rfl
    have k1 := hcl 1 _ rfl
    have k2 := hcl 2 _ rfl
    have k3 := hcl 3 _ rfl
    have k4 := hcl 4 _ rfl
    have k5 := hcl 5 _ rfl
    have k6 := hcl 6 _ rfl
    have HN4 := Lib.hid hn4
    have HP0 : Hid (Calls Tryz.prog 7 #[.agg #[.slice none 0 0, .string q.table, .string ⟨#[]⟩, .string ⟨#[]⟩, .string ⟨#[]⟩, .slice none 0 0, .slice none 0 0]] W4 fun e w' => e = .returned (.tuple #[.string (frontT q []), .int .i64 0]) ∧ Below W4.heap.size W4 w') := Lib.hid (by
      have := print_any (q := bareQ q) (io := none) (wo := none) (go := none) (icap := 0) (wcap := 0) (gcap := 0) HG4.out ⟨.inl rfl, .inl rfl, .inl rfl⟩ (bare_q HOK.out).1 (bare_q HOK.out).2 (Nat.le_refl _)
      rw [print_bare HC.out] at this
      exact this)
    clear hcl hn4
    go_wp2_with (go_at_call 7; refine HP0.out.mono ?_; rintro e w5 ⟨rfl, hb5⟩; refine Hid.out ?_)
    refine Lib.hid ?_
    have HG5 := Lib.hid (HG4.out.self hb5)
    have HQ5 := Lib.hid (HQ4.out.self hb5)
    have HB5 := Lib.hid (below_self HB4.out hb5)
    have hnq5 := (hb5.block _ hl4).trans HNQ4.out
    have hn5 := (hb5.block _ hl4').trans HN4.out
    have hl5 := Nat.lt_of_lt_of_le hl4 hb5.size
    have hl5' := Nat.lt_of_lt_of_le hl4' hb5.size
    have hl34 : w.heap.size < w3.heap.size := hl3
    have ha1 : w3.heap.size < w5.heap.size + 1 := by omega
    have ha2 : w3.heap.size < w5.heap.size + 2 := by omega
    have ha3 : w3.heap.size < w5.heap.size + 1 + 1 := by omega
    clear hb5 HG4 HQ4 HB4 HN4 HNQ4 HP0 k0 k1 k2 k3 k4 k5 k6
    have hcl : ∀ (j : Nat) v, (#[.slice none 0 0, .string q.table, .string ⟨#[]⟩, .string ⟨#[]⟩, .string ⟨#[]⟩, .slice none 0 0, .slice none 0 0] : Array Value)[j]? = some v → w5.cell? ⟨w3.heap.size, j, none⟩ = some v := fun j v h => by rw [Lib.cell_of_heap hn5]; exact h
    have k0 := hcl 0 _ rfl
    have k1 := hcl 1 _ rfl
    have k2 := hcl 2 _ rfl
    have k3 := hcl 3 _ rfl
    have k4 := hcl 4 _ rfl
    have k5 := hcl 5 _ rfl
    have k6 := hcl 6 _ rfl
    have HNQ5 := Lib.hid hnq5
    clear hcl hn5 hnq5
    go_wp2_with fail
    go_cut [6, 7, 8] from 34 to 36 (fun a c d wx => ∃ A C D : Nat, a = .pointer (some ⟨A, 0, none⟩) ∧ c = .pointer (some ⟨C, 0, none⟩) ∧ d = .pointer (some ⟨D, 0, none⟩) ∧ Hid (Trip w5.heap.size A C D (bareV q.table) (bareV q.table) (bareV q.table) w5 wx))
    case first =>
      go_region
      all_goals
        go_wp2_with fail
        go_meet
      all_goals first
        | exact ⟨_, _, _, rfl, rfl, rfl, Lib.hid (trip_of (x := 0) (y := 1) (z := 2) (by decide) (by decide) (by decide) (by decide) (by decide) (by decide))⟩
        | exact ⟨_, _, _, rfl, rfl, rfl, Lib.hid (trip_of (x := 0) (y := 2) (z := 1) (by decide) (by decide) (by decide) (by decide) (by decide) (by decide))⟩
        | exact ⟨_, _, _, rfl, rfl, rfl, Lib.hid (trip_of (x := 1) (y := 0) (z := 2) (by decide) (by decide) (by decide) (by decide) (by decide) (by decide))⟩
        | exact ⟨_, _, _, rfl, rfl, rfl, Lib.hid (trip_of (x := 1) (y := 2) (z := 0) (by decide) (by decide) (by decide) (by decide) (by decide) (by decide))⟩
        | exact ⟨_, _, _, rfl, rfl, rfl, Lib.hid (trip_of (x := 2) (y := 0) (z := 1) (by decide) (by decide) (by decide) (by decide) (by decide) (by decide))⟩
        | exact ⟨_, _, _, rfl, rfl, rfl, Lib.hid (trip_of (x := 2) (y := 1) (z := 0) (by decide) (by decide) (by decide) (by decide) (by decide) (by decide))⟩
    case rest =>
      obtain ⟨A, C, D, rfl, rfl, rfl, HT⟩ := hcut
      have hwa : w.heap.size < A := Nat.lt_of_lt_of_le hl5 HT.out.na
      have hwc : w.heap.size < C := Nat.lt_of_lt_of_le hl5 HT.out.nc
      have hwd : w.heap.size < D := Nat.lt_of_lt_of_le hl5 HT.out.nd
      have hnq6 := (HT.out.below.block _ hl5).trans HNQ5.out
      have ha6 := HT.out.a
      clear k0 k1 k2 k3 k4 k5 k6
      unfold bareV at ha6
      have k2 := (Lib.cell_of_heap hnq6 2).trans (rfl : _ = some (Value.string q.join))
      have k3 := (Lib.cell_of_heap hnq6 3).trans (rfl : _ = some (Value.string q.left))
      have k4 := (Lib.cell_of_heap hnq6 4).trans (rfl : _ = some (Value.string q.right))
      have m2 := (Lib.cell_of_heap ha6 2).trans (rfl : _ = some (Value.string ⟨#[]⟩))
      have m3 := (Lib.cell_of_heap ha6 3).trans (rfl : _ = some (Value.string ⟨#[]⟩))
      have m4 := (Lib.cell_of_heap ha6 4).trans (rfl : _ = some (Value.string ⟨#[]⟩))
      have f2 := Lib.frozen_of_heap ha6 2
      have f3 := Lib.frozen_of_heap ha6 3
      have f4 := Lib.frozen_of_heap ha6 4
      have HNQ6 := Lib.hid hnq6
      clear ha6 hnq6
      go_wp2_with fail
      go_cut [6] from 37 to 45 (fun a wx => a = .pointer (some ⟨A, 0, none⟩) ∧ Hid (Trip w5.heap.size A C D #[.slice none 0 0, .string q.table, .string q.join, .string q.left, .string q.right, .slice none 0 0, .slice none 0 0] (bareV q.table) (bareV q.table) w5 wx))
      case first =>
        go_region
        all_goals
          go_wp2_with fail
          go_meet
        all_goals
          refine ⟨rfl, Lib.hid ?_⟩
          have h := ((HT.out.setA (j := 2) (v := .string q.join)).setA (j := 3) (v := .string q.left)).setA (j := 4) (v := .string q.right)
          simpa [bareV] using h.drew
      case rest =>
        obtain ⟨rfl, HT7⟩ := hcut
        have hnq7 := (HT7.out.below.block _ hl5).trans HNQ5.out
        have hc7 := HT7.out.c
        have hd7 := HT7.out.d
        unfold bareV at hc7 hd7
        clear k2 k3 k4 m2 m3 m4 f2 f3 f4 HT HNQ6
        have k5 := (Lib.cell_of_heap hnq7 5).trans (rfl : _ = some (Value.slice wo q.wher.length cw))
        have k0 := (Lib.cell_of_heap hnq7 0).trans (rfl : _ = some (Value.slice io q.items.length ci))
        have m5 := (Lib.cell_of_heap hc7 5).trans (rfl : _ = some (Value.slice none 0 0))
        have m0 := (Lib.cell_of_heap hd7 0).trans (rfl : _ = some (Value.slice none 0 0))
        have f5 := Lib.frozen_of_heap hc7 5
        have f0 := Lib.frozen_of_heap hd7 0
        clear hnq7 hc7 hd7
        have hdc := HT7.out.cd
        go_upto_region 11 with fail
        have HT8 : Hid (Trip w5.heap.size A C D #[.slice none 0 0, .string q.table, .string q.join, .string q.left, .string q.right, .slice none 0 0, .slice none 0 0] #[.slice none 0 0, .string q.table, .string ⟨#[]⟩, .string ⟨#[]⟩, .string ⟨#[]⟩, .slice wo q.wher.length cw, .slice none 0 0] #[.slice io q.items.length ci, .string q.table, .string ⟨#[]⟩, .string ⟨#[]⟩, .string ⟨#[]⟩, .slice none 0 0, .slice none 0 0] w5 ((wc.setCell ⟨C, 5, none⟩ (.slice wo q.wher.length cw)).setCell ⟨D, 0, none⟩ (.slice io q.items.length ci))) := Lib.hid (by
          have h := (HT7.out.setC (j := 5) (v := .slice wo q.wher.length cw)).setD (j := 0) (v := .slice io q.items.length ci)
          simpa [bareV] using h)
        generalize (wc.setCell ⟨C, 5, none⟩ (.slice wo q.wher.length cw)).setCell ⟨D, 0, none⟩ (.slice io q.items.length ci) = W8 at *
        clear HT7 k0 k5 m0 m5 f0 f5 hdc
        have HG8 := Lib.hid (HG5.out.self HT8.out.below)
        have HQ8 := Lib.hid (HQ5.out.self HT8.out.below)
        have HB8 := Lib.hid (below_self HB5.out HT8.out.below)
        have ha8 := HT8.out.a
        have hcl : ∀ (j : Nat) v, (#[.slice none 0 0, .string q.table, .string q.join, .string q.left, .string q.right, .slice none 0 0, .slice none 0 0] : Array Value)[j]? = some v → W8.cell? ⟨A, j, none⟩ = some v := fun j v h => by rw [Lib.cell_of_heap ha8]; exact h
        have k0 := hcl 0 _ rfl
        have k1 := hcl 1 _ rfl
        have k2 := hcl 2 _ rfl
        have k3 := hcl 3 _ rfl
        have k4 := hcl 4 _ rfl
        have k5 := hcl 5 _ rfl
        have k6 := hcl 6 _ rfl
        clear hcl
        clear ha8
        have HP1 : Hid (Calls Tryz.prog 7 #[.agg #[.slice none 0 0, .string q.table, .string q.join, .string q.left, .string q.right, .slice none 0 0, .slice none 0 0]] W8 fun e w' => e = .returned (.tuple #[.string (frontT q (joinL q)), .int .i64 0]) ∧ Below W8.heap.size W8 w') := Lib.hid (by
          have := print_any (q := joinQ q) (io := none) (wo := none) (go := none) (icap := 0) (wcap := 0) (gcap := 0) HG8.out ⟨.inl rfl, .inl rfl, .inl rfl⟩ (join_q HOK.out).1 (join_q HOK.out).2 (Nat.le_refl _)
          rw [print_join HC.out] at this
          exact this)
        go_wp2_with (go_at_call 7; refine HP1.out.mono ?_; rintro e w9 ⟨rfl, hb9⟩; refine Hid.out ?_)
        refine Lib.hid ?_
        have HT9 := Lib.hid (HT8.out.next (Nat.le_refl _) hb9)
        have HG9 := Lib.hid (HG8.out.self hb9)
        have HQ9 := Lib.hid (HQ8.out.self hb9)
        have HB9 := Lib.hid (below_self HB8.out hb9)
        clear hb9 HT8 HG8 HQ8 HB8 HP1 k0 k1 k2 k3 k4 k5 k6
        have ha9 := HT9.out.c
        have hcl : ∀ (j : Nat) v, (#[.slice none 0 0, .string q.table, .string ⟨#[]⟩, .string ⟨#[]⟩, .string ⟨#[]⟩, .slice wo q.wher.length cw, .slice none 0 0] : Array Value)[j]? = some v → w9.cell? ⟨C, j, none⟩ = some v := fun j v h => by rw [Lib.cell_of_heap ha9]; exact h
        have k0 := hcl 0 _ rfl
        have k1 := hcl 1 _ rfl
        have k2 := hcl 2 _ rfl
        have k3 := hcl 3 _ rfl
        have k4 := hcl 4 _ rfl
        have k5 := hcl 5 _ rfl
        have k6 := hcl 6 _ rfl
        clear hcl
        clear ha9
        have HP2 : Hid (Calls Tryz.prog 7 #[.agg #[.slice none 0 0, .string q.table, .string ⟨#[]⟩, .string ⟨#[]⟩, .string ⟨#[]⟩, .slice wo q.wher.length cw, .slice none 0 0]] w9 fun e w' => e = .returned (.tuple #[.string (frontT q (whereL q)), .int .i64 0]) ∧ Below w9.heap.size w9 w') := Lib.hid (by
          have := print_any (q := whereQ q) (io := none) (wo := wo) (go := none) (icap := 0) (wcap := cw) (gcap := 0) HG9.out ⟨.inl rfl, HQ9.out.wher, .inl rfl⟩ (where_q HOK.out hnum).1 (where_q HOK.out hnum).2 (Nat.le_refl _)
          rw [print_where HC.out] at this
          exact this)
        go_wp2_with (go_at_call 7; refine HP2.out.mono ?_; rintro e w10 ⟨rfl, hb10⟩; refine Hid.out ?_)
        refine Lib.hid ?_
        have HT10 := Lib.hid (HT9.out.next (Nat.le_refl _) hb10)
        have HG10 := Lib.hid (HG9.out.self hb10)
        have HQ10 := Lib.hid (HQ9.out.self hb10)
        have HB10 := Lib.hid (below_self HB9.out hb10)
        clear hb10 HT9 HG9 HQ9 HB9 HP2 k0 k1 k2 k3 k4 k5 k6
        have ha10 := HT10.out.d
        have hcl : ∀ (j : Nat) v, (#[.slice io q.items.length ci, .string q.table, .string ⟨#[]⟩, .string ⟨#[]⟩, .string ⟨#[]⟩, .slice none 0 0, .slice none 0 0] : Array Value)[j]? = some v → w10.cell? ⟨D, j, none⟩ = some v := fun j v h => by rw [Lib.cell_of_heap ha10]; exact h
        have k0 := hcl 0 _ rfl
        have k1 := hcl 1 _ rfl
        have k2 := hcl 2 _ rfl
        have k3 := hcl 3 _ rfl
        have k4 := hcl 4 _ rfl
        have k5 := hcl 5 _ rfl
        have k6 := hcl 6 _ rfl
        clear hcl
        clear ha10
        have HP3 : Hid (Calls Tryz.prog 7 #[.agg #[.slice io q.items.length ci, .string q.table, .string ⟨#[]⟩, .string ⟨#[]⟩, .string ⟨#[]⟩, .slice none 0 0, .slice none 0 0]] w10 fun e w' => e = .returned (.tuple #[.string (frontT q (getL q)), .int .i64 0]) ∧ Below w10.heap.size w10 w') := Lib.hid (by
          have := print_any (q := getQ q) (io := io) (wo := none) (go := none) (icap := ci) (wcap := 0) (gcap := 0) HG10.out ⟨HQ10.out.items, .inl rfl, .inl rfl⟩ (get_q HOK.out hnum).1 (get_q HOK.out hnum).2 (Nat.le_refl _)
          rw [print_get HC.out] at this
          exact this)
        go_wp2_with (go_at_call 7; refine HP3.out.mono ?_; rintro e w11 ⟨rfl, hb11⟩; refine Hid.out ?_)
        refine Lib.hid ?_
        have HG11 := Lib.hid (HG10.out.self hb11)
        have HB11 := Lib.hid (below_self HB10.out hb11)
        clear hb11 HT10 HG10 HQ10 HB10 HP3 k0 k1 k2 k3 k4 k5 k6
        go_upto_region 15 with fail
        have hsm := front_small HC.out HOK.out hnum
        have HO := Lib.hid (orders HC.out HOK.out hnum)
        have hsF := front_size q []
        have hsJ := front_size q (joinL q)
        have hsW := front_size q (whereL q)
        have hsG := front_size q (getL q)
        have hcJ := front_cut q (joinL q)
        have hcW := front_cut q (whereL q)
        have hcG := front_cut q (getL q)
        rw [sfx_nil, Nat.add_zero] at hsF
        obtain ⟨hm0, hm1, hm2, hm3⟩ := hsm
        generalize frontT q [] = tF at *
        generalize frontT q (joinL q) = tJ at *
        generalize frontT q (whereL q) = tW at *
        generalize frontT q (getL q) = tG at *
        generalize frontN q = N at *
        generalize sfxT (joinL q) = J at *
        generalize sfxT (whereL q) = W at *
        generalize sfxT (getL q) = G at *
        have e0 := wrap_pred N hsF hm0
        have e1 := wrap_pred (N + J.size) hsJ hm1
        have e2 := wrap_pred (N + W.size) hsW hm2
        have e3 := wrap_pred (N + G.size) hsG hm3
        rw [e0]
        have d1 := wrap_pred2 (N + J.size) hsJ hm1
        have d2 := wrap_pred2 (N + W.size) hsW hm2
        have d3 := wrap_pred2 (N + G.size) hsG hm3
        have lF : N + 1 ≤ tF.size := by omega
        have lJ : N + J.size + 1 ≤ tJ.size := by omega
        have lW : N + W.size + 1 ≤ tW.size := by omega
        have lG : N + G.size + 1 ≤ tG.size := by omega
        clear e0 hsF hsJ hsW hsG
        go_quiet (fail)
        rw [hcJ, hcW, hcG]
        have zJ : J.size ≤ 6291464 := by omega
        have zW : W.size ≤ 6291464 := by omega
        have zG : G.size ≤ 6291464 := by omega
        have hb12 := bdn (Below.refl w11.heap.size w11) nq
        have HG12 := Lib.hid (HG11.out.self hb12)
        have HB12 := Lib.hid (below_self HB11.out hb12)
        clear hb12 hcJ hcW hcG e1 e2 e3 d1 d2 d3 HG11 HB11 lJ lW lG hm1 hm2 hm3
        generalize w11.drewN nq = W12 at *
        go_wp2_with fail
        have hn13 := heap_alloc_new W12 (.cells #[.string (W ++ J), .string (G ++ W), .string (G ++ J), .string (J ++ J), .string (W ++ W), .string (G ++ G)] 9)
        have hb13 := (Below.refl W12.heap.size W12).alloc (Nat.le_refl _) (.cells #[.string (W ++ J), .string (G ++ W), .string (G ++ J), .string (J ++ J), .string (W ++ W), .string (G ++ G)] 9)
        have HG13 := Lib.hid (HG12.out.self hb13)
        have HB13 := Lib.hid (below_self HB12.out hb13)
        have hl13 := (Array.getElem?_eq_some_iff.1 hn13).1
        have HN13 := Lib.hid hn13
        clear hb13 HG12 HB12 hn13
        generalize W12.alloc (.cells #[.string (W ++ J), .string (G ++ W), .string (G ++ J), .string (J ++ J), .string (W ++ W), .string (G ++ G)] 9) = W13 at *
        go_loopw [108] (fun i wr => ∃ k : Nat, i = .int .i64 k ∧ k ≤ 6 ∧ Hid (Below W13.heap.size W13 wr)) (fun i _ => 6 - (intOf i).toNat)
        case atStart => exact ⟨0, rfl, by decide, Lib.hid (Below.refl _ _)⟩
        case round =>
          obtain ⟨k, rfl, hk, HR⟩ := hrel
          by_cases hlt : k < 6
          · have hnr := (HR.out.block _ hl13).trans HN13.out
            have HGR := Lib.hid (HG13.out.self HR.out)
            obtain ⟨x, hx, hm⟩ : ∃ x : ByteArray, (#[.string (W ++ J), .string (G ++ W), .string (G ++ J), .string (J ++ J), .string (W ++ W), .string (G ++ G)] : Array Value)[k]? = some (.string x) ∧ x ∈ [W ++ J, G ++ W, G ++ J, J ++ J, W ++ W, G ++ G] := by
              match k, hlt with
              | 0, _ => exact ⟨_, rfl, by simp⟩
              | 1, _ => exact ⟨_, rfl, by simp⟩
              | 2, _ => exact ⟨_, rfl, by simp⟩
              | 3, _ => exact ⟨_, rfl, by simp⟩
              | 4, _ => exact ⟨_, rfl, by simp⟩
              | 5, _ => exact ⟨_, rfl, by simp⟩
            have hc := (Lib.cell_of_heap hnr k).trans hx
            have hlaw := HO.out x hm
            have hxs : x.size ≤ 12582928 := by
              simp only [List.mem_cons, List.not_mem_nil, or_false] at hm
              rcases hm with rfl | rfl | rfl | rfl | rfl | rfl <;> rw [ByteArray.size_append] <;> omega
            have HL := Lib.hid hlaw
            clear hnr hx hm hlaw
            cases b1 : (x.toList == J.toList) with
            | true =>
              go_wp2_with fail
              go_roundw
              case rel => exact ⟨k + 1, by go_num, by omega, HR⟩
              case measure => simp [intOf]; omega
            | false =>
              cases b2 : (x.toList == W.toList) with
              | true =>
                go_wp2_with fail
                go_roundw
                case rel => exact ⟨k + 1, by go_num, by omega, HR⟩
                case measure => simp [intOf]; omega
              | false =>
                cases b3 : (x.toList == G.toList) with
                | true =>
                  go_wp2_with fail
                  go_roundw
                  case rel => exact ⟨k + 1, by go_num, by omega, HR⟩
                  case measure => simp [intOf]; omega
                | false =>
                  have hy := HL.out.resolve_left (by
                    rintro (e | e | e)
                    · rw [e] at b1; simp at b1
                    · rw [e] at b2; simp at b2
                    · rw [e] at b3; simp at b3)
                  have hsz : (tF.extract 0 N ++ x ++ ⟨#[41]⟩).size ≤ 9223372036854775807 := by
                    rw [ByteArray.size_append, ByteArray.size_append, ByteArray.size_extract]
                    have : (ByteArray.mk #[41]).size = 1 := rfl
                    omega
                  have hP := Parse_any (tF.extract 0 N ++ x ++ ⟨#[41]⟩) _ HGR.out hsz
                  generalize parseR (tF.extract 0 N ++ x ++ ⟨#[41]⟩) = R at hP hy
                  obtain ⟨q2, y2, p2⟩ := R
                  simp only at hy
                  have hyb : (y2 == 0) = false := by simpa using hy
                  have HP := Lib.hid hP
                  clear hy hP HL hsz
                  go_wp2_with (go_at_call 18; refine HP.out.mono ?_; rintro e w15 ⟨v15, rfl, hv15, hb15⟩; refine Hid.out ?_)
                  refine Lib.hid ?_
                  obtain ⟨io5, ic5, wo5, wc5, go5, gc5, rfl, hq5⟩ := hv15.read
                  have HB15 := Lib.hid (HR.out.trans (hb15.mono HR.out.size))
                  clear hv15 hq5 hb15
                  go_wp2_with fail
                  go_roundw
                  case rel => exact ⟨k + 1, by go_num, by omega, Lib.hid (HB15.out.alloc HB15.out.size _)⟩
                  case measure => simp [intOf]; omega
          · obtain rfl : k = 6 := by omega
            go_wp2_with fail
            go_ret
            exact ⟨rfl, HB13.out.trans (HR.out.mono HB13.out.size)⟩
  · have h13 : checkR q = 13 := by
      unfold checkR at hc ⊢
      split
      · rfl
      · rename_i h
        rw [if_neg h] at hc
        exact absurd rfl hc
    have HCK := Lib.hid fun (w : World) (hG : PGlob w) (hR : QryIn q io wo go w) => check_any (icap := ci) (wcap := cw) (gcap := cg) hG hR hok
    rw [h13] at HCK
    clear hc hok h13
    go_enter Tryz.func5, Tryz.ntmps5
    unfold qryV at *
    go_upto_region 1 with fail
    generalize w.alloc (.cells #[.slice io q.items.length ci, .string q.table, .string q.join, .string q.left, .string q.right, .slice wo q.wher.length cw, .slice go q.group.length cg] 26) = W1 at *
    go_wp2_with (go_at_call 13; refine (lives3_any _ HG1.out).mono ?_; rintro e w2 ⟨rfl, hb2⟩; refine Hid.out ?_)
    refine Lib.hid ?_
    have HG2 := Lib.hid (HG1.out.self hb2)
    have HQ2 := Lib.hid (HQ1.out.self hb2)
    have HB2 := Lib.hid (below_self HB1.out hb2)
    have hn2 := (hb2.block _ hl1).trans HN1.out
    clear hb2 HG1 HQ1 HB1 HN1
    have hcl : ∀ (j : Nat) v, (#[.slice io q.items.length ci, .string q.table, .string q.join, .string q.left, .string q.right, .slice wo q.wher.length cw, .slice go q.group.length cg] : Array Value)[j]? = some v → w2.cell? ⟨w.heap.size, j, none⟩ = some v := fun j v h => by rw [Lib.cell_of_heap hn2]; exact h
    have k0 := hcl 0 _ rfl
    have k1 := hcl 1 _ rfl
    have k2 := hcl 2 _ rfl
    have k3 := hcl 3 _ rfl
    have k4 := hcl 4 _ rfl
    have k5 := hcl 5 _ rfl
    have k6 := hcl 6 _ rfl
    clear hcl hn2
    go_wp2_with (go_at_call 14; refine (HCK.out _ HG2.out HQ2.out).mono ?_; rintro e w3 ⟨rfl, hb3⟩; refine Hid.out ?_)
    refine Lib.hid ?_
    have HB3 := Lib.hid (below_self HB2.out hb3)
    clear hb3 HG2 HQ2 HB2 k0 k1 k2 k3 k4 k5 k6
    go_wp2_with fail
    go_ret
    exact ⟨rfl, HB3.out⟩
end Go.Proofs.YtegnoaejlhbpbaaGreatDoor.lx
