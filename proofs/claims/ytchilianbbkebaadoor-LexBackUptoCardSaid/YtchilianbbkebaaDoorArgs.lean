/-
  Arguments as they read: rows of tokens. No condition.
-/
import Derived.Test.YtchilianbbkebaaDoorBack
import Derived.Test.YtchilianbbkebaaDoorCarry
namespace Go.Proofs.YtchilianbbkebaaDoor.lx
open Go.ChangeShapes Go.WideShapes Go.Deep Go.RowKit

def TokAt (W : World) (a : Addr) (i : Nat) (t : Tok) : Prop :=
  W.cell? (a.add (i * 4 + 0)) = some (.int .u8 t.k) ∧ W.cell? (a.add (i * 4 + 1)) = some (.string t.s) ∧ W.cell? (a.add (i * 4 + 2)) = some (.int .i64 t.n) ∧ W.cell? (a.add (i * 4 + 3)) = some (.int .i64 t.a) ∧
    (Lit.int .u8 t.k).wf = true ∧ (Lit.int .i64 t.n).wf = true ∧ (Lit.int .i64 t.a).wf = true
def TokD {H : Type} (t : Tok) : DataW H := .agg [.lit (.int .u8 t.k), .lit (.string t.s.data.toList), .lit (.int .i64 t.n), .lit (.int .i64 t.a)]
theorem TokD_bulk {H : Type} (t : Tok) : Rows.uptoBulk (TokD (H := H) t) = t.s.size + 5 := by
  have := Lib.size_eq t.s
  simp only [TokD, Rows.uptoBulk, Rows.uptoBulkAll]
  omega

set_option maxRecDepth 100000 in
theorem open_toks {H : Type} {enc : TypeId × Value → H} {W : World} {r : Reach} {base : Nat} {v : Value} {d : DataW H} {ps : List MemPlace} (hval : Value.okWide Tryd.prog W r base 25 v)
    (h : DataW.Trod enc Tryd.prog W 0 (fun _ => true) true 25 v d ps) :
    ∃ ao L cap, v = .slice ao L.length cap ∧ ARow ao L W ∧ L.length ≤ Rows.uptoBulk d ∧ ∀ t ∈ L, (Lit.int .u8 t.k).wf = true ∧ (Lit.int .i64 t.n).wf = true ∧ (Lit.int .i64 t.a).wf = true ∧ t.s.size ≤ Rows.uptoBulk d := by
  obtain ⟨sa, len, cap, rfl⟩ := okWide_slice Tryd.underlying25 hval
  obtain ⟨fuel, hf⟩ := h
  have hcells : (Value.slice sa len cap).cells.toList = [.slice sa len cap] := by simp [Value.cells]
  rw [hcells] at hf
  rcases open_slice_fields Tryd.underlying25 Tryd.underlying24 (by kernel_rfl) (by kernel_rfl) hf with ⟨hcs, hx⟩ | ⟨a, len', cap', m, D, Pl, hcs, hb, hl, hm, hmm, hx, hi⟩
  · obtain ⟨rfl, rfl, rfl⟩ : sa = none ∧ len = 0 ∧ cap = 0 := by simpa using hcs
    exact ⟨none, [], 0, rfl, .inl rfl, Nat.zero_le _, fun t ht => by cases ht⟩
  · obtain ⟨rfl, rfl, rfl⟩ : sa = some a ∧ len = len' ∧ cap = cap' := by simpa using hcs
    have hmc : m = cap := by rw [hmm, if_pos rfl]
    subst hmc
    have hd : d = .slice ((List.range len).map D) ((List.range (m - len)).map fun j => D (len + j)) := congrArg Prod.fst hx
    have hall : ∀ i, ∃ t : Tok, i < m → TokAt W a i t ∧ D i = TokD t := by
      intro i
      by_cases him : i < m
      · obtain ⟨ys, n, hD, _, hys, hfld⟩ := hi i him
        obtain ⟨v0, y0, c0, e0, t0⟩ := hfld 0 _ rfl
        obtain ⟨v1, y1, c1, e1, t1⟩ := hfld 1 _ rfl
        obtain ⟨v2, y2, c2, e2, t2⟩ := hfld 2 _ rfl
        obtain ⟨v3, y3, c3, e3, t3⟩ := hfld 3 _ rfl
        obtain ⟨k, hk, rfl, wk⟩ := DataW.trod_int Tryd.underlying22 t0
        obtain ⟨s, hs, rfl, ws⟩ := DataW.trod_string Tryd.underlying9 t1
        obtain ⟨nn, hn, rfl, wn⟩ := DataW.trod_int Tryd.underlying2 t2
        obtain ⟨aa, ha, rfl, wa⟩ := DataW.trod_int Tryd.underlying3 t3
        obtain rfl : v0 = .int .u8 k := by simpa using hk
        obtain rfl : v1 = .string s := by simpa using hs
        obtain rfl : v2 = .int .i64 nn := by simpa using hn
        obtain rfl : v3 = .int .i64 aa := by simpa using ha
        refine ⟨⟨k, s, nn, aa⟩, fun _ => ⟨⟨c0, c1, c2, c3, wk, wn, wa⟩, ?_⟩⟩
        rw [hD]
        have hys4 : ys.length = 4 := hys
        match ys, hys4, e0, e1, e2, e3 with
        | [z0, z1, z2, z3], _, e0, e1, e2, e3 =>
          simp at e0 e1 e2 e3
          rw [e0, e1, e2, e3]
          rfl
      · exact ⟨Tok.no, fun hh => absurd hh him⟩
    obtain ⟨f, hf2⟩ := Classical.skolem.1 hall
    refine ⟨some a, (List.range len).map f, m, by simp, ?_, ?_, ?_⟩
    · by_cases h0 : len = 0
      · exact .inl (by simp [h0])
      · right
        obtain ⟨⟨c0, _⟩, _⟩ := hf2 0 (by omega)
        obtain ⟨b, o, sp⟩ := a
        obtain rfl : sp = none := spot_of c0
        refine ⟨b, o, rfl, fun i t ht => ?_⟩
        rw [List.getElem?_map] at ht
        obtain ⟨i', hi', rfl⟩ := Option.map_eq_some_iff.1 ht
        obtain ⟨hlt, rfl⟩ : i < len ∧ i = i' := by
          obtain ⟨q1, q2⟩ := List.getElem?_eq_some_iff.1 hi'
          simp at q1 q2
          exact ⟨q1, q2⟩
        obtain ⟨⟨c0, c1, c2, c3, _⟩, _⟩ := hf2 i (by omega)
        simp only [add_none] at c0 c1 c2 c3
        exact ⟨c0, c1, c2, c3⟩
    · rw [hd]
      have := bulks.slice_le ((List.range len).map D) ((List.range (m - len)).map fun j => D (len + j))
      simp only [List.length_map, List.length_range] at this ⊢
      omega
    · intro t ht
      obtain ⟨i, hi', rfl⟩ := List.mem_map.1 ht
      rw [List.mem_range] at hi'
      obtain ⟨⟨_, _, _, _, w1, w2, w3⟩, hD⟩ := hf2 i (by omega)
      refine ⟨w1, w2, w3, ?_⟩
      have h1 := bulks.slice_elems ((List.range len).map D) ((List.range (m - len)).map fun j => D (len + j))
      have h2 := bulks.part_le (d := D i) (l := (List.range len).map D) (List.mem_map.2 ⟨i, List.mem_range.2 hi', rfl⟩)
      rw [hD, TokD_bulk] at h2
      rw [hd]
      omega
end Go.Proofs.YtchilianbbkebaaDoor.lx
