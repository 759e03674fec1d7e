/-
  A token as an argument, as it reads. No condition.
-/
import Derived.Test.YtfndfhhimhcakaaDoorCarry
import Derived.Test.YtfndfhhimhcakaaDoorText
import Derived.Lib.SmallJoins
namespace Go.Proofs.YtfndfhhimhcakaaDoor.lx
open Go.ChangeShapes Go.WideShapes Go.Deep Go.RowKit

set_option maxRecDepth 100000 in
theorem open_tok {H : Type} {enc : TypeId × Value → H} {W : World} {r : Reach} {base : Nat} {v : Value} {d : DataW H} {ps : List MemPlace} (hval : Value.okWide Tryd.prog W r base 24 v)
    (h : DataW.Trod enc Tryd.prog W 0 (fun _ => true) true 24 v d ps) :
    ∃ t : Tok, v = t.v ∧ (Lit.int .i64 t.n).wf = true ∧ t.s.size ≤ Rows.uptoBulk d := by
  obtain ⟨v0, v1, v2, v3, y0, y1, y2, y3, n, rfl, rfl, rfl, t0, t1, t2, t3⟩ := Go.Joins.open_agg4 Tryd.underlying24 (by kernel_rfl) (by kernel_rfl) hval h
  obtain ⟨k, hk, e0, wk⟩ := DataW.trod_int Tryd.underlying22 t0
  obtain ⟨s, hs, e1, ws⟩ := DataW.trod_string Tryd.underlying9 t1
  obtain ⟨nn, hn, e2, wn⟩ := DataW.trod_int Tryd.underlying2 t2
  obtain ⟨aa, ha, e3, wa⟩ := DataW.trod_int Tryd.underlying3 t3
  obtain rfl : v0 = .int .u8 k := by simpa using hk
  obtain rfl : v1 = .string s := by simpa using hs
  obtain rfl : v2 = .int .i64 nn := by simpa using hn
  obtain rfl : v3 = .int .i64 aa := by simpa using ha
  refine ⟨⟨k, s, nn, aa⟩, rfl, wn, ?_⟩
  have := Lib.size_eq s
  rw [e0, e1, e2, e3]
  simp only [Rows.uptoBulk, Rows.uptoBulkAll]
  omega
end Go.Proofs.YtfndfhhimhcakaaDoor.lx
