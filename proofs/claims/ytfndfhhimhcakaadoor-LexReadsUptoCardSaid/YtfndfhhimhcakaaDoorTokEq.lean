/-
  Tokens compared: '==' and '!=' of two tokens' values. No condition.
-/
import Derived.Test.YtfndfhhimhcakaaDoorText
import Derived.Laws.StructEq
namespace Go.Proofs.YtfndfhhimhcakaaDoor.lx
open Go.RowKit
instance : DecidableEq Tok := fun a b =>
  if h : a.k = b.k ∧ a.s = b.s ∧ a.n = b.n ∧ a.a = b.a then isTrue (by cases a; cases b; simp only at h; obtain ⟨rfl, rfl, rfl, rfl⟩ := h; rfl)
  else isFalse (by intro e; subst e; exact h ⟨rfl, rfl, rfl, rfl⟩)

theorem tok_eqIn (x y : Tok) (w : World) : (Op.equalIn 10000 24 x.v y.v).run Tryd.prog w = .ok (decide (x = y)) w := by
  obtain ⟨k, s, n, a⟩ := x
  obtain ⟨k', s', n', a'⟩ := y
  unfold Tok.v
  have hs : (s.toList = s'.toList) ↔ s = s' := ⟨fun h => ByteArray.ext (Array.toList_inj.1 (by simpa [Lib.toList_data] using h)), fun h => by rw [h]⟩
  simp [go_sem, hs]
  by_cases h1 : k = k' <;> by_cases h2 : s = s' <;> by_cases h3 : n = n' <;> by_cases h4 : a = a' <;> simp [h1, h2, h3, h4]

theorem tok_eq (x y : Tok) (w : World) : (binOp .eql 24 x.v y.v).run Tryd.prog w = .ok (.bool (decide (x = y))) w := by
  rw [Tok.v, Tok.v, run_eql_struct, ← Tok.v, ← Tok.v, tok_eqIn]; rfl
theorem tok_neq (x y : Tok) (w : World) : (binOp .neq 24 x.v y.v).run Tryd.prog w = .ok (.bool (decide (x ≠ y))) w := by
  rw [Tok.v, Tok.v, run_neq_struct, ← Tok.v, ← Tok.v, tok_eqIn]
  by_cases h : x = y <;> simp [Result.andThen, h]
end Go.Proofs.YtfndfhhimhcakaaDoor.lx
