/-
  bind's Bind, its last loop: the two appends of 'b.Names, b.Kinds = append(..), append(..)'.
-/
import Derived.Test.YtgjfbbmachoolaaGreatDoorM16
namespace Go.Proofs.YtgjfbbmachoolaaGreatDoor.lx
open Go.RowKit
set_option linter.unusedVariables false
set_option linter.unusedSimpArgs false

/-- the bound query's block and the names and kinds so far -/
structure OS (Bb : Nat) (wS : World) (cs : Array Value) (ns : List ByteArray) (ks : List Int) (nv kv : Value) (w : World) : Prop where
 b : BSt Bb wS cs w
 n : NK wS.heap.size w ns ks nv kv
theorem OS.next {Bb : Nat} {wS w w' : World} {cs : Array Value} {ns : List ByteArray} {ks : List Int} {nv kv : Value} (h : OS Bb wS cs ns ks nv kv w) (hb : Below w.heap.size w w') : OS Bb wS cs ns ks nv kv w' := ⟨h.b.next hb, h.n.next hb⟩
theorem OS.base {Bb : Nat} {wS w : World} {cs : Array Value} {ns : List ByteArray} {ks : List Int} {nv kv : Value} (h : OS Bb wS cs ns ks nv kv w) : wS.heap.size ≤ w.heap.size := h.b.gb.size
theorem step_names {ops : Array Oper} {o : Oper} {a : Act} {w : World} {K : Act → World → Prop} {Q : Exit → Act → World → Prop} {E : Prop} (hg : o.guard = none) (s x : Operand)
  (hop : o.op = Op.call { callee := Callee.builtin Builtin.append, args := #[s, x], argTypes := #[24, 24] })
  {Bb : Nat} {wS : World} {cs : Array Value} {ns : List ByteArray} {ks : List Int} {na : Option Addr} {ncap : Nat} {kv : Value} {nm : ByteArray} {X : Nat}
  (h0 : OS Bb wS cs ns ks (.slice na ns.length ncap) kv w) (hbW : Bb < wS.heap.size) (hs : a.eval s = .slice na ns.length ncap) (hx : a.eval x = .slice (some ⟨X, 0, none⟩) 1 1) (hl : Lies 1 (some ⟨X, 0, none⟩) 1 [.string nm] w) (hn : ns.length ≤ 1099511627776)
  (h : ∀ so cap w', OS Bb wS cs (ns ++ [nm]) ks (.slice so (ns.length + 1) cap) kv w' → w.grownBy w' (Value.slice na ns.length ncap).ownBlock → K (a.put o.dst (.slice so (ns.length + 1) cap)) w') :
  if Region.wanted o (yielded ops a.tmps) = true then Oper.wp Tryz.prog o a w K Q else E := by
 obtain ⟨i0, hi0, hz0, hz1, hz2⟩ := info_parts infoStr
 refine step_append_lying hg s x 24 hop wS.heap.size 9 i0 _ 1 16 Tryz.underlying24 hi0 hz0 hz1 hz2 rfl (by decide) (.slice na ns.length ncap) ns.length (ns.map Value.string) hs h0.n.n (some ⟨X, 0, none⟩) 1 1 [.string nm] hx hl (by unfold maxLen; omega) (by omega) h0.base ?_
 intro v7 w7 hown7 hg7 hat7
 obtain ⟨so7, cap7, rfl⟩ := own_shape hown7
 exact h so7 cap7 w7 ⟨h0.b.own hg7 (own_base h0.n.n) hbW, h0.n.putN hown7 hg7 hat7⟩ hg7
theorem step_kinds {ops : Array Oper} {o : Oper} {a : Act} {w : World} {K : Act → World → Prop} {Q : Exit → Act → World → Prop} {E : Prop} (hg : o.guard = none) (s x : Operand)
  (hop : o.op = Op.call { callee := Callee.builtin Builtin.append, args := #[s, x], argTypes := #[30, 30] })
  {Bb : Nat} {wS : World} {cs : Array Value} {ns : List ByteArray} {ks : List Int} {ka : Option Addr} {kcap : Nat} {nv : Value} {kd : Int} {X : Nat}
  (h0 : OS Bb wS cs ns ks nv (.slice ka ks.length kcap) w) (hbW : Bb < wS.heap.size) (hs : a.eval s = .slice ka ks.length kcap) (hx : a.eval x = .slice (some ⟨X, 0, none⟩) 1 1) (hl : Lies 1 (some ⟨X, 0, none⟩) 1 [.int .u8 kd] w) (hn : ks.length ≤ 1099511627776)
  (h : ∀ so cap w', OS Bb wS cs ns (ks ++ [kd]) nv (.slice so (ks.length + 1) cap) w' → K (a.put o.dst (.slice so (ks.length + 1) cap)) w') :
  if Region.wanted o (yielded ops a.tmps) = true then Oper.wp Tryz.prog o a w K Q else E := by
 obtain ⟨i0, hi0, hz0, hz1, hz2⟩ := info_parts infoK
 refine step_append_lying hg s x 30 hop wS.heap.size 45 i0 _ 1 1 Tryz.underlying30 hi0 hz0 hz1 hz2 rfl (by decide) (.slice ka ks.length kcap) ks.length (kCells ks) hs h0.n.k (some ⟨X, 0, none⟩) 1 1 [.int .u8 kd] hx hl (by unfold maxLen; omega) (by omega) h0.base ?_
 intro v7 w7 hown7 hg7 hat7
 obtain ⟨so7, cap7, rfl⟩ := own_shape hown7
 exact h so7 cap7 w7 ⟨h0.b.own hg7 (own_base h0.n.k) hbW, h0.n.putK hown7 hg7 hat7⟩
/-- the two cells written -/
theorem OS.stores {Bb : Nat} {wS w : World} {t j : ByteArray} {wd lf rt : Int} {ao ga ia : Option Addr} {wn wc gn gc im ic : Nat} {gr : Bool} {na ka na' ka' : Option Addr} {nn nc kn kc nn' nc' kn' kc' : Nat} {ns : List ByteArray} {ks : List Int} {nv kv : Value}
  (h : OS Bb wS (bndC t j wd lf rt ao wn wc ga gn gc ia im ic gr na nn nc ka kn kc) ns ks nv kv w) (hbW : Bb < wS.heap.size) :
  OS Bb wS (bndC t j wd lf rt ao wn wc ga gn gc ia im ic gr na' nn' nc' ka' kn' kc') ns ks nv kv ((w.setCell ⟨Bb, 9, none⟩ (.slice na' nn' nc')).setCell ⟨Bb, 10, none⟩ (.slice ka' kn' kc')) :=
 ⟨((h.b.set 9 (.slice na' nn' nc')).set 10 (.slice ka' kn' kc')).eq rfl, (h.n.gb (setB_gb (b := Bb) (j := 9) (v := .slice na' nn' nc')) hbW).gb (setB_gb (b := Bb) (j := 10) (v := .slice ka' kn' kc')) hbW⟩
end Go.Proofs.YtgjfbbmachoolaaGreatDoor.lx
