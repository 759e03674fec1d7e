/-
  lives: the answers that the document gives. Conditions: the package-level variables are laid.
-/
import Derived.Test.YtfndfhhimhcakaaDoorShow
namespace Go.Proofs.YtfndfhhimhcakaaDoor.lx
open Go.RowKit

abbrev live1 : List Tok := [⟨1, ⟨#[]⟩, 0, 0⟩, ⟨3, ⟨#[195, 169]⟩, 0, 1⟩, ⟨5, ⟨#[97, 195, 169]⟩, 0, 3⟩, ⟨4, ⟨#[]⟩, -7, 13⟩, ⟨2, ⟨#[]⟩, 0, 15⟩]
set_option maxRecDepth 100000 in
theorem lex_live1 : lexR ⟨#[40, 195, 169, 32, 34, 97, 92, 117, 123, 101, 57, 125, 34, 32, 45, 55, 41, 32, 59, 120]⟩ = (live1, 0, 0) := by kernel_rfl
set_option maxRecDepth 100000 in
theorem lex_live2 : lexR ⟨#[195, 169, 32, 48, 49]⟩ = ([], 13, 2) := by kernel_rfl
set_option maxRecDepth 100000 in
theorem quot_live : quotF ⟨#[34, 10]⟩ = ⟨#[34, 92, 34, 92, 117, 123, 97, 125, 34]⟩ := by kernel_rfl
set_option maxRecDepth 100000 in
theorem lex_live3 : lexR ⟨#[34, 92, 34, 92, 117, 123, 97, 125, 34]⟩ = ([⟨5, ⟨#[34, 10]⟩, 0, 0⟩], 0, 0) := by kernel_rfl
theorem show_live : showF ⟨5, ⟨#[34, 10]⟩, 0, 0⟩ = (⟨#[34, 92, 34, 92, 117, 123, 97, 125, 34]⟩, 0) := by
  have hS : showS ⟨5, ⟨#[34, 10]⟩, 0, 0⟩ = ⟨#[34, 92, 34, 92, 117, 123, 97, 125, 34]⟩ := quot_live
  rw [showF, if_pos (by rw [showOk, hS, lex_live3]; exact ⟨rfl, rfl⟩), hS]
set_option maxHeartbeats 8000000 in
set_option maxRecDepth 100000 in
theorem lives_any (w : World) (hG : Glob w) :
    Calls Tryd.prog 8 #[] w fun e w' => e = .returned (.bool true) ∧ Below w.heap.size w w' := by
  have hL1 := Lex_any ⟨#[40, 195, 169, 32, 34, 97, 92, 117, 123, 101, 57, 125, 34, 32, 45, 55, 41, 32, 59, 120]⟩ w hG (by decide)
  rw [lex_live1] at hL1
  have hL2 := fun w hG => Lex_any ⟨#[195, 169, 32, 48, 49]⟩ w hG (by decide)
  rw [lex_live2] at hL2
  have hL3 := fun w hG => Show_any ⟨5, ⟨#[34, 10]⟩, 0, 0⟩ w hG (by decide) (by decide) (by decide)
  rw [show_live] at hL3
  simp only [Tok.v] at hL1 hL2 hL3
  go_enter Tryd.func8, Tryd.ntmps8
  go_wp2_with (go_at_call 4; refine hL1.mono ?_; rintro e w1 ⟨v, rfl, hown, hb1⟩; refine Hid.out ?_)
  refine Lib.hid ?_
  obtain ⟨ao, cap, rfl, hrow⟩ := own_slice hown
  obtain ⟨g, rfl, hBg, hg, hc⟩ := hrow.resolve_left (by decide)
  have hG1 := hG.self hb1
  clear hrow hown hL1
  go_wp2_with (go_at_call 4; refine (hL2 _ hG1).mono ?_; rintro e w2 ⟨v2, rfl, hown2, hb2⟩; refine Hid.out ?_)
  refine Lib.hid ?_
  clear hown2 hL2
  have hG2 := hG1.self hb2
  go_wp2_with (go_at_call 6; refine (hL3 _ hG2).mono ?_; rintro e w3 ⟨rfl, hb3⟩; refine Hid.out ?_)
  refine Lib.hid ?_
  have hb := below_self (below_self hb1 hb2) hb3
  clear hL3
  have hc3 : ∀ (j : Nat) u, (tokCells live1)[j]? = some u → w3.cell? ⟨g, j, none⟩ = some u := fun j u h =>
    (World.cell?_of_block (a := ⟨g, j, none⟩) ((hb3.block g (Nat.lt_of_lt_of_le hg hb2.size)).trans (hb2.block g hg))).trans (hc j u h)
  have c5 := hc3 5 _ rfl
  have c9 := hc3 9 _ rfl
  have c14 := hc3 14 _ rfl
  have c15 := hc3 15 _ rfl
  have c16 := hc3 16 _ rfl
  clear hc hc3 hb1 hb2 hb3
  go_wp2_with fail
  go_ret
  exact ⟨rfl, hb⟩
end Go.Proofs.YtfndfhhimhcakaaDoor.lx
