/-
  The reference's quoted. Conditions: the row lies there; its runes are runes; it begins with a mark.
-/
import Derived.Test.YtfndfhhimhcakaaDoorREsc
import Derived.Test.YtfndfhhimhcakaaDoorRNumW
namespace Go.Proofs.YtfndfhhimhcakaaDoor.lx
open Go.RowKit

/-- a bad glyph is the rune 65533 -/
def okR (gs : List G) : Prop := ∀ g ∈ gs, validR g.1 ∧ (g.2 = false → g.1 = 65533)
theorem okR.drop {gs : List G} (h : okR gs) (k : Nat) : okR (gs.drop k) := fun g hg => h g (List.mem_of_mem_drop hg)
theorem okR.take {gs : List G} (h : okR gs) (k : Nat) : okR (gs.take k) := fun g hg => h g (List.mem_of_mem_take hg)
/-- what a token comes to: how many glyphs it has; 0: it is none -/
def cntG (l : List G) (r : (Tok × Int) × List G) : Int := if r.1.2 = 0 then ((l.length - r.2.length : Nat) : Int) else 0

theorem escR_lt {r x : Int} (h : escR r = some x) : r < 128 := by
  unfold escR at h
  split at h
  · omega
  split at h
  · omega
  split at h
  · omega
  split at h
  · omega
  · cases h
theorem codeG_low {gs r : List G} {n : Nat} (h : codeG gs = some (n, r)) : ∃ p, gs = p ++ r ∧ p ≠ [] ∧ ∀ g ∈ p, g.1 < 128 := by
  unfold codeG at h
  cases gs with
  | nil => cases h
  | cons g gs =>
    simp only at h
    split at h
    · rename_i hg
      have hsp : (gs.takeWhile fun g => isHexR g.1) ++ (gs.dropWhile fun g => isHexR g.1) = gs := List.takeWhile_append_dropWhile
      revert h
      cases hd : gs.dropWhile fun g => isHexR g.1 with
      | nil => intro h; cases h
      | cons e rest =>
        simp only
        intro h
        split at h
        · rename_i hc
          injection h with h; injection h with h1 h2
          subst h2
          rw [hd] at hsp
          refine ⟨g :: ((gs.takeWhile fun g => isHexR g.1) ++ [e]), ?_, by simp, ?_⟩
          · rw [List.cons_append, List.append_assoc]
            show g :: gs = g :: ((gs.takeWhile fun g => isHexR g.1) ++ (e :: rest))
            rw [hsp]
          · intro x hx
            rcases List.mem_cons.1 hx with rfl | hx
            · omega
            rcases List.mem_append.1 hx with hx | hx
            · have := mem_takeWhile hx
              exact isHexR_lt _ this
            · rw [List.mem_singleton.1 hx]; omega
        · cases h
    · cases h
theorem escG_low {gs : List G} {x : Int} {r : List G} (h : escG gs = (some x, r)) : ∃ p, gs = p ++ r ∧ p ≠ [] ∧ ∀ g ∈ p, g.1 < 128 := by
  cases gs with
  | nil => cases h
  | cons g gs =>
    rw [escG_cons] at h
    by_cases h117 : g.1 = 117
    · rw [if_pos h117] at h
      cases hc : codeG gs with
      | none => rw [hc] at h; cases h
      | some y =>
        obtain ⟨n, r'⟩ := y
        rw [hc] at h
        simp only at h
        injection h with h1 h2
        subst h2
        obtain ⟨p, e1, e2, e3⟩ := codeG_low hc
        refine ⟨g :: p, by rw [e1]; rfl, by simp, ?_⟩
        intro y hy
        rcases List.mem_cons.1 hy with rfl | hy
        · omega
        · exact e3 y hy
    · rw [if_neg h117] at h
      injection h with h1 h2
      subst h2
      exact ⟨[g], rfl, by simp, fun y hy => by rw [List.mem_singleton.1 hy]; exact escR_lt h1⟩
theorem escN_some {gs : List G} {x : Int} {r : List G} (h : escG gs = (some x, r)) : escN gs = (x, ((gs.length - r.length : Nat) : Int)) := by unfold escN; rw [h]
theorem escN_none {gs r : List G} (h : escG gs = (none, r)) : escN gs = (0, 0) := by unfold escN; rw [h]
theorem escG_val {gs : List G} {x : Int} {r : List G} (hv : okR gs) (h : escG gs = (some x, r)) : validR x := by
  cases gs with
  | nil => cases h
  | cons g gs =>
    rw [escG_cons] at h
    by_cases h117 : g.1 = 117
    · rw [if_pos h117] at h
      cases hc : codeG gs with
      | none => rw [hc] at h; cases h
      | some y =>
        obtain ⟨n, r'⟩ := y
        rw [hc] at h
        simp only at h
        injection h with h1 h2
        injection h1 with h1
        subst h1
        unfold codeG at hc
        split at hc
        · cases hc
        · split at hc
          · split at hc
            · cases hc
            · split at hc
              · rename_i hcc
                injection hc with hc; injection hc with hc1 hc2
                have := hcc.2.2.2
                rw [hc1] at this
                simp [Lib.validRune] at this
                unfold validR
                omega
              · cases hc
          · cases hc
    · rw [if_neg h117] at h
      injection h with h1 h2
      unfold escR at h1
      unfold validR
      split at h1
      · injection h1 with h1; omega
      split at h1
      · injection h1 with h1; omega
      split at h1
      · injection h1 with h1; omega
      split at h1
      · injection h1 with h1; omega
      · cases h1

/-- where the loop of quoted stands -/
def QAt (l : List G) (n : Nat) (O : List G) : Prop :=
  tokG l = textG ((l.take n).all (·.2)) (runeB O) (l.drop n) ∧ ∀ g ∈ O, 0 ≤ g.1
theorem QAt.start (g : G) (gs : List G) (h : g.1 = 34) : QAt (g :: gs) 1 [] := by
  refine ⟨?_, fun g hg => by cases hg⟩
  rw [tokG_cons, if_neg (by omega), if_neg (by omega), if_pos h]
  simp [runeB]
theorem QAt.rune {l O : List G} {n : Nat} {g : G} (h : QAt l n O) (hv : okR l) (hg : l[n]? = some g) (h34 : g.1 ≠ 34) (h92 : g.1 ≠ 92) : QAt l (n + 1) (O ++ [g]) := by
  obtain ⟨h1, h2⟩ := h
  have hlt := (List.getElem?_eq_some_iff.1 hg).1
  have hd : l.drop n = g :: l.drop (n + 1) := by
    rw [List.drop_eq_getElem_cons hlt]
    congr 1
    exact Option.some.inj ((List.getElem?_eq_getElem hlt).symm.trans hg)
  refine ⟨?_, fun x hx => ?_⟩
  · rw [h1, hd, textG]
    rw [if_neg h34, if_neg h92, List.take_add_one, hg, List.all_append]
    simp [runeB]
  · rcases List.mem_append.1 hx with hx | hx
    · exact h2 x hx
    · rw [List.mem_singleton.1 hx]
      exact (hv g (List.mem_of_getElem? hg)).1.1
theorem QAt.esc {l O : List G} {n : Nat} {g : G} {x : Int} {r : List G} (h : QAt l n O) (hv : okR l) (hg : l[n]? = some g) (h92 : g.1 = 92) (he : escG (l.drop (n + 1)) = (some x, r)) :
    QAt l (n + 1 + ((l.drop (n + 1)).length - r.length)) (O ++ [(x, true)]) ∧ n + 1 + ((l.drop (n + 1)).length - r.length) ≤ l.length ∧ 1 ≤ (l.drop (n + 1)).length - r.length := by
  obtain ⟨h1, h2⟩ := h
  have hlt := (List.getElem?_eq_some_iff.1 hg).1
  have hd : l.drop n = g :: l.drop (n + 1) := by
    rw [List.drop_eq_getElem_cons hlt]
    congr 1
    exact Option.some.inj ((List.getElem?_eq_getElem hlt).symm.trans hg)
  obtain ⟨p, e1, e2, e3⟩ := escG_low he
  have hp1 : 1 ≤ p.length := List.length_pos_iff.2 e2
  have hk : (l.drop (n + 1)).length - r.length = p.length := by rw [e1, List.length_append]; omega
  rw [hk]
  have hle : (l.drop (n + 1)).length = p.length + r.length := by rw [e1, List.length_append]
  rw [List.length_drop] at hle
  have hdr : l.drop (n + 1 + p.length) = r := by
    rw [← List.drop_drop, e1, List.drop_left]
  have htk : l.take (n + 1 + p.length) = l.take n ++ (g :: p) := by
    have hl : l = l.take n ++ (g :: (p ++ r)) := by
      conv => lhs; rw [← List.take_append_drop n l, hd, e1]
    have hn : (l.take n).length = n := by rw [List.length_take]; omega
    generalize l.take n = A at hl hn
    subst hl
    have e : A ++ g :: (p ++ r) = (A ++ g :: p) ++ r := by simp
    rw [e]
    exact List.take_left' (by simp; omega)
  have hok : (g :: p).all (·.2) = true := by
    rw [List.all_eq_true]
    intro y hy
    have hmem : y ∈ l := by
      rcases List.mem_cons.1 hy with rfl | hy
      · exact List.mem_of_getElem? hg
      · have : y ∈ l.drop (n + 1) := by rw [e1]; exact List.mem_append_left _ hy
        exact List.mem_of_mem_drop this
    have hlow : y.1 < 128 := by
      rcases List.mem_cons.1 hy with rfl | hy
      · omega
      · exact e3 y hy
    cases h2' : y.2 with
    | true => rfl
    | false => have := (hv y hmem).2 h2'; omega
  refine ⟨⟨?_, fun y hy => ?_⟩, by omega, hp1⟩
  · rw [h1, hd, textG]
    rw [if_neg (by omega), if_pos h92, he]
    simp only [Option.isSome_some, if_true, Option.getD_some]
    rw [htk, hdr, List.all_append, hok, Bool.and_true]
    simp [runeB]
  · rcases List.mem_append.1 hy with hy | hy
    · exact h2 y hy
    · rw [List.mem_singleton.1 hy]
      exact (escG_val (hv.drop _) he).1

theorem results_cell2 {fn : Func} {p u v : Tmp} {ty : TypeId} (h : fn.results = #[.cell p ty, .tmp u, .tmp v]) (tmps : Array Value) (P : Program) (w : World) :
    (results fn tmps).run P w = ((asAddr (tmps.getD p undef)).run P w).andThen fun a w₁ => ((loadVar ty a).run P w₁).andThen fun x w₂ => .ok (.tuple #[x, tmps.getD u undef, tmps.getD v undef]) w₂ := by
  simp only [results, h]
  simp [Sem.run_bind, Result.andThen]
theorem results43 {fn : Func} {q u u2 : Tmp} (hf : fn.results = #[.cell q 24, .tmp u, .tmp u2]) {tmps : Array Value} {B : Nat} {t : Tok} {w : World} {x y : Value} (h : Cell4 B t w)
    (hq : tmps.getD q undef = .pointer (some ⟨B, 0, none⟩)) (hu : tmps.getD u undef = x) (hu2 : tmps.getD u2 undef = y) : (results fn tmps).run Tryd.prog w = .ok (.tuple #[t.v, x, y]) w := by
  rw [results_cell2 hf, hq, hu, hu2]
  simp [go_sem, h.c0, h.c1, h.c2, h.c3, Tok.v]
end Go.Proofs.YtfndfhhimhcakaaDoor.lx
