/-
  The reference's next, walked. Conditions: the row lies there; its runes are runes; it begins with no blank.
-/
import Derived.Test.YtfndfhhimhcakaaDoorRWordW
import Derived.Test.YtfndfhhimhcakaaDoorSep
namespace Go.Proofs.YtfndfhhimhcakaaDoor.lx
open Go.RowKit

theorem cntG_word (l : List G) : (if (wordG (bareG l)).2 = 0 then ((bareG l).length : Int) else 0) = cntG l (wordG (bareG l), bareR l) := by
  unfold cntG
  rw [bareR_len]

set_option maxHeartbeats 16000000 in
set_option maxRecDepth 100000 in
theorem rnext_any (l : List G) (ao : Option Addr) (cap : Nat) (w : World) (hR : GRow ao l w) (hv : okR l) (hl : l.length ≤ 4096) (hc : l.length ≤ cap) (hm : cap ≤ 9223372036854775807) (hne : l ≠ []) (hf : firm l) :
    Calls Tryd.prog 14 #[.slice ao l.length cap] w fun e w' => e = .returned (.tuple #[(tokG l).1.1.v, .int .i64 (cntG l (tokG l)), .int .i64 (tokG l).1.2]) ∧ Below w.heap.size w w' := by
  obtain ⟨g, gs, hlg⟩ : ∃ g gs, l = g :: gs := by
    cases l with
    | nil => exact absurd rfl hne
    | cons g gs => exact ⟨g, gs, rfl⟩
  obtain ⟨K, hK⟩ : ∃ K, tokG l = K := ⟨_, rfl⟩
  rw [hK]
  obtain ⟨b, o, rfl, c0, _⟩ := hR.at (i := 0) (g := g) (by rw [hlg]; rfl)
  simp only [Nat.zero_mul, Nat.add_zero] at c0
  have hpos : 0 < l.length := by rw [hlg]; simp
  have hcell := cell4_fresh w
  have hW : Below w.heap.size w (w.alloc (.cells #[.int .u8 0, .string ⟨#[]⟩, .int .i64 0, .int .i64 0] 24)) := (Below.refl w.heap.size w).alloc (Nat.le_refl _) _
  have hRW := hR.below hW
  have k0 := keep_cell hW c0
  have hcnt : ∀ x : Tok × Int, x.2 = 0 → cntG l (x, gs) = 1 := by
    intro x hx
    rw [cntG, if_pos hx, hlg]
    simp
  obtain ⟨r, ok⟩ := g
  simp only at c0 k0
  by_cases h40 : r = 40
  · have hKv : K = ((tokO, 0), gs) := by rw [← hK, hlg, tokG_cons, if_pos h40]; rfl
    have e1 : (r == 40) = true := by simp [h40]
    have hc1 := hcnt (tokO, 0) rfl
    rw [← hKv] at hc1
    have HK := Lib.hid hKv
    have HC := Lib.hid hc1
    clear hK hlg hKv hc1 hcnt h40
    go_enter Tryd.func14, Tryd.ntmps14
    go_wp2_with fail
    refine bodyPost_ret (v := .tuple #[tokO.v, .int .i64 1, .int .i64 0]) (results43 rfl (B := w.heap.size) ?_ rfl rfl rfl) rfl ⟨tok_ret (by rw [HK.out]) HC.out.symm (by rw [HK.out]), ?_⟩
    · unfold Cell4
      rw [heap_alloc_new]
      rfl
    · exact (Below.refl w.heap.size w).alloc (Nat.le_refl _) _
  · have e1 : (r == 40) = false := by simp [h40]
    by_cases h41 : r = 41
    · have hKv : K = ((tokC 0, 0), gs) := by rw [← hK, hlg, tokG_cons, if_neg h40, if_pos h41]; rfl
      have e2 : (r == 41) = true := by simp [h41]
      have hc1 := hcnt (tokC 0, 0) rfl
      rw [← hKv] at hc1
      have HK := Lib.hid hKv
      have HC := Lib.hid hc1
      clear hK hlg hKv hc1 hcnt h40 h41
      go_enter Tryd.func14, Tryd.ntmps14
      go_wp2_with fail
      refine bodyPost_ret (v := .tuple #[(tokC 0).v, .int .i64 1, .int .i64 0]) (results43 rfl (B := w.heap.size) ?_ rfl rfl rfl) rfl ⟨tok_ret (by rw [HK.out]) HC.out.symm (by rw [HK.out]), ?_⟩
      · unfold Cell4
        rw [heap_alloc_new]
        rfl
      · exact (Below.refl w.heap.size w).alloc (Nat.le_refl _) _
    · have e2 : (r == 41) = false := by simp [h41]
      by_cases h34 : r = 34
      · have e3 : (r == 34) = true := by simp [h34]
        have hq := rquoted_any l (some ⟨b, o, none⟩) cap _ hRW hv hl hc hm ⟨(r, ok), gs, hlg, h34⟩
        rw [hK] at hq
        simp only [Tok.v] at hq
        clear hK hlg hcnt h40 h41 h34 hv
        go_enter Tryd.func14, Tryd.ntmps14
        go_wp2_with (go_at_call 23; refine hq.mono ?_; rintro e w2 ⟨rfl, hb2⟩; refine Hid.out ?_)
        refine Lib.hid ?_
        have hcell2 := hcell.below hb2 (by simp)
        have hbc := below_self hW hb2
        have r0 := hcell2.c0
        have r1 := hcell2.c1
        have r2 := hcell2.c2
        have r3 := hcell2.c3
        have fr := hcell2.f
        have h4 := put4_cell hcell2 K.1.1
        have hb4 := below4 hbc K.1.1
        clear hcell hW hb2 hq
        go_wp2_with fail
        exact bodyPost_ret (v := .tuple #[K.1.1.v, .int .i64 (cntG l K), .int .i64 K.1.2]) (results43 rfl h4 rfl rfl rfl) rfl ⟨rfl, hb4⟩
      · have e3 : (r == 34) = false := by simp [h34]
        have hend : endR r = false := firm_end (g := (r, ok)) (by rw [hlg] at hf; exact hf) h40 h41 h34
        have hKv : K = (wordG (bareG l), bareR l) := by rw [← hK, hlg, tokG_cons, if_neg h40, if_neg h41, if_neg h34]
        have hq := rword_any l (some ⟨b, o, none⟩) cap _ hRW hv hl hc hm ⟨(r, ok), gs, hlg, hend⟩
        rw [cntG_word, ← hKv] at hq
        have e5 : wordG (bareG l) = K.1 := by rw [hKv]
        rw [e5] at hq
        simp only [Tok.v] at hq
        clear hK hlg hcnt h40 h41 h34 hv hKv hend e5
        go_enter Tryd.func14, Tryd.ntmps14
        go_wp2_with (go_at_call 24; refine hq.mono ?_; rintro e w2 ⟨rfl, hb2⟩; refine Hid.out ?_)
        refine Lib.hid ?_
        have hcell2 := hcell.below hb2 (by simp)
        have hbc := below_self hW hb2
        have r0 := hcell2.c0
        have r1 := hcell2.c1
        have r2 := hcell2.c2
        have r3 := hcell2.c3
        have fr := hcell2.f
        have h4 := put4_cell hcell2 K.1.1
        have hb4 := below4 hbc K.1.1
        clear hcell hW hb2 hq
        go_wp2_with fail
        exact bodyPost_ret (v := .tuple #[K.1.1.v, .int .i64 (cntG l K), .int .i64 K.1.2]) (results43 rfl h4 rfl rfl rfl) rfl ⟨rfl, hb4⟩
end Go.Proofs.YtfndfhhimhcakaaDoor.lx
