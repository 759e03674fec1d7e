/-
  LexPlaces, for every text. Conditions: the package-level variables are laid.
-/
import Derived.Test.YtchilianbbkebaaDoorLives
import Derived.Test.YtchilianbbkebaaDoorRows4
namespace Go.Proofs.YtchilianbbkebaaDoor.lx
open Go.RowKit

set_option maxHeartbeats 8000000 in
set_option maxRecDepth 100000 in
theorem Places_any (s : ByteArray) (w : World) (hG : Glob w) (hs : s.size ≤ 9223372036854775807) :
    Calls Tryd.prog 5 #[.string s] w fun e w' => e = .returned (.bool true) ∧ Below w.heap.size w w' := by
  obtain ⟨⟨L, y, p⟩, hR⟩ : ∃ R, lexR s = R := ⟨_, rfl⟩
  have hL1 := fun w hG => Lex_any s w hG hs
  rw [hR] at hL1
  simp only at hL1
  go_enter Tryd.func5, Tryd.ntmps5
  go_wp2_with (go_at_call 14; refine (lives_any _ hG).mono ?_; rintro e w1 ⟨rfl, hb1⟩; refine Hid.out ?_)
  refine Lib.hid ?_
  have hG1 := hG.self hb1
  go_wp2_with (go_at_call 10; refine (hL1 _ hG1).mono ?_; rintro e w2 ⟨v, rfl, hown, hb2⟩; refine Hid.out ?_)
  refine Lib.hid ?_
  have hG2 := hG1.self hb2
  have hb := below_self hb1 hb2
  obtain ⟨ao, cap, rfl, hrow⟩ := own_row hown
  clear hown hL1 hb1 hb2 hG1 hG
  by_cases hy : y = 0
  · subst hy
    obtain ⟨hs2, hk0, hL⟩ := lexR_ok hR
    have HP := Lib.hid (P_start hk0)
    obtain ⟨K, hK⟩ : ∃ K, (lexK (skipG false (gl (B s)))).1 = K := ⟨_, rfl⟩
    obtain ⟨N, hN⟩ : ∃ N, (gl (B s)).length = N := ⟨_, rfl⟩
    rw [hK] at hL HP
    rw [hN] at hL
    have hN2 : N ≤ 2048 := by rw [← hN]; have := gl_len _ (B s) rfl; rw [B_length] at this; omega
    have hLl : L.length ≤ K.length ∧ K.length ≤ L.length := by rw [hL]; simp
    have hKN : K.length ≤ 2048 := by
      rw [← hK]
      have h1 := lexK_count _ (skipG false (gl (B s))) rfl (skipG_firm _ _)
      have h2 := skipG_length (gl (B s)) false
      omega
    have HL := Lib.hid hL
    clear hk0 hR hK hL
    go_wp2_with fail
    go_loopw [6, 7] (fun v6 v7 wr => ∃ (nx pl pos : Nat), v6 = .int .i64 nx ∧ v7 = .int .i64 pl ∧ wr.heap[w2.heap.size]? = some (.stringIter s pos) ∧ pos ≤ s.size ∧ Below w2.heap.size w2 wr ∧ Hid (PInv s K nx pl pos) ∧ nx ≤ K.length ∧ pl ≤ N) (fun _ _ wr => s.size - wr.iterPos w2.heap.size)
    case atStart =>
      refine ⟨0, 0, 0, rfl, rfl, ?_, Nat.zero_le _, (Below.refl _ w2).alloc (Nat.le_refl _) _, HP, Nat.zero_le _, Nat.zero_le _⟩
      have := World.iter_heap w2 s 0
      simpa using this
    case round =>
      clear HP
      obtain ⟨nx, pl, pos, rfl, rfl, hit, hps, hbr, HP, hnx, hpl⟩ := hrel
      by_cases hp : pos < s.size
      · have hnxt : ∀ ty, (Instr.next (.pointer (some ⟨w2.heap.size, 0, none⟩)) true ty).run Tryd.prog wr = _ := fun ty => Lib.run_next_any_at wr w2.heap.size s pos ty hit hp
        have hsz : w2.heap.size < wr.heap.size := (Array.getElem?_eq_some_iff.1 hit).1
        have hwe : pos + (Utf8.decode s pos).2 ≤ s.size := by
          have := (dn_bounds (s.extract pos s.size) (by rw [rest_size]; omega)).2.2
          rw [dn_rest s pos hp, rest_size] at this
          omega
        have hwd : 1 ≤ (Utf8.decode s pos).2 := by rw [← dn_rest s pos hp]; exact (dn_bounds _ (by rw [rest_size]; omega)).1
        have hst := P_step HP.out hs2 hp rfl
        rw [hN] at hst
        obtain ⟨q, hq⟩ : ∃ q, pos + (Utf8.decode s pos).2 = q := ⟨_, rfl⟩
        have hit2 := Lib.iterAt_heap wr w2.heap.size s pos q hit
        have hbr2 := Lib.below_iterAt hbr (k := w2.heap.size) (Nat.le_refl _) s q
        rw [hq] at hnxt hst hwe
        obtain ⟨r, hr⟩ : ∃ r, (Utf8.decode s pos).1 = r := ⟨_, rfl⟩
        rw [hr] at hnxt
        have HM : Hid (s.size - q < s.size - wr.iterPos w2.heap.size) := Lib.hid (by simp only [World.iterPos, hit]; omega)
        have hrow2 := hrow.below hbr2
        clear HP hr hq hwd
        rcases hst with ⟨t, ht, hpl2, hP, hlx⟩ | ⟨hno, hP⟩
        · have HP := Lib.hid hP
          have hx : L[nx]? = some (t.at pl) := by
            rw [HL.out, List.getElem?_map, ht]
            show some (t.at (N - (N - pl))) = _
            rw [show N - (N - pl) = pl by omega]
          obtain ⟨g, rfl, d0, d1, d2, d3⟩ := hrow2.at hx
          have hlt : (nx : Int) < (L.length : Int) := by have := (List.getElem?_eq_some_iff.1 hx).1; omega
          obtain ⟨L', hL'⟩ : ∃ L', (K.drop nx).map (fun x => x.1.at (N - pl - x.2)) = L' := ⟨_, rfl⟩
          have hlx' : lexR (s.extract pos s.size) = (L', 0, 0) := by rw [hlx, ← hL']
          have hl' : ((L'.length : Int) != (L.length : Int) - (nx : Int)) = false := by
            have hlt := (List.getElem?_eq_some_iff.1 ht).1
            rw [← hL']; simp; omega
          have hl0 : (0 : Int) < (L'.length : Int) := by
            have hlt := (List.getElem?_eq_some_iff.1 ht).1
            rw [← hL']; simp; omega
          have hx' : L'[0]? = some (t.at 0) := by
            rw [← hL', List.getElem?_map, List.getElem?_drop, Nat.add_zero, ht]
            show some (t.at (N - pl - (N - pl))) = _
            rw [Nat.sub_self]
          have hG3 : Glob (wr.iterAt w2.heap.size s q) := hG2.self hbr2
          have hLR := Lex_any (s.extract pos s.size) _ hG3 (by rw [rest_size]; omega)
          rw [hlx'] at hLR
          simp only at hLR
          clear hP hlx hlx' hL'
          dsimp only [Tok.at] at d0 d1 d2 d3
          go_wp2_with (go_at_call 10; refine hLR.mono ?_; rintro e w4 ⟨v4, rfl, hown4, hb4⟩; refine Hid.out ?_)
          refine Lib.hid ?_
          obtain ⟨ao4, cap4, rfl, hrow4⟩ := own_row hown4
          obtain ⟨g4, rfl, e0, e1, e2, e3⟩ := hrow4.at hx'
          dsimp only [Tok.at] at e0 e1 e2 e3
          obtain ⟨g', hg', f0, f1, f2, f3⟩ := (hrow2.below hb4).at hx
          injection hg' with hg'; injection hg' with hg'; subst hg'
          dsimp only [Tok.at] at f0 f1 f2 f3
          have hgl := World.block_lt_of_cell? _ _ f0
          have k0 := fun o => (World.cell?_of_block (a := ⟨g, nx * 4, none⟩) (Lib.alloc_old w4 o g hgl)).trans f0
          have k1 := fun o => (World.cell?_of_block (a := ⟨g, nx * 4 + 1, none⟩) (Lib.alloc_old w4 o g hgl)).trans f1
          have k2 := fun o => (World.cell?_of_block (a := ⟨g, nx * 4 + 2, none⟩) (Lib.alloc_old w4 o g hgl)).trans f2
          have k3 := fun o => (World.cell?_of_block (a := ⟨g, nx * 4 + 3, none⟩) (Lib.alloc_old w4 o g hgl)).trans f3
          have hbr4 := below_then hbr2 (by rw [Lib.iterAt_size]; omega) hb4
          have hit4 := (hb4.block w2.heap.size (Array.getElem?_eq_some_iff.1 hit2).1).trans hit2
          have hcmp : ∀ W, (binOp .neq 24 (.agg #[.int .u8 t.k, .string t.s, .int .i64 t.n, .int .i64 pl]) (.agg #[.int .u8 t.k, .string t.s, .int .i64 t.n, .int .i64 pl])).run Tryd.prog W = .ok (.bool false) W := fun W => by
            have := tok_neq (t.at pl) (t.at pl) W
            simpa [Tok.v, Tok.at] using this
          clear f0 f1 f2 f3 hgl d0 d1 d2 d3 hown4 hrow4 hb4 hit2 hbr2 hit hbr hx hx' hrow2
          go_wp2_with fail
          go_quiet (fail)
          go_wp2_with fail
          · go_ret
            exact ⟨rfl, below_drewN (below_self hb (hbr4.alloc hbr4.size _)) _⟩
          · have hit5 : ∀ o n, ((w4.alloc o).drewN n).heap[w2.heap.size]? = some (.stringIter s q) := fun o n => (Lib.alloc_old w4 o _ (Array.getElem?_eq_some_iff.1 hit4).1).trans hit4
            go_roundw
            case rel => exact ⟨nx + 1, pl + 1, q, rfl, by simp, hit5 _ _, hwe, below_drewN (hbr4.alloc hbr4.size _) _, HP, HP.out.1, by have := HP.out.2.1; omega⟩
            case measure => simp only [World.iterPos, hit5]; exact HM.out
        · have HP := Lib.hid hP
          clear hP
          rcases hno with hno | ⟨t, m, ht, hm⟩
          · have hlt : ¬ (nx : Int) < (L.length : Int) := by omega
            clear hno
            go_wp2_with fail
            · go_ret
              exact ⟨rfl, below_self hb hbr2⟩
            · exact ⟨⟨nx, pl + 1, q, rfl, by simp, hit2, hwe, hbr2, HP, hnx, by have := HP.out.2.1; omega⟩, by simp only [World.iterPos, hit2]; exact HM.out⟩
          · have hx : L[nx]? = some (t.at (N - m)) := by rw [HL.out, List.getElem?_map, ht]; rfl
            obtain ⟨g, rfl, d0, d1, d2, d3⟩ := hrow2.at hx
            have hlt : (nx : Int) < (L.length : Int) := by have := (List.getElem?_eq_some_iff.1 hx).1; omega
            have hne : (((N - m : Nat) : Int) == (pl : Int)) = false := by simp; omega
            dsimp only [Tok.at] at d0 d1 d2 d3
            clear hx
            go_wp2_with fail
            · go_ret
              exact ⟨rfl, below_self hb hbr2⟩
            · exact ⟨⟨nx, pl + 1, q, rfl, by simp, hit2, hwe, hbr2, HP, hnx, by have := HP.out.2.1; omega⟩, by simp only [World.iterPos, hit2]; exact HM.out⟩
      · have hnxt : ∀ ty, (Instr.next (.pointer (some ⟨w2.heap.size, 0, none⟩)) true ty).run Tryd.prog wr = _ := fun ty => Lib.run_next_end_at wr w2.heap.size s pos ty hit hp
        have hfin := P_end HP.out hp
        have hcmp : ((nx : Int) == (L.length : Int)) = true := by simp; omega
        clear hfin
        go_wp2_with fail
        go_ret
        exact ⟨rfl, below_self hb hbr⟩
  · have hyb : (y != 0) = true := by simp [hy]
    obtain ⟨rfl, hp0, hp1⟩ := lexR_err hR hy
    have hp0' : p ≥ 0 := hp0
    simp only [List.length_nil] at *
    go_wp2_with fail
    go_ret
    exact ⟨rfl, hb⟩
end Go.Proofs.YtchilianbbkebaaDoor.lx
