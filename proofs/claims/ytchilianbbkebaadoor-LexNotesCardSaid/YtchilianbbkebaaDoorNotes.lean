/-
  LexNotes, for every two texts. Conditions: the package-level variables are laid.
-/
import Derived.Test.YtchilianbbkebaaDoorLives
import Derived.Test.YtchilianbbkebaaDoorNotesLaw
import Derived.Test.YtchilianbbkebaaDoorRowSet
import Derived.Test.YtchilianbbkebaaDoorEnc
namespace Go.Proofs.YtchilianbbkebaaDoor.lx
open Go.RowKit

/-- where the range over the note stands -/
def NoteAt (note : ByteArray) (pos : Nat) (K : List Int) (F : ByteArray) : Prop :=
  K ++ keptG (gl (B (note.extract pos note.size))) = keptG (gl (B note)) ∧ B F = 59 :: K.flatMap Lib.encodeRune
theorem NoteAt.start (note : ByteArray) : NoteAt note 0 [] ⟨#[59]⟩ := ⟨by rw [all_rest]; rfl, rfl⟩
theorem NoteAt.step {note F : ByteArray} {pos q r : Nat} {K : List Int} (h : NoteAt note pos K F) (hp : pos < note.size) (hr : (Utf8.decode note pos).1 = r) (hq : pos + (Utf8.decode note pos).2 = q) :
    if keepR (r : Int) = true then NoteAt note q (K ++ [(r : Int)]) (F ++ Utf8.encode (r : Int)) else NoteAt note q K F := by
  obtain ⟨h1, h2⟩ := h
  have hg : gl (B (note.extract pos note.size)) = ((r : Int), stepOk (note.extract pos note.size)) :: gl (B (note.extract q note.size)) := by
    rw [glB_cons (by rw [rest_size]; omega), dr_rest note pos hp, adv_rest note pos hp, hr, hq]
  rw [hg, keptG_cons] at h1
  simp only at h1
  split
  · rename_i hk
    rw [if_pos hk] at h1
    refine ⟨by rw [← h1]; simp, ?_⟩
    show (F ++ Utf8.encode (r : Int)).data.toList = _
    rw [ByteArray.data_append, Array.toList_append, show F.data.toList = _ from h2, utf8_enc]
    simp
  · rename_i hk
    rw [if_neg hk] at h1
    exact ⟨h1, h2⟩
theorem NoteAt.done {note F : ByteArray} {pos : Nat} {K : List Int} (h : NoteAt note pos K F) (hp : ¬ pos < note.size) : K = keptG (gl (B note)) := by
  rw [← h.1, glB_nil (by rw [rest_size]; omega)]
  simp [keptG]

theorem flat_len : ∀ K : List Int, K.length ≤ (K.flatMap Lib.encodeRune).length
  | [] => Nat.le_refl _
  | r :: K => by
    have h1 := flat_len K
    have h2 : 1 ≤ (Lib.encodeRune r).length := by simpa [Lib.encodeRune] using (Lib.encodeRuneZ_length r).1
    rw [List.flatMap_cons, List.length_append, List.length_cons]
    omega
theorem cnt_step (K : List Int) (r : Int) : Value.int .i64 ((K.length : Int) + 2 + 1) = .int .i64 (((K ++ [r]).length : Int) + 2) := by
  rw [List.length_append]
  have : (K.length : Int) + 2 + 1 = ((K.length + [r].length : Nat) : Int) + 2 := by simp only [List.length_cons, List.length_nil]; omega
  rw [this]
/-- the row whose first k places have been turned back -/
def midT (L : List Tok) (c k : Nat) : List Tok := L.take k ++ (L.drop k).map (·.up c)
theorem midT_zero (L : List Tok) (c : Nat) : midT L c 0 = L.map (·.up c) := rfl
theorem midT_end (L : List Tok) (c k : Nat) (h : L.length ≤ k) : midT L c k = L := by rw [midT, List.take_of_length_le h, List.drop_of_length_le h]; simp
theorem midT_length (L : List Tok) (c k : Nat) : (midT L c k).length = L.length := by simp [midT]; omega
theorem midT_at (L : List Tok) (c k : Nat) (t : Tok) (h : L[k]? = some t) : (midT L c k)[k]? = some (t.up c) := by
  have hlt := (List.getElem?_eq_some_iff.1 h).1
  rw [midT, List.getElem?_append_right (by simp; omega)]
  simp only [List.length_take]
  rw [show k - min k L.length = 0 by omega, List.getElem?_map, List.getElem?_drop, Nat.add_zero, h]
  rfl
theorem midT_set (L : List Tok) (c k : Nat) (t : Tok) (h : L[k]? = some t) : (midT L c k).set k t = midT L c (k + 1) := by
  have hlt := (List.getElem?_eq_some_iff.1 h).1
  have hg := (List.getElem?_eq_some_iff.1 h).2
  unfold midT
  rw [List.set_append_right _ _ (by simp; omega)]
  simp only [List.length_take]
  have hd : L.drop k = t :: L.drop (k + 1) := by rw [List.drop_eq_getElem_cons hlt, hg]
  rw [show k - min k L.length = 0 by omega, List.take_add_one, h, hd, List.map_cons, List.set_cons_zero]
  simp

set_option maxHeartbeats 8000000 in
set_option maxRecDepth 100000 in
theorem Notes_any (s note : ByteArray) (w : World) (hG : Glob w) (hs : s.size ≤ 140737488351232) (hn : note.size ≤ 140737488351232) :
    Calls Tryd.prog 8 #[.string s, .string note] w fun e w' => e = .returned (.bool true) ∧ Below w.heap.size w w' := by
  obtain ⟨⟨L, y, p⟩, hR⟩ : ∃ R, lexR s = R := ⟨_, rfl⟩
  have hL1 := fun w hG => Lex_any s w hG (by omega)
  rw [hR] at hL1
  simp only at hL1
  go_enter Tryd.func8, Tryd.ntmps8
  go_wp2_with (go_at_call 14; refine (lives_any _ hG).mono ?_; rintro e w1 ⟨rfl, hb1⟩; refine Hid.out ?_)
  refine Lib.hid ?_
  have hG1 := hG.self hb1
  have hsz1 := hb1.size
  clear hG
  go_wp2_with fail
  go_loopw [5, 6] (fun v5 v6 wr => ∃ (pos : Nat) (K : List Int) (F : ByteArray), v5 = .string F ∧ v6 = .int .i64 ((K.length : Int) + 2) ∧ wr.heap[w1.heap.size]? = some (.stringIter note pos) ∧ Below w1.heap.size w1 wr ∧ Hid (NoteAt note pos K F) ∧ F.size ≤ 4 * pos + 1 ∧ K.length ≤ pos ∧ pos ≤ note.size) (fun _ _ wr => note.size - wr.iterPos w1.heap.size)
  case atStart =>
    refine ⟨0, [], ⟨#[59]⟩, rfl, rfl, ?_, (Below.refl _ w1).alloc (Nat.le_refl _) _, Lib.hid (NoteAt.start note), by decide, by simp, by omega⟩
    have := World.iter_heap w1 note 0
    simpa using this
  case round =>
    obtain ⟨pos, K, F, rfl, rfl, hit, hbr, HA, hF, hK, hps⟩ := hrel
    by_cases hp : pos < note.size
    · have hnxt : ∀ ty, (Instr.next (.pointer (some ⟨w1.heap.size, 0, none⟩)) true ty).run Tryd.prog wr = _ := fun ty => Lib.run_next_any_at wr w1.heap.size note pos ty hit hp
      have hwd : 1 ≤ (Utf8.decode note pos).2 := by rw [← dn_rest note pos hp]; exact (dn_bounds _ (by rw [rest_size]; omega)).1
      have hwe : pos + (Utf8.decode note pos).2 ≤ note.size := by
        have := (dn_bounds (note.extract pos note.size) (by rw [rest_size]; omega)).2.2
        rw [dn_rest note pos hp, rest_size] at this
        omega
      obtain ⟨r, hr⟩ : ∃ r, (Utf8.decode note pos).1 = r := ⟨_, rfl⟩
      obtain ⟨q, hq⟩ : ∃ q, pos + (Utf8.decode note pos).2 = q := ⟨_, rfl⟩
      have hst := HA.out.step hp hr hq
      have hd1 := decode_le note pos
      have hit2 := Lib.iterAt_heap wr w1.heap.size note pos q hit
      have hbr2 := Lib.below_iterAt hbr (k := w1.heap.size) (Nat.le_refl _) note q
      rw [hq] at hnxt hwe
      rw [hr] at hnxt hd1
      have HM : Hid (note.size - q < note.size - wr.iterPos w1.heap.size) := Lib.hid (by simp only [World.iterPos, hit]; omega)
      have hpq : pos + 1 ≤ q := by omega
      have he4 := (utf8_size r).2
      clear HA hr hq hwd hbr
      by_cases hk : keepR (r : Int) = true
      · rw [if_pos hk] at hst
        have HST := Lib.hid hst
        have hk1 : ((r : Int) != 10) = true := by simp only [keepR, Bool.and_eq_true] at hk; exact hk.1
        have hk2 : ((r : Int) != 65533) = true := by simp only [keepR, Bool.and_eq_true] at hk; exact hk.2
        clear hst hk
        go_wp2_with fail
        exact ⟨⟨q, K ++ [(r : Int)], F ++ Utf8.encode (r : Int), rfl, cnt_step K r, hit2, hbr2, HST, by rw [ByteArray.size_append]; omega, by simp; omega, hwe⟩, by simp only [World.iterPos, hit2]; exact HM.out⟩
      · rw [if_neg hk] at hst
        have HST := Lib.hid hst
        by_cases h10 : (r : Int) = 10
        · have hk1 : ((r : Int) != 10) = false := by simp [h10]
          clear hst hk h10
          go_wp2_with fail
          exact ⟨⟨q, K, F, rfl, rfl, hit2, hbr2, HST, by omega, by omega, hwe⟩, by simp only [World.iterPos, hit2]; exact HM.out⟩
        · have hk1 : ((r : Int) != 10) = true := by simp [h10]
          have hk2 : ((r : Int) != 65533) = false := by
            simp only [keepR, hk1, Bool.true_and] at hk
            simpa using hk
          clear hst hk h10
          go_wp2_with fail
          exact ⟨⟨q, K, F, rfl, rfl, hit2, hbr2, HST, by omega, by omega, hwe⟩, by simp only [World.iterPos, hit2]; exact HM.out⟩
    · have hnxt : ∀ ty, (Instr.next (.pointer (some ⟨w1.heap.size, 0, none⟩)) true ty).run Tryd.prog wr = _ := fun ty => Lib.run_next_end_at wr w1.heap.size note pos ty hit hp
      have hKall := HA.out.done hp
      have hKv := kept_valid (B note)
      rw [← hKall] at hKv
      obtain ⟨T, hT⟩ : ∃ T : ByteArray, F ++ ⟨#[10]⟩ ++ s = T := ⟨_, rfl⟩
      have hBT : B T = 59 :: (K.flatMap Lib.encodeRune ++ 10 :: B s) := by
        rw [← hT]
        show (F ++ ⟨#[10]⟩ ++ s).data.toList = _
        rw [ByteArray.data_append, ByteArray.data_append, Array.toList_append, Array.toList_append, show F.data.toList = _ from HA.out.2]
        simp [B]
      have hTs : T.size = F.size + 1 + s.size := by rw [← hT]; simp [ByteArray.size_append]; rfl
      obtain ⟨⟨M, z, q⟩, hRT⟩ : ∃ R, lexR T = R := ⟨_, rfl⟩
      have hL2 := fun w hG => Lex_any T w hG (by omega)
      rw [hRT] at hL2
      simp only at hL2
      have hTs1 : F.size + 1 + s.size ≤ T.size := by omega
      have hTs2 : T.size ≤ F.size + 1 + s.size := by omega
      rw [← hT] at hL2
      have hGr := hG1.self hbr
      have HA2 := HA
      clear hT hTs HA hKall
      go_wp2_with (go_at_call 10; refine (hL1 _ hGr).mono ?_; rintro e w2 ⟨v, rfl, hown, hb2⟩; refine Hid.out ?_)
      refine Lib.hid ?_
      have hG2 := hGr.self hb2
      obtain ⟨ao, cap, rfl, hrow⟩ := own_row hown
      clear hown
      go_wp2_with (go_at_call 10; refine (hL2 _ hG2).mono ?_; rintro e w3 ⟨v, rfl, hown, hb3⟩; refine Hid.out ?_)
      refine Lib.hid ?_
      have hrow1 := hrow.below hb3
      have hb := below_self hb1 (below_then (below_then hbr hbr.size hb2) (by have := hbr.size; have := hb2.size; omega) hb3)
      have hb02 : Below w.heap.size w w2 := below_self hb1 (below_then hbr hbr.size hb2)
      have hsz3 : w.heap.size ≤ w2.heap.size := by have := hbr.size; have := hb2.size; omega
      obtain ⟨ao2, cap2, rfl, hrow2⟩ := own_rowF hown
      clear hown hL1 hL2 hb2 hbr hb1 hit
      by_cases hlong : 2048 < T.size
      · have hl : (2048 : Int) < (F.size : Int) + 1 + (s.size : Int) := by omega
        rw [lexR_long hlong] at hRT
        injection hRT with e1 e2; injection e2 with e2 e3
        subst e1 e2 e3
        go_wp2_with fail
        go_ret
        exact ⟨rfl, hb⟩
      · have hl : ¬ (2048 : Int) < (F.size : Int) + 1 + (s.size : Int) := by omega
        have hlaw := lexR_note s T K hKv hBT (by omega)
        rw [hR, hRT] at hlaw
        simp only at hlaw
        by_cases hy : y = 0
        · subst hy
          rw [if_pos rfl] at hlaw
          injection hlaw with e1 e2; injection e2 with e2 e3
          subst e2 e3
          have hLlen : L.length ≤ 2048 := by
            obtain ⟨h1, h2, h3⟩ := lexR_ok hR
            have h4 := lexK_count _ (skipG false (gl (B s))) rfl (skipG_firm _ _)
            have h5 := skipG_length (gl (B s)) false
            have h6 := gl_len _ (B s) rfl
            rw [B_length] at h6
            rw [h3, List.length_map]
            omega
          have hKlen : K.length ≤ 2048 := by
            have := congrArg List.length hBT
            rw [B_length, List.length_cons, List.length_append] at this
            have := flat_len K
            omega
          have hmid : RowF w2.heap.size ao2 (midT L (K.length + 2) 0) w3 := by rw [midT_zero, ← e1]; exact hrow2
          have hMl : M.length = L.length := by rw [e1, List.length_map]
          rw [hMl]
          clear hMl hrow2 e1 hBT HA2
          go_wp2_with fail
          go_loopw [78] (fun v wr' => ∃ k : Nat, v = .int .i64 k ∧ k ≤ L.length ∧ Below w2.heap.size w2 wr' ∧ RowF w2.heap.size ao2 (midT L (K.length + 2) k) wr') (fun v _ => L.length - (intOf v).toNat)
          case atStart => exact ⟨0, rfl, Nat.zero_le _, hb3, hmid⟩
          case round =>
            clear hb3 hmid hrow1
            obtain ⟨k, rfl, hk, hb4, hmid⟩ := hrel
            by_cases hlt : k < L.length
            · obtain ⟨t, ht⟩ : ∃ t, L[k]? = some t := ⟨_, List.getElem?_eq_getElem hlt⟩
              obtain ⟨ta0, ta1⟩ := lexR_at hR ht
              have hat := midT_at L (K.length + 2) k t ht
              obtain ⟨g, rfl, hBg, hg, hfz, hcs⟩ := hmid.resolve_left (by rw [midT_length]; omega)
              obtain ⟨g', hg', f0, f1, f2, f3⟩ := hmid.row.at hat
              injection hg' with hg'; injection hg' with hg'; subst hg'
              have z3 := hfz (k * 4 + 3)
              have hnx := hmid.set hat t.a
              have htt : (⟨(t.up (K.length + 2)).k, (t.up (K.length + 2)).s, (t.up (K.length + 2)).n, t.a⟩ : Tok) = t := rfl
              rw [htt, midT_set L _ k t ht] at hnx
              have hb5 := below_set hb4 hBg (k * 4 + 3) (.int .i64 t.a)
              have f3' : wr.cell? ⟨g, k * 4 + 3, none⟩ = some (.int .i64 (t.a + ((K.length : Int) + 2))) := f3
              have hval : t.a + ((K.length : Int) + 2) - ((K.length : Int) + 2) = t.a := by omega
              have HV := Lib.hid hval
              clear hat hcs hfz f0 f1 f2 f3 ht htt hmid hval
              go_wp2_with fail
              exact ⟨⟨k + 1, by go_num, by omega, hb5, hnx⟩, by simp [intOf]; omega⟩
            · rw [midT_end L _ k (by omega)] at hmid
              have hrow1 := hrow.below hb4
              go_wp2_with (go_at_call 15; refine (Same_any L L ao ao2 cap cap2 _ hrow1 hmid.row (by omega)).mono ?_; rintro e w5 ⟨rfl, n, rfl⟩; refine Hid.out ?_)
              refine Lib.hid ?_
              go_wp2_with fail
              go_ret
              exact ⟨ret_bool (by simp), below_drewN (below_then hb02 hsz3 hb4) _⟩
        · rw [if_neg hy] at hlaw
          injection hlaw with e1 e2; injection e2 with e2 e3
          subst e1
          obtain ⟨_, hp0, hp1⟩ := lexR_err hR hy
          have hyb : (y != 0) = true := by simp [hy]
          have hzy : (z == y) = true := by simp [e2]
          have hqb : (q == p + ((K.length : Int) + 2)) = true := by simp [e3]
          clear e3 e2 hy
          have hKlen : K.length ≤ 140737488351232 := by omega
          go_wp2_with fail
          go_ret
          exact ⟨rfl, hb⟩
end Go.Proofs.YtchilianbbkebaaDoor.lx
