/-
  The reference's Quoted: a text's token. Conditions: the text is short.
-/
import Derived.Test.YtfndfhhimhcakaaDoorRText
namespace Go.Proofs.YtfndfhhimhcakaaDoor.lx
open Go.RowKit

theorem hex_slice (d : Nat) (h : d < 16) : ((⟨#[48, 49, 50, 51, 52, 53, 54, 55, 56, 57, 97, 98, 99, 100, 101, 102]⟩ : ByteArray).extract d (d + 1)).data.toList = [hexD d] := by
  have : ∀ k : Fin 16, ((⟨#[48, 49, 50, 51, 52, 53, 54, 55, 56, 57, 97, 98, 99, 100, 101, 102]⟩ : ByteArray).extract k.val (k.val + 1)).data.toList = [hexD k.val] := by decide +kernel
  exact this ⟨d, h⟩
theorem B_app (a b : ByteArray) : B (a ++ b) = B a ++ B b := by
  show (a ++ b : ByteArray).data.toList = _
  rw [ByteArray.data_append, Array.toList_append]
theorem B_eq (s : ByteArray) : B s = s.data.toList := rfl
theorem B_enc (r : Nat) : B (Utf8.encode (r : Int)) = Lib.encodeRune (r : Int) := by rw [B_eq, utf8_enc]
theorem quotS_esc (r : Nat) (h : (r : Int) = 34 ∨ (r : Int) = 92) : B (⟨#[92]⟩ ++ Utf8.encode (r : Int)) = quotR (r : Int) := by
  rw [B_app, B_enc, quotR, if_pos h, show B (⟨#[92]⟩ : ByteArray) = [92] from rfl, List.singleton_append]
theorem quotS_16 (r : Nat) (h : (r : Int) < 16) : B ((⟨#[92, 117, 123]⟩ ++ (⟨#[48, 49, 50, 51, 52, 53, 54, 55, 56, 57, 97, 98, 99, 100, 101, 102]⟩ : ByteArray).extract r (r + 1)) ++ ⟨#[125]⟩) = quotR (r : Int) := by
  rw [B_app, B_app, show B (ByteArray.extract _ r (r + 1)) = _ from hex_slice r (by omega), quotR, if_neg (by omega), if_pos (by omega)]
  have e : hexN2 (r : Int).toNat = [hexD r] := by rw [Int.toNat_natCast, hexN2, if_pos (by omega)]
  rw [e]
  first | done | rfl
theorem quotS_32 (r : Nat) (h : ¬ (r : Int) < 16) (h2 : (r : Int) < 32) : B ((⟨#[92, 117, 123, 49]⟩ ++ (⟨#[48, 49, 50, 51, 52, 53, 54, 55, 56, 57, 97, 98, 99, 100, 101, 102]⟩ : ByteArray).extract (r - 16) (r - 15)) ++ ⟨#[125]⟩) = quotR (r : Int) := by
  rw [B_app, B_app, show r - 15 = r - 16 + 1 by omega, show B (ByteArray.extract _ (r - 16) (r - 16 + 1)) = _ from hex_slice (r - 16) (by omega), quotR, if_neg (by omega), if_pos (by omega)]
  have e : hexN2 (r : Int).toNat = [49, hexD (r - 16)] := by
    rw [Int.toNat_natCast, hexN2, if_neg (by omega), show r / 16 = 1 by omega, show r % 16 = r - 16 by omega]
    rfl
  rw [e]
  rfl
theorem quotS_127 (r : Nat) (h : (r : Int) = 127) : B ⟨#[92, 117, 123, 55, 102, 125]⟩ = quotR (r : Int) := by
  rw [h]
  decide +kernel
theorem quotS_rune (r : Nat) (h1 : ¬ ((r : Int) = 34 ∨ (r : Int) = 92)) (h2 : ¬ (r : Int) < 32) (h3 : ¬ (r : Int) = 127) : B (Utf8.encode (r : Int)) = quotR (r : Int) := by
  rw [quotR, if_neg h1, if_neg (by omega), B_enc]
theorem quotS_done (F s : ByteArray) (h : B F = quotL s) : (⟨#[34]⟩ ++ F ++ ⟨#[34]⟩ : ByteArray) = quotF s := by
  apply ByteArray.ext
  apply Array.toList_inj.1
  show B _ = _
  rw [B_app, B_app, h]
  simp [quotF, B]
/-- where the range stands -/
def SAt (s : ByteArray) (pos : Nat) (F : ByteArray) : Prop := B F ++ quotL (s.extract pos s.size) = quotL s
theorem SAt.step {s F X : ByteArray} {pos q r : Nat} (h : SAt s pos F) (hp : pos < s.size) (hr : (Utf8.decode s pos).1 = r) (hq : pos + (Utf8.decode s pos).2 = q) (hX : B X = quotR (r : Int)) : SAt s q (F ++ X) := by
  unfold SAt at h ⊢
  rw [quotL_go (by rw [rest_size]; omega), dr_rest s pos hp, adv_rest s pos hp, hr, hq] at h
  rw [B_app, hX, List.append_assoc]
  exact h
theorem SAt.done {s F : ByteArray} {pos : Nat} (h : SAt s pos F) (hp : ¬ pos < s.size) : B F = quotL s := by
  unfold SAt at h
  rw [quotL_end (by rw [rest_size]; omega), List.append_nil] at h
  exact h
theorem quotX_size {X : ByteArray} {r : Int} (h : B X = quotR r) : X.size ≤ 6 := by
  have := quotR_len r
  rw [← h, B_length] at this
  exact this

set_option maxHeartbeats 8000000 in
set_option maxRecDepth 100000 in
theorem rQuoted_any (s : ByteArray) (w : World) (hs : s.size ≤ 1099511627776) :
    Calls Tryd.prog 18 #[.string s] w fun e w' => e = .returned (.string (quotF s)) ∧ Below w.heap.size w w' := by
  go_enter Tryd.func18, Tryd.ntmps18
  go_wp2_with fail
  go_loopw [3] (fun v wr => ∃ (pos : Nat) (F : ByteArray), v = .string F ∧ wr.heap[w.heap.size]? = some (.stringIter s pos) ∧ Below w.heap.size w wr ∧ Hid (SAt s pos F) ∧ F.size ≤ 6 * pos ∧ pos ≤ s.size) (fun _ wr => s.size - wr.iterPos w.heap.size)
  case atStart =>
    refine ⟨0, ⟨#[]⟩, rfl, ?_, (Below.refl _ w).alloc (Nat.le_refl _) _, Lib.hid (by unfold SAt; rw [all_rest]; rfl), by decide, by omega⟩
    have := World.iter_heap w s 0
    simpa using this
  case round =>
    obtain ⟨pos, F, rfl, hit, hbr, HA, hF, hps⟩ := hrel
    by_cases hp : pos < s.size
    · have hnxt : ∀ ty, (Instr.next (.pointer (some ⟨w.heap.size, 0, none⟩)) true ty).run Tryd.prog wr = _ := fun ty => Lib.run_next_any_at wr w.heap.size s pos ty hit hp
      have hwd : 1 ≤ (Utf8.decode s pos).2 := by rw [← dn_rest s pos hp]; exact (dn_bounds _ (by rw [rest_size]; omega)).1
      have hwe : pos + (Utf8.decode s pos).2 ≤ s.size := by
        have := (dn_bounds (s.extract pos s.size) (by rw [rest_size]; omega)).2.2
        rw [dn_rest s pos hp, rest_size] at this
        omega
      obtain ⟨r, hr⟩ : ∃ r, (Utf8.decode s pos).1 = r := ⟨_, rfl⟩
      obtain ⟨q, hq⟩ : ∃ q, pos + (Utf8.decode s pos).2 = q := ⟨_, rfl⟩
      have hst : ∀ X : ByteArray, B X = quotR (r : Int) → SAt s q (F ++ X) := fun X => HA.out.step hp hr hq
      have HST := Lib.hid hst
      have hd1 := decode_le s pos
      have hit2 := Lib.iterAt_heap wr w.heap.size s pos q hit
      have hbr2 := Lib.below_iterAt hbr (k := w.heap.size) (Nat.le_refl _) s q
      rw [hq] at hnxt hwe
      rw [hr] at hnxt hd1
      have HM : Hid (s.size - q < s.size - wr.iterPos w.heap.size) := Lib.hid (by simp only [World.iterPos, hit]; omega)
      have hpq : pos + 1 ≤ q := by omega
      have he4 := (utf8_size r).2
      clear HA hr hq hwd hbr hst
      by_cases h34 : (r : Int) = 34 ∨ (r : Int) = 92
      · have HX := Lib.hid (quotS_esc r h34)
        rcases (by omega : (r : Int) = 34 ∨ ¬ (r : Int) = 34 ∧ (r : Int) = 92) with h | ⟨h, h'⟩
        · have e1 : ((r : Int) == 34) = true := by simp [h]
          clear h h34
          go_wp2_with fail
          exact ⟨⟨q, _, rfl, hit2, hbr2, Lib.hid (HST.out _ HX.out), by have := quotX_size HX.out; rw [ByteArray.size_append]; omega, hwe⟩, by simp only [World.iterPos, hit2]; exact HM.out⟩
        · have e1 : ((r : Int) == 34) = false := by simp [h]
          have e2 : ((r : Int) == 92) = true := by simp [h']
          clear h h' h34
          go_wp2_with fail
          exact ⟨⟨q, _, rfl, hit2, hbr2, Lib.hid (HST.out _ HX.out), by have := quotX_size HX.out; rw [ByteArray.size_append]; omega, hwe⟩, by simp only [World.iterPos, hit2]; exact HM.out⟩
      · have e1 : ((r : Int) == 34) = false := by simp; omega
        have e2 : ((r : Int) == 92) = false := by simp; omega
        by_cases h16 : (r : Int) < 16
        · have HX := Lib.hid (quotS_16 r h16)
          clear h34
          go_wp2_with fail
          exact ⟨⟨q, _, rfl, hit2, hbr2, Lib.hid (HST.out _ HX.out), by have := quotX_size HX.out; rw [ByteArray.size_append]; omega, hwe⟩, by simp only [World.iterPos, hit2]; exact HM.out⟩
        · by_cases h32 : (r : Int) < 32
          · have HX := Lib.hid (quotS_32 r h16 h32)
            clear h34
            go_wp2_with fail
            exact ⟨⟨q, _, rfl, hit2, hbr2, Lib.hid (HST.out _ HX.out), by have := quotX_size HX.out; rw [ByteArray.size_append]; omega, hwe⟩, by simp only [World.iterPos, hit2]; exact HM.out⟩
          · by_cases h127 : (r : Int) = 127
            · have HX := Lib.hid (quotS_127 r h127)
              have e3 : ((r : Int) == 127) = true := by simp [h127]
              clear h34 h127
              go_wp2_with fail
              exact ⟨⟨q, _, rfl, hit2, hbr2, Lib.hid (HST.out _ HX.out), by have := quotX_size HX.out; rw [ByteArray.size_append]; omega, hwe⟩, by simp only [World.iterPos, hit2]; exact HM.out⟩
            · have HX := Lib.hid (quotS_rune r h34 h32 h127)
              have e3 : ((r : Int) == 127) = false := by simp [h127]
              clear h34 h127
              go_wp2_with fail
              exact ⟨⟨q, _, rfl, hit2, hbr2, Lib.hid (HST.out _ HX.out), by have := quotX_size HX.out; rw [ByteArray.size_append]; omega, hwe⟩, by simp only [World.iterPos, hit2]; exact HM.out⟩
    · have hnxt : ∀ ty, (Instr.next (.pointer (some ⟨w.heap.size, 0, none⟩)) true ty).run Tryd.prog wr = _ := fun ty => Lib.run_next_end_at wr w.heap.size s pos ty hit hp
      have hdone := HA.out.done hp
      have HD := Lib.hid (quotS_done F s hdone)
      clear HA hdone
      go_wp2_with fail
      go_ret
      exact ⟨ret_str HD.out, hbr⟩
end Go.Proofs.YtfndfhhimhcakaaDoor.lx
