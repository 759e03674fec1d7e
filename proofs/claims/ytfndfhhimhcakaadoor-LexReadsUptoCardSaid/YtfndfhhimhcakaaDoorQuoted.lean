/-
  quoted: a text between quotes, for every text of at most 2^40 bytes. Conditions: the package-level variables are laid.
-/
import Derived.Test.YtfndfhhimhcakaaDoorText
import Derived.Test.YtfndfhhimhcakaaDoorFormat
import Derived.Stop.FmtQuoteTie
namespace Go.Proofs.YtfndfhhimhcakaaDoor.lx
open Go.RowKit

/-- how quoted writes a rune -/
def quotR (r : Int) : List UInt8 :=
  if r = 34 ∨ r = 92 then 92 :: Lib.encodeRune r else if r < 32 ∨ r = 127 then [92, 117, 123] ++ hexN2 r.toNat ++ [125] else Lib.encodeRune r
def quotL (l : ByteArray) : List UInt8 :=
  if _h : l.size = 0 then [] else if _h2 : (adv l).size < l.size then quotR (dr l) ++ quotL (adv l) else []
termination_by l.size
theorem quotL_end {l : ByteArray} (h : l.size = 0) : quotL l = [] := by rw [quotL, dif_pos h]
theorem quotL_go {l : ByteArray} (h : l.size ≠ 0) : quotL l = quotR (dr l) ++ quotL (adv l) := by rw [quotL, dif_neg h, dif_pos (adv_lt l h)]
def quotF (s : ByteArray) : ByteArray := ⟨(34 :: (quotL s ++ [34])).toArray⟩

theorem rest_size (s : ByteArray) (pos : Nat) : (s.extract pos s.size).size = s.size - pos := Lib.size_rest s pos
theorem decode_rest (s : ByteArray) (pos : Nat) (h : pos < s.size) : Lib.decodeGo (s.extract pos s.size) = Utf8.decode s pos := by
  unfold Lib.decodeGo
  rw [if_neg (by rw [rest_size]; omega)]
  exact Go.Extern.FmtText.decode_extract s pos
theorem adv_rest (s : ByteArray) (pos : Nat) (h : pos < s.size) : adv (s.extract pos s.size) = s.extract (pos + (Utf8.decode s pos).2) s.size := by
  unfold adv dn
  rw [decode_rest s pos h]
  exact Go.Extern.FmtText.extract_extract s pos _
theorem dr_rest (s : ByteArray) (pos : Nat) (h : pos < s.size) : dr (s.extract pos s.size) = ((Utf8.decode s pos).1 : Int) := by unfold dr; rw [decode_rest s pos h]
theorem dn_rest (s : ByteArray) (pos : Nat) (h : pos < s.size) : dn (s.extract pos s.size) = (Utf8.decode s pos).2 := by unfold dn; rw [decode_rest s pos h]
theorem all_rest (s : ByteArray) : s.extract 0 s.size = s := by apply ByteArray.ext; simp

theorem hexN2_len (u : Nat) : (hexN2 u).length ≤ 2 := by unfold hexN2; split <;> simp
theorem quotR_len (r : Int) : (quotR r).length ≤ 6 := by
  have := encodeRune_len r
  have := hexN2_len r.toNat
  unfold quotR
  split
  · simp; omega
  split
  · simp; omega
  · omega

theorem esc_eq (l : List UInt8) : (⟨#[92, 117, 123]⟩ ++ ⟨l.toArray⟩ ++ ⟨#[125]⟩ : ByteArray) = ⟨([92, 117, 123] ++ l ++ [125]).toArray⟩ := by
  apply ByteArray.ext
  simp [ByteArray.data_append]
theorem esc_size (l : List UInt8) : (⟨#[92, 117, 123]⟩ ++ ⟨l.toArray⟩ ++ ⟨#[125]⟩ : ByteArray).size = l.length + 4 := by
  rw [esc_eq]; simp [ByteArray.size]
theorem esc_cells (l : List UInt8) : Lib.strCells (⟨#[92, 117, 123]⟩ ++ ⟨l.toArray⟩ ++ ⟨#[125]⟩) = Lib.byteCells ([92, 117, 123] ++ l ++ [125]) := by
  rw [esc_eq]; rfl

set_option maxHeartbeats 8000000 in
set_option maxRecDepth 100000 in
theorem quoted_any (s : ByteArray) (w : World) (hG : Glob w) (hs : s.size ≤ 1099511627776) :
    Calls Tryd.prog 16 #[.string s] w fun e w' => e = .returned (.string (quotF s)) ∧ Below w.heap.size w w' := by
  have hB0 : Lib.IsBuilderF 54 5 w.heap.size w.heap.size (Lib.byteCells []) (w.alloc (.cells #[.pointer none, .slice none 0 0] 54)) := Lib.IsBuilderF.of (Lib.fresh_isBuilder 54 5 w)
  have hb0 : Below w.heap.size w (w.alloc (.cells #[.pointer none, .slice none 0 0] 54)) := (Below.refl _ w).alloc (Nat.le_refl _) _
  go_enter Tryd.func16, Tryd.ntmps16
  go_wp2_with (go_at_call 26; refine (WriteByte_k w.heap.size w.heap.size _ 34 _ hB0 (by rw [Lib.byteCells_length]; simp) hb0.size).mono ?_; rintro e w1 ⟨rfl, h1, b1, k1⟩; refine Hid.out ?_)
  refine Lib.hid ?_
  have hbw1 := hb0.trans b1
  have hlt1 := h1.lt
  have h1' : Lib.IsBuilderF 54 5 w.heap.size w.heap.size (Lib.byteCells [34]) w1 := Or.inr h1
  clear hB0 hb0 h1 k1 b1
  have hB1 : Lib.IsBuilderF 54 5 w.heap.size w.heap.size (Lib.byteCells [34]) w1 := h1'
  clear h1'
  go_wp2_with fail
  go_loopw [] (fun wr => ∃ (pos : Nat) (acc : List UInt8), Lib.IsBuilderF 54 5 w.heap.size w.heap.size (Lib.byteCells acc) wr ∧ wr.heap[w1.heap.size]? = some (.stringIter s pos) ∧ Below w.heap.size w wr ∧ Hid (acc ++ quotL (s.extract pos s.size) = 34 :: quotL s) ∧ acc.length ≤ 6 * pos + 1 ∧ pos ≤ s.size) (fun wr => s.size - wr.iterPos w1.heap.size)
  case atStart =>
    refine ⟨0, [34], hB1.alloc _, ?_, hbw1.alloc (by omega) _, Lib.hid (by rw [all_rest]; rfl), by simp, by omega⟩
    have := World.iter_heap w1 s 0
    simpa using this
  case round =>
    obtain ⟨pos, acc, hI, hit, hbw, HA, hal, hps⟩ := hrel
    have hsz : w1.heap.size < wr.heap.size := (Array.getElem?_eq_some_iff.1 hit).1
    by_cases hp : pos < s.size
    · have hnx : ∀ ty, (Instr.next (.pointer (some ⟨w1.heap.size, 0, none⟩)) true ty).run Tryd.prog wr = _ := fun ty => Lib.run_next_any_at wr w1.heap.size s pos ty hit hp
      have hq : quotL (s.extract pos s.size) = quotR ((Utf8.decode s pos).1 : Int) ++ quotL (s.extract (pos + (Utf8.decode s pos).2) s.size) := by
        rw [quotL_go (by rw [rest_size]; omega), dr_rest s pos hp, adv_rest s pos hp]
      have hwd : 1 ≤ (Utf8.decode s pos).2 := by rw [← dn_rest s pos hp]; exact (dn_bounds _ (by rw [rest_size]; omega)).1
      have hwe : pos + (Utf8.decode s pos).2 ≤ s.size := by
        have := (dn_bounds (s.extract pos s.size) (by rw [rest_size]; omega)).2.2
        rw [dn_rest s pos hp, rest_size] at this
        omega
      have hd1 := decode_le s pos
      have hI2 := hI.iterAt hit (pos + (Utf8.decode s pos).2)
      have hit2 := Lib.iterAt_heap wr w1.heap.size s pos (pos + (Utf8.decode s pos).2) hit
      have hbw2 := Lib.below_iterAt hbw (k := w1.heap.size) (by omega) s (pos + (Utf8.decode s pos).2)
      have hsz2 : w.heap.size ≤ (wr.iterAt w1.heap.size s (pos + (Utf8.decode s pos).2)).heap.size := by rw [Lib.iterAt_size]; omega
      have hG2 := hG.self hbw2
      have hM : s.size - (pos + (Utf8.decode s pos).2) < s.size - wr.iterPos w1.heap.size := by simp only [World.iterPos, hit]; omega
      have HM := Lib.hid hM
      have HQ := Lib.hid hq
      clear hM hq hI hbw
      obtain ⟨r, hr⟩ : ∃ r, (Utf8.decode s pos).1 = r := ⟨_, rfl⟩
      obtain ⟨q, hqq⟩ : ∃ q, pos + (Utf8.decode s pos).2 = q := ⟨_, rfl⟩
      rw [hr] at hnx HQ hd1
      rw [hqq] at hnx HQ hI2 hit2 hbw2 hsz2 hwe HM hG2
      have hpq : pos + 1 ≤ q := by omega
      clear hr hqq hwd
      have HAQ : Hid ((acc ++ quotR (r : Int)) ++ quotL (s.extract q s.size) = 34 :: quotL s) := Lib.hid (by rw [← HA.out, HQ.out, List.append_assoc])
      clear HA HQ
      by_cases h34 : (r : Int) = 34 ∨ (r : Int) = 92
      · have hqr : quotR (r : Int) = 92 :: Lib.encodeRune r := if_pos h34
        have hl4 := encodeRune_len r
        rw [hqr] at HAQ
        rcases (by omega : (r : Int) = 34 ∨ ¬ (r : Int) = 34 ∧ (r : Int) = 92) with h | ⟨h, h'⟩
        · have hc1 : ((r : Int) == 34) = true := by simp [h]
          clear h
          clear h34
          go_wp2_with (go_at_call 26; refine (WriteByte_k w.heap.size w.heap.size _ 92 _ hI2 (by rw [Lib.byteCells_length]; omega) hsz2).mono ?_; rintro e w2 ⟨rfl, h2, b2, k2⟩; refine Hid.out ?_)
          refine Lib.hid ?_
          have h2' : Lib.IsBuilderF 54 5 w.heap.size w.heap.size (Lib.byteCells (acc ++ [92])) w2 := by rw [Lib.byteCells_append]; exact Or.inr h2
          have hbw3 := hbw2.trans b2
          have hit3 := k2.iter hit2 (by omega)
          have hsz3 := b2.size
          clear h2 b2 k2 hit2 hbw2 hI2
          go_wp2_with (go_at_call 27; refine (WriteRune_k w.heap.size w.heap.size _ r (by omega) (by omega) _ h2' (by rw [Lib.byteCells_length]; simp; omega) (by omega)).mono ?_; rintro e w3 ⟨rfl, h3, b3, k3⟩; refine Hid.out ?_)
          refine Lib.hid ?_
          have h3' : Lib.IsBuilderF 54 5 w.heap.size w.heap.size (Lib.byteCells (acc ++ [92] ++ Lib.encodeRune r)) w3 := by rw [Lib.byteCells_append, Lib.byteCells_encodeRune]; exact Or.inr h3
          go_wp2
          go_roundw
          case rel => exact ⟨q, acc ++ [92] ++ Lib.encodeRune r, h3', k3.iter hit3 (by omega), hbw3.trans b3, by simpa using HAQ, by simp; omega, hwe⟩
          case measure =>
            simp only [World.iterPos, k3.iter hit3 (by omega)]
            exact HM.out
        · have hc1 : ((r : Int) == 34) = false := by simp [h]
          have hc2 : ((r : Int) == 92) = true := by simp [h']
          clear h h'
          clear h34
          go_wp2_with (go_at_call 26; refine (WriteByte_k w.heap.size w.heap.size _ 92 _ hI2 (by rw [Lib.byteCells_length]; omega) hsz2).mono ?_; rintro e w2 ⟨rfl, h2, b2, k2⟩; refine Hid.out ?_)
          refine Lib.hid ?_
          have h2' : Lib.IsBuilderF 54 5 w.heap.size w.heap.size (Lib.byteCells (acc ++ [92])) w2 := by rw [Lib.byteCells_append]; exact Or.inr h2
          have hbw3 := hbw2.trans b2
          have hit3 := k2.iter hit2 (by omega)
          have hsz3 := b2.size
          clear h2 b2 k2 hit2 hbw2 hI2
          go_wp2_with (go_at_call 27; refine (WriteRune_k w.heap.size w.heap.size _ r (by omega) (by omega) _ h2' (by rw [Lib.byteCells_length]; simp; omega) (by omega)).mono ?_; rintro e w3 ⟨rfl, h3, b3, k3⟩; refine Hid.out ?_)
          refine Lib.hid ?_
          have h3' : Lib.IsBuilderF 54 5 w.heap.size w.heap.size (Lib.byteCells (acc ++ [92] ++ Lib.encodeRune r)) w3 := by rw [Lib.byteCells_append, Lib.byteCells_encodeRune]; exact Or.inr h3
          go_wp2
          go_roundw
          case rel => exact ⟨q, acc ++ [92] ++ Lib.encodeRune r, h3', k3.iter hit3 (by omega), hbw3.trans b3, by simpa using HAQ, by simp; omega, hwe⟩
          case measure =>
            simp only [World.iterPos, k3.iter hit3 (by omega)]
            exact HM.out
      · by_cases h32 : (r : Int) < 32 ∨ (r : Int) = 127
        · have hqr : quotR (r : Int) = [92, 117, 123] ++ hexN2 r ++ [125] := by rw [quotR, if_neg h34, if_pos h32]; rfl
          rw [hqr] at HAQ
          have hl2 := hexN2_len r
          have hr256 : r < 256 := by omega
          have hc1 : ((r : Int) == 34) = false := by simp; omega
          have hc2 : ((r : Int) == 92) = false := by simp; omega
          clear h34
          rcases (by omega : (r : Int) < 32 ∨ ¬ (r : Int) < 32 ∧ (r : Int) = 127) with h | ⟨h, h'⟩
          · clear h32
            go_wp2_with (go_at_call 15; refine (FI_any r hr256 _ hG2).mono ?_; rintro e w2 ⟨rfl, b2⟩; refine Hid.out ?_)
            refine Lib.hid ?_
            have h2' := IsBuilderF_below hI2 b2
            have hbw3 := below_then hbw2 hsz2 b2
            have hit3 := (b2.block w1.heap.size (Array.getElem?_eq_some_iff.1 hit2).1).trans hit2
            have hsz3 := b2.size
            clear b2 hit2 hbw2 hI2
            go_wp2_with (go_at_call 28; refine (WriteString_k w.heap.size w.heap.size _ _ _ h2' ?hl (by omega)).mono ?_; rotate_left; rintro e w3 ⟨rfl, h3, b3, k3⟩; refine Hid.out ?_)
            case hl => rw [Lib.byteCells_length, esc_size]; omega
            refine Lib.hid ?_
            have h3' : Lib.IsBuilderF 54 5 w.heap.size w.heap.size (Lib.byteCells (acc ++ ([92, 117, 123] ++ hexN2 r ++ [125]))) w3 := by
              rw [esc_cells] at h3; rw [Lib.byteCells_append]; exact Or.inr h3
            clear h3
            go_wp2
            go_roundw
            case rel => exact ⟨q, acc ++ ([92, 117, 123] ++ hexN2 r ++ [125]), h3', k3.iter hit3 (by omega), hbw3.trans b3, HAQ, by simp; omega, hwe⟩
            case measure =>
              simp only [World.iterPos, k3.iter hit3 (by omega)]
              exact HM.out
          · have hc3 : ((r : Int) == 127) = true := by simp [h']
            clear h32 h'
            go_wp2_with (go_at_call 15; refine (FI_any r hr256 _ hG2).mono ?_; rintro e w2 ⟨rfl, b2⟩; refine Hid.out ?_)
            refine Lib.hid ?_
            have h2' := IsBuilderF_below hI2 b2
            have hbw3 := below_then hbw2 hsz2 b2
            have hit3 := (b2.block w1.heap.size (Array.getElem?_eq_some_iff.1 hit2).1).trans hit2
            have hsz3 := b2.size
            clear b2 hit2 hbw2 hI2
            go_wp2_with (go_at_call 28; refine (WriteString_k w.heap.size w.heap.size _ _ _ h2' ?hl (by omega)).mono ?_; rotate_left; rintro e w3 ⟨rfl, h3, b3, k3⟩; refine Hid.out ?_)
            case hl => rw [Lib.byteCells_length, esc_size]; omega
            refine Lib.hid ?_
            have h3' : Lib.IsBuilderF 54 5 w.heap.size w.heap.size (Lib.byteCells (acc ++ ([92, 117, 123] ++ hexN2 r ++ [125]))) w3 := by
              rw [esc_cells] at h3; rw [Lib.byteCells_append]; exact Or.inr h3
            clear h3
            go_wp2
            go_roundw
            case rel => exact ⟨q, acc ++ ([92, 117, 123] ++ hexN2 r ++ [125]), h3', k3.iter hit3 (by omega), hbw3.trans b3, HAQ, by simp; omega, hwe⟩
            case measure =>
              simp only [World.iterPos, k3.iter hit3 (by omega)]
              exact HM.out
        · have hqr : quotR (r : Int) = Lib.encodeRune r := by rw [quotR, if_neg h34, if_neg h32]
          rw [hqr] at HAQ
          have hl4 := encodeRune_len r
          have hc1 : ((r : Int) == 34) = false := by simp; omega
          have hc2 : ((r : Int) == 92) = false := by simp; omega
          have hc3 : ((r : Int) == 127) = false := by simp; omega
          have hc4 : ¬ (r : Int) < 32 := by omega
          clear h34 h32
          go_wp2_with (go_at_call 27; refine (WriteRune_k w.heap.size w.heap.size _ r (by omega) (by omega) _ hI2 (by rw [Lib.byteCells_length]; omega) hsz2).mono ?_; rintro e w3 ⟨rfl, h3, b3, k3⟩; refine Hid.out ?_)
          refine Lib.hid ?_
          have h3' : Lib.IsBuilderF 54 5 w.heap.size w.heap.size (Lib.byteCells (acc ++ Lib.encodeRune r)) w3 := by rw [Lib.byteCells_append, Lib.byteCells_encodeRune]; exact Or.inr h3
          go_wp2
          go_roundw
          case rel => exact ⟨q, acc ++ Lib.encodeRune r, h3', k3.iter hit2 (by omega), hbw2.trans b3, HAQ, by simp; omega, hwe⟩
          case measure =>
            simp only [World.iterPos, k3.iter hit2 (by omega)]
            exact HM.out
    · have hnx : ∀ ty, (Instr.next (.pointer (some ⟨w1.heap.size, 0, none⟩)) true ty).run Tryd.prog wr = _ := fun ty => Lib.run_next_end_at wr w1.heap.size s pos ty hit hp
      have hI2 := hI
      go_wp2_with (go_at_call 26; refine (WriteByte_k w.heap.size w.heap.size _ 34 _ hI (by rw [Lib.byteCells_length]; omega) (by omega)).mono ?_; rintro e w2 ⟨rfl, h2, b2, k2⟩; refine Hid.out ?_)
      refine Lib.hid ?_
      have h2' : Lib.IsBuilderF 54 5 w.heap.size w.heap.size (Lib.byteCells (acc ++ [34])) w2 := by rw [Lib.byteCells_append]; exact Or.inr h2
      go_wp2_with (go_at_call 29; refine (Tryd.Builder_String_any_k w.heap.size w.heap.size (acc ++ [34]) _ h2' (by have := b2.size; omega)).mono ?_)
      rintro e w3 ⟨rfl, _, b3, _⟩
      go_wp2
      go_ret
      have he : s.extract pos s.size = ⟨#[]⟩ := by
        apply ByteArray.ext; simp; omega
      have hacc := HA.out
      rw [quotL_end (by rw [rest_size]; omega), List.append_nil] at hacc
      subst hacc
      exact ⟨by simp [quotF], (hbw.trans b2).trans b3⟩
end Go.Proofs.YtfndfhhimhcakaaDoor.lx
