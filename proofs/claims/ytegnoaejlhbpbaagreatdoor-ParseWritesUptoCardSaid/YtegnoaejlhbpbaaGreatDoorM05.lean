/-
  quoted: a text between quotes, for every text of at most 2^40 bytes. Conditions: the package-level variables are laid. The parser's names: operators, words, name, column. Conditions: the package-level variables are laid; the text is no great one. The parser's take of an atom that a function must let pass. Conditions: the walk lies there; what the function answers; the package-level variables are laid.
-/
import Derived.Test.YtegnoaejlhbpbaaGreatDoorM02
import Derived.Test.YtegnoaejlhbpbaaGreatDoorM04
import Derived.Stop.FmtQuoteTie
import Derived.Lib.Split
import Derived.Lib.SlicesS
namespace Go.Proofs.YtegnoaejlhbpbaaGreatDoor.lx
open Go.RowKit

/-- how quoted writes a rune -/
def quotR (r : Int) : List UInt8 :=
  if r = 34 ∨ r = 92 then 92 :: Lib.encodeRune r else if r < 32 ∨ r = 127 then [92, 117, 123] ++ hexN2 r.toNat ++ [125] else Lib.encodeRune r
def quotL (l : ByteArray) : List UInt8 :=
  if _h : l.size = 0 then [] else if _h2 : (adv l).size < l.size then quotR (dr l) ++ quotL (adv l) else []
termination_by l.size
theorem quotL_end {l : ByteArray} (h : l.size = 0) : quotL l = [] := by rw [quotL, dif_pos h]
theorem quotL_go {l : ByteArray} (h : l.size ≠ 0) : quotL l = quotR (dr l) ++ quotL (adv l) := by rw [quotL, dif_neg h, dif_pos (adv_lt l h)]
def quotF (s : ByteArray) : ByteArray := ⟨(34 :: (quotL s ++ [34])).toArray⟩

theorem rest_size (s : ByteArray) (pos : Nat) : (s.extract pos s.size).size = s.size - pos := Lib.size_rest s pos
theorem decode_rest (s : ByteArray) (pos : Nat) (h : pos < s.size) : Lib.decodeGo (s.extract pos s.size) = Utf8.decode s pos := by
  unfold Lib.decodeGo
  rw [if_neg (by rw [rest_size]; omega)]
  exact Go.Extern.FmtText.decode_extract s pos
theorem adv_rest (s : ByteArray) (pos : Nat) (h : pos < s.size) : adv (s.extract pos s.size) = s.extract (pos + (Utf8.decode s pos).2) s.size := by
  unfold adv dn
  rw [decode_rest s pos h]
  exact Go.Extern.FmtText.extract_extract s pos _
theorem dr_rest (s : ByteArray) (pos : Nat) (h : pos < s.size) : dr (s.extract pos s.size) = ((Utf8.decode s pos).1 : Int) := by unfold dr; rw [decode_rest s pos h]
theorem dn_rest (s : ByteArray) (pos : Nat) (h : pos < s.size) : dn (s.extract pos s.size) = (Utf8.decode s pos).2 := by unfold dn; rw [decode_rest s pos h]
theorem all_rest (s : ByteArray) : s.extract 0 s.size = s := by apply ByteArray.ext; simp

theorem hexN2_len (u : Nat) : (hexN2 u).length ≤ 2 := by unfold hexN2; split <;> simp
theorem quotR_len (r : Int) : (quotR r).length ≤ 6 := by
  have := encodeRune_len r
  have := hexN2_len r.toNat
  unfold quotR
  split
  · simp; omega
  split
  · simp; omega
  · omega

theorem esc_eq (l : List UInt8) : (⟨#[92, 117, 123]⟩ ++ ⟨l.toArray⟩ ++ ⟨#[125]⟩ : ByteArray) = ⟨([92, 117, 123] ++ l ++ [125]).toArray⟩ := by
  apply ByteArray.ext
  simp [ByteArray.data_append]
theorem esc_size (l : List UInt8) : (⟨#[92, 117, 123]⟩ ++ ⟨l.toArray⟩ ++ ⟨#[125]⟩ : ByteArray).size = l.length + 4 := by
  rw [esc_eq]; simp [ByteArray.size]
theorem esc_cells (l : List UInt8) : Lib.strCells (⟨#[92, 117, 123]⟩ ++ ⟨l.toArray⟩ ++ ⟨#[125]⟩) = Lib.byteCells ([92, 117, 123] ++ l ++ [125]) := by
  rw [esc_eq]; rfl

set_option maxHeartbeats 8000000 in
set_option maxRecDepth 100000 in
theorem quoted_any (s : ByteArray) (w : World) (hG : Glob w) (hs : s.size ≤ 1099511627776) :
    Calls Tryz.prog 76 #[.string s] w fun e w' => e = .returned (.string (quotF s)) ∧ Below w.heap.size w w' := by
  have hB0 : Lib.IsBuilderF 112 5 w.heap.size w.heap.size (Lib.byteCells []) (w.alloc (.cells #[.pointer none, .slice none 0 0] 112)) := Lib.IsBuilderF.of (Lib.fresh_isBuilder 112 5 w)
  have hb0 : Below w.heap.size w (w.alloc (.cells #[.pointer none, .slice none 0 0] 112)) := (Below.refl _ w).alloc (Nat.le_refl _) _
  go_enter Tryz.func76, Tryz.ntmps76
  go_wp2_with (go_at_call 92; refine (WriteByte_k w.heap.size w.heap.size _ 34 _ hB0 (by rw [Lib.byteCells_length]; simp) hb0.size).mono ?_; rintro e w1 ⟨rfl, h1, b1, k1⟩; refine Hid.out ?_)
  refine Lib.hid ?_
  have hbw1 := hb0.trans b1
  have hlt1 := h1.lt
  have h1' : Lib.IsBuilderF 112 5 w.heap.size w.heap.size (Lib.byteCells [34]) w1 := Or.inr h1
  clear hB0 hb0 h1 k1 b1
  have hB1 : Lib.IsBuilderF 112 5 w.heap.size w.heap.size (Lib.byteCells [34]) w1 := h1'
  clear h1'
  go_wp2_with fail
  go_loopw [] (fun wr => ∃ (pos : Nat) (acc : List UInt8), Lib.IsBuilderF 112 5 w.heap.size w.heap.size (Lib.byteCells acc) wr ∧ wr.heap[w1.heap.size]? = some (.stringIter s pos) ∧ Below w.heap.size w wr ∧ Hid (acc ++ quotL (s.extract pos s.size) = 34 :: quotL s) ∧ acc.length ≤ 6 * pos + 1 ∧ pos ≤ s.size) (fun wr => s.size - wr.iterPos w1.heap.size)
  case atStart =>
    refine ⟨0, [34], hB1.alloc _, ?_, hbw1.alloc (by omega) _, Lib.hid (by rw [all_rest]; rfl), by simp, by omega⟩
    have := World.iter_heap w1 s 0
    simpa using this
  case round =>
    obtain ⟨pos, acc, hI, hit, hbw, HA, hal, hps⟩ := hrel
    have hsz : w1.heap.size < wr.heap.size := (Array.getElem?_eq_some_iff.1 hit).1
    by_cases hp : pos < s.size
    · have hnx : ∀ ty, (Instr.next (.pointer (some ⟨w1.heap.size, 0, none⟩)) true ty).run Tryz.prog wr = _ := fun ty => Lib.run_next_any_at wr w1.heap.size s pos ty hit hp
      have hq : quotL (s.extract pos s.size) = quotR ((Utf8.decode s pos).1 : Int) ++ quotL (s.extract (pos + (Utf8.decode s pos).2) s.size) := by
        rw [quotL_go (by rw [rest_size]; omega), dr_rest s pos hp, adv_rest s pos hp]
      have hwd : 1 ≤ (Utf8.decode s pos).2 := by rw [← dn_rest s pos hp]; exact (dn_bounds _ (by rw [rest_size]; omega)).1
      have hwe : pos + (Utf8.decode s pos).2 ≤ s.size := by
        have := (dn_bounds (s.extract pos s.size) (by rw [rest_size]; omega)).2.2
        rw [dn_rest s pos hp, rest_size] at this
        omega
      have hd1 := decode_le s pos
      have hI2 := hI.iterAt hit (pos + (Utf8.decode s pos).2)
      have hit2 := Lib.iterAt_heap wr w1.heap.size s pos (pos + (Utf8.decode s pos).2) hit
      have hbw2 := Lib.below_iterAt hbw (k := w1.heap.size) (by omega) s (pos + (Utf8.decode s pos).2)
      have hsz2 : w.heap.size ≤ (wr.iterAt w1.heap.size s (pos + (Utf8.decode s pos).2)).heap.size := by rw [Lib.iterAt_size]; omega
      have hG2 := hG.self hbw2
      have hM : s.size - (pos + (Utf8.decode s pos).2) < s.size - wr.iterPos w1.heap.size := by simp only [World.iterPos, hit]; omega
      have HM := Lib.hid hM
      have HQ := Lib.hid hq
      clear hM hq hI hbw
      obtain ⟨r, hr⟩ : ∃ r, (Utf8.decode s pos).1 = r := ⟨_, rfl⟩
      obtain ⟨q, hqq⟩ : ∃ q, pos + (Utf8.decode s pos).2 = q := ⟨_, rfl⟩
      rw [hr] at hnx HQ hd1
      rw [hqq] at hnx HQ hI2 hit2 hbw2 hsz2 hwe HM hG2
      have hpq : pos + 1 ≤ q := by omega
      clear hr hqq hwd
      have HAQ : Hid ((acc ++ quotR (r : Int)) ++ quotL (s.extract q s.size) = 34 :: quotL s) := Lib.hid (by rw [← HA.out, HQ.out, List.append_assoc])
      clear HA HQ
      by_cases h34 : (r : Int) = 34 ∨ (r : Int) = 92
      · have hqr : quotR (r : Int) = 92 :: Lib.encodeRune r := if_pos h34
        have hl4 := encodeRune_len r
        rw [hqr] at HAQ
        rcases (by omega : (r : Int) = 34 ∨ ¬ (r : Int) = 34 ∧ (r : Int) = 92) with h | ⟨h, h'⟩
        · have hc1 : ((r : Int) == 34) = true := by simp [h]
          clear h
          clear h34
          go_wp2_with (go_at_call 92; refine (WriteByte_k w.heap.size w.heap.size _ 92 _ hI2 (by rw [Lib.byteCells_length]; omega) hsz2).mono ?_; rintro e w2 ⟨rfl, h2, b2, k2⟩; refine Hid.out ?_)
          refine Lib.hid ?_
          have h2' : Lib.IsBuilderF 112 5 w.heap.size w.heap.size (Lib.byteCells (acc ++ [92])) w2 := by rw [Lib.byteCells_append]; exact Or.inr h2
          have hbw3 := hbw2.trans b2
          have hit3 := k2.iter hit2 (by omega)
          have hsz3 := b2.size
          clear h2 b2 k2 hit2 hbw2 hI2
          go_wp2_with (go_at_call 93; refine (WriteRune_k w.heap.size w.heap.size _ r (by omega) (by omega) _ h2' (by rw [Lib.byteCells_length]; simp; omega) (by omega)).mono ?_; rintro e w3 ⟨rfl, h3, b3, k3⟩; refine Hid.out ?_)
          refine Lib.hid ?_
          have h3' : Lib.IsBuilderF 112 5 w.heap.size w.heap.size (Lib.byteCells (acc ++ [92] ++ Lib.encodeRune r)) w3 := by rw [Lib.byteCells_append, Lib.byteCells_encodeRune]; exact Or.inr h3
          go_wp2
          go_roundw
          case rel => exact ⟨q, acc ++ [92] ++ Lib.encodeRune r, h3', k3.iter hit3 (by omega), hbw3.trans b3, by simpa using HAQ, by simp; omega, hwe⟩
          case measure =>
            simp only [World.iterPos, k3.iter hit3 (by omega)]
            exact HM.out
        · have hc1 : ((r : Int) == 34) = false := by simp [h]
          have hc2 : ((r : Int) == 92) = true := by simp [h']
          clear h h'
          clear h34
          go_wp2_with (go_at_call 92; refine (WriteByte_k w.heap.size w.heap.size _ 92 _ hI2 (by rw [Lib.byteCells_length]; omega) hsz2).mono ?_; rintro e w2 ⟨rfl, h2, b2, k2⟩; refine Hid.out ?_)
          refine Lib.hid ?_
          have h2' : Lib.IsBuilderF 112 5 w.heap.size w.heap.size (Lib.byteCells (acc ++ [92])) w2 := by rw [Lib.byteCells_append]; exact Or.inr h2
          have hbw3 := hbw2.trans b2
          have hit3 := k2.iter hit2 (by omega)
          have hsz3 := b2.size
          clear h2 b2 k2 hit2 hbw2 hI2
          go_wp2_with (go_at_call 93; refine (WriteRune_k w.heap.size w.heap.size _ r (by omega) (by omega) _ h2' (by rw [Lib.byteCells_length]; simp; omega) (by omega)).mono ?_; rintro e w3 ⟨rfl, h3, b3, k3⟩; refine Hid.out ?_)
          refine Lib.hid ?_
          have h3' : Lib.IsBuilderF 112 5 w.heap.size w.heap.size (Lib.byteCells (acc ++ [92] ++ Lib.encodeRune r)) w3 := by rw [Lib.byteCells_append, Lib.byteCells_encodeRune]; exact Or.inr h3
          go_wp2
          go_roundw
          case rel => exact ⟨q, acc ++ [92] ++ Lib.encodeRune r, h3', k3.iter hit3 (by omega), hbw3.trans b3, by simpa using HAQ, by simp; omega, hwe⟩
          case measure =>
            simp only [World.iterPos, k3.iter hit3 (by omega)]
            exact HM.out
      · by_cases h32 : (r : Int) < 32 ∨ (r : Int) = 127
        · have hqr : quotR (r : Int) = [92, 117, 123] ++ hexN2 r ++ [125] := by rw [quotR, if_neg h34, if_pos h32]; rfl
          rw [hqr] at HAQ
          have hl2 := hexN2_len r
          have hr256 : r < 256 := by omega
          have hc1 : ((r : Int) == 34) = false := by simp; omega
          have hc2 : ((r : Int) == 92) = false := by simp; omega
          clear h34
          rcases (by omega : (r : Int) < 32 ∨ ¬ (r : Int) < 32 ∧ (r : Int) = 127) with h | ⟨h, h'⟩
          · clear h32
            go_wp2_with (go_at_call 75; refine (FI_any r hr256 _ hG2).mono ?_; rintro e w2 ⟨rfl, b2⟩; refine Hid.out ?_)
            refine Lib.hid ?_
            have h2' := IsBuilderF_below hI2 b2
            have hbw3 := below_then hbw2 hsz2 b2
            have hit3 := (b2.block w1.heap.size (Array.getElem?_eq_some_iff.1 hit2).1).trans hit2
            have hsz3 := b2.size
            clear b2 hit2 hbw2 hI2
            go_wp2_with (go_at_call 73; refine (WriteString_k w.heap.size w.heap.size _ _ _ h2' ?hl (by omega)).mono ?_; rotate_left; rintro e w3 ⟨rfl, h3, b3, k3⟩; refine Hid.out ?_)
            case hl => rw [Lib.byteCells_length, esc_size]; omega
            refine Lib.hid ?_
            have h3' : Lib.IsBuilderF 112 5 w.heap.size w.heap.size (Lib.byteCells (acc ++ ([92, 117, 123] ++ hexN2 r ++ [125]))) w3 := by
              rw [esc_cells] at h3; rw [Lib.byteCells_append]; exact Or.inr h3
            clear h3
            go_wp2
            go_roundw
            case rel => exact ⟨q, acc ++ ([92, 117, 123] ++ hexN2 r ++ [125]), h3', k3.iter hit3 (by omega), hbw3.trans b3, HAQ, by simp; omega, hwe⟩
            case measure =>
              simp only [World.iterPos, k3.iter hit3 (by omega)]
              exact HM.out
          · have hc3 : ((r : Int) == 127) = true := by simp [h']
            clear h32 h'
            go_wp2_with (go_at_call 75; refine (FI_any r hr256 _ hG2).mono ?_; rintro e w2 ⟨rfl, b2⟩; refine Hid.out ?_)
            refine Lib.hid ?_
            have h2' := IsBuilderF_below hI2 b2
            have hbw3 := below_then hbw2 hsz2 b2
            have hit3 := (b2.block w1.heap.size (Array.getElem?_eq_some_iff.1 hit2).1).trans hit2
            have hsz3 := b2.size
            clear b2 hit2 hbw2 hI2
            go_wp2_with (go_at_call 73; refine (WriteString_k w.heap.size w.heap.size _ _ _ h2' ?hl (by omega)).mono ?_; rotate_left; rintro e w3 ⟨rfl, h3, b3, k3⟩; refine Hid.out ?_)
            case hl => rw [Lib.byteCells_length, esc_size]; omega
            refine Lib.hid ?_
            have h3' : Lib.IsBuilderF 112 5 w.heap.size w.heap.size (Lib.byteCells (acc ++ ([92, 117, 123] ++ hexN2 r ++ [125]))) w3 := by
              rw [esc_cells] at h3; rw [Lib.byteCells_append]; exact Or.inr h3
            clear h3
            go_wp2
            go_roundw
            case rel => exact ⟨q, acc ++ ([92, 117, 123] ++ hexN2 r ++ [125]), h3', k3.iter hit3 (by omega), hbw3.trans b3, HAQ, by simp; omega, hwe⟩
            case measure =>
              simp only [World.iterPos, k3.iter hit3 (by omega)]
              exact HM.out
        · have hqr : quotR (r : Int) = Lib.encodeRune r := by rw [quotR, if_neg h34, if_neg h32]
          rw [hqr] at HAQ
          have hl4 := encodeRune_len r
          have hc1 : ((r : Int) == 34) = false := by simp; omega
          have hc2 : ((r : Int) == 92) = false := by simp; omega
          have hc3 : ((r : Int) == 127) = false := by simp; omega
          have hc4 : ¬ (r : Int) < 32 := by omega
          clear h34 h32
          go_wp2_with (go_at_call 93; refine (WriteRune_k w.heap.size w.heap.size _ r (by omega) (by omega) _ hI2 (by rw [Lib.byteCells_length]; omega) hsz2).mono ?_; rintro e w3 ⟨rfl, h3, b3, k3⟩; refine Hid.out ?_)
          refine Lib.hid ?_
          have h3' : Lib.IsBuilderF 112 5 w.heap.size w.heap.size (Lib.byteCells (acc ++ Lib.encodeRune r)) w3 := by rw [Lib.byteCells_append, Lib.byteCells_encodeRune]; exact Or.inr h3
          go_wp2
          go_roundw
          case rel => exact ⟨q, acc ++ Lib.encodeRune r, h3', k3.iter hit2 (by omega), hbw2.trans b3, HAQ, by simp; omega, hwe⟩
          case measure =>
            simp only [World.iterPos, k3.iter hit2 (by omega)]
            exact HM.out
    · have hnx : ∀ ty, (Instr.next (.pointer (some ⟨w1.heap.size, 0, none⟩)) true ty).run Tryz.prog wr = _ := fun ty => Lib.run_next_end_at wr w1.heap.size s pos ty hit hp
      have hI2 := hI
      go_wp2_with (go_at_call 92; refine (WriteByte_k w.heap.size w.heap.size _ 34 _ hI (by rw [Lib.byteCells_length]; omega) (by omega)).mono ?_; rintro e w2 ⟨rfl, h2, b2, k2⟩; refine Hid.out ?_)
      refine Lib.hid ?_
      have h2' : Lib.IsBuilderF 112 5 w.heap.size w.heap.size (Lib.byteCells (acc ++ [34])) w2 := by rw [Lib.byteCells_append]; exact Or.inr h2
      go_wp2_with (go_at_call 74; refine (Tryz.Builder_String_any_k w.heap.size w.heap.size (acc ++ [34]) _ h2' (by have := b2.size; omega)).mono ?_)
      rintro e w3 ⟨rfl, _, b3, _⟩
      go_wp2
      go_ret
      have he : s.extract pos s.size = ⟨#[]⟩ := by
        apply ByteArray.ext; simp; omega
      have hacc := HA.out
      rw [quotL_end (by rw [rest_size]; omega), List.append_nil] at hacc
      subst hacc
      exact ⟨by simp [quotF], (hbw.trans b2).trans b3⟩
end Go.Proofs.YtegnoaejlhbpbaaGreatDoor.lx
namespace Go.Proofs.YtegnoaejlhbpbaaGreatDoor.lx
open Go.RowKit

/-- what the parser's library reads -/
structure PGlob (w : World) : Prop where
  glob : Glob w
  asp : Lib.TabIs Tryz.prog w "strings.asciiSpace" .u8 Lib.asciiSpaceTab
  mxl : ∃ m, w.cell? ⟨4, 0, none⟩ = some (.int .i64 m)
theorem g_asp : Tryz.prog.globalNamed "strings.asciiSpace" = some 2 := by kernel_rfl
theorem PGlob.of {w w' : World} (h : PGlob w) (hs : w.heap.size ≤ w'.heap.size) (hk : ∀ k, k < 11 → w'.heap[k]? = w.heap[k]?) : PGlob w' where
  glob := h.glob.of hs hk
  asp := (var_of_block g_asp (hk _ (by decide))).trans h.asp
  mxl := by obtain ⟨m, hm⟩ := h.mxl; exact ⟨m, (World.cell?_of_block (hk 4 (by decide))).trans hm⟩
theorem PGlob.self {w w' : World} (h : PGlob w) (hb : Below w.heap.size w w') : PGlob w' := h.of hb.size fun k hk => hb.block k (by have := h.glob.size; omega)
theorem PGlob.gb {w w' : World} (h : PGlob w) {b : Nat} (hB : 11 ≤ b) (hb : w.grownBy w' (some b)) : PGlob w' := h.of hb.size fun k hk => hb.block k (by have := h.glob.size; omega) (by intro e; injection e; omega)

/-- strings in a block of their own -/
def SBlk (b : Nat) (zs : List ByteArray) (w : World) : Prop := ∀ j, j < zs.length → w.cell? ⟨b, 0 + j, none⟩ = some (.string (zs.getD j ByteArray.empty))
theorem SBlk.below {b : Nat} {zs : List ByteArray} {w w' : World} (h : SBlk b zs w) (hb : Below w.heap.size w w') : SBlk b zs w' := fun j hj => keep_cellP hb (h j hj)
theorem sblk_new (w : World) (zs : List ByteArray) (cs : Array Value) (t : TypeId) (hcs : ∀ j, j < zs.length → cs[j]? = some (.string (zs.getD j ByteArray.empty))) : SBlk w.heap.size zs (w.alloc (.cells cs t)) := by
  intro j hj
  rw [Lib.cell_of_heap (heap_alloc_new _ _), Nat.zero_add]
  exact hcs j hj

set_option maxRecDepth 100000 in
theorem operators_any (w : World) (hG : PGlob w) :
    Calls Tryz.prog 27 #[] w fun e w' => e = .returned (.slice (some ⟨w.heap.size, 0, none⟩) 15 15) ∧ SBlk w.heap.size opsL w' ∧ Below w.heap.size w w' := by
  have hf : Lib.fields [110, 101, 103, 32, 110, 111, 116, 32, 110, 117, 108, 108, 63, 32, 108, 101, 110, 103, 116, 104, 32, 43, 32, 45, 32, 42, 32, 61, 32, 60, 62, 32, 60, 32, 60, 61, 32, 62, 32, 62, 61, 32, 97, 110, 100, 32, 111, 114] = opsL.map (·.data.toList) := by decide +kernel
  have hc := Tryz.strings_Fields_laid ⟨#[110, 101, 103, 32, 110, 111, 116, 32, 110, 117, 108, 108, 63, 32, 108, 101, 110, 103, 116, 104, 32, 43, 32, 45, 32, 42, 32, 61, 32, 60, 62, 32, 60, 32, 60, 61, 32, 62, 32, 62, 61, 32, 97, 110, 100, 32, 111, 114]⟩ w (by decide) (fun j b hb => by
    have h : ([110, 101, 103, 32, 110, 111, 116, 32, 110, 117, 108, 108, 63, 32, 108, 101, 110, 103, 116, 104, 32, 43, 32, 45, 32, 42, 32, 61, 32, 60, 62, 32, 60, 32, 60, 61, 32, 62, 32, 62, 61, 32, 97, 110, 100, 32, 111, 114] : List UInt8).all (fun b => decide (b.toNat < 128)) = true := by decide +kernel
    exact of_decide_eq_true (List.all_eq_true.1 h b (List.mem_of_getElem? hb))) hG.asp
  simp only [hf] at hc
  have hb : Below w.heap.size w (w.alloc (.cells ((opsL.map (·.data.toList)).map fun l => Value.string ⟨l.toArray⟩).toArray 9)) := (Below.refl _ w).alloc (Nat.le_refl _) _
  have hS : SBlk w.heap.size opsL (w.alloc (.cells ((opsL.map (·.data.toList)).map fun l => Value.string ⟨l.toArray⟩).toArray 9)) := sblk_new w opsL _ _ (by
    intro j hj
    have hj15 : j < 15 := hj
    have : ∀ k : Fin 15, (((opsL.map (·.data.toList)).map fun l => Value.string ⟨l.toArray⟩).toArray)[k.val]? = some (.string (opsL.getD k.val ByteArray.empty)) := by
      intro k
      match k with
      | ⟨0, _⟩ => rfl | ⟨1, _⟩ => rfl | ⟨2, _⟩ => rfl | ⟨3, _⟩ => rfl | ⟨4, _⟩ => rfl | ⟨5, _⟩ => rfl | ⟨6, _⟩ => rfl | ⟨7, _⟩ => rfl
      | ⟨8, _⟩ => rfl | ⟨9, _⟩ => rfl | ⟨10, _⟩ => rfl | ⟨11, _⟩ => rfl | ⟨12, _⟩ => rfl | ⟨13, _⟩ => rfl | ⟨14, _⟩ => rfl
    exact this ⟨j, hj15⟩)
  have hl : (opsL.map (·.data.toList)).length = 15 := by decide
  rw [hl] at hc
  generalize hW : w.alloc (.cells ((opsL.map (·.data.toList)).map fun l => Value.string ⟨l.toArray⟩).toArray 9) = W at hc hb hS
  clear hW hf hl
  go_enter Tryz.func27, Tryz.ntmps27
  go_wp2_with (go_at_call 48; refine hc.mono ?_; rintro e w2 ⟨rfl, rfl⟩; refine Hid.out ?_)
  refine Lib.hid ?_
  go_wp2_with fail
  go_ret
  exact ⟨rfl, hS, hb⟩

set_option maxRecDepth 100000 in
theorem words_any (w : World) :
    Calls Tryz.prog 23 #[] w fun e w' => e = .returned (.slice (some ⟨w.heap.size, 0, none⟩) 5 5) ∧ SBlk w.heap.size wordsL w' ∧ Below w.heap.size w w' := by
  go_enter Tryz.func23, Tryz.ntmps23
  go_wp2_with fail
  go_ret
  refine ⟨rfl, sblk_new w wordsL _ _ ?_, (Below.refl _ w).alloc (Nat.le_refl _) _⟩
  intro j hj
  have hj5 : j < 5 := hj
  have : ∀ k : Fin 5, (#[Value.string ⟨#[]⟩, .string ⟨#[99, 111, 117, 110, 116]⟩, .string ⟨#[115, 117, 109]⟩, .string ⟨#[109, 105, 110]⟩, .string ⟨#[109, 97, 120]⟩] : Array Value)[k.val]? = some (.string (wordsL.getD k.val ByteArray.empty)) := by
    intro k
    match k with
    | ⟨0, _⟩ => rfl | ⟨1, _⟩ => rfl | ⟨2, _⟩ => rfl | ⟨3, _⟩ => rfl | ⟨4, _⟩ => rfl
  exact this ⟨j, hj5⟩

/-- where the range over a name stands -/
def NmAt (s : ByteArray) (pos : Nat) : Prop := nameG (decide (pos = 0)) (gl (B (s.extract pos s.size))) = nameG true (gl (B s))
def okRune (first : Bool) (r : Int) : Bool := (97 ≤ r && r ≤ 122) || (65 ≤ r && r ≤ 90) || r == 95 || 128 ≤ r || (!first && 48 ≤ r && r ≤ 57)
theorem NmAt.step {s : ByteArray} {pos q r : Nat} (h : NmAt s pos) (hp : pos < s.size) (hr : (Utf8.decode s pos).1 = r) (hq : pos + (Utf8.decode s pos).2 = q) (h1 : pos < q) :
    if okRune (decide (pos = 0)) (r : Int) = true then NmAt s q else nameG true (gl (B s)) = false := by
  unfold NmAt at h ⊢
  rw [glB_cons (by rw [rest_size]; omega), dr_rest s pos hp, adv_rest s pos hp, hr, hq] at h
  have hd : decide (q = 0) = false := by simp; omega
  rw [hd]
  split
  · rename_i hk
    rw [← h]
    show _ = (okRune (decide (pos = 0)) (r : Int) && _)
    rw [hk, Bool.true_and]
  · rename_i hk
    rw [← h]
    show (okRune (decide (pos = 0)) (r : Int) && _) = false
    rw [Bool.eq_false_iff.2 hk, Bool.false_and]
theorem NmAt.done {s : ByteArray} {pos : Nat} (h : NmAt s pos) (hp : ¬ pos < s.size) : nameG true (gl (B s)) = true := by
  unfold NmAt at h
  rw [← h, glB_nil (by rw [rest_size]; omega)]
  rfl
theorem name_no {s : ByteArray} (h : s.size = 0 ∨ 64 < s.size ∨ Lib.validD s.data.toList = false ∨ Lib.containsS [nullB, trueB, falseB] s = true ∨ nameG true (gl (B s)) = false) : nameR s = false := by
  unfold nameR
  rcases h with h | h | h | h | h
  · simp [h]
  · rw [decide_eq_false (show ¬ s.size ≤ 64 by omega)]; simp
  · rw [h]; simp
  · rw [h]; simp
  · rw [h]; simp
theorem name_yes {s : ByteArray} (h0 : s.size ≠ 0) (h1 : s.size ≤ 64) (h2 : Lib.validD s.data.toList = true) (h3 : Lib.containsS [nullB, trueB, falseB] s = false) (h4 : nameG true (gl (B s)) = true) : nameR s = true := by
  unfold nameR
  rw [h2, h3, h4, decide_eq_true h0, decide_eq_true h1]
  rfl

set_option maxHeartbeats 16000000 in
set_option maxRecDepth 100000 in
theorem name_any (s : ByteArray) (w : World) (hG : Glob w) (hs : s.size ≤ 9223372036854775807) :
    Calls Tryz.prog 35 #[.string s] w fun e w' => e = .returned (.bool (nameR s)) ∧ Below w.heap.size w w' := by
  obtain ⟨N, hN⟩ : ∃ N, nameR s = N := ⟨_, rfl⟩
  rw [hN]
  by_cases h0 : s.size = 0
  · have hi : s.toList.isEmpty = true := by rw [Lib.toList_data, show s.data.toList = [] from B_nil h0]; rfl
    have hF := Lib.hid (hN.symm.trans (name_no (.inl h0)))
    clear hN h0
    go_enter Tryz.func35, Tryz.ntmps35
    go_wp2_with fail
    go_ret
    exact ⟨ret_bool hF.out.symm, Below.refl _ _⟩
  have hl : ¬ s.toList = [] := by rw [Lib.toList_data]; exact B_ne h0
  have hi : s.toList.isEmpty = false := by simp [hl]
  by_cases h64 : 64 < s.size
  · have hF := Lib.hid (hN.symm.trans (name_no (.inr (.inl h64))))
    have hI : (64 : Int) < (s.size : Int) := by omega
    clear hN
    go_enter Tryz.func35, Tryz.ntmps35
    go_wp2_with fail
    go_ret
    exact ⟨ret_bool hF.out.symm, Below.refl _ _⟩
  have hI : ¬ (64 : Int) < (s.size : Int) := by omega
  have hv := Tryz.utf8_ValidString_laid s w hs hG.utf
  cases hvd : Lib.validD s.data.toList with
  | false =>
    rw [hvd] at hv
    have hF := Lib.hid (hN.symm.trans (name_no (.inr (.inr (.inl hvd)))))
    clear hN hvd
    go_enter Tryz.func35, Tryz.ntmps35
    go_wp2_with (go_at_call 31; refine hv.mono ?_; rintro e w2 ⟨rfl, hb2⟩; refine Hid.out ?_)
    refine Lib.hid ?_
    go_wp2_with fail
    go_ret
    exact ⟨ret_bool hF.out.symm, hb2⟩
  | true =>
  rw [hvd] at hv
  have hlit : ∀ w2 : World, SBlk w2.heap.size [nullB, trueB, falseB] (w2.alloc (.cells #[.string ⟨#[110, 117, 108, 108]⟩, .string ⟨#[116, 114, 117, 101]⟩, .string ⟨#[102, 97, 108, 115, 101]⟩] 9)) := fun w2 => sblk_new w2 _ _ _ (by
    intro j hj
    have hj3 : j < 3 := hj
    match j, hj3 with
    | 0, _ => rfl
    | 1, _ => rfl
    | 2, _ => rfl)
  have hcn := fun w2 => Tryz.slices_Contains_string (World.heap w2).size 0 3 3 [nullB, trueB, falseB] s _ (by decide) (by decide) (hlit w2)
  rw [show List.take 3 [nullB, trueB, falseB] = [nullB, trueB, falseB] from rfl] at hcn
  have hcn := fun w2 => (hcn w2).mono fun e w' ⟨h1, h2⟩ => (⟨h1, h2 ▸ (Below.refl w2.heap.size w2).alloc (Nat.le_refl _) _⟩ : e = _ ∧ Below w2.heap.size w2 w')
  cases hct : Lib.containsS [nullB, trueB, falseB] s with
  | true =>
    rw [hct] at hcn
    have hF := Lib.hid (hN.symm.trans (name_no (.inr (.inr (.inr (.inl hct))))))
    clear hN hvd hct hlit
    go_enter Tryz.func35, Tryz.ntmps35
    go_wp2_with (go_at_call 31; refine hv.mono ?_; rintro e w2 ⟨rfl, hb2⟩; refine Hid.out ?_)
    refine Lib.hid ?_
    go_wp2_with (go_at_call 54; refine (hcn _).mono ?_; rintro e w3 ⟨rfl, hb3⟩; refine Hid.out ?_)
    refine Lib.hid ?_
    go_wp2_with fail
    go_ret
    exact ⟨ret_bool hF.out.symm, below_self hb2 hb3⟩
  | false =>
  rw [hct] at hcn
  have HY : Hid (nameG true (gl (B s)) = true → N = true) := Lib.hid fun h4 => hN.symm.trans (name_yes h0 (by omega) hvd hct h4)
  have HNO : Hid (nameG true (gl (B s)) = false → N = false) := Lib.hid fun h4 => hN.symm.trans (name_no (.inr (.inr (.inr (.inr h4)))))
  clear hN hvd hct hlit
  go_enter Tryz.func35, Tryz.ntmps35
  go_wp2_with (go_at_call 31; refine hv.mono ?_; rintro e w2 ⟨rfl, hb2⟩; refine Hid.out ?_)
  refine Lib.hid ?_
  go_wp2_with (go_at_call 54; refine (hcn _).mono ?_; rintro e w3 ⟨rfl, hb3'⟩; refine Hid.out ?_)
  refine Lib.hid ?_
  have hb3 : Below w.heap.size w w3 := below_self hb2 hb3'
  clear hb3' hcn hv hb2
  have hsz3 := hb3.size
  go_wp2_with fail
  go_loopw [] (fun wr => ∃ (pos : Nat), wr.heap[w3.heap.size]? = some (.stringIter s pos) ∧ Below w3.heap.size w3 wr ∧ Hid (NmAt s pos) ∧ pos ≤ s.size) (fun wr => s.size - wr.iterPos w3.heap.size)
  case atStart =>
    refine ⟨0, ?_, (Below.refl _ w3).alloc (Nat.le_refl _) _, Lib.hid (by unfold NmAt; rw [all_rest]; rfl), by omega⟩
    have := World.iter_heap w3 s 0
    simpa using this
  case round =>
    obtain ⟨pos, hit, hbr, HA, hps⟩ := hrel
    by_cases hp : pos < s.size
    · have hnxt : ∀ ty, (Instr.next (.pointer (some ⟨w3.heap.size, 0, none⟩)) true ty).run Tryz.prog wr = _ := fun ty => Lib.run_next_any_at wr w3.heap.size s pos ty hit hp
      have hwd : 1 ≤ (Utf8.decode s pos).2 := by rw [← dn_rest s pos hp]; exact (dn_bounds _ (by rw [rest_size]; omega)).1
      have hwe : pos + (Utf8.decode s pos).2 ≤ s.size := by
        have := (dn_bounds (s.extract pos s.size) (by rw [rest_size]; omega)).2.2
        rw [dn_rest s pos hp, rest_size] at this
        omega
      obtain ⟨r, hr⟩ : ∃ r, (Utf8.decode s pos).1 = r := ⟨_, rfl⟩
      obtain ⟨q, hq⟩ : ∃ q, pos + (Utf8.decode s pos).2 = q := ⟨_, rfl⟩
      have hst := HA.out.step hp hr hq (by omega)
      have hit2 := Lib.iterAt_heap wr w3.heap.size s pos q hit
      have hbr2 := Lib.below_iterAt hbr (k := w3.heap.size) (Nat.le_refl _) s q
      rw [hq] at hnxt hwe
      rw [hr] at hnxt
      have HM : Hid (s.size - q < s.size - wr.iterPos w3.heap.size) := Lib.hid (by simp only [World.iterPos, hit]; omega)
      have hbz := below_self hb3 hbr2
      clear HA hr hq hwd hbr
      by_cases x1 : 97 ≤ r
      · by_cases x2 : r ≤ 122
        · skip
          have hk : okRune (decide (pos = 0)) (r : Int) = true := by unfold okRune; simp; omega
          rw [if_pos hk] at hst
          have HST := Lib.hid hst
          clear hst hk
          have a97 : (97 : Int) ≤ (r : Int) := by omega
          have b122 : (r : Int) ≤ (122 : Int) := by omega
          go_wp2_with fail
          exact ⟨⟨q, hit2, hbr2, HST, hwe⟩, by simp only [World.iterPos, hit2]; exact HM.out⟩
        · by_cases x3 : 128 ≤ r
          · skip
            have hk : okRune (decide (pos = 0)) (r : Int) = true := by unfold okRune; simp; omega
            rw [if_pos hk] at hst
            have HST := Lib.hid hst
            clear hst hk
            have a97 : (97 : Int) ≤ (r : Int) := by omega
            have b122 : ¬ (r : Int) ≤ (122 : Int) := by omega
            have a65 : (65 : Int) ≤ (r : Int) := by omega
            have b90 : ¬ (r : Int) ≤ (90 : Int) := by omega
            have e95 : ((r : Int) == 95) = false := by simp; omega
            have a128 : (128 : Int) ≤ (r : Int) := by omega
            go_wp2_with fail
            exact ⟨⟨q, hit2, hbr2, HST, hwe⟩, by simp only [World.iterPos, hit2]; exact HM.out⟩
          · skip
            by_cases x4 : pos = 0
            · have p0 : ¬ (0 : Int) < (pos : Int) := by omega
              have hk : ¬ okRune (decide (pos = 0)) (r : Int) = true := by unfold okRune; simp; omega
              rw [if_neg hk] at hst
              have HF := Lib.hid (HNO.out hst)
              clear hst hk
              have a97 : (97 : Int) ≤ (r : Int) := by omega
              have b122 : ¬ (r : Int) ≤ (122 : Int) := by omega
              have a65 : (65 : Int) ≤ (r : Int) := by omega
              have b90 : ¬ (r : Int) ≤ (90 : Int) := by omega
              have e95 : ((r : Int) == 95) = false := by simp; omega
              have a128 : ¬ (128 : Int) ≤ (r : Int) := by omega
              go_wp2_with fail
              go_ret
              exact ⟨ret_bool HF.out.symm, hbz⟩
            · have p0 : (0 : Int) < (pos : Int) := by omega
              have hk : ¬ okRune (decide (pos = 0)) (r : Int) = true := by unfold okRune; simp; omega
              rw [if_neg hk] at hst
              have HF := Lib.hid (HNO.out hst)
              clear hst hk
              have a97 : (97 : Int) ≤ (r : Int) := by omega
              have b122 : ¬ (r : Int) ≤ (122 : Int) := by omega
              have a65 : (65 : Int) ≤ (r : Int) := by omega
              have b90 : ¬ (r : Int) ≤ (90 : Int) := by omega
              have e95 : ((r : Int) == 95) = false := by simp; omega
              have a128 : ¬ (128 : Int) ≤ (r : Int) := by omega
              have a48 : (48 : Int) ≤ (r : Int) := by omega
              have b57 : ¬ (r : Int) ≤ (57 : Int) := by omega
              go_wp2_with fail
              go_ret
              exact ⟨ret_bool HF.out.symm, hbz⟩
      · by_cases x2 : 65 ≤ r
        · by_cases x3 : r ≤ 90
          · skip
            have hk : okRune (decide (pos = 0)) (r : Int) = true := by unfold okRune; simp; omega
            rw [if_pos hk] at hst
            have HST := Lib.hid hst
            clear hst hk
            have a97 : ¬ (97 : Int) ≤ (r : Int) := by omega
            have a65 : (65 : Int) ≤ (r : Int) := by omega
            have b90 : (r : Int) ≤ (90 : Int) := by omega
            go_wp2_with fail
            exact ⟨⟨q, hit2, hbr2, HST, hwe⟩, by simp only [World.iterPos, hit2]; exact HM.out⟩
          · by_cases x4 : r = 95
            · skip
              have hk : okRune (decide (pos = 0)) (r : Int) = true := by unfold okRune; simp; omega
              rw [if_pos hk] at hst
              have HST := Lib.hid hst
              clear hst hk
              have a97 : ¬ (97 : Int) ≤ (r : Int) := by omega
              have a65 : (65 : Int) ≤ (r : Int) := by omega
              have b90 : ¬ (r : Int) ≤ (90 : Int) := by omega
              have e95 : ((r : Int) == 95) = true := by simp; omega
              go_wp2_with fail
              exact ⟨⟨q, hit2, hbr2, HST, hwe⟩, by simp only [World.iterPos, hit2]; exact HM.out⟩
            · by_cases x5 : pos = 0
              · have p0 : ¬ (0 : Int) < (pos : Int) := by omega
                have hk : ¬ okRune (decide (pos = 0)) (r : Int) = true := by unfold okRune; simp; omega
                rw [if_neg hk] at hst
                have HF := Lib.hid (HNO.out hst)
                clear hst hk
                have a97 : ¬ (97 : Int) ≤ (r : Int) := by omega
                have a65 : (65 : Int) ≤ (r : Int) := by omega
                have b90 : ¬ (r : Int) ≤ (90 : Int) := by omega
                have e95 : ((r : Int) == 95) = false := by simp; omega
                have a128 : ¬ (128 : Int) ≤ (r : Int) := by omega
                go_wp2_with fail
                go_ret
                exact ⟨ret_bool HF.out.symm, hbz⟩
              · have p0 : (0 : Int) < (pos : Int) := by omega
                have hk : ¬ okRune (decide (pos = 0)) (r : Int) = true := by unfold okRune; simp; omega
                rw [if_neg hk] at hst
                have HF := Lib.hid (HNO.out hst)
                clear hst hk
                have a97 : ¬ (97 : Int) ≤ (r : Int) := by omega
                have a65 : (65 : Int) ≤ (r : Int) := by omega
                have b90 : ¬ (r : Int) ≤ (90 : Int) := by omega
                have e95 : ((r : Int) == 95) = false := by simp; omega
                have a128 : ¬ (128 : Int) ≤ (r : Int) := by omega
                have a48 : (48 : Int) ≤ (r : Int) := by omega
                have b57 : ¬ (r : Int) ≤ (57 : Int) := by omega
                go_wp2_with fail
                go_ret
                exact ⟨ret_bool HF.out.symm, hbz⟩
        · by_cases x5 : pos = 0
          · have p0 : ¬ (0 : Int) < (pos : Int) := by omega
            have hk : ¬ okRune (decide (pos = 0)) (r : Int) = true := by unfold okRune; simp; omega
            rw [if_neg hk] at hst
            have HF := Lib.hid (HNO.out hst)
            clear hst hk
            have a97 : ¬ (97 : Int) ≤ (r : Int) := by omega
            have a65 : ¬ (65 : Int) ≤ (r : Int) := by omega
            have e95 : ((r : Int) == 95) = false := by simp; omega
            have a128 : ¬ (128 : Int) ≤ (r : Int) := by omega
            go_wp2_with fail
            go_ret
            exact ⟨ret_bool HF.out.symm, hbz⟩
          · have p0 : (0 : Int) < (pos : Int) := by omega
            by_cases x6 : 48 ≤ r
            · by_cases x7 : r ≤ 57
              · skip
                have hk : okRune (decide (pos = 0)) (r : Int) = true := by unfold okRune; simp; omega
                rw [if_pos hk] at hst
                have HST := Lib.hid hst
                clear hst hk
                have a97 : ¬ (97 : Int) ≤ (r : Int) := by omega
                have a65 : ¬ (65 : Int) ≤ (r : Int) := by omega
                have e95 : ((r : Int) == 95) = false := by simp; omega
                have a128 : ¬ (128 : Int) ≤ (r : Int) := by omega
                have a48 : (48 : Int) ≤ (r : Int) := by omega
                have b57 : (r : Int) ≤ (57 : Int) := by omega
                go_wp2_with fail
                exact ⟨⟨q, hit2, hbr2, HST, hwe⟩, by simp only [World.iterPos, hit2]; exact HM.out⟩
              · skip
                have hk : ¬ okRune (decide (pos = 0)) (r : Int) = true := by unfold okRune; simp; omega
                rw [if_neg hk] at hst
                have HF := Lib.hid (HNO.out hst)
                clear hst hk
                have a97 : ¬ (97 : Int) ≤ (r : Int) := by omega
                have a65 : ¬ (65 : Int) ≤ (r : Int) := by omega
                have e95 : ((r : Int) == 95) = false := by simp; omega
                have a128 : ¬ (128 : Int) ≤ (r : Int) := by omega
                have a48 : (48 : Int) ≤ (r : Int) := by omega
                have b57 : ¬ (r : Int) ≤ (57 : Int) := by omega
                go_wp2_with fail
                go_ret
                exact ⟨ret_bool HF.out.symm, hbz⟩
            · skip
              have hk : ¬ okRune (decide (pos = 0)) (r : Int) = true := by unfold okRune; simp; omega
              rw [if_neg hk] at hst
              have HF := Lib.hid (HNO.out hst)
              clear hst hk
              have a97 : ¬ (97 : Int) ≤ (r : Int) := by omega
              have a65 : ¬ (65 : Int) ≤ (r : Int) := by omega
              have e95 : ((r : Int) == 95) = false := by simp; omega
              have a128 : ¬ (128 : Int) ≤ (r : Int) := by omega
              have a48 : ¬ (48 : Int) ≤ (r : Int) := by omega
              go_wp2_with fail
              go_ret
              exact ⟨ret_bool HF.out.symm, hbz⟩
    · have hnxt : ∀ ty, (Instr.next (.pointer (some ⟨w3.heap.size, 0, none⟩)) true ty).run Tryz.prog wr = _ := fun ty => Lib.run_next_end_at wr w3.heap.size s pos ty hit hp
      have HF := Lib.hid (HY.out (HA.out.done hp))
      have hbz := below_self hb3 hbr
      clear HA
      go_wp2_with fail
      go_ret
      exact ⟨ret_bool HF.out.symm, hbz⟩
end Go.Proofs.YtegnoaejlhbpbaaGreatDoor.lx
namespace Go.Proofs.YtegnoaejlhbpbaaGreatDoor.lx
open Go.RowKit

/-- what a function of texts answers -/
def Lets (g : Nat) (p : ByteArray → Bool) : Prop :=
  (∀ args w, (callFunc g args).run Tryz.prog w = .ok (.enter g args) w) ∧ ∀ (s : ByteArray) (w : World), PGlob w → s.size < 4294967281 → Calls Tryz.prog g #[.string s] w fun e w' => e = .returned (.bool (p s)) ∧ Below w.heap.size w w'
theorem Took.set {A R : Nat} {rest : List Tok} {fin op : Int} {sv : Value} {t : Tok} {w w2 wr : World} {ao : Option Addr} {cap : Nat} {x : Value} (hA : wr.heap[A]? = some (.cells #[x, .int .i64 fin, .int .i64 op, sv] 70 (0, 0)))
    (hc : rest.length ≤ cap) (hm : cap ≤ 9223372036854775807) (hT : TRow A ao rest wr) (hg : w.grownBy wr (some A)) (h0 : Cell4 w.heap.size Tok.no wr) (h1 : Cell4 R t wr) (hlt : A < w.heap.size) (hR : A < R) :
    Took A R rest fin op sv t w w2 (wr.setCell ⟨A, 0, none⟩ (.slice ao rest.length cap)) :=
  ⟨⟨ao, cap, atw_left hA, hc, hm, hT.other (Nat.le_refl _) _ _⟩, set_gb hg _ _, h0.set (by omega) _ _, h1.set (by omega) _ _⟩

set_option maxHeartbeats 4000000 in
set_option maxRecDepth 100000 in
theorem take_may {A bf g : Nat} {p : ByteArray → Bool} {t : Tok} {rest : List Tok} {fin op : Int} {sv : Value} {w : World} (h : AtW A (t :: rest) fin op sv w) (hG : PGlob w) (hf : Lets g p) (hcf : w.cell? ⟨bf, 0, none⟩ = some (.func (.func g) #[] #[])) (hs : t.s.size < 4294967281)
    (hk : t.k = 3) (hp3 : p t.s = true) :
    Calls Tryz.prog 58 #[.pointer (some ⟨A, 0, none⟩), .int .u8 3, .slice (some ⟨bf, 0, none⟩) 1 1] w fun e w' => e = .returned t.v ∧ AtW A rest fin op sv w' ∧ w.grownBy w' (some A) := by
  have hp := wpeek_any (h.below ((Below.refl _ w).alloc (Nat.le_refl _) (.cells #[.int .u8 0, .string ⟨#[]⟩, .int .i64 0, .int .i64 0] 79)))
  have HT := Lib.hid fun w2 hb => Taken.mk' (w2 := w2) (t := t) h hb
  have HY := Lib.hid fun w2 p y is (hi : is = true) => must_yes (w := w2) (p := p) (why := y) (is := is) hi
  have HGW := Lib.hid fun w2 (hb : Below w.heap.size w w2) => hG.self hb
  have HCF := Lib.hid fun w2 (hb : Below w.heap.size w w2) => keep_cellP hb hcf
  have eg := hf.1
  have HF := Lib.hid fun w2 hG => hf.2 t.s w2 hG hs
  have hbl := World.block_lt_of_cell? w ⟨bf, 0, none⟩ hcf
  rw [hp3] at HF
  rw [show tokAt (t :: rest) fin = t from rfl] at hp
  obtain ⟨tk, ts, tn, ta⟩ := t
  unfold Tok.v at hp
  simp only at hk hp HF ⊢
  subst hk
  clear h hG hf hcf hp3 hs
  go_enter Tryz.func58, Tryz.ntmps58
  go_wp2_with (go_at_call 86; refine hp.mono ?_; rintro e w2 ⟨rfl, hb2⟩; refine Hid.out ?_)
  refine Lib.hid ?_
  have ht := HT.out w2 hb2
  have hlt2 : A < w2.heap.size := ht.at_.lt
  have hRlt := ht.size
  have hlt := ht.lt
  have HTk := Lib.hid ht
  clear hp hb2 HT ht
  go_wp2_with (go_at_call 71; refine (HY.out _ _ _ _ (by first | rfl | simp)).mono ?_; rintro e w3 ⟨rfl, rfl⟩; refine Hid.out ?_)
  refine Lib.hid ?_
  go_wp2_with (go_at_call 71; refine (HY.out _ _ _ _ (by first | rfl | simp)).mono ?_; rintro e w3 ⟨rfl, rfl⟩; refine Hid.out ?_)
  refine Lib.hid ?_
  go_wp2_with fail
  go_loopw [9, 32] (fun _ v wr => ∃ i : Nat, v = .int .i64 i ∧ i ≤ 1 ∧ Below (tkT w2 ⟨3, ts, tn, ta⟩).heap.size (tkT w2 ⟨3, ts, tn, ta⟩) wr) (fun _ v _ => 1 - (intOf v).toNat)
  case atStart => exact ⟨0, rfl, Nat.zero_le _, Below.refl _ _⟩
  case round =>
    obtain ⟨i, rfl, hi, hbr⟩ := hrel
    have hbw : Below w.heap.size w wr := below_self (HTk.out.below.alloc HTk.out.below.size _) hbr
    have hszr : w2.heap.size < wr.heap.size := by have := hbr.size; simp only [tkT] at this; rw [show (w2.alloc _).heap.size = w2.heap.size + 1 by simp] at this; omega
    have hTok : Cell4 w2.heap.size ⟨3, ts, tn, ta⟩ wr := by
      have hc : Cell4 w2.heap.size ⟨3, ts, tn, ta⟩ (tkT w2 ⟨3, ts, tn, ta⟩) := by unfold Cell4; rw [heap_alloc_new]
      exact hc.below hbr (by simp)
    by_cases hi0 : i = 0
    · subst hi0
      have cf := HCF.out wr hbw
      have hcl := HF.out wr (HGW.out wr hbw)
      have q1 := hTok.c1
      clear hTok
      go_wp2_with (go_at_fn g; refine hcl.mono ?_; rintro e w4 ⟨rfl, hb4⟩; refine Hid.out ?_)
      refine Lib.hid ?_
      have hbz := below_then hbr (by have := hbr.size; omega) hb4
      clear hcl cf q1 hb4 hbr hbw
      go_wp2_with (go_at_call 71; refine (HY.out _ _ _ _ (by first | rfl | simp)).mono ?_; rintro e w3 ⟨rfl, rfl⟩; refine Hid.out ?_)
      refine Lib.hid ?_
      go_wp2_with fail
      exact ⟨⟨1, rfl, Nat.le_refl _, hbz⟩, by simp [intOf]⟩
    · obtain rfl : i = 1 := by omega
      have hres : Cell4 w.heap.size Tok.no wr := (HTk.out.res.alloc _).below hbr (by simp; omega)
      obtain ⟨ao, cap, hA, hc, hm, hR⟩ := HTk.out.tk.below hbr
      obtain ⟨b, o, rfl, hbA, d0, d1, d2, d3, hR'⟩ := hR.cons
      have c0 : wr.cell? ⟨A, 0, none⟩ = some (.slice (some ⟨b, o, none⟩) (rest.length + 1) cap) := by rw [Lib.cell_of_heap hA]; rfl
      have f0 : wr.frozen? ⟨A, 0, none⟩ = false := Lib.frozen_of_heap hA 0
      have hgw : w.grownBy wr (some A) := below_gb hbw
      simp only [List.length_cons] at hA hc
      have HA := Lib.hid hA
      have HR := Lib.hid hR'
      have HRS := Lib.hid hres
      have HTO := Lib.hid hTok
      have HGB := Lib.hid hgw
      have hltr : A < wr.heap.size := by omega
      clear hA hR hR' d0 d1 d2 d3 hres hTok hgw hbw hbr
      go_upto_region 14 with fail
      by_cases hcp : cap = 1
      · have hr0 : rest.length = 0 := by omega
        subst hcp
        rw [hr0] at c0
        have HK : Took A w2.heap.size rest fin op sv ⟨3, ts, tn, ta⟩ w w2 (wr.setCell ⟨A, 0, none⟩ (.slice (some ⟨b, o, none⟩) 0 0)) := by
          have h0 := Took.set (ao := some ⟨b, o, none⟩) (cap := 0) (rest := rest) (w2 := w2) HA.out (by omega) (by omega) (.inl hr0) HGB.out HRS.out HTO.out hlt hlt2
          rw [hr0] at h0
          exact h0
        go_upto_region 15 with fail
        have HKT := Lib.hid HK
        obtain ⟨W, hW⟩ : ∃ W, wr.setCell ⟨A, 0, none⟩ (.slice (some ⟨b, o, none⟩) 0 0) = W := ⟨_, rfl⟩
        rw [hW] at HK HKT
        rw [hW]
        have r0 := HK.res.c0
        have r1 := HK.res.c1
        have r2 := HK.res.c2
        have r3 := HK.res.c3
        have fr := HK.res.f
        have q0 := HK.tok.c0
        have q1 := HK.tok.c1
        have q2 := HK.tok.c2
        have q3 := HK.tok.c3
        clear hW HK HTk HA HR HY HRS HTO HGB c0 f0
        go_wp2_with fail
        exact bodyPost_ret (v := (⟨3, ts, tn, ta⟩ : Tok).v) (results1 rfl (put4_cell HKT.out.res ⟨3, ts, tn, ta⟩) rfl) rfl ⟨rfl, HKT.out.at_.put4w hlt ⟨3, ts, tn, ta⟩, put4_gbw HKT.out.gb (Nat.le_refl _) ⟨3, ts, tn, ta⟩⟩
      · have HK : Took A w2.heap.size rest fin op sv ⟨3, ts, tn, ta⟩ w w2 (wr.setCell ⟨A, 0, none⟩ (.slice (some ⟨b, o + 4, none⟩) rest.length (cap - 1))) :=
          Took.set (ao := some ⟨b, o + 4, none⟩) (cap := cap - 1) (rest := rest) (w2 := w2) HA.out (by omega) (by omega) HR.out HGB.out HRS.out HTO.out hlt hlt2
        go_upto_region 15 with fail
        have HKT := Lib.hid HK
        obtain ⟨W, hW⟩ : ∃ W, wr.setCell ⟨A, 0, none⟩ (.slice (some ⟨b, o + 4, none⟩) rest.length (cap - 1)) = W := ⟨_, rfl⟩
        rw [hW] at HK HKT
        rw [hW]
        have r0 := HK.res.c0
        have r1 := HK.res.c1
        have r2 := HK.res.c2
        have r3 := HK.res.c3
        have fr := HK.res.f
        have q0 := HK.tok.c0
        have q1 := HK.tok.c1
        have q2 := HK.tok.c2
        have q3 := HK.tok.c3
        clear hW HK HTk HA HR HY HRS HTO HGB c0 f0
        go_wp2_with fail
        exact bodyPost_ret (v := (⟨3, ts, tn, ta⟩ : Tok).v) (results1 rfl (put4_cell HKT.out.res ⟨3, ts, tn, ta⟩) rfl) rfl ⟨rfl, HKT.out.at_.put4w hlt ⟨3, ts, tn, ta⟩, put4_gbw HKT.out.gb (Nat.le_refl _) ⟨3, ts, tn, ta⟩⟩

set_option maxHeartbeats 4000000 in
set_option maxRecDepth 100000 in
theorem take_not {A bf g : Nat} {p : ByteArray → Bool} {t : Tok} {rest : List Tok} {fin op : Int} {sv : Value} {w : World} (h : AtW A (t :: rest) fin op sv w) (hG : PGlob w) (hf : Lets g p) (hcf : w.cell? ⟨bf, 0, none⟩ = some (.func (.func g) #[] #[])) (hs : t.s.size < 4294967281)
    (hk : t.k = 3) (hp3 : p t.s = false) :
    Calls Tryz.prog 58 #[.pointer (some ⟨A, 0, none⟩), .int .u8 3, .slice (some ⟨bf, 0, none⟩) 1 1] w fun e w' => e = .panicked [flt 13 t.a] ∧ w.grownBy w' (some A) := by
  have hp := wpeek_any (h.below ((Below.refl _ w).alloc (Nat.le_refl _) (.cells #[.int .u8 0, .string ⟨#[]⟩, .int .i64 0, .int .i64 0] 79)))
  have HT := Lib.hid fun w2 hb => Taken.mk' (w2 := w2) (t := t) h hb
  have HY := Lib.hid fun w2 p y is (hi : is = true) => must_yes (w := w2) (p := p) (why := y) (is := is) hi
  have HM := Lib.hid fun w2 is (hi : is = false) (H : AtW A (t :: rest) fin op sv w2) => must_no (why := 13) (is := is) hi H
  have HGW := Lib.hid fun w2 (hb : Below w.heap.size w w2) => hG.self hb
  have HCF := Lib.hid fun w2 (hb : Below w.heap.size w w2) => keep_cellP hb hcf
  have eg := hf.1
  have HF := Lib.hid fun w2 hG => hf.2 t.s w2 hG hs
  rw [hp3] at HF
  rw [show tokAt (t :: rest) fin = t from rfl] at hp HM
  obtain ⟨tk, ts, tn, ta⟩ := t
  unfold Tok.v at hp
  simp only at hk hp HF HM ⊢
  subst hk
  clear h hG hf hcf hp3 hs
  go_enter Tryz.func58, Tryz.ntmps58
  go_wp2_with (go_at_call 86; refine hp.mono ?_; rintro e w2 ⟨rfl, hb2⟩; refine Hid.out ?_)
  refine Lib.hid ?_
  have ht := HT.out w2 hb2
  have hlt2 : A < w2.heap.size := ht.at_.lt
  have HTk := Lib.hid ht
  clear hp hb2 HT ht
  go_wp2_with (go_at_call 71; refine (HY.out _ _ _ _ (by first | rfl | simp)).mono ?_; rintro e w3 ⟨rfl, rfl⟩; refine Hid.out ?_)
  refine Lib.hid ?_
  go_wp2_with (go_at_call 71; refine (HY.out _ _ _ _ (by first | rfl | simp)).mono ?_; rintro e w3 ⟨rfl, rfl⟩; refine Hid.out ?_)
  refine Lib.hid ?_
  go_wp2_with fail
  go_loopw [9, 32] (fun _ v wr => v = .int .i64 0 ∧ Below (tkT w2 ⟨3, ts, tn, ta⟩).heap.size (tkT w2 ⟨3, ts, tn, ta⟩) wr) (fun _ _ _ => 0)
  case atStart => exact ⟨rfl, Below.refl _ _⟩
  case round =>
    obtain ⟨rfl, hbr⟩ := hrel
    have hbw : Below w.heap.size w wr := below_self (HTk.out.below.alloc HTk.out.below.size _) hbr
    have hTok : Cell4 w2.heap.size ⟨3, ts, tn, ta⟩ wr := by
      have hc : Cell4 w2.heap.size ⟨3, ts, tn, ta⟩ (tkT w2 ⟨3, ts, tn, ta⟩) := by unfold Cell4; rw [heap_alloc_new]
      exact hc.below hbr (by simp)
    have cf := HCF.out wr hbw
    have hcl := HF.out wr (HGW.out wr hbw)
    have q1 := hTok.c1
    have HW := Lib.hid (HTk.out.tk.below hbr)
    clear hTok
    go_wp2_with (go_at_fn g; refine hcl.mono ?_; rintro e w4 ⟨rfl, hb4⟩; refine Hid.out ?_)
    refine Lib.hid ?_
    have hbz := below_self hbw hb4
    have HW4 := Lib.hid (HW.out.below hb4)
    clear hcl cf q1 hb4 hbr hbw HW
    go_wp2_with (go_at_call 71; refine (HM.out _ _ (by first | rfl | simp) HW4.out).mono ?_; rintro e w3 ⟨rfl, hb3⟩; refine Hid.out ?_)
    refine Lib.hid ?_
    exact ⟨rfl, rfl, below_gb (below_self hbz hb3)⟩
end Go.Proofs.YtegnoaejlhbpbaaGreatDoor.lx
