/-
  The reference's Number: a number's text. No condition. A rune's UTF-8 form in the model and on the shelf. No condition. The reference's Quoted: a text's token. Conditions: the text is short. The reference's Utf: whether a text is UTF-8. No condition but the text's length. The reference's Name, as the program's. No condition but the text's length. (Printed by wip/mkprname.py.) The reference's Cut and col, as the program's. No condition but the text's length. The reference's Takes, as the program's. No condition but the text's length. (Printed by wip/mkprtakes.py.)
-/
import Derived.Test.YtegnoaejlhbpbaaGreatDoorM25
import Derived.Lib.ItoaNum
import Derived.Test.YtegnoaejlhbpbaaGreatDoorM14
import Derived.Laws.Bits64
import Derived.Test.YtegnoaejlhbpbaaGreatDoorM05
import Derived.Test.YtegnoaejlhbpbaaGreatDoorM21
import Derived.BigQuiet
namespace Go.Proofs.YtegnoaejlhbpbaaGreatDoor.lx
open Go.RowKit

/-- where the loop over the digits stands: what is left, and what is written -/
def NumAt (N u : Nat) (s : List UInt8) : Prop := (s = [] ∧ u = N) ∨ (s ≠ [] ∧ (if u = 0 then s else Lib.decDigits u ++ s) = Lib.decDigits N)
theorem NumAt.step {N u : Nat} {s : List UInt8} (h : NumAt N u s) (hu : s = [] ∨ u ≠ 0) : NumAt N (u / 10) (UInt8.ofNat (48 + u % 10) :: s) := by
  right
  refine ⟨by simp, ?_⟩
  have hd : Lib.decDigits u = (if u / 10 = 0 then [] else Lib.decDigits (u / 10)) ++ [UInt8.ofNat (48 + u % 10)] := by
    rw [Lib.decDigits]
    by_cases h10 : u < 10
    · rw [dif_pos h10, if_pos (by omega), show u % 10 = u by omega]
      rfl
    · rw [dif_neg h10, if_neg (by omega)]
  have hN : Lib.decDigits u ++ s = Lib.decDigits N := by
    rcases h with ⟨rfl, rfl⟩ | ⟨h1, h2⟩
    · simp
    · rw [if_neg (by rcases hu with hu | hu; exact absurd hu h1; exact hu)] at h2
      exact h2
  rw [← hN, hd]
  by_cases h0 : u / 10 = 0
  · rw [if_pos h0, if_pos h0]; rfl
  · rw [if_neg h0, if_neg h0]; simp
theorem NumAt.done {N u : Nat} {s : List UInt8} (h : NumAt N u s) (h1 : s ≠ []) (h2 : u = 0) : s = Lib.decDigits N := by
  rcases h with ⟨a, _⟩ | ⟨_, b⟩
  · exact absurd a h1
  · rw [if_pos h2] at b; exact b
theorem digit_slice (d : Nat) (h : d < 10) : ((⟨#[48, 49, 50, 51, 52, 53, 54, 55, 56, 57]⟩ : ByteArray).extract d (d + 1)).data.toList = [UInt8.ofNat (48 + d)] := by
  have : ∀ k : Fin 10, ((⟨#[48, 49, 50, 51, 52, 53, 54, 55, 56, 57]⟩ : ByteArray).extract k.val (k.val + 1)).data.toList = [UInt8.ofNat (48 + k.val)] := by decide +kernel
  exact this ⟨d, h⟩
theorem wrap_u64_neg (n : Int) (h0 : -9223372036854775808 ≤ n) (h1 : n < 0) : IntKind.u64.wrap (-(IntKind.u64.wrap n)) = (n.natAbs : Int) := by
  rw [IntKind.wrap_u64, IntKind.wrap_u64]
  omega
theorem dec_len (u : Nat) (h : u < 18446744073709551616) : (Lib.decDigits u).length ≤ 20 := by
  have := nDigits_le u h
  rw [Lib.decDigits_length]
  exact this
theorem NumAt.size {N u : Nat} {s : List UInt8} (h : NumAt N u s) (hN : N < 18446744073709551616) : s.length ≤ 20 := by
  have := dec_len N hN
  rcases h with ⟨rfl, _⟩ | ⟨_, b⟩
  · simp
  · have := congrArg List.length b
    split at this
    · omega
    · rw [List.length_append] at this; omega
theorem digits_cat (d : Nat) (h : d < 10) (s : ByteArray) : B ((⟨#[48, 49, 50, 51, 52, 53, 54, 55, 56, 57]⟩ : ByteArray).extract d (d + 1) ++ s) = UInt8.ofNat (48 + d) :: B s := by
  show (_ ++ s : ByteArray).data.toList = _
  rw [ByteArray.data_append, Array.toList_append, digit_slice d h]
  rfl

theorem cat_size (d : Nat) (h : d < 10) (s : ByteArray) : ((⟨#[48, 49, 50, 51, 52, 53, 54, 55, 56, 57]⟩ : ByteArray).extract d (d + 1) ++ s).size = s.size + 1 := by
  have := congrArg List.length (digits_cat d h s)
  rw [B_length, List.length_cons, B_length] at this
  exact this
theorem itoa_neg (n : Int) (h : n < 0) (s : ByteArray) (hs : B s = Lib.decDigits n.natAbs) : (⟨#[45]⟩ ++ s : ByteArray) = ⟨(Lib.itoa n).toArray⟩ := by
  apply ByteArray.ext
  apply Array.toList_inj.1
  rw [ByteArray.data_append, Array.toList_append, show s.data.toList = _ from hs, Lib.itoa, if_pos h]
  rfl
theorem itoa_pos (n : Int) (h : ¬ n < 0) (s : ByteArray) (hs : B s = Lib.decDigits n.natAbs) : s = ⟨(Lib.itoa n).toArray⟩ := by
  apply ByteArray.ext
  apply Array.toList_inj.1
  rw [show s.data.toList = _ from hs, Lib.itoa, if_neg h]
  simp only []
  rw [show n.toNat = n.natAbs by omega]

set_option maxHeartbeats 8000000 in
set_option maxRecDepth 100000 in
theorem rNumber_any (n : Int) (w : World) (h0 : -9223372036854775808 ≤ n) (h1 : n ≤ 9223372036854775807) :
    Calls Tryz.prog 28 #[.int .i64 n] w fun e w' => e = .returned (.string ⟨(Lib.itoa n).toArray⟩) ∧ w = w' := by
  by_cases hn : n < 0
  · go_enter Tryz.func28, Tryz.ntmps28
    go_wp2_with fail
    go_loop [3, 4] (fun v t => ∃ (u : Nat) (s : ByteArray), v = .int .u64 u ∧ t = .string s ∧ u ≤ 9223372036854775808 ∧ Hid (NumAt n.natAbs u (B s)) ∧ s.size ≤ 20) (fun v t => (intOf v).toNat + (match t with | .string s => 1 - s.size | _ => 0))
    case atStart => exact ⟨n.natAbs, ⟨#[]⟩, by rw [wrap_u64_neg n h0 hn], rfl, by omega, Lib.hid (.inl ⟨rfl, rfl⟩), by decide⟩
    case round =>
      obtain ⟨u, s, rfl, rfl, hu, HA, hs⟩ := hrel
      have hdl : u % 10 < 10 := Nat.mod_lt _ (by decide)
      have hsl := Lib.size_eq s
      by_cases he : s.size = 0
      · have hB : B s = [] := B_nil he
        have hl : s.toList = [] := by rw [Lib.toList_data]; exact hB
        have hi : s.toList.isEmpty = true := by rw [hl]; rfl
        have HN := Lib.hid (HA.out.step (.inl hB))
        have hsz := HN.out.size (by omega)
        simp only [List.length_cons, B_length] at hsz
        clear hB hsl
        go_wp2_with fail
        exact ⟨⟨u / 10, _, by simp, rfl, by omega, Lib.hid (by rw [digits_cat _ hdl]; exact HN.out), by have := cat_size (u % 10) hdl s; omega⟩, by have := cat_size (u % 10) hdl s; simp only [intOf]; omega⟩
      · have hB : B s ≠ [] := B_ne he
        have hl : ¬ s.toList = [] := by rw [Lib.toList_data]; exact hB
        have hi : s.toList.isEmpty = false := by simp [hl]
        by_cases hu0 : u = 0
        · have hfin := HA.out.done hB hu0
          subst hu0
          have HF := Lib.hid hfin
          clear hB hsl hfin
          go_wp2_with fail
          go_ret
          exact ⟨ret_str (itoa_neg n hn s HF.out), rfl⟩
        · have HN := Lib.hid (HA.out.step (.inr hu0))
          have hsz := HN.out.size (by omega)
          simp only [List.length_cons, B_length] at hsz
          have hup : 0 < u := by omega
          clear hB hsl
          go_wp2_with fail
          exact ⟨⟨u / 10, _, by simp, rfl, by omega, Lib.hid (by rw [digits_cat _ hdl]; exact HN.out), by have := cat_size (u % 10) hdl s; omega⟩, by have := cat_size (u % 10) hdl s; simp only [intOf]; omega⟩
  · go_enter Tryz.func28, Tryz.ntmps28
    go_wp2_with fail
    go_loop [3, 4] (fun v t => ∃ (u : Nat) (s : ByteArray), v = .int .u64 u ∧ t = .string s ∧ u ≤ 9223372036854775808 ∧ Hid (NumAt n.natAbs u (B s)) ∧ s.size ≤ 20) (fun v t => (intOf v).toNat + (match t with | .string s => 1 - s.size | _ => 0))
    case atStart => exact ⟨n.natAbs, ⟨#[]⟩, by congr 1; omega, rfl, by omega, Lib.hid (.inl ⟨rfl, rfl⟩), by decide⟩
    case round =>
      obtain ⟨u, s, rfl, rfl, hu, HA, hs⟩ := hrel
      have hdl : u % 10 < 10 := Nat.mod_lt _ (by decide)
      have hsl := Lib.size_eq s
      by_cases he : s.size = 0
      · have hB : B s = [] := B_nil he
        have hl : s.toList = [] := by rw [Lib.toList_data]; exact hB
        have hi : s.toList.isEmpty = true := by rw [hl]; rfl
        have HN := Lib.hid (HA.out.step (.inl hB))
        have hsz := HN.out.size (by omega)
        simp only [List.length_cons, B_length] at hsz
        clear hB hsl
        go_wp2_with fail
        exact ⟨⟨u / 10, _, by simp, rfl, by omega, Lib.hid (by rw [digits_cat _ hdl]; exact HN.out), by have := cat_size (u % 10) hdl s; omega⟩, by have := cat_size (u % 10) hdl s; simp only [intOf]; omega⟩
      · have hB : B s ≠ [] := B_ne he
        have hl : ¬ s.toList = [] := by rw [Lib.toList_data]; exact hB
        have hi : s.toList.isEmpty = false := by simp [hl]
        by_cases hu0 : u = 0
        · have hfin := HA.out.done hB hu0
          subst hu0
          have HF := Lib.hid hfin
          clear hB hsl hfin
          go_wp2_with fail
          go_ret
          exact ⟨ret_str (itoa_pos n (by omega) s HF.out), rfl⟩
        · have HN := Lib.hid (HA.out.step (.inr hu0))
          have hsz := HN.out.size (by omega)
          simp only [List.length_cons, B_length] at hsz
          have hup : 0 < u := by omega
          clear hB hsl
          go_wp2_with fail
          exact ⟨⟨u / 10, _, by simp, rfl, by omega, Lib.hid (by rw [digits_cat _ hdl]; exact HN.out), by have := cat_size (u % 10) hdl s; omega⟩, by have := cat_size (u % 10) hdl s; simp only [intOf]; omega⟩
end Go.Proofs.YtegnoaejlhbpbaaGreatDoor.lx
namespace Go.Proofs.YtegnoaejlhbpbaaGreatDoor.lx
open Go.RowKit

theorem utf8_enc (r : Nat) : (Utf8.encode (r : Int)).data.toList = Lib.encodeRune (r : Int) := by
  have h := Go.Extern.FmtText.encode_eq r
  unfold Lib.encodeRune
  rw [← h]
  unfold Go.Extern.FmtText.nums
  rw [List.map_map]
  refine (List.map_id _).symm.trans (List.map_congr_left fun b _ => ?_)
  simp
theorem utf8_size (r : Nat) : 1 ≤ (Utf8.encode (r : Int)).size ∧ (Utf8.encode (r : Int)).size ≤ 4 := by
  have := Lib.encodeRuneZ_length (r : Int)
  rw [Lib.size_eq, utf8_enc]
  simp only [Lib.encodeRune, List.length_map]
  exact this
end Go.Proofs.YtegnoaejlhbpbaaGreatDoor.lx
namespace Go.Proofs.YtegnoaejlhbpbaaGreatDoor.lx
open Go.RowKit

theorem hex_slice (d : Nat) (h : d < 16) : ((⟨#[48, 49, 50, 51, 52, 53, 54, 55, 56, 57, 97, 98, 99, 100, 101, 102]⟩ : ByteArray).extract d (d + 1)).data.toList = [hexD d] := by
  have : ∀ k : Fin 16, ((⟨#[48, 49, 50, 51, 52, 53, 54, 55, 56, 57, 97, 98, 99, 100, 101, 102]⟩ : ByteArray).extract k.val (k.val + 1)).data.toList = [hexD k.val] := by decide +kernel
  exact this ⟨d, h⟩
theorem B_app (a b : ByteArray) : B (a ++ b) = B a ++ B b := by
  show (a ++ b : ByteArray).data.toList = _
  rw [ByteArray.data_append, Array.toList_append]
theorem B_eq (s : ByteArray) : B s = s.data.toList := rfl
theorem B_enc (r : Nat) : B (Utf8.encode (r : Int)) = Lib.encodeRune (r : Int) := by rw [B_eq, utf8_enc]
theorem quotS_esc (r : Nat) (h : (r : Int) = 34 ∨ (r : Int) = 92) : B (⟨#[92]⟩ ++ Utf8.encode (r : Int)) = quotR (r : Int) := by
  rw [B_app, B_enc, quotR, if_pos h, show B (⟨#[92]⟩ : ByteArray) = [92] from rfl, List.singleton_append]
theorem quotS_16 (r : Nat) (h : (r : Int) < 16) : B ((⟨#[92, 117, 123]⟩ ++ (⟨#[48, 49, 50, 51, 52, 53, 54, 55, 56, 57, 97, 98, 99, 100, 101, 102]⟩ : ByteArray).extract r (r + 1)) ++ ⟨#[125]⟩) = quotR (r : Int) := by
  rw [B_app, B_app, show B (ByteArray.extract _ r (r + 1)) = _ from hex_slice r (by omega), quotR, if_neg (by omega), if_pos (by omega)]
  have e : hexN2 (r : Int).toNat = [hexD r] := by rw [Int.toNat_natCast, hexN2, if_pos (by omega)]
  rw [e]
  first | done | rfl
theorem quotS_32 (r : Nat) (h : ¬ (r : Int) < 16) (h2 : (r : Int) < 32) : B ((⟨#[92, 117, 123, 49]⟩ ++ (⟨#[48, 49, 50, 51, 52, 53, 54, 55, 56, 57, 97, 98, 99, 100, 101, 102]⟩ : ByteArray).extract (r - 16) (r - 15)) ++ ⟨#[125]⟩) = quotR (r : Int) := by
  rw [B_app, B_app, show r - 15 = r - 16 + 1 by omega, show B (ByteArray.extract _ (r - 16) (r - 16 + 1)) = _ from hex_slice (r - 16) (by omega), quotR, if_neg (by omega), if_pos (by omega)]
  have e : hexN2 (r : Int).toNat = [49, hexD (r - 16)] := by
    rw [Int.toNat_natCast, hexN2, if_neg (by omega), show r / 16 = 1 by omega, show r % 16 = r - 16 by omega]
    rfl
  rw [e]
  rfl
theorem quotS_127 (r : Nat) (h : (r : Int) = 127) : B ⟨#[92, 117, 123, 55, 102, 125]⟩ = quotR (r : Int) := by
  rw [h]
  decide +kernel
theorem quotS_rune (r : Nat) (h1 : ¬ ((r : Int) = 34 ∨ (r : Int) = 92)) (h2 : ¬ (r : Int) < 32) (h3 : ¬ (r : Int) = 127) : B (Utf8.encode (r : Int)) = quotR (r : Int) := by
  rw [quotR, if_neg h1, if_neg (by omega), B_enc]
theorem quotS_done (F s : ByteArray) (h : B F = quotL s) : (⟨#[34]⟩ ++ F ++ ⟨#[34]⟩ : ByteArray) = quotF s := by
  apply ByteArray.ext
  apply Array.toList_inj.1
  show B _ = _
  rw [B_app, B_app, h]
  simp [quotF, B]
/-- where the range stands -/
def SAt (s : ByteArray) (pos : Nat) (F : ByteArray) : Prop := B F ++ quotL (s.extract pos s.size) = quotL s
theorem SAt.step {s F X : ByteArray} {pos q r : Nat} (h : SAt s pos F) (hp : pos < s.size) (hr : (Utf8.decode s pos).1 = r) (hq : pos + (Utf8.decode s pos).2 = q) (hX : B X = quotR (r : Int)) : SAt s q (F ++ X) := by
  unfold SAt at h ⊢
  rw [quotL_go (by rw [rest_size]; omega), dr_rest s pos hp, adv_rest s pos hp, hr, hq] at h
  rw [B_app, hX, List.append_assoc]
  exact h
theorem SAt.done {s F : ByteArray} {pos : Nat} (h : SAt s pos F) (hp : ¬ pos < s.size) : B F = quotL s := by
  unfold SAt at h
  rw [quotL_end (by rw [rest_size]; omega), List.append_nil] at h
  exact h
theorem quotX_size {X : ByteArray} {r : Int} (h : B X = quotR r) : X.size ≤ 6 := by
  have := quotR_len r
  rw [← h, B_length] at this
  exact this

set_option maxHeartbeats 8000000 in
set_option maxRecDepth 100000 in
theorem rQuoted_any (s : ByteArray) (w : World) (hs : s.size ≤ 1099511627776) :
    Calls Tryz.prog 29 #[.string s] w fun e w' => e = .returned (.string (quotF s)) ∧ Below w.heap.size w w' := by
  go_enter Tryz.func29, Tryz.ntmps29
  go_wp2_with fail
  go_loopw [3] (fun v wr => ∃ (pos : Nat) (F : ByteArray), v = .string F ∧ wr.heap[w.heap.size]? = some (.stringIter s pos) ∧ Below w.heap.size w wr ∧ Hid (SAt s pos F) ∧ F.size ≤ 6 * pos ∧ pos ≤ s.size) (fun _ wr => s.size - wr.iterPos w.heap.size)
  case atStart =>
    refine ⟨0, ⟨#[]⟩, rfl, ?_, (Below.refl _ w).alloc (Nat.le_refl _) _, Lib.hid (by unfold SAt; rw [all_rest]; rfl), by decide, by omega⟩
    have := World.iter_heap w s 0
    simpa using this
  case round =>
    obtain ⟨pos, F, rfl, hit, hbr, HA, hF, hps⟩ := hrel
    by_cases hp : pos < s.size
    · have hnxt : ∀ ty, (Instr.next (.pointer (some ⟨w.heap.size, 0, none⟩)) true ty).run Tryz.prog wr = _ := fun ty => Lib.run_next_any_at wr w.heap.size s pos ty hit hp
      have hwd : 1 ≤ (Utf8.decode s pos).2 := by rw [← dn_rest s pos hp]; exact (dn_bounds _ (by rw [rest_size]; omega)).1
      have hwe : pos + (Utf8.decode s pos).2 ≤ s.size := by
        have := (dn_bounds (s.extract pos s.size) (by rw [rest_size]; omega)).2.2
        rw [dn_rest s pos hp, rest_size] at this
        omega
      obtain ⟨r, hr⟩ : ∃ r, (Utf8.decode s pos).1 = r := ⟨_, rfl⟩
      obtain ⟨q, hq⟩ : ∃ q, pos + (Utf8.decode s pos).2 = q := ⟨_, rfl⟩
      have hst : ∀ X : ByteArray, B X = quotR (r : Int) → SAt s q (F ++ X) := fun X => HA.out.step hp hr hq
      have HST := Lib.hid hst
      have hd1 := decode_le s pos
      have hit2 := Lib.iterAt_heap wr w.heap.size s pos q hit
      have hbr2 := Lib.below_iterAt hbr (k := w.heap.size) (Nat.le_refl _) s q
      rw [hq] at hnxt hwe
      rw [hr] at hnxt hd1
      have HM : Hid (s.size - q < s.size - wr.iterPos w.heap.size) := Lib.hid (by simp only [World.iterPos, hit]; omega)
      have hpq : pos + 1 ≤ q := by omega
      have he4 := (utf8_size r).2
      clear HA hr hq hwd hbr hst
      by_cases h34 : (r : Int) = 34 ∨ (r : Int) = 92
      · have HX := Lib.hid (quotS_esc r h34)
        rcases (by omega : (r : Int) = 34 ∨ ¬ (r : Int) = 34 ∧ (r : Int) = 92) with h | ⟨h, h'⟩
        · have e1 : ((r : Int) == 34) = true := by simp [h]
          clear h h34
          go_wp2_with fail
          exact ⟨⟨q, _, rfl, hit2, hbr2, Lib.hid (HST.out _ HX.out), by have := quotX_size HX.out; rw [ByteArray.size_append]; omega, hwe⟩, by simp only [World.iterPos, hit2]; exact HM.out⟩
        · have e1 : ((r : Int) == 34) = false := by simp [h]
          have e2 : ((r : Int) == 92) = true := by simp [h']
          clear h h' h34
          go_wp2_with fail
          exact ⟨⟨q, _, rfl, hit2, hbr2, Lib.hid (HST.out _ HX.out), by have := quotX_size HX.out; rw [ByteArray.size_append]; omega, hwe⟩, by simp only [World.iterPos, hit2]; exact HM.out⟩
      · have e1 : ((r : Int) == 34) = false := by simp; omega
        have e2 : ((r : Int) == 92) = false := by simp; omega
        by_cases h16 : (r : Int) < 16
        · have HX := Lib.hid (quotS_16 r h16)
          clear h34
          go_wp2_with fail
          exact ⟨⟨q, _, rfl, hit2, hbr2, Lib.hid (HST.out _ HX.out), by have := quotX_size HX.out; rw [ByteArray.size_append]; omega, hwe⟩, by simp only [World.iterPos, hit2]; exact HM.out⟩
        · by_cases h32 : (r : Int) < 32
          · have HX := Lib.hid (quotS_32 r h16 h32)
            clear h34
            go_wp2_with fail
            exact ⟨⟨q, _, rfl, hit2, hbr2, Lib.hid (HST.out _ HX.out), by have := quotX_size HX.out; rw [ByteArray.size_append]; omega, hwe⟩, by simp only [World.iterPos, hit2]; exact HM.out⟩
          · by_cases h127 : (r : Int) = 127
            · have HX := Lib.hid (quotS_127 r h127)
              have e3 : ((r : Int) == 127) = true := by simp [h127]
              clear h34 h127
              go_wp2_with fail
              exact ⟨⟨q, _, rfl, hit2, hbr2, Lib.hid (HST.out _ HX.out), by have := quotX_size HX.out; rw [ByteArray.size_append]; omega, hwe⟩, by simp only [World.iterPos, hit2]; exact HM.out⟩
            · have HX := Lib.hid (quotS_rune r h34 h32 h127)
              have e3 : ((r : Int) == 127) = false := by simp [h127]
              clear h34 h127
              go_wp2_with fail
              exact ⟨⟨q, _, rfl, hit2, hbr2, Lib.hid (HST.out _ HX.out), by have := quotX_size HX.out; rw [ByteArray.size_append]; omega, hwe⟩, by simp only [World.iterPos, hit2]; exact HM.out⟩
    · have hnxt : ∀ ty, (Instr.next (.pointer (some ⟨w.heap.size, 0, none⟩)) true ty).run Tryz.prog wr = _ := fun ty => Lib.run_next_end_at wr w.heap.size s pos ty hit hp
      have hdone := HA.out.done hp
      have HD := Lib.hid (quotS_done F s hdone)
      clear HA hdone
      go_wp2_with fail
      go_ret
      exact ⟨ret_str HD.out, hbr⟩
end Go.Proofs.YtegnoaejlhbpbaaGreatDoor.lx
namespace Go.Proofs.YtegnoaejlhbpbaaGreatDoor.lx
open Go.RowKit
set_option linter.unusedVariables false
set_option linter.unusedSimpArgs false

theorem valid_all (n : Nat) : ∀ l : List UInt8, l.length = n → Lib.validD l = (gl l).all (·.2) := by
  induction n using Nat.strongRecOn with
  | _ n ih =>
    intro l hl
    by_cases h0 : l = []
    · subst h0; rw [gl_nil, Lib.validD]; rfl
    · have hw := dec_width l
      have hp : 0 < l.length := List.length_pos_iff.2 h0
      rw [Lib.validD_step l h0, gl_cons h0, List.all_cons, ← ih _ (by rw [List.length_drop]; omega) (l.drop (Lib.decodeL l).2) rfl]
      by_cases hb : (Lib.decodeL l).1 = 65533 ∧ (Lib.decodeL l).2 = 1
      · rw [if_pos hb]
        simp [hb]
      · rw [if_neg hb]
        simp [hb]
def repB : ByteArray := ⟨#[239, 191, 189]⟩
/-- where the range over a text stands -/
def UtAt (s : ByteArray) (pos : Nat) : Prop := (gl (B (s.extract pos s.size))).all (·.2) = validS s
theorem UtAt.start (s : ByteArray) : UtAt s 0 := by
  unfold UtAt validS
  rw [all_rest, valid_all _ _ rfl]
theorem UtAt.done {s : ByteArray} {pos : Nat} (h : UtAt s pos) (hp : ¬ pos < s.size) : validS s = true := by
  unfold UtAt at h
  rw [← h, glB_nil (by rw [rest_size]; omega)]
  rfl
theorem UtAt.step {s : ByteArray} {pos q : Nat} (h : UtAt s pos) (hp : pos < s.size) (hq : pos + (Utf8.decode s pos).2 = q) : (stepOk (s.extract pos s.size) = true → UtAt s q) ∧ (stepOk (s.extract pos s.size) = false → validS s = false) := by
  unfold UtAt at h ⊢
  rw [glB_cons (by rw [rest_size]; omega), adv_rest s pos hp, hq, List.all_cons] at h
  refine ⟨fun e => ?_, fun e => ?_⟩
  · rw [← h, e, Bool.true_and]
  · rw [← h, e, Bool.false_and]
theorem rest_take (s : ByteArray) (pos k : Nat) (h : pos + k ≤ s.size) : B (s.extract pos (pos + k)) = (B (s.extract pos s.size)).take k := by
  rw [B_extract, B_extract, List.take_take]
  congr 1
  omega
theorem ok_of_ne {s : ByteArray} {pos r : Nat} (hp : pos < s.size) (hr : (Utf8.decode s pos).1 = r) (h : (r : Int) ≠ 65533) : stepOk (s.extract pos s.size) = true := by
  cases e : stepOk (s.extract pos s.size) with
  | true => rfl
  | false =>
    exfalso
    have h2 := dr_rest s pos hp
    rw [hr] at h2
    have h3 := dn_bounds (s.extract pos s.size) (by rw [rest_size]; omega)
    unfold stepOk at e
    simp at e
    omega
theorem ok_of_rep {s : ByteArray} {pos : Nat} (hp : pos + 3 ≤ s.size) (h : s.extract pos (pos + 3) = repB) : stepOk (s.extract pos s.size) = true := by
  have h1 := rest_take s pos 3 hp
  rw [h] at h1
  have e : B (s.extract pos s.size) = Lib.encodeRune 65533 ++ (B (s.extract pos s.size)).drop 3 := by
    have e2 : Lib.encodeRune 65533 = [239, 191, 189] := by decide +kernel
    rw [e2]
    have : ([239, 191, 189] : List UInt8) = (B (s.extract pos s.size)).take 3 := h1
    rw [this, List.take_append_drop]
  have hg := glB_cons (l := s.extract pos s.size) (by rw [rest_size]; omega)
  have hg2 := gl_enc 65533 (by unfold validR; omega) ((B (s.extract pos s.size)).drop 3)
  rw [← e, hg] at hg2
  injection hg2 with hg2 _
  exact congrArg Prod.snd hg2
theorem no_of_rep {s : ByteArray} {pos r : Nat} (hp : pos < s.size) (hr : (Utf8.decode s pos).1 = r) (h : (r : Int) = 65533) (h3 : s.size < pos + 3 ∨ s.extract pos (pos + 3) ≠ repB) : stepOk (s.extract pos s.size) = false := by
  cases e : stepOk (s.extract pos s.size) with
  | false => rfl
  | true =>
    exfalso
    have h1 := enc_step (by rw [rest_size]; omega) e
    rw [dr_rest s pos hp, hr, h] at h1
    have e2 : Lib.encodeRune 65533 = [239, 191, 189] := by decide +kernel
    rw [e2] at h1
    have hl := congrArg List.length h1
    rw [List.length_take, B_length, rest_size] at hl
    simp only [List.length_cons, List.length_nil] at hl
    have h33 : dn (s.extract pos s.size) = 3 ∨ 3 < dn (s.extract pos s.size) := by omega
    rcases h3 with h3 | h3
    · omega
    · apply h3
      have h4 := rest_take s pos 3 (by omega)
      have h5 : (B (s.extract pos s.size)).take 3 = [239, 191, 189] := by
        rcases h33 with h33 | h33
        · rw [← h33]; exact h1
        · rw [← h1, List.take_of_length_le (i := dn (s.extract pos s.size)) (by rw [B_length, rest_size]; omega)] at *
          rw [List.take_of_length_le (by rw [B_length, rest_size]; omega)]
      rw [h5] at h4
      rw [← mkB (s.extract pos (pos + 3)), h4]
      rfl

set_option maxHeartbeats 8000000 in
set_option maxRecDepth 100000 in
theorem rUtf_any (s : ByteArray) (w : World) (hs : s.size ≤ 1099511627776) :
    Calls Tryz.prog 33 #[.string s] w fun e w' => e = .returned (.bool (validS s)) ∧ Below w.heap.size w w' := by
  obtain ⟨N, hN⟩ : ∃ N, validS s = N := ⟨_, rfl⟩
  have HN := Lib.hid hN
  rw [hN]
  clear hN
  go_enter Tryz.func33, Tryz.ntmps33
  go_wp2_with fail
  go_loopw [] (fun wr => ∃ (pos : Nat), wr.heap[w.heap.size]? = some (.stringIter s pos) ∧ Below w.heap.size w wr ∧ Hid (UtAt s pos) ∧ pos ≤ s.size) (fun wr => s.size - wr.iterPos w.heap.size)
  case atStart =>
    refine ⟨0, ?_, (Below.refl _ w).alloc (Nat.le_refl _) _, Lib.hid (UtAt.start s), by omega⟩
    have := World.iter_heap w s 0
    simpa using this
  case round =>
    obtain ⟨pos, hit, hbr, HA, hps⟩ := hrel
    by_cases hp : pos < s.size
    · have hnxt : ∀ ty, (Instr.next (.pointer (some ⟨w.heap.size, 0, none⟩)) true ty).run Tryz.prog wr = _ := fun ty => Lib.run_next_any_at wr w.heap.size s pos ty hit hp
      have hwd : 1 ≤ (Utf8.decode s pos).2 := by rw [← dn_rest s pos hp]; exact (dn_bounds _ (by rw [rest_size]; omega)).1
      have hwe : pos + (Utf8.decode s pos).2 ≤ s.size := by
        have := (dn_bounds (s.extract pos s.size) (by rw [rest_size]; omega)).2.2
        rw [dn_rest s pos hp, rest_size] at this
        omega
      obtain ⟨r, hr⟩ : ∃ r, (Utf8.decode s pos).1 = r := ⟨_, rfl⟩
      obtain ⟨q, hq⟩ : ∃ q, pos + (Utf8.decode s pos).2 = q := ⟨_, rfl⟩
      have hst := HA.out.step hp hq
      have HI := Lib.hid (ok_of_ne hp hr)
      have HJ := Lib.hid fun (h : (r : Int) = 65533) => no_of_rep hp hr h
      have hit2 := Lib.iterAt_heap wr w.heap.size s pos q hit
      have hbr2 := Lib.below_iterAt hbr (k := w.heap.size) (Nat.le_refl _) s q
      rw [hq] at hnxt hwe
      rw [hr] at hnxt
      have HM : Hid (s.size - q < s.size - wr.iterPos w.heap.size) := Lib.hid (by simp only [World.iterPos, hit]; omega)
      have HST := Lib.hid hst
      clear HA hr hq hwd hbr hst
      by_cases h6 : (r : Int) = 65533
      · have e1 : ((r : Int) == 65533) = true := by simp [h6]
        by_cases h3 : s.size < pos + 3
        · have hz : (s.size : Int) < (pos : Int) + 3 := by omega
          have HF := Lib.hid (HN.out.symm.trans (HST.out.2 (HJ.out h6 (.inl h3))))
          clear h6
          go_wp2_with fail
          go_ret
          exact ⟨ret_bool HF.out.symm, hbr2⟩
        · have hz : ¬ (s.size : Int) < (pos : Int) + 3 := by omega
          have hz2 : (pos : Int) + 3 ≤ (s.size : Int) := by omega
          obtain ⟨X, hX⟩ : ∃ X, s.extract pos (pos + 3) = X := ⟨_, rfl⟩
          have hXl : X.toList = B X := Lib.toList_data X
          by_cases hR : X = repB
          · have HX := Lib.hid (HST.out.1 (ok_of_rep (by omega) (hX.trans hR)))
            have eX : (X.toList == [239, 191, 189]) = true := by rw [hXl, hR]; rfl
            clear hXl hR h6
            go_wp2_with fail
            exact ⟨⟨q, hit2, hbr2, HX, hwe⟩, by simp only [World.iterPos, hit2]; exact HM.out⟩
          · have HF := Lib.hid (HN.out.symm.trans (HST.out.2 (HJ.out h6 (.inr (by rw [hX]; exact hR)))))
            have eX : (X.toList == [239, 191, 189]) = false := by
              rw [hXl, beq_eq_false_iff_ne]
              intro e
              exact hR (by rw [← mkB X, e]; rfl)
            clear hXl hR h6
            go_wp2_with fail
            go_ret
            exact ⟨ret_bool HF.out.symm, hbr2⟩
      · have e1 : ((r : Int) == 65533) = false := by simp [h6]
        have HX := Lib.hid (HST.out.1 (HI.out h6))
        clear h6
        go_wp2_with fail
        exact ⟨⟨q, hit2, hbr2, HX, hwe⟩, by simp only [World.iterPos, hit2]; exact HM.out⟩
    · have hnxt : ∀ ty, (Instr.next (.pointer (some ⟨w.heap.size, 0, none⟩)) true ty).run Tryz.prog wr = _ := fun ty => Lib.run_next_end_at wr w.heap.size s pos ty hit hp
      have HD := Lib.hid (HN.out.symm.trans (HA.out.done hp))
      clear HA
      go_wp2_with fail
      go_ret
      exact ⟨ret_bool HD.out.symm, hbr⟩
end Go.Proofs.YtegnoaejlhbpbaaGreatDoor.lx
namespace Go.Proofs.YtegnoaejlhbpbaaGreatDoor.lx
open Go.RowKit
set_option linter.unusedVariables false
set_option linter.unusedSimpArgs false

theorem lit_eq {s : ByteArray} {l : List UInt8} (h : s = ⟨l.toArray⟩) : (s.toList == l) = true := by rw [Lib.toList_data, h]; simp
theorem lit_ne {s : ByteArray} {l : List UInt8} (h : s ≠ ⟨l.toArray⟩) : (s.toList == l) = false := by
  rw [beq_eq_false_iff_ne]
  intro e
  apply h
  rw [Lib.toList_data] at e
  rw [← mkB s]
  show (⟨(s.data.toList).toArray⟩ : ByteArray) = _
  rw [e]
theorem consts_no {s : ByteArray} (h1 : s ≠ nullB) (h2 : s ≠ trueB) (h3 : s ≠ falseB) : Lib.containsS [nullB, trueB, falseB] s = false := by
  cases e : Lib.containsS [nullB, trueB, falseB] s with
  | false => rfl
  | true =>
    have := (Lib.containsS_iff _ _).1 e
    simp only [List.mem_cons, List.not_mem_nil, or_false] at this
    rcases this with h | h | h
    · exact absurd h h1
    · exact absurd h h2
    · exact absurd h h3
theorem consts_yes {s : ByteArray} (h : s = nullB ∨ s = trueB ∨ s = falseB) : Lib.containsS [nullB, trueB, falseB] s = true := by
  apply (Lib.containsS_iff _ _).2
  simp only [List.mem_cons, List.not_mem_nil, or_false]
  exact h

set_option maxHeartbeats 16000000 in
set_option maxRecDepth 100000 in
theorem rName_any (s : ByteArray) (w : World) (hs : s.size ≤ 1099511627776) :
    Calls Tryz.prog 37 #[.string s] w fun e w' => e = .returned (.bool (nameR s)) ∧ Below w.heap.size w w' := by
  obtain ⟨N, hN⟩ : ∃ N, nameR s = N := ⟨_, rfl⟩
  rw [hN]
  by_cases h0 : s.size = 0
  · have hi : s.toList.isEmpty = true := by rw [Lib.toList_data, show s.data.toList = [] from B_nil h0]; rfl
    have hi2 : s.toList = [] := List.isEmpty_iff.1 hi
    have hF := Lib.hid (hN.symm.trans (name_no (.inl h0)))
    clear hN h0
    go_enter Tryz.func37, Tryz.ntmps37
    go_wp2_with fail
    go_ret
    exact ⟨ret_bool hF.out.symm, Below.refl _ _⟩
  have hl : ¬ s.toList = [] := by rw [Lib.toList_data]; exact B_ne h0
  have hi : s.toList.isEmpty = false := by simp [hl]
  by_cases h64 : 64 < s.size
  · have hF := Lib.hid (hN.symm.trans (name_no (.inr (.inl h64))))
    have hI : (64 : Int) < (s.size : Int) := by omega
    clear hN
    go_enter Tryz.func37, Tryz.ntmps37
    go_wp2_with fail
    go_ret
    exact ⟨ret_bool hF.out.symm, Below.refl _ _⟩
  have hI : ¬ (64 : Int) < (s.size : Int) := by omega
  by_cases c1 : s = nullB
  · have hF := Lib.hid (hN.symm.trans (name_no (.inr (.inr (.inr (.inl (consts_yes (.inl c1))))))))
    have b1 : (s.toList == [110, 117, 108, 108]) = true := lit_eq c1
    clear hN c1
    go_enter Tryz.func37, Tryz.ntmps37
    go_wp2_with fail
    go_ret
    exact ⟨ret_bool hF.out.symm, Below.refl _ _⟩
  have b1 : (s.toList == [110, 117, 108, 108]) = false := lit_ne c1
  by_cases c2 : s = trueB
  · have hF := Lib.hid (hN.symm.trans (name_no (.inr (.inr (.inr (.inl (consts_yes (.inr (.inl c2)))))))))
    have b2 : (s.toList == [116, 114, 117, 101]) = true := lit_eq c2
    clear hN c1 c2
    go_enter Tryz.func37, Tryz.ntmps37
    go_wp2_with fail
    go_ret
    exact ⟨ret_bool hF.out.symm, Below.refl _ _⟩
  have b2 : (s.toList == [116, 114, 117, 101]) = false := lit_ne c2
  by_cases c3 : s = falseB
  · have hF := Lib.hid (hN.symm.trans (name_no (.inr (.inr (.inr (.inl (consts_yes (.inr (.inr c3)))))))))
    have b3 : (s.toList == [102, 97, 108, 115, 101]) = true := lit_eq c3
    clear hN c1 c2 c3
    go_enter Tryz.func37, Tryz.ntmps37
    go_wp2_with fail
    go_ret
    exact ⟨ret_bool hF.out.symm, Below.refl _ _⟩
  have b3 : (s.toList == [102, 97, 108, 115, 101]) = false := lit_ne c3
  have hct := consts_no c1 c2 c3
  have HV := Lib.hid (rUtf_any s w hs)
  clear c1 c2 c3
  cases hvd : validS s with
  | false =>
    rw [hvd] at HV
    have hF := Lib.hid (hN.symm.trans (name_no (.inr (.inr (.inl hvd)))))
    clear hN hvd hct
    go_enter Tryz.func37, Tryz.ntmps37
    go_wp2_with (go_at_call 33; refine HV.out.mono ?_; rintro e w2 ⟨rfl, hb2⟩; refine Hid.out ?_)
    refine Lib.hid ?_
    have HB2 := Lib.hid hb2
    clear hb2
    go_wp2_with fail
    go_ret
    exact ⟨ret_bool hF.out.symm, HB2.out⟩
  | true =>
  rw [hvd] at HV
  have HY : Hid (nameG true (gl (B s)) = true → N = true) := Lib.hid fun h4 => hN.symm.trans (name_yes h0 (by omega) hvd hct h4)
  have HNO : Hid (nameG true (gl (B s)) = false → N = false) := Lib.hid fun h4 => hN.symm.trans (name_no (.inr (.inr (.inr (.inr h4)))))
  clear hN hvd hct
  go_enter Tryz.func37, Tryz.ntmps37
  go_wp2_with (go_at_call 33; refine HV.out.mono ?_; rintro e w3 ⟨rfl, hb3⟩; refine Hid.out ?_)
  refine Lib.hid ?_
  clear HV
  have hsz3 := hb3.size
  go_wp2_with fail
  go_loopw [] (fun wr => ∃ (pos : Nat), wr.heap[w3.heap.size]? = some (.stringIter s pos) ∧ Below w3.heap.size w3 wr ∧ Hid (NmAt s pos) ∧ pos ≤ s.size) (fun wr => s.size - wr.iterPos w3.heap.size)
  case atStart =>
    refine ⟨0, ?_, (Below.refl _ w3).alloc (Nat.le_refl _) _, Lib.hid (by unfold NmAt; rw [all_rest]; rfl), by omega⟩
    have := World.iter_heap w3 s 0
    simpa using this
  case round =>
    obtain ⟨pos, hit, hbr, HA, hps⟩ := hrel
    by_cases hp : pos < s.size
    · have hnxt : ∀ ty, (Instr.next (.pointer (some ⟨w3.heap.size, 0, none⟩)) true ty).run Tryz.prog wr = _ := fun ty => Lib.run_next_any_at wr w3.heap.size s pos ty hit hp
      have hwd : 1 ≤ (Utf8.decode s pos).2 := by rw [← dn_rest s pos hp]; exact (dn_bounds _ (by rw [rest_size]; omega)).1
      have hwe : pos + (Utf8.decode s pos).2 ≤ s.size := by
        have := (dn_bounds (s.extract pos s.size) (by rw [rest_size]; omega)).2.2
        rw [dn_rest s pos hp, rest_size] at this
        omega
      obtain ⟨r, hr⟩ : ∃ r, (Utf8.decode s pos).1 = r := ⟨_, rfl⟩
      obtain ⟨q, hq⟩ : ∃ q, pos + (Utf8.decode s pos).2 = q := ⟨_, rfl⟩
      have hst := HA.out.step hp hr hq (by omega)
      have hit2 := Lib.iterAt_heap wr w3.heap.size s pos q hit
      have hbr2 := Lib.below_iterAt hbr (k := w3.heap.size) (Nat.le_refl _) s q
      rw [hq] at hnxt hwe
      rw [hr] at hnxt
      have HM : Hid (s.size - q < s.size - wr.iterPos w3.heap.size) := Lib.hid (by simp only [World.iterPos, hit]; omega)
      have hbz := below_self hb3 hbr2
      clear HA hr hq hwd hbr
      by_cases x1 : 97 ≤ r
      · by_cases x2 : r ≤ 122
        · skip
          have hk : okRune (decide (pos = 0)) (r : Int) = true := by unfold okRune; simp; omega
          rw [if_pos hk] at hst
          have HST := Lib.hid hst
          clear hst hk
          have x0 : (97 : Int) ≤ (r : Int) := by first | omega | (simp; omega) | (simp [h0p]; omega) | simp [h0p]
          have x1 : (r : Int) ≤ (122 : Int) := by first | omega | (simp; omega) | (simp [h0p]; omega) | simp [h0p]
          go_wp2_with fail
          exact ⟨⟨q, hit2, hbr2, HST, hwe⟩, by simp only [World.iterPos, hit2]; exact HM.out⟩
        · by_cases x3 : 128 ≤ r
          · skip
            have hk : okRune (decide (pos = 0)) (r : Int) = true := by unfold okRune; simp; omega
            rw [if_pos hk] at hst
            have HST := Lib.hid hst
            clear hst hk
            have x0 : (97 : Int) ≤ (r : Int) := by first | omega | (simp; omega) | (simp [h0p]; omega) | simp [h0p]
            have x1 : ¬ (r : Int) ≤ (122 : Int) := by first | omega | (simp; omega) | (simp [h0p]; omega) | simp [h0p]
            have x2 : (65 : Int) ≤ (r : Int) := by first | omega | (simp; omega) | (simp [h0p]; omega) | simp [h0p]
            have x3 : ¬ (r : Int) ≤ (90 : Int) := by first | omega | (simp; omega) | (simp [h0p]; omega) | simp [h0p]
            have x4 : ((r : Int) == 95) = false := by first | omega | (simp; omega) | (simp [h0p]; omega) | simp [h0p]
            have x5 : (127 : Int) < (r : Int) := by first | omega | (simp; omega) | (simp [h0p]; omega) | simp [h0p]
            go_wp2_with fail
            exact ⟨⟨q, hit2, hbr2, HST, hwe⟩, by simp only [World.iterPos, hit2]; exact HM.out⟩
          · skip
            by_cases h0p : pos = 0
            · skip
              have hk : ¬ okRune (decide (pos = 0)) (r : Int) = true := by unfold okRune; simp; omega
              rw [if_neg hk] at hst
              have HF := Lib.hid (HNO.out hst)
              clear hst hk
              have x0 : (97 : Int) ≤ (r : Int) := by first | omega | (simp; omega) | (simp [h0p]; omega) | simp [h0p]
              have x1 : ¬ (r : Int) ≤ (122 : Int) := by first | omega | (simp; omega) | (simp [h0p]; omega) | simp [h0p]
              have x2 : (65 : Int) ≤ (r : Int) := by first | omega | (simp; omega) | (simp [h0p]; omega) | simp [h0p]
              have x3 : ¬ (r : Int) ≤ (90 : Int) := by first | omega | (simp; omega) | (simp [h0p]; omega) | simp [h0p]
              have x4 : ((r : Int) == 95) = false := by first | omega | (simp; omega) | (simp [h0p]; omega) | simp [h0p]
              have x5 : ¬ (127 : Int) < (r : Int) := by first | omega | (simp; omega) | (simp [h0p]; omega) | simp [h0p]
              have x6 : ((pos : Int) == 0) = true := by first | omega | (simp; omega) | (simp [h0p]; omega) | simp [h0p]
              go_wp2_with fail
              go_ret
              exact ⟨ret_bool HF.out.symm, hbz⟩
            · skip
              have hk : ¬ okRune (decide (pos = 0)) (r : Int) = true := by unfold okRune; simp; omega
              rw [if_neg hk] at hst
              have HF := Lib.hid (HNO.out hst)
              clear hst hk
              have x0 : (97 : Int) ≤ (r : Int) := by first | omega | (simp; omega) | (simp [h0p]; omega) | simp [h0p]
              have x1 : ¬ (r : Int) ≤ (122 : Int) := by first | omega | (simp; omega) | (simp [h0p]; omega) | simp [h0p]
              have x2 : (65 : Int) ≤ (r : Int) := by first | omega | (simp; omega) | (simp [h0p]; omega) | simp [h0p]
              have x3 : ¬ (r : Int) ≤ (90 : Int) := by first | omega | (simp; omega) | (simp [h0p]; omega) | simp [h0p]
              have x4 : ((r : Int) == 95) = false := by first | omega | (simp; omega) | (simp [h0p]; omega) | simp [h0p]
              have x5 : ¬ (127 : Int) < (r : Int) := by first | omega | (simp; omega) | (simp [h0p]; omega) | simp [h0p]
              have x6 : ((pos : Int) == 0) = false := by first | omega | (simp; omega) | (simp [h0p]; omega) | simp [h0p]
              have x7 : ¬ (r : Int) < (48 : Int) := by first | omega | (simp; omega) | (simp [h0p]; omega) | simp [h0p]
              have x8 : (57 : Int) < (r : Int) := by first | omega | (simp; omega) | (simp [h0p]; omega) | simp [h0p]
              go_wp2_with fail
              go_ret
              exact ⟨ret_bool HF.out.symm, hbz⟩
      · by_cases x4 : 65 ≤ r
        · by_cases x5 : r ≤ 90
          · skip
            have hk : okRune (decide (pos = 0)) (r : Int) = true := by unfold okRune; simp; omega
            rw [if_pos hk] at hst
            have HST := Lib.hid hst
            clear hst hk
            have x0 : ¬ (97 : Int) ≤ (r : Int) := by first | omega | (simp; omega) | (simp [h0p]; omega) | simp [h0p]
            have x1 : (65 : Int) ≤ (r : Int) := by first | omega | (simp; omega) | (simp [h0p]; omega) | simp [h0p]
            have x2 : (r : Int) ≤ (90 : Int) := by first | omega | (simp; omega) | (simp [h0p]; omega) | simp [h0p]
            go_wp2_with fail
            exact ⟨⟨q, hit2, hbr2, HST, hwe⟩, by simp only [World.iterPos, hit2]; exact HM.out⟩
          · by_cases x6 : r = 95
            · skip
              have hk : okRune (decide (pos = 0)) (r : Int) = true := by unfold okRune; simp; omega
              rw [if_pos hk] at hst
              have HST := Lib.hid hst
              clear hst hk
              have x0 : ¬ (97 : Int) ≤ (r : Int) := by first | omega | (simp; omega) | (simp [h0p]; omega) | simp [h0p]
              have x1 : (65 : Int) ≤ (r : Int) := by first | omega | (simp; omega) | (simp [h0p]; omega) | simp [h0p]
              have x2 : ¬ (r : Int) ≤ (90 : Int) := by first | omega | (simp; omega) | (simp [h0p]; omega) | simp [h0p]
              have x3 : ((r : Int) == 95) = true := by first | omega | (simp; omega) | (simp [h0p]; omega) | simp [h0p]
              go_wp2_with fail
              exact ⟨⟨q, hit2, hbr2, HST, hwe⟩, by simp only [World.iterPos, hit2]; exact HM.out⟩
            · skip
              by_cases h0p : pos = 0
              · skip
                have hk : ¬ okRune (decide (pos = 0)) (r : Int) = true := by unfold okRune; simp; omega
                rw [if_neg hk] at hst
                have HF := Lib.hid (HNO.out hst)
                clear hst hk
                have x0 : ¬ (97 : Int) ≤ (r : Int) := by first | omega | (simp; omega) | (simp [h0p]; omega) | simp [h0p]
                have x1 : (65 : Int) ≤ (r : Int) := by first | omega | (simp; omega) | (simp [h0p]; omega) | simp [h0p]
                have x2 : ¬ (r : Int) ≤ (90 : Int) := by first | omega | (simp; omega) | (simp [h0p]; omega) | simp [h0p]
                have x3 : ((r : Int) == 95) = false := by first | omega | (simp; omega) | (simp [h0p]; omega) | simp [h0p]
                have x4 : ¬ (127 : Int) < (r : Int) := by first | omega | (simp; omega) | (simp [h0p]; omega) | simp [h0p]
                have x5 : ((pos : Int) == 0) = true := by first | omega | (simp; omega) | (simp [h0p]; omega) | simp [h0p]
                go_wp2_with fail
                go_ret
                exact ⟨ret_bool HF.out.symm, hbz⟩
              · skip
                have hk : ¬ okRune (decide (pos = 0)) (r : Int) = true := by unfold okRune; simp; omega
                rw [if_neg hk] at hst
                have HF := Lib.hid (HNO.out hst)
                clear hst hk
                have x0 : ¬ (97 : Int) ≤ (r : Int) := by first | omega | (simp; omega) | (simp [h0p]; omega) | simp [h0p]
                have x1 : (65 : Int) ≤ (r : Int) := by first | omega | (simp; omega) | (simp [h0p]; omega) | simp [h0p]
                have x2 : ¬ (r : Int) ≤ (90 : Int) := by first | omega | (simp; omega) | (simp [h0p]; omega) | simp [h0p]
                have x3 : ((r : Int) == 95) = false := by first | omega | (simp; omega) | (simp [h0p]; omega) | simp [h0p]
                have x4 : ¬ (127 : Int) < (r : Int) := by first | omega | (simp; omega) | (simp [h0p]; omega) | simp [h0p]
                have x5 : ((pos : Int) == 0) = false := by first | omega | (simp; omega) | (simp [h0p]; omega) | simp [h0p]
                have x6 : ¬ (r : Int) < (48 : Int) := by first | omega | (simp; omega) | (simp [h0p]; omega) | simp [h0p]
                have x7 : (57 : Int) < (r : Int) := by first | omega | (simp; omega) | (simp [h0p]; omega) | simp [h0p]
                go_wp2_with fail
                go_ret
                exact ⟨ret_bool HF.out.symm, hbz⟩
        · by_cases x7 : r < 48
          · skip
            by_cases h0p : pos = 0
            · skip
              have hk : ¬ okRune (decide (pos = 0)) (r : Int) = true := by unfold okRune; simp; omega
              rw [if_neg hk] at hst
              have HF := Lib.hid (HNO.out hst)
              clear hst hk
              have x0 : ¬ (97 : Int) ≤ (r : Int) := by first | omega | (simp; omega) | (simp [h0p]; omega) | simp [h0p]
              have x1 : ¬ (65 : Int) ≤ (r : Int) := by first | omega | (simp; omega) | (simp [h0p]; omega) | simp [h0p]
              have x2 : ((r : Int) == 95) = false := by first | omega | (simp; omega) | (simp [h0p]; omega) | simp [h0p]
              have x3 : ¬ (127 : Int) < (r : Int) := by first | omega | (simp; omega) | (simp [h0p]; omega) | simp [h0p]
              have x4 : ((pos : Int) == 0) = true := by first | omega | (simp; omega) | (simp [h0p]; omega) | simp [h0p]
              go_wp2_with fail
              go_ret
              exact ⟨ret_bool HF.out.symm, hbz⟩
            · skip
              have hk : ¬ okRune (decide (pos = 0)) (r : Int) = true := by unfold okRune; simp; omega
              rw [if_neg hk] at hst
              have HF := Lib.hid (HNO.out hst)
              clear hst hk
              have x0 : ¬ (97 : Int) ≤ (r : Int) := by first | omega | (simp; omega) | (simp [h0p]; omega) | simp [h0p]
              have x1 : ¬ (65 : Int) ≤ (r : Int) := by first | omega | (simp; omega) | (simp [h0p]; omega) | simp [h0p]
              have x2 : ((r : Int) == 95) = false := by first | omega | (simp; omega) | (simp [h0p]; omega) | simp [h0p]
              have x3 : ¬ (127 : Int) < (r : Int) := by first | omega | (simp; omega) | (simp [h0p]; omega) | simp [h0p]
              have x4 : ((pos : Int) == 0) = false := by first | omega | (simp; omega) | (simp [h0p]; omega) | simp [h0p]
              have x5 : (r : Int) < (48 : Int) := by first | omega | (simp; omega) | (simp [h0p]; omega) | simp [h0p]
              go_wp2_with fail
              go_ret
              exact ⟨ret_bool HF.out.symm, hbz⟩
          · by_cases x8 : 57 < r
            · skip
              by_cases h0p : pos = 0
              · skip
                have hk : ¬ okRune (decide (pos = 0)) (r : Int) = true := by unfold okRune; simp; omega
                rw [if_neg hk] at hst
                have HF := Lib.hid (HNO.out hst)
                clear hst hk
                have x0 : ¬ (97 : Int) ≤ (r : Int) := by first | omega | (simp; omega) | (simp [h0p]; omega) | simp [h0p]
                have x1 : ¬ (65 : Int) ≤ (r : Int) := by first | omega | (simp; omega) | (simp [h0p]; omega) | simp [h0p]
                have x2 : ((r : Int) == 95) = false := by first | omega | (simp; omega) | (simp [h0p]; omega) | simp [h0p]
                have x3 : ¬ (127 : Int) < (r : Int) := by first | omega | (simp; omega) | (simp [h0p]; omega) | simp [h0p]
                have x4 : ((pos : Int) == 0) = true := by first | omega | (simp; omega) | (simp [h0p]; omega) | simp [h0p]
                go_wp2_with fail
                go_ret
                exact ⟨ret_bool HF.out.symm, hbz⟩
              · skip
                have hk : ¬ okRune (decide (pos = 0)) (r : Int) = true := by unfold okRune; simp; omega
                rw [if_neg hk] at hst
                have HF := Lib.hid (HNO.out hst)
                clear hst hk
                have x0 : ¬ (97 : Int) ≤ (r : Int) := by first | omega | (simp; omega) | (simp [h0p]; omega) | simp [h0p]
                have x1 : ¬ (65 : Int) ≤ (r : Int) := by first | omega | (simp; omega) | (simp [h0p]; omega) | simp [h0p]
                have x2 : ((r : Int) == 95) = false := by first | omega | (simp; omega) | (simp [h0p]; omega) | simp [h0p]
                have x3 : ¬ (127 : Int) < (r : Int) := by first | omega | (simp; omega) | (simp [h0p]; omega) | simp [h0p]
                have x4 : ((pos : Int) == 0) = false := by first | omega | (simp; omega) | (simp [h0p]; omega) | simp [h0p]
                have x5 : ¬ (r : Int) < (48 : Int) := by first | omega | (simp; omega) | (simp [h0p]; omega) | simp [h0p]
                have x6 : (57 : Int) < (r : Int) := by first | omega | (simp; omega) | (simp [h0p]; omega) | simp [h0p]
                go_wp2_with fail
                go_ret
                exact ⟨ret_bool HF.out.symm, hbz⟩
            · by_cases h0p : pos = 0
              · skip
                have hk : ¬ okRune (decide (pos = 0)) (r : Int) = true := by unfold okRune; simp; omega
                rw [if_neg hk] at hst
                have HF := Lib.hid (HNO.out hst)
                clear hst hk
                have x0 : ¬ (97 : Int) ≤ (r : Int) := by first | omega | (simp; omega) | (simp [h0p]; omega) | simp [h0p]
                have x1 : ¬ (65 : Int) ≤ (r : Int) := by first | omega | (simp; omega) | (simp [h0p]; omega) | simp [h0p]
                have x2 : ((r : Int) == 95) = false := by first | omega | (simp; omega) | (simp [h0p]; omega) | simp [h0p]
                have x3 : ¬ (127 : Int) < (r : Int) := by first | omega | (simp; omega) | (simp [h0p]; omega) | simp [h0p]
                have x4 : ((pos : Int) == 0) = true := by first | omega | (simp; omega) | (simp [h0p]; omega) | simp [h0p]
                go_wp2_with fail
                go_ret
                exact ⟨ret_bool HF.out.symm, hbz⟩
              · skip
                have hk : okRune (decide (pos = 0)) (r : Int) = true := by unfold okRune; simp; omega
                rw [if_pos hk] at hst
                have HST := Lib.hid hst
                clear hst hk
                have x0 : ¬ (97 : Int) ≤ (r : Int) := by first | omega | (simp; omega) | (simp [h0p]; omega) | simp [h0p]
                have x1 : ¬ (65 : Int) ≤ (r : Int) := by first | omega | (simp; omega) | (simp [h0p]; omega) | simp [h0p]
                have x2 : ((r : Int) == 95) = false := by first | omega | (simp; omega) | (simp [h0p]; omega) | simp [h0p]
                have x3 : ¬ (127 : Int) < (r : Int) := by first | omega | (simp; omega) | (simp [h0p]; omega) | simp [h0p]
                have x4 : ((pos : Int) == 0) = false := by first | omega | (simp; omega) | (simp [h0p]; omega) | simp [h0p]
                have x5 : ¬ (r : Int) < (48 : Int) := by first | omega | (simp; omega) | (simp [h0p]; omega) | simp [h0p]
                have x6 : ¬ (57 : Int) < (r : Int) := by first | omega | (simp; omega) | (simp [h0p]; omega) | simp [h0p]
                go_wp2_with fail
                exact ⟨⟨q, hit2, hbr2, HST, hwe⟩, by simp only [World.iterPos, hit2]; exact HM.out⟩
    · have hnxt : ∀ ty, (Instr.next (.pointer (some ⟨w3.heap.size, 0, none⟩)) true ty).run Tryz.prog wr = _ := fun ty => Lib.run_next_end_at wr w3.heap.size s pos ty hit hp
      have HD := Lib.hid (HY.out (HA.out.done hp))
      have hbz := below_self hb3 hbr
      clear HA
      go_wp2_with fail
      go_ret
      exact ⟨ret_bool HD.out.symm, hbz⟩
end Go.Proofs.YtegnoaejlhbpbaaGreatDoor.lx
namespace Go.Proofs.YtegnoaejlhbpbaaGreatDoor.lx
open Go.RowKit
set_option linter.unusedVariables false
set_option linter.unusedSimpArgs false

/-- a column's parts, as Cut has them -/
def cutP (s : ByteArray) : ByteArray × ByteArray := if Lib.indexByte (B s) 46 = -1 then (⟨#[]⟩, s) else (s.extract 0 (Lib.indexByte (B s) 46).toNat, s.extract ((Lib.indexByte (B s) 46).toNat + 1) s.size)
theorem cut_at {s : ByteArray} {k : Nat} (hk : k < s.size) (h : ∀ j, j < k → (B s)[j]? ≠ some 46) (hb : s[k] = 46) : Lib.indexByte (B s) 46 = k := by
  have hlt : k < (B s).length := by rw [B_length]; exact hk
  have hg : (B s)[k] = 46 := by
    have := at_list s k hk
    rw [List.getElem?_eq_getElem hlt] at this
    exact (Option.some.inj this).trans hb
  have e : B s = (B s).take k ++ 46 :: (B s).drop (k + 1) := by
    rw [← hg, ← List.drop_eq_getElem_cons hlt, List.take_append_drop]
  have hn : ∀ b ∈ (B s).take k, b ≠ 46 := by
    intro b hb
    obtain ⟨j, hj, rfl⟩ := List.mem_iff_getElem.1 hb
    rw [List.length_take] at hj
    have := h j (by omega)
    rw [List.getElem_take]
    intro e
    exact this (by rw [List.getElem?_eq_getElem (by omega), e])
  have := indexByte_at 46 ((B s).take k) ((B s).drop (k + 1)) hn
  rw [← e, List.length_take, Nat.min_eq_left (Nat.le_of_lt hlt)] at this
  exact this
theorem cut_none {s : ByteArray} (h : ∀ j, j < s.size → (B s)[j]? ≠ some 46) : Lib.indexByte (B s) 46 = -1 := by
  have hge := Lib.indexByte_ge (B s) 46
  refine Classical.byContradiction fun hne => ?_
  obtain ⟨i, hi⟩ : ∃ i : Nat, Lib.indexByte (B s) 46 = i := ⟨(Lib.indexByte (B s) 46).toNat, by omega⟩
  obtain ⟨hat, _⟩ := Lib.indexByte_some hi
  have hlt := (List.getElem?_eq_some_iff.1 hat).1
  rw [B_length] at hlt
  exact h i hlt hat
theorem column_cut (s : ByteArray) : columnR s = (nameR (cutP s).2 && (decide ((cutP s).2.size = s.size) || nameR (cutP s).1)) := by
  have hge := Lib.indexByte_ge (B s) 46
  have hix : Lib.indexB s ⟨#[46]⟩ = Lib.indexByte (B s) 46 := Lib.index_one _ _
  have one : ∀ x : ByteArray, (!([x] : List ByteArray).any fun x => !nameR x) = nameR x := fun x => by simp
  have two : ∀ x y : ByteArray, (!([x, y] : List ByteArray).any fun x => !nameR x) = (nameR y && nameR x) := fun x y => by simp [Bool.and_comm]
  unfold columnR cutD cutP
  by_cases hi : Lib.indexByte (B s) 46 = -1
  · rw [if_pos hi, Lib.splitB_miss _ _ _ _ (hix.trans hi), one]
    simp
  · obtain ⟨i, hi2⟩ : ∃ i : Nat, Lib.indexByte (B s) 46 = i := ⟨(Lib.indexByte (B s) 46).toNat, by omega⟩
    obtain ⟨hat, _⟩ := Lib.indexByte_some hi2
    have hlt := (List.getElem?_eq_some_iff.1 hat).1
    rw [B_length] at hlt
    rw [if_neg hi, show min 2 (s.size + 1) - 1 = 0 + 1 by omega, Lib.splitB_hit _ _ _ _ i (hix.trans hi2), hi2]
    have e : Lib.splitB ⟨#[46]⟩ 0 0 (s.extract (i + (ByteArray.mk #[46]).size) s.size) = [s.extract (i + 1) s.size] := rfl
    rw [e, two]
    have hz : (s.extract (i + 1) s.size).size ≠ s.size := by rw [ByteArray.size_extract]; omega
    simp only [Int.toNat_natCast, Nat.add_zero]
    rw [decide_eq_false hz, Bool.false_or]

set_option maxHeartbeats 4000000 in
set_option maxRecDepth 100000 in
theorem rCut_any (s : ByteArray) (w : World) (hs : s.size ≤ 1099511627776) :
    Calls Tryz.prog 53 #[.string s] w fun e w' => e = .returned (.tuple #[.string (cutP s).1, .string (cutP s).2]) ∧ Below w.heap.size w w' := by
  obtain ⟨P, hP⟩ : ∃ P, cutP s = P := ⟨_, rfl⟩
  have HP := Lib.hid hP
  rw [hP]
  clear hP
  go_enter Tryz.func53, Tryz.ntmps53
  go_wp2_with fail
  go_loopw [4] (fun i wr => ∃ k : Nat, i = .int .i64 k ∧ k ≤ s.size ∧ wr = w ∧ Hid (∀ j, j < k → (B s)[j]? ≠ some 46)) (fun i _ => s.size - (intOf i).toNat)
  case atStart => exact ⟨0, rfl, Nat.zero_le _, rfl, Lib.hid fun j hj => absurd hj (Nat.not_lt_zero _)⟩
  case round =>
    obtain ⟨k, rfl, hk, rfl, HJ⟩ := hrel
    by_cases hlt : k < s.size
    · by_cases hb : s[k] = 46
      · have hat := cut_at hlt HJ.out hb
        have hP2 : P = (s.extract 0 k, s.extract (k + 1) s.size) := by
          rw [← HP.out]
          unfold cutP
          rw [if_neg (by omega), hat]
          rfl
        subst hP2
        have e46 : ((s[k].toNat : Int) == 46) = true := by rw [hb]; rfl
        have hk1 : (k : Int) + 1 ≤ (s.size : Int) := by omega
        have hw := IntWalk.i64_in ((k : Int) + 1) (by omega)
        have ht : ((k : Int) + 1).toNat = k + 1 := by omega
        have h01 : (0 : Int) ≤ (k : Int) + 1 := by omega
        clear hb hat HP HJ
        go_wp2_with fail
        go_quiet (fail)
        go_wp2_with fail
        go_ret2
        exact ⟨rfl, bdn (Below.refl _ _) _⟩
      · have e46 : ((s[k].toNat : Int) == 46) = false := by
          rw [beq_eq_false_iff_ne]
          intro e
          exact hb (UInt8.toNat_inj.1 (by show s[k].toNat = 46; omega))
        have HJ2 : Hid (∀ j, j < k + 1 → (B s)[j]? ≠ some 46) := Lib.hid fun j hj => by
          by_cases e : j = k
          · subst e
            rw [at_list s j hlt]
            intro h
            injection h with h
            exact hb h
          · exact HJ.out j (by omega)
        clear hb
        go_wp2_with fail
        go_roundw
        case rel => exact ⟨k + 1, by go_num, by omega, trivial, HJ2⟩
        case measure => simp [intOf]; omega
    · obtain rfl : k = s.size := by omega
      have hP2 : P = (⟨#[]⟩, s) := by
        rw [← HP.out]
        unfold cutP
        rw [if_pos (cut_none HJ.out)]
      subst hP2
      clear HP HJ
      go_wp2_with fail
      go_ret2
      exact ⟨rfl, Below.refl _ _⟩

theorem cutP_size (s : ByteArray) : (cutP s).1.size ≤ s.size ∧ (cutP s).2.size ≤ s.size := by
  unfold cutP
  split
  · exact ⟨Nat.zero_le _, Nat.le_refl _⟩
  · constructor <;> (rw [ByteArray.size_extract]; omega)
set_option maxHeartbeats 4000000 in
set_option maxRecDepth 100000 in
theorem rCol_any (s : ByteArray) (w : World) (hs : s.size ≤ 1099511627776) :
    Calls Tryz.prog 34 #[.string s] w fun e w' => e = .returned (.bool (columnR s)) ∧ Below w.heap.size w w' := by
  obtain ⟨N, hN⟩ : ∃ N, columnR s = N := ⟨_, rfl⟩
  have hcut := column_cut s
  rw [hN] at hcut ⊢
  have HC := Lib.hid (rCut_any s w hs)
  obtain ⟨z1, z2⟩ := cutP_size s
  generalize cutP s = P at *
  obtain ⟨a, c⟩ := P
  simp only at hcut z1 z2
  have HA := Lib.hid fun w => rName_any a w (by omega)
  have HB := Lib.hid fun w => rName_any c w (by omega)
  clear hN
  cases hc : nameR c with
  | false =>
    rw [hc] at HB hcut
    rw [Bool.false_and] at hcut
    subst hcut
    clear hc HA
    go_enter Tryz.func34, Tryz.ntmps34
    go_wp2_with (go_at_call 53; refine HC.out.mono ?_; rintro e w2 ⟨rfl, hb2⟩; refine Hid.out ?_)
    refine Lib.hid ?_
    go_wp2_with (go_at_call 37; refine (HB.out _).mono ?_; rintro e w3 ⟨rfl, hb3⟩; refine Hid.out ?_)
    refine Lib.hid ?_
    have HB3 := Lib.hid (below_self hb2 hb3)
    clear hb2 hb3
    go_wp2_with fail
    go_ret
    exact ⟨rfl, HB3.out⟩
  | true =>
    rw [hc] at HB hcut
    rw [Bool.true_and] at hcut
    clear hc
    by_cases hz : c.size = s.size
    · rw [decide_eq_true hz, Bool.true_or] at hcut
      subst hcut
      have ez : ((c.size : Int) == (s.size : Int)) = true := by simp [hz]
      clear hz HA
      go_enter Tryz.func34, Tryz.ntmps34
      go_wp2_with (go_at_call 53; refine HC.out.mono ?_; rintro e w2 ⟨rfl, hb2⟩; refine Hid.out ?_)
      refine Lib.hid ?_
      go_wp2_with (go_at_call 37; refine (HB.out _).mono ?_; rintro e w3 ⟨rfl, hb3⟩; refine Hid.out ?_)
      refine Lib.hid ?_
      have HB3 := Lib.hid (below_self hb2 hb3)
      clear hb2 hb3
      go_wp2_with fail
      go_ret
      exact ⟨rfl, HB3.out⟩
    · rw [decide_eq_false hz, Bool.false_or] at hcut
      subst hcut
      have ez : ((c.size : Int) == (s.size : Int)) = false := by simp; omega
      clear hz
      go_enter Tryz.func34, Tryz.ntmps34
      go_wp2_with (go_at_call 53; refine HC.out.mono ?_; rintro e w2 ⟨rfl, hb2⟩; refine Hid.out ?_)
      refine Lib.hid ?_
      go_wp2_with (go_at_call 37; refine (HB.out _).mono ?_; rintro e w3 ⟨rfl, hb3⟩; refine Hid.out ?_)
      refine Lib.hid ?_
      have HB3 := Lib.hid (below_self hb2 hb3)
      clear hb2 hb3
      go_wp2_with (go_at_call 37; refine (HA.out _).mono ?_; rintro e w4 ⟨rfl, hb4⟩; refine Hid.out ?_)
      refine Lib.hid ?_
      have HB4 := Lib.hid (below_self HB3.out hb4)
      clear hb4
      go_wp2_with fail
      go_ret
      exact ⟨rfl, HB4.out⟩
end Go.Proofs.YtegnoaejlhbpbaaGreatDoor.lx
namespace Go.Proofs.YtegnoaejlhbpbaaGreatDoor.lx
open Go.RowKit
set_option linter.unusedVariables false
set_option linter.unusedSimpArgs false

theorem takes_gen {k n : Int} {s : ByteArray} (h : k < 1 ∨ 6 < k) : takesR ⟨k, s, n⟩ = if k = 0 ∨ 22 ≤ k ∨ (emptyS s && n == 0) = false then (0, false) else if k ≤ 10 then (1, true) else (2, true) := by
  unfold takesR
  simp only
  rw [if_neg (by omega), if_neg (by omega), if_neg (by omega), if_neg (by omega)]
theorem emptyS_of {s : ByteArray} {b : Bool} (h : s.toList.isEmpty = b) : emptyS s = b := h

set_option maxHeartbeats 8000000 in
set_option maxRecDepth 100000 in
theorem rTakes_any (t : Stp) (w : World) (hs : t.s.size ≤ 1099511627776) (hk : 0 ≤ t.k ∧ t.k ≤ 255) :
    Calls Tryz.prog 12 #[t.v] w fun e w' => e = .returned (.tuple #[.int .i64 (takesR t).1, .bool (takesR t).2]) ∧ Below w.heap.size w w' := by
  obtain ⟨R, hR⟩ : ∃ R, takesR t = R := ⟨_, rfl⟩
  rw [hR]
  obtain ⟨k, s, n⟩ := t
  unfold Stp.v
  simp only at hR hs hk ⊢
  have hbV := (Below.refl w.heap.size w).alloc (Nat.le_refl _) (.cells #[.int .u8 k, .string s, .int .i64 n] 29)
  have HB := Lib.hid hbV
  clear hbV
  by_cases h0 : k < 1
  · skip
    have HR := Lib.hid (show R = (0, false) by rw [← hR]; rw [takes_gen (.inl h0), if_pos (.inl (by omega))])
    clear hR
    have y0 : k < 1 := h0
    clear hk
    go_enter Tryz.func12, Tryz.ntmps12
    go_wp2_with fail
    go_ret2
    exact ⟨pair_ret HR.out, HB.out⟩
  by_cases h22 : 22 ≤ k
  · skip
    have HR := Lib.hid (show R = (0, false) by rw [← hR]; rw [takes_gen (.inr (by omega)), if_pos (.inr (.inl h22))])
    clear hR
    have y0 : ¬ k < 1 := h0
    have y1 : 22 ≤ k := h22
    clear hk
    go_enter Tryz.func12, Tryz.ntmps12
    go_wp2_with fail
    go_ret2
    exact ⟨pair_ret HR.out, HB.out⟩
  by_cases h5 : k = 5
  · subst h5
    by_cases hn : n = 0
    · skip
      by_cases hz : (s.size : Int) ≤ 256
      · have hU := rUtf_any s
        obtain ⟨V, hV⟩ : ∃ V, validS s = V := ⟨_, rfl⟩
        rw [hV] at hU
        have HU := Lib.hid fun w => hU w hs
        clear hU
        have HR := Lib.hid (show R = (0, V) by rw [← hR]; simp [takesR, hn, hz, hV])
        clear hR
        have y0 : (n != 0) = false := by simp [hn]
        have y1 : (s.size : Int) ≤ 256 := hz
        clear hk hn hV
        go_enter Tryz.func12, Tryz.ntmps12
        go_wp2_with (go_at_call 33; refine (HU.out _).mono ?_; rintro e w2 ⟨rfl, hb2⟩; refine Hid.out ?_)
        refine Lib.hid ?_
        have HB2 := Lib.hid (below_self HB.out hb2)
        clear hb2
        go_wp2_with fail
        go_ret2
        exact ⟨pair_ret HR.out, HB2.out⟩
      · skip
        have HR := Lib.hid (show R = (0, false) by rw [← hR]; simp [takesR, hn, hz])
        clear hR
        have y0 : (n != 0) = false := by simp [hn]
        have y1 : ¬ (s.size : Int) ≤ 256 := hz
        clear hk hn
        go_enter Tryz.func12, Tryz.ntmps12
        go_wp2_with fail
        go_ret2
        exact ⟨pair_ret HR.out, HB.out⟩
    · skip
      have HR := Lib.hid (show R = (0, false) by rw [← hR]; simp [takesR, hn])
      clear hR
      have y0 : (n != 0) = true := by simp [hn]
      clear hk hn
      go_enter Tryz.func12, Tryz.ntmps12
      go_wp2_with fail
      go_ret2
      exact ⟨pair_ret HR.out, HB.out⟩
  by_cases h6 : k = 6
  · subst h6
    by_cases hn : n = 0
    · have hU := rCol_any s
      obtain ⟨V, hV⟩ : ∃ V, columnR s = V := ⟨_, rfl⟩
      rw [hV] at hU
      have HU := Lib.hid fun w => hU w hs
      clear hU
      have HR := Lib.hid (show R = (0, V) by rw [← hR]; simp [takesR, hn, hV])
      clear hR
      have y0 : (n != 0) = false := by simp [hn]
      clear hk hn hV
      go_enter Tryz.func12, Tryz.ntmps12
      go_wp2_with (go_at_call 34; refine (HU.out _).mono ?_; rintro e w2 ⟨rfl, hb2⟩; refine Hid.out ?_)
      refine Lib.hid ?_
      have HB2 := Lib.hid (below_self HB.out hb2)
      clear hb2
      go_wp2_with fail
      go_ret2
      exact ⟨pair_ret HR.out, HB2.out⟩
    · skip
      have HR := Lib.hid (show R = (0, false) by rw [← hR]; simp [takesR, hn])
      clear hR
      have y0 : (n != 0) = true := by simp [hn]
      clear hk hn
      go_enter Tryz.func12, Tryz.ntmps12
      go_wp2_with fail
      go_ret2
      exact ⟨pair_ret HR.out, HB.out⟩
  have n5 : (k != 5) = true := by simp [h5]
  have n6 : (k != 6) = true := by simp [h6]
  have m5 : (k == 5) = false := by simp [h5]
  have m6 : (k == 6) = false := by simp [h6]
  cases he : s.toList.isEmpty with
  | false =>
    have hre : R = (0, false) := by
      have e := emptyS_of he
      rw [← hR]
      rcases (by omega : k < 1 ∨ 6 < k ∨ k = 1 ∨ k = 2 ∨ k = 3 ∨ k = 4) with h | h | h | h | h | h
      · omega
      · rw [takes_gen (.inr h), if_pos (.inr (.inr (by rw [e]; rfl)))]
      · subst h; simp [takesR, e]
      · subst h; simp [takesR, e]
      · subst h; simp [takesR, e]
      · subst h; simp [takesR, e]
    have HR := Lib.hid hre
    clear hR hre
    have y0 : ¬ s.toList = [] := fun e => by rw [e] at he; cases he
    clear hk
    go_enter Tryz.func12, Tryz.ntmps12
    go_wp2_with fail
    go_ret2
    exact ⟨pair_ret HR.out, HB.out⟩
  | true =>
    by_cases h4 : k = 4
    · subst h4
      have HR := Lib.hid (show R = (0, true) by rw [← hR]; simp [takesR, emptyS_of he])
      clear hR
      have y0 : s.toList = [] := List.isEmpty_iff.1 he
      clear hk
      go_enter Tryz.func12, Tryz.ntmps12
      go_wp2_with fail
      go_ret2
      exact ⟨pair_ret HR.out, HB.out⟩
    have n4 : (k != 4) = true := by simp [h4]
    by_cases hn : n = 0
    · have n0 : (n != 0) = false := by simp [hn]
      by_cases h7 : k < 7
      · skip
        have HR := Lib.hid (show R = (0, true) by rw [← hR]; rcases (by omega : k = 1 ∨ k = 2 ∨ k = 3) with h | h | h <;> subst h <;> simp [takesR, emptyS_of he, hn])
        clear hR
        have y0 : s.toList = [] := List.isEmpty_iff.1 he
        have y1 : k < 7 := h7
        clear hk hn
        go_enter Tryz.func12, Tryz.ntmps12
        go_wp2_with fail
        go_ret2
        exact ⟨pair_ret HR.out, HB.out⟩
      by_cases h10 : k ≤ 10
      · skip
        have HR := Lib.hid (show R = (1, true) by rw [← hR]; rw [takes_gen (.inr (by omega)), if_neg (by rw [emptyS_of he, hn]; simp; omega), if_pos h10])
        clear hR
        have y0 : s.toList = [] := List.isEmpty_iff.1 he
        have y1 : ¬ k < 7 := h7
        have y2 : k ≤ 10 := h10
        clear hk hn
        go_enter Tryz.func12, Tryz.ntmps12
        go_wp2_with fail
        go_ret2
        exact ⟨pair_ret HR.out, HB.out⟩
      · skip
        have HR := Lib.hid (show R = (2, true) by rw [← hR]; rw [takes_gen (.inr (by omega)), if_neg (by rw [emptyS_of he, hn]; simp; omega), if_neg h10])
        clear hR
        have y0 : s.toList = [] := List.isEmpty_iff.1 he
        have y1 : ¬ k < 7 := h7
        have y2 : ¬ k ≤ 10 := h10
        clear hk hn
        go_enter Tryz.func12, Tryz.ntmps12
        go_wp2_with fail
        go_ret2
        exact ⟨pair_ret HR.out, HB.out⟩
    · have n0 : (n != 0) = true := by simp [hn]
      have hre : R = (0, false) := by
        have e : (n == 0) = false := by simp [hn]
        rw [← hR]
        rcases (by omega : k < 1 ∨ 6 < k ∨ k = 1 ∨ k = 2 ∨ k = 3) with h | h | h | h | h
        · omega
        · rw [takes_gen (.inr h), if_pos (.inr (.inr (by rw [e, Bool.and_false])))]
        · subst h; simp [takesR, e]
        · subst h; simp [takesR, e]
        · subst h; simp [takesR, e]
      have HR := Lib.hid hre
      clear hR hre
      have y0 : s.toList = [] := List.isEmpty_iff.1 he
      clear hk hn
      go_enter Tryz.func12, Tryz.ntmps12
      go_wp2_with fail
      go_ret2
      exact ⟨pair_ret HR.out, HB.out⟩
end Go.Proofs.YtegnoaejlhbpbaaGreatDoor.lx
