/-
  The lexer's word (an atom, or a number), for every tape. Conditions: as for text. The lexer's token, for every tape that stands at no blank. Conditions: as for text. The lexer: Lex, for every text: its tokens, or why it has none, and where. Conditions: the package-level variables are laid. Texts as lists of glyphs (a rune, and whether it stands there well): plain laws of the decoder, no program in sight. What the parser computes, as a law on tokens: plain Lean, no program in sight.
-/
import Derived.Test.YtgjfbbmachoolaaGreatDoorM02
import Derived.Lib.AppendIntMem
import Derived.Maps.AppendAt
import Derived.Lib.MapLaws
import Derived.Lib.ValidU
import Derived.Lib.ValidLaws
namespace Go.Proofs.YtgjfbbmachoolaaGreatDoor.lx
open Go.RowKit

def digB (b : UInt8) : Bool := decide (48 ≤ (b.toNat : Int)) && decide ((b.toNat : Int) ≤ 57)
/-- does a word begin as a number does? -/
def numStart : List UInt8 → Bool
 | [] => false
 | c :: r => digB c || (c == 45 && (match r with | [] => false | d :: _ => digB d))
/-- a number's token, of its bytes; or why it is none -/
def numTok (s : ByteArray) : Tok × Int :=
 match Lib.parseIntB 64 s.data.toList with
 | .ok n => if Lib.itoa n = s.data.toList then (⟨4, ⟨#[]⟩, n, 0⟩, 0) else (Tok.no, 13)
 | _ => (Tok.no, 13)
/-- a word's token, of its bytes; or why it is none -/
def wordTok (fine : Bool) (s : ByteArray) : Tok × Int :=
 if fine = false then (Tok.no, 9)
 else if numStart s.data.toList = true then numTok s
 else if 64 < s.size then (Tok.no, 13)
 else (⟨3, s, 0, 0⟩, 0)

theorem at_list (s : ByteArray) (i : Nat) (h : i < s.size) : s.data.toList[i]? = some (s[i]'h) := by
 obtain ⟨⟨l⟩⟩ := s
 exact Lib.getElem_mk l i h

theorem digit45 (w : World) : Calls Tryz.prog 126 #[.int .u8 45] w fun e w' => e = .returned (.bool false) ∧ w = w' := (digit_any 45 w).mono fun e w' ⟨h1, h2⟩ => ⟨by rw [h1]; rfl, h2⟩

theorem pi_ok (s : ByteArray) (hmax : s.size ≤ 281474976710656) (v : Int) (h : Lib.parseIntB 64 s.data.toList = .ok v) (w : World) :
  Calls Tryz.prog 127 #[.string s, .int .i64 10, .int .i64 64] w fun e w' => e = .returned (.tuple #[.int .i64 v, .nilIface]) ∧ Below w.heap.size w w' :=
 (Tryz.strconv_ParseInt_10_at64_ok s (by omega) v h w).mono fun e w' ⟨h1, h2⟩ => ⟨h1, by
  rcases h2 with rfl | ⟨t, rfl⟩
  ·
   exact Below.refl _ _
  ·
   exact Lib.bytesWorld_below _ _ _⟩
theorem pi_bad (s : ByteArray) (hmax : s.size ≤ 281474976710656) (h : ∀ v, Lib.parseIntB 64 s.data.toList ≠ .ok v) (w : World) (hG : Glob w) :
  Calls Tryz.prog 127 #[.string s, .int .i64 10, .int .i64 64] w fun e w' => ∃ v N, e = .returned (.tuple #[.int .i64 v, .iface 228 (.pointer (some ⟨N, 0, none⟩))]) ∧ Below w.heap.size w w' := by
 cases hp : Lib.parseIntB 64 s.data.toList with
 | ok v => exact absurd hp (h v)
 | range =>
  obtain ⟨tp, p, hv⟩ := hG.era
  exact (Tryz.strconv_ParseInt_10_at64_range_var s hmax hp tp p w hv).mono fun e w' ⟨N, h1, _, _, h2⟩ => ⟨_, N, h1, h2⟩
 | _ =>
  obtain ⟨tp, p, hv⟩ := hG.esy
  exact (Tryz.strconv_ParseInt_10_at64_syntax_var s hmax hp tp p w hv).mono fun e w' ⟨N, h1, _, _, h2⟩ => ⟨_, N, h1, h2⟩
theorem pi_range (s : ByteArray) (v : Int) (h : Lib.parseIntB 64 s.data.toList = .ok v) : -9223372036854775808 ≤ v ∧ v ≤ 9223372036854775807 := by
 unfold Lib.parseIntB at h
 split at h
 ·
  cases h
 simp only at h
 split at h
 ·
  cases h
 ·
  cases h
 split at h
 ·
  cases h
 split at h
 ·
  cases h
 rename_i h1 h2
 simp only [Lib.NumEnd.ok.injEq] at h
 have e : (2 : Nat) ^ (64 - 1) = 9223372036854775808 := by decide
 rw [e] at h1 h2
 split at h <;> omega
theorem fi_any (n : Int) (h0 : -9223372036854775808 ≤ n) (h1 : n ≤ 9223372036854775807) (w : World) (hG : Glob w) :
  Calls Tryz.prog 128 #[.int .i64 n, .int .i64 10] w fun e w' => e = .returned (.string ⟨(Lib.itoa n).toArray⟩) ∧ Below w.heap.size w w' :=
 (Tryz.strconv_FormatInt_10 n h0 h1 w hG.pow).mono fun e w' ⟨h1, k, os, h2⟩ => ⟨h1, by rw [h2]; exact Lib.below_grow _ _ (Nat.le_refl _) k os⟩

set_option maxHeartbeats 8000000 in
set_option maxRecDepth 100000 in
theorem word_any (b : Nat) (l : ByteArray) (p : Nat) (w : World) (hG : Glob w) (hb8 : 11 ≤ b) (h : Tape b l p w) (hl : p + l.size + 1 ≤ 1099511627776) (he : endF l = false) :
  Calls Tryz.prog 104 #[.pointer (some ⟨b, 0, none⟩)] w fun e w' =>
   e = .returned (.tuple #[(wordTok (bareF true l p).1 (l.extract 0 (l.size - (bareF true l p).2.1.size))).1.v, .int .i64 (wordTok (bareF true l p).1 (l.extract 0 (l.size - (bareF true l p).2.1.size))).2]) ∧
   Tape b (bareF true l p).2.1 (bareF true l p).2.2 w' ∧ w.grownBy w' (some b) := by
 have hblt := h.lt
 have h0 : l.size ≠ 0 := fun h0 => by simp [endF, h0] at he
 have hlt := adv_lt l h0
 have hsz : (bareF true l p).2.1.size < l.size := by
  rw [bareF_go he]
  have := (bareF_size _ (stepOk l && true) (adv l) (p + 1) rfl).1
  omega
 have hsl : (l.extract 0 (l.size - (bareF true l p).2.1.size)).size = l.size - (bareF true l p).2.1.size := by simp [ByteArray.size_extract]
 have hW1 : Tape b l p (w.alloc (.cells #[.int .u8 0, .string ⟨#[]⟩, .int .i64 0, .int .i64 0] 144)) :=
  h.below ((Below.refl w.heap.size w).alloc (Nat.le_refl _) _) hblt
 have hW2 : Below w.heap.size w (w.alloc (.cells #[.int .u8 0, .string ⟨#[]⟩, .int .i64 0, .int .i64 0] 144)) := (Below.refl w.heap.size w).alloc (Nat.le_refl _) _
 have hW3 : Cell4 w.heap.size Tok.no (w.alloc (.cells #[.int .u8 0, .string ⟨#[]⟩, .int .i64 0, .int .i64 0] 144)) := by
  unfold Cell4
  rw [heap_alloc_new]
  rfl
 have hGW := hG.self hW2
 have hbare := bare_any b l p _ hGW hb8 hW1 (by omega)
 obtain ⟨s, hs⟩ : ∃ s, l.extract 0 (l.size - (bareF true l p).2.1.size) = s := ⟨_, rfl⟩
 obtain ⟨R, hR⟩ : ∃ R, bareF true l p = R := ⟨_, rfl⟩
 rw [hs] at hsl hbare ⊢
 rw [hR] at hsl hbare hsz ⊢
 have HB := Lib.hid hbare
 have hs1 : 1 ≤ s.size := by omega
 have hs2 : s.size ≤ 1099511627776 := by omega
 clear hbare hs hR h0 hlt hsz hsl he
 go_enter Tryz.func104, Tryz.ntmps104
 go_wp2_with (go_at_call 125; refine HB.out.mono ?_)
 rintro e w1 ⟨rfl, ht1, hg1⟩
 have hgb1 : w.grownBy w1 (some b) := gb_trans (gb_of_below hW2 _) hg1
 have hc41 := hW3.gb hg1 (by omega)
 have hG1 := hG.gb hb8 hgb1
 clear hW1 hW2 hW3 hGW hg1 HB
 have r0 := hc41.c0
 have r1 := hc41.c1
 have r2 := hc41.c2
 have r3 := hc41.c3
 have fr := hc41.f
 cases hf : R.1 with
 | false =>
  have h4 := put4_cell hc41 Tok.no
  have ht4 := put4_tape (t := Tok.no) ht1 (by omega : b ≠ w.heap.size)
  have hg4 := put4_gb Tok.no hgb1 (Nat.le_refl _)
  go_wp2_with fail
  refine bodyPost_ret (v := .tuple #[Tok.no.v, .int .i64 9]) ?_ rfl ⟨by rw [hf]; rfl, ht4, hg4⟩
  exact results4 rfl h4 rfl rfl
 | true =>
  obtain ⟨c, r, hcr⟩ : ∃ c r, s.data.toList = c :: r := by
   cases hh : s.data.toList with
   | nil => rw [Lib.size_eq, hh] at hs1; simp at hs1
   | cons c r => exact ⟨c, r, rfl⟩
  have hz : s.size = r.length + 1 := by rw [Lib.size_eq, hcr]; simp
  have hc0 : ∀ h, s[0]'h = c := fun h => by
   have e := at_list s 0 h
   rw [hcr] at e
   simpa using e.symm
  have hsI : (0 : Int) < (s.size : Int) := by omega
  have hwt : wordTok true s = if numStart (c :: r) = true then numTok s else if 64 < s.size then (Tok.no, 13) else (⟨3, s, 0, 0⟩, 0) := by
   unfold wordTok
   rw [if_neg (by simp), ← hcr]
  have HWT := Lib.hid hwt
  have HCR := Lib.hid hcr
  have HZ := Lib.hid hz
  clear hwt hcr hz hs1
  have hdc := fun w => digit_any (c.toNat : Int) w
  have hdB : (decide (48 ≤ (c.toNat : Int)) && decide ((c.toNat : Int) ≤ 57)) = digB c := rfl
  rw [hdB] at hdc
  cases hns : numStart (c :: r) with
  | false =>
   have hnd : digB c = false := by simp [numStart] at hns; exact hns.1
   have HT : Hid (wordTok true s = if 64 < s.size then (Tok.no, 13) else (⟨3, s, 0, 0⟩, 0)) := Lib.hid (by rw [HWT.out, hns]; rfl)
   rw [hnd] at hdc
   have HD := Lib.hid hdc
   have HNS := Lib.hid hns
   have HND := Lib.hid hnd
   clear hdc hdB hnd hns
   by_cases h45 : c = 45
   ·
    subst h45
    have h45b : (((45 : UInt8).toNat : Int) == 45) = true := rfl
    cases r with
    | nil =>
     have hs1 : ¬ ((1 : Int) < s.size) := by have := HZ.out; simp at this; omega
     have hs64 : ¬ 64 < s.size := by omega
     have h4 := put4_cell hc41 ⟨3, s, 0, 0⟩
     have ht4 := put4_tape (t := ⟨3, s, 0, 0⟩) ht1 (by omega : b ≠ w.heap.size)
     have hg4 := put4_gb ⟨3, s, 0, 0⟩ hgb1 (Nat.le_refl _)
     go_wp2_with (go_at_call 126; refine (HD.out _).mono ?_; rintro e w' ⟨rfl, rfl⟩)
     refine bodyPost_ret (v := .tuple #[Tok.v ⟨3, s, 0, 0⟩, .int .i64 0]) ?_ rfl ⟨by first | rw [HT.out, if_neg hs64] | rw [hf, HT.out, if_neg hs64], ht4, hg4⟩
     exact results4 rfl h4 rfl rfl
    | cons d rs =>
     have hs1 : (1 : Int) < s.size := by have := HZ.out; simp at this; omega
     have hd1 : ∀ h, s[1]'h = d := fun h => by
      have e := at_list s 1 h
      rw [HCR.out] at e
      simpa using e.symm
     have hnd2 : digB d = false := by have := HNS.out; simp [numStart] at this; exact this.2
     have hdc2 := fun w => digit_any (d.toNat : Int) w
     have hdB2 : (decide (48 ≤ (d.toNat : Int)) && decide ((d.toNat : Int) ≤ 57)) = digB d := rfl
     rw [hdB2, hnd2] at hdc2
     have HD2 := Lib.hid hdc2
     clear hdc2 hdB2 hnd2 HD
     have HD := Lib.hid digit45
     by_cases hs64 : 64 < s.size
     ·
      have hs64I : (64 : Int) < (s.size : Int) := by omega
      have h4 := put4_cell hc41 Tok.no
      have ht4 := put4_tape (t := Tok.no) ht1 (by omega : b ≠ w.heap.size)
      have hg4 := put4_gb Tok.no hgb1 (Nat.le_refl _)
      go_wp2_with (go_at_call 126; first | ((with_reducible refine (HD.out _).mono ?_); rintro e w' ⟨rfl, rfl⟩) | ((with_reducible refine (HD2.out _).mono ?_); rintro e w' ⟨rfl, rfl⟩))
      refine bodyPost_ret (v := .tuple #[Tok.no.v, .int .i64 13]) ?_ rfl ⟨by first | rw [HT.out, if_pos hs64] | rw [hf, HT.out, if_pos hs64], ht4, hg4⟩
      exact results4 rfl h4 rfl rfl
     ·
      have hs64I : ¬ (64 : Int) < (s.size : Int) := by omega
      have h4 := put4_cell hc41 ⟨3, s, 0, 0⟩
      have ht4 := put4_tape (t := ⟨3, s, 0, 0⟩) ht1 (by omega : b ≠ w.heap.size)
      have hg4 := put4_gb ⟨3, s, 0, 0⟩ hgb1 (Nat.le_refl _)
      go_wp2_with (go_at_call 126; first | ((with_reducible refine (HD.out _).mono ?_); rintro e w' ⟨rfl, rfl⟩) | ((with_reducible refine (HD2.out _).mono ?_); rintro e w' ⟨rfl, rfl⟩))
      refine bodyPost_ret (v := .tuple #[Tok.v ⟨3, s, 0, 0⟩, .int .i64 0]) ?_ rfl ⟨by first | rw [HT.out, if_neg hs64] | rw [hf, HT.out, if_neg hs64], ht4, hg4⟩
      exact results4 rfl h4 rfl rfl
   ·
    have h45b : ((c.toNat : Int) == 45) = false := by
     apply beq_eq_false_iff_ne.2
     intro e
     apply h45
     have e' : c.toNat = 45 := by omega
     exact UInt8.toNat_inj.1 e'
    clear h45
    by_cases hs64 : 64 < s.size
    ·
     have hs64I : (64 : Int) < (s.size : Int) := by omega
     have h4 := put4_cell hc41 Tok.no
     have ht4 := put4_tape (t := Tok.no) ht1 (by omega : b ≠ w.heap.size)
     have hg4 := put4_gb Tok.no hgb1 (Nat.le_refl _)
     go_wp2_with (go_at_call 126; refine (HD.out _).mono ?_; rintro e w' ⟨rfl, rfl⟩)
     refine bodyPost_ret (v := .tuple #[Tok.no.v, .int .i64 13]) ?_ rfl ⟨by first | rw [HT.out, if_pos hs64] | rw [hf, HT.out, if_pos hs64], ht4, hg4⟩
     exact results4 rfl h4 rfl rfl
    ·
     have hs64I : ¬ (64 : Int) < (s.size : Int) := by omega
     have h4 := put4_cell hc41 ⟨3, s, 0, 0⟩
     have ht4 := put4_tape (t := ⟨3, s, 0, 0⟩) ht1 (by omega : b ≠ w.heap.size)
     have hg4 := put4_gb ⟨3, s, 0, 0⟩ hgb1 (Nat.le_refl _)
     go_wp2_with (go_at_call 126; refine (HD.out _).mono ?_; rintro e w' ⟨rfl, rfl⟩)
     refine bodyPost_ret (v := .tuple #[Tok.v ⟨3, s, 0, 0⟩, .int .i64 0]) ?_ rfl ⟨by first | rw [HT.out, if_neg hs64] | rw [hf, HT.out, if_neg hs64], ht4, hg4⟩
     exact results4 rfl h4 rfl rfl
  | true =>
   have HT : Hid (wordTok true s = numTok s) := Lib.hid (by rw [HWT.out, hns]; rfl)
   cases hnd : digB c with
   | true =>
    rw [hnd] at hdc
    have HD := Lib.hid hdc
    clear hdc hdB hnd hns
    cases hpi : Lib.parseIntB 64 s.data.toList with
    | ok n =>
     have hr := pi_range s n hpi
     have hpc := fun w => pi_ok s (by omega) n hpi w
     have hfc := fun w hG => fi_any n hr.1 hr.2 w hG
     have HP := Lib.hid hpc
     have HFI := Lib.hid hfc
     have HPI := Lib.hid hpi
     clear hpc hfc hpi hr
     by_cases heq : Lib.itoa n = s.data.toList
     ·
      have hss : (⟨(Lib.itoa n).toArray⟩ : ByteArray) = s := by rw [heq, Lib.mk_data]
      have HN : Hid (wordTok true s = (⟨4, ⟨#[]⟩, n, 0⟩, 0)) := Lib.hid (by rw [HT.out, numTok, HPI.out]; simp only; rw [if_pos heq])
      clear heq HPI
      go_wp2_with (first | (go_at_call 126; refine (HD.out _).mono ?_; rintro e w' ⟨rfl, rfl⟩) | (go_at_call 127; refine (HP.out _).mono ?_))
      rintro e w2 ⟨rfl, hb2⟩
      have hG2 := hG1.self hb2
      go_wp2_with (go_at_call 128; refine (HFI.out _ hG2).mono ?_)
      rintro e w3 ⟨rfl, hb3⟩
      rw [hss]
      clear hss
      have hb := below_self hb2 hb3
      have hc5 := hc41.below hb (by have := hgb1.size; have := ht1.lt; exact (Array.getElem?_eq_some_iff.1 hc41).1)
      have ht5 := ht1.below hb ht1.lt
      have hgb5 := gb_trans hgb1 (gb_of_below hb _)
      clear r0 r1 r2 r3 fr hc41 ht1 hgb1 hb hb2 hb3
      have r0 := hc5.c0
      have r1 := hc5.c1
      have r2 := hc5.c2
      have r3 := hc5.c3
      have fr := hc5.f
      have h4 := put4_cell hc5 ⟨4, ⟨#[]⟩, n, 0⟩
      have ht4 := put4_tape (t := ⟨4, ⟨#[]⟩, n, 0⟩) ht5 (by omega : b ≠ w.heap.size)
      have hg4 := put4_gb ⟨4, ⟨#[]⟩, n, 0⟩ hgb5 (Nat.le_refl _)
      go_wp2_with fail
      refine bodyPost_ret (v := .tuple #[Tok.v ⟨4, ⟨#[]⟩, n, 0⟩, .int .i64 0]) ?_ rfl ⟨by first | rw [HN.out] | rw [hf, HN.out], ht4, hg4⟩
      exact results4 rfl h4 rfl rfl
     ·
      have hss : (⟨(Lib.itoa n).toArray⟩ : ByteArray).toList ≠ s.toList := by
       intro e
       rw [Lib.toList_data, Lib.toList_data] at e
       exact heq (by simpa using e)
      have hsb : ((⟨(Lib.itoa n).toArray⟩ : ByteArray).toList == s.toList) = false := by simpa using hss
      have HN : Hid (wordTok true s = (Tok.no, 13)) := Lib.hid (by rw [HT.out, numTok, HPI.out]; simp only; rw [if_neg heq])
      obtain ⟨z, hz⟩ : ∃ z, (⟨(Lib.itoa n).toArray⟩ : ByteArray) = z := ⟨_, rfl⟩
      have hfc := HFI.out
      rw [hz] at hsb hfc
      have HFI := Lib.hid hfc
      clear heq hss hz HPI hfc
      go_wp2_with (first | (go_at_call 126; refine (HD.out _).mono ?_; rintro e w' ⟨rfl, rfl⟩) | (go_at_call 127; refine (HP.out _).mono ?_))
      rintro e w2 ⟨rfl, hb2⟩
      have hG2 := hG1.self hb2
      go_wp2_with (go_at_call 128; refine (HFI.out _ hG2).mono ?_)
      rintro e w3 ⟨rfl, hb3⟩
      have hb := below_self hb2 hb3
      have hc5 := hc41.below hb (by have := hgb1.size; have := ht1.lt; exact (Array.getElem?_eq_some_iff.1 hc41).1)
      have ht5 := ht1.below hb ht1.lt
      have hgb5 := gb_trans hgb1 (gb_of_below hb _)
      clear r0 r1 r2 r3 fr hc41 ht1 hgb1 hb hb2 hb3
      have r0 := hc5.c0
      have r1 := hc5.c1
      have r2 := hc5.c2
      have r3 := hc5.c3
      have fr := hc5.f
      have h4 := put4_cell hc5 Tok.no
      have ht4 := put4_tape (t := Tok.no) ht5 (by omega : b ≠ w.heap.size)
      have hg4 := put4_gb Tok.no hgb5 (Nat.le_refl _)
      go_wp2_with fail
      refine bodyPost_ret (v := .tuple #[Tok.no.v, .int .i64 13]) ?_ rfl ⟨by first | rw [HN.out] | rw [hf, HN.out], ht4, hg4⟩
      exact results4 rfl h4 rfl rfl
    | _ =>
     have hpc := fun w hG => pi_bad s (by omega) (by rw [hpi]; intro v e; cases e) w hG
     have HN : Hid (wordTok true s = (Tok.no, 13)) := Lib.hid (by rw [HT.out, numTok, hpi])
     have HP := Lib.hid hpc
     clear hpc hpi
     go_wp2_with (first | (go_at_call 126; refine (HD.out _).mono ?_; rintro e w' ⟨rfl, rfl⟩) | (go_at_call 127; refine (HP.out _ hG1).mono ?_))
     rintro e w2 ⟨v2, N2, rfl, hb⟩
     have hc5 := hc41.below hb (by have := hgb1.size; have := ht1.lt; exact (Array.getElem?_eq_some_iff.1 hc41).1)
     have ht5 := ht1.below hb ht1.lt
     have hgb5 := gb_trans hgb1 (gb_of_below hb _)
     clear r0 r1 r2 r3 fr hc41 ht1 hgb1 hb
     have r0 := hc5.c0
     have r1 := hc5.c1
     have r2 := hc5.c2
     have r3 := hc5.c3
     have fr := hc5.f
     have h4 := put4_cell hc5 Tok.no
     have ht4 := put4_tape (t := Tok.no) ht5 (by omega : b ≠ w.heap.size)
     have hg4 := put4_gb Tok.no hgb5 (Nat.le_refl _)
     go_wp2_with fail
     refine bodyPost_ret (v := .tuple #[Tok.no.v, .int .i64 13]) ?_ rfl ⟨by first | rw [HN.out] | rw [hf, HN.out], ht4, hg4⟩
     exact results4 rfl h4 rfl rfl
   | false =>
    rw [hnd] at hdc
    have HD := Lib.hid hdc
    have h45 : c = 45 := by simp [numStart, hnd] at hns; exact hns.1
    subst h45
    have h45b : (((45 : UInt8).toNat : Int) == 45) = true := rfl
    cases r with
    | nil => simp [numStart, hnd] at hns
    | cons d rs =>
     have hs1 : (1 : Int) < s.size := by have := HZ.out; simp at this; omega
     have hd1 : ∀ h, s[1]'h = d := fun h => by
      have e := at_list s 1 h
      rw [HCR.out] at e
      simpa using e.symm
     have hnd2 : digB d = true := by simp [numStart, hnd] at hns; exact hns
     have hdc2 := fun w => digit_any (d.toNat : Int) w
     have hdB2 : (decide (48 ≤ (d.toNat : Int)) && decide ((d.toNat : Int) ≤ 57)) = digB d := rfl
     rw [hdB2, hnd2] at hdc2
     have HD2 := Lib.hid hdc2
     clear hdc2 hdB2 hnd2 hdc hdB hnd hns HD
     have HD := Lib.hid digit45
     cases hpi : Lib.parseIntB 64 s.data.toList with
     | ok n =>
      have hr := pi_range s n hpi
      have hpc := fun w => pi_ok s (by omega) n hpi w
      have hfc := fun w hG => fi_any n hr.1 hr.2 w hG
      have HP := Lib.hid hpc
      have HFI := Lib.hid hfc
      have HPI := Lib.hid hpi
      clear hpc hfc hpi hr
      by_cases heq : Lib.itoa n = s.data.toList
      ·
       have hss : (⟨(Lib.itoa n).toArray⟩ : ByteArray) = s := by rw [heq, Lib.mk_data]
       have HN : Hid (wordTok true s = (⟨4, ⟨#[]⟩, n, 0⟩, 0)) := Lib.hid (by rw [HT.out, numTok, HPI.out]; simp only; rw [if_pos heq])
       clear heq HPI
       go_wp2_with (first | (go_at_call 126; first | ((with_reducible refine (HD.out _).mono ?_); rintro e w' ⟨rfl, rfl⟩) | ((with_reducible refine (HD2.out _).mono ?_); rintro e w' ⟨rfl, rfl⟩)) | (go_at_call 127; refine (HP.out _).mono ?_))
       rintro e w2 ⟨rfl, hb2⟩
       have hG2 := hG1.self hb2
       go_wp2_with (go_at_call 128; refine (HFI.out _ hG2).mono ?_)
       rintro e w3 ⟨rfl, hb3⟩
       rw [hss]
       clear hss
       have hb := below_self hb2 hb3
       have hc5 := hc41.below hb (by have := hgb1.size; have := ht1.lt; exact (Array.getElem?_eq_some_iff.1 hc41).1)
       have ht5 := ht1.below hb ht1.lt
       have hgb5 := gb_trans hgb1 (gb_of_below hb _)
       clear r0 r1 r2 r3 fr hc41 ht1 hgb1 hb hb2 hb3
       have r0 := hc5.c0
       have r1 := hc5.c1
       have r2 := hc5.c2
       have r3 := hc5.c3
       have fr := hc5.f
       have h4 := put4_cell hc5 ⟨4, ⟨#[]⟩, n, 0⟩
       have ht4 := put4_tape (t := ⟨4, ⟨#[]⟩, n, 0⟩) ht5 (by omega : b ≠ w.heap.size)
       have hg4 := put4_gb ⟨4, ⟨#[]⟩, n, 0⟩ hgb5 (Nat.le_refl _)
       go_wp2_with fail
       refine bodyPost_ret (v := .tuple #[Tok.v ⟨4, ⟨#[]⟩, n, 0⟩, .int .i64 0]) ?_ rfl ⟨by first | rw [HN.out] | rw [hf, HN.out], ht4, hg4⟩
       exact results4 rfl h4 rfl rfl
      ·
       have hss : (⟨(Lib.itoa n).toArray⟩ : ByteArray).toList ≠ s.toList := by
        intro e
        rw [Lib.toList_data, Lib.toList_data] at e
        exact heq (by simpa using e)
       have hsb : ((⟨(Lib.itoa n).toArray⟩ : ByteArray).toList == s.toList) = false := by simpa using hss
       have HN : Hid (wordTok true s = (Tok.no, 13)) := Lib.hid (by rw [HT.out, numTok, HPI.out]; simp only; rw [if_neg heq])
       obtain ⟨z, hz⟩ : ∃ z, (⟨(Lib.itoa n).toArray⟩ : ByteArray) = z := ⟨_, rfl⟩
       have hfc := HFI.out
       rw [hz] at hsb hfc
       have HFI := Lib.hid hfc
       clear heq hss hz HPI hfc
       go_wp2_with (first | (go_at_call 126; first | ((with_reducible refine (HD.out _).mono ?_); rintro e w' ⟨rfl, rfl⟩) | ((with_reducible refine (HD2.out _).mono ?_); rintro e w' ⟨rfl, rfl⟩)) | (go_at_call 127; refine (HP.out _).mono ?_))
       rintro e w2 ⟨rfl, hb2⟩
       have hG2 := hG1.self hb2
       go_wp2_with (go_at_call 128; refine (HFI.out _ hG2).mono ?_)
       rintro e w3 ⟨rfl, hb3⟩
       have hb := below_self hb2 hb3
       have hc5 := hc41.below hb (by have := hgb1.size; have := ht1.lt; exact (Array.getElem?_eq_some_iff.1 hc41).1)
       have ht5 := ht1.below hb ht1.lt
       have hgb5 := gb_trans hgb1 (gb_of_below hb _)
       clear r0 r1 r2 r3 fr hc41 ht1 hgb1 hb hb2 hb3
       have r0 := hc5.c0
       have r1 := hc5.c1
       have r2 := hc5.c2
       have r3 := hc5.c3
       have fr := hc5.f
       have h4 := put4_cell hc5 Tok.no
       have ht4 := put4_tape (t := Tok.no) ht5 (by omega : b ≠ w.heap.size)
       have hg4 := put4_gb Tok.no hgb5 (Nat.le_refl _)
       go_wp2_with fail
       refine bodyPost_ret (v := .tuple #[Tok.no.v, .int .i64 13]) ?_ rfl ⟨by first | rw [HN.out] | rw [hf, HN.out], ht4, hg4⟩
       exact results4 rfl h4 rfl rfl
     | _ =>
      have hpc := fun w hG => pi_bad s (by omega) (by rw [hpi]; intro v e; cases e) w hG
      have HN : Hid (wordTok true s = (Tok.no, 13)) := Lib.hid (by rw [HT.out, numTok, hpi])
      have HP := Lib.hid hpc
      clear hpc hpi
      go_wp2_with (first | (go_at_call 126; first | ((with_reducible refine (HD.out _).mono ?_); rintro e w' ⟨rfl, rfl⟩) | ((with_reducible refine (HD2.out _).mono ?_); rintro e w' ⟨rfl, rfl⟩)) | (go_at_call 127; refine (HP.out _ hG1).mono ?_))
      rintro e w2 ⟨v2, N2, rfl, hb⟩
      have hc5 := hc41.below hb (by have := hgb1.size; have := ht1.lt; exact (Array.getElem?_eq_some_iff.1 hc41).1)
      have ht5 := ht1.below hb ht1.lt
      have hgb5 := gb_trans hgb1 (gb_of_below hb _)
      clear r0 r1 r2 r3 fr hc41 ht1 hgb1 hb
      have r0 := hc5.c0
      have r1 := hc5.c1
      have r2 := hc5.c2
      have r3 := hc5.c3
      have fr := hc5.f
      have h4 := put4_cell hc5 Tok.no
      have ht4 := put4_tape (t := Tok.no) ht5 (by omega : b ≠ w.heap.size)
      have hg4 := put4_gb Tok.no hgb5 (Nat.le_refl _)
      go_wp2_with fail
      refine bodyPost_ret (v := .tuple #[Tok.no.v, .int .i64 13]) ?_ rfl ⟨by first | rw [HN.out] | rw [hf, HN.out], ht4, hg4⟩
      exact results4 rfl h4 rfl rfl
end Go.Proofs.YtgjfbbmachoolaaGreatDoor.lx
namespace Go.Proofs.YtgjfbbmachoolaaGreatDoor.lx
open Go.RowKit

def wordF (l : ByteArray) (p : Nat) : (Tok × Int) × ByteArray × Nat :=
 (wordTok (bareF true l p).1 (l.extract 0 (l.size - (bareF true l p).2.1.size)), (bareF true l p).2.1, (bareF true l p).2.2)
/-- the next token, or why it is none; what is left, and where -/
def tokF (l : ByteArray) (p : Nat) : (Tok × Int) × ByteArray × Nat :=
 if dr l = 40 then ((⟨1, ⟨#[]⟩, 0, 0⟩, 0), adv l, p + 1)
 else if dr l = 41 then ((⟨2, ⟨#[]⟩, 0, 0⟩, 0), adv l, p + 1)
 else if dr l = 34 then textF (stepOk l) [] (adv l) (p + 1)
 else wordF l p

theorem get!_zero (l : ByteArray) (h : 0 < l.size) : l.get! 0 = l[0]'h := by
 have := at_list l 0 h
 obtain ⟨⟨d⟩⟩ := l
 cases d with
 | nil => simp [ByteArray.size] at h
 | cons c r => rfl
theorem first_byte (l : ByteArray) (h : 0 < l.size) : ((l[0]'h).toNat < 128 → dr l = (l[0]'h).toNat) ∧ (dr l < 128 → dr l = (l[0]'h).toNat) := by
 have h0 : l.size ≠ 0 := by omega
 rw [← get!_zero l h]
 unfold dr Lib.decodeGo
 rw [if_neg h0, Lib.decode_at]
 unfold Lib.decodeN
 repeat' split
 all_goals simp only
 all_goals constructor <;> intro hh <;> first | exact True.intro | omega
theorem first_eq (l : ByteArray) (h : 0 < l.size) (k : Nat) (hk : k < 128) : ((((l[0]'h).toNat : Nat) : Int) == k) = decide (dr l = k) := by
 have := first_byte l h
 by_cases e : (l[0]'h).toNat = k
 ·
  have e2 : dr l = k := by rw [this.1 (by omega), e]
  simp [e, e2]
 ·
  have e2 : ¬ dr l = k := fun e2 => e (by have := this.2 (by omega); omega)
  rw [decide_eq_false e2]
  exact beq_eq_false_iff_ne.2 (by omega)

set_option maxHeartbeats 8000000 in
set_option maxRecDepth 100000 in
theorem token_any (b : Nat) (l : ByteArray) (p : Nat) (w : World) (hG : Glob w) (hb8 : 11 ≤ b) (h : Tape b l p w) (hl : p + l.size + 1 ≤ 1099511627776) (h0 : l.size ≠ 0) (hnb : (noted false (dr l) || blankR (dr l)) = false) :
  Calls Tryz.prog 78 #[.pointer (some ⟨b, 0, none⟩)] w fun e w' =>
   e = .returned (.tuple #[(tokF l p).1.1.v, .int .i64 (tokF l p).1.2]) ∧ Tape b (tokF l p).2.1 (tokF l p).2.2 w' ∧ w.grownBy w' (some b) := by
 have hblt := h.lt
 have hpos : 0 < l.size := by omega
 have hW1 : Tape b l p (w.alloc (.cells #[.int .u8 0, .string ⟨#[]⟩, .int .i64 0, .int .i64 0] 144)) :=
  h.below ((Below.refl w.heap.size w).alloc (Nat.le_refl _) _) hblt
 have hW2 : Below w.heap.size w (w.alloc (.cells #[.int .u8 0, .string ⟨#[]⟩, .int .i64 0, .int .i64 0] 144)) := (Below.refl w.heap.size w).alloc (Nat.le_refl _) _
 have hW3 : Cell4 w.heap.size Tok.no (w.alloc (.cells #[.int .u8 0, .string ⟨#[]⟩, .int .i64 0, .int .i64 0] 144)) := by
  unfold Cell4
  rw [heap_alloc_new]
  rfl
 have hGW := hG.self hW2
 have c0 := hW1.c0
 have hsI : (0 : Int) < (l.size : Int) := by omega
 have e40 : ((((l[0]'hpos).toNat : Nat) : Int) == 40) = decide (dr l = 40) := first_eq l hpos 40 (by decide)
 have e41 : ((((l[0]'hpos).toNat : Nat) : Int) == 41) = decide (dr l = 41) := first_eq l hpos 41 (by decide)
 have e34 : ((((l[0]'hpos).toNat : Nat) : Int) == 34) = decide (dr l = 34) := first_eq l hpos 34 (by decide)
 obtain ⟨x, hx⟩ : ∃ x, l[0]'hpos = x := ⟨_, rfl⟩
 rw [hx] at e40 e41 e34
 have hx' : ∀ h, l[0]'h = x := fun h => hx
 clear hx
 obtain ⟨R, hR⟩ : ∃ R, tokF l p = R := ⟨_, rfl⟩
 rw [hR]
 unfold tokF at hR
 by_cases h40 : dr l = 40
 ·
  rw [decide_eq_true h40] at e40
  rw [if_pos h40] at hR
  have HR := Lib.hid hR
  clear hR h40 e41 e34
  go_enter Tryz.func78, Tryz.ntmps78
  go_wp2_with (go_at_call 102; refine (step_any b l p _ hGW hW1 (by omega)).mono ?_)
  rintro e w1 ⟨rfl, ht1, hg1⟩
  rw [stepP_pos p h0] at ht1
  have hgb1 : w.grownBy w1 (some b) := gb_trans (gb_of_below hW2 _) hg1
  have hc41 := hW3.gb hg1 (by omega)
  clear hW1 hW2 hW3 hGW hg1 c0
  have r0 := hc41.c0
  have r1 := hc41.c1
  have r2 := hc41.c2
  have r3 := hc41.c3
  have fr := hc41.f
  have h4 := put4_cell hc41 ⟨1, ⟨#[]⟩, 0, 0⟩
  have ht4 := put4_tape (t := ⟨1, ⟨#[]⟩, 0, 0⟩) ht1 (by omega : b ≠ w.heap.size)
  have hg4 := put4_gb ⟨1, ⟨#[]⟩, 0, 0⟩ hgb1 (Nat.le_refl _)
  go_wp2_with fail
  refine bodyPost_ret (v := .tuple #[Tok.v ⟨1, ⟨#[]⟩, 0, 0⟩, .int .i64 0]) ?_ rfl ⟨by rw [← HR.out], by rw [← HR.out]; exact ht4, hg4⟩
  exact results4 rfl h4 rfl rfl
 rw [decide_eq_false h40] at e40
 rw [if_neg h40] at hR
 by_cases h41 : dr l = 41
 ·
  rw [decide_eq_true h41] at e41
  rw [if_pos h41] at hR
  have HR := Lib.hid hR
  clear hR h40 h41 e34
  go_enter Tryz.func78, Tryz.ntmps78
  go_wp2_with (go_at_call 102; refine (step_any b l p _ hGW hW1 (by omega)).mono ?_)
  rintro e w1 ⟨rfl, ht1, hg1⟩
  rw [stepP_pos p h0] at ht1
  have hgb1 : w.grownBy w1 (some b) := gb_trans (gb_of_below hW2 _) hg1
  have hc41 := hW3.gb hg1 (by omega)
  clear hW1 hW2 hW3 hGW hg1 c0
  have r0 := hc41.c0
  have r1 := hc41.c1
  have r2 := hc41.c2
  have r3 := hc41.c3
  have fr := hc41.f
  have h4 := put4_cell hc41 ⟨2, ⟨#[]⟩, 0, 0⟩
  have ht4 := put4_tape (t := ⟨2, ⟨#[]⟩, 0, 0⟩) ht1 (by omega : b ≠ w.heap.size)
  have hg4 := put4_gb ⟨2, ⟨#[]⟩, 0, 0⟩ hgb1 (Nat.le_refl _)
  go_wp2_with fail
  refine bodyPost_ret (v := .tuple #[Tok.v ⟨2, ⟨#[]⟩, 0, 0⟩, .int .i64 0]) ?_ rfl ⟨by rw [← HR.out], by rw [← HR.out]; exact ht4, hg4⟩
  exact results4 rfl h4 rfl rfl
 rw [decide_eq_false h41] at e41
 rw [if_neg h41] at hR
 by_cases h34 : dr l = 34
 ·
  rw [decide_eq_true h34] at e34
  rw [if_pos h34] at hR
  have htx := text_any b l p _ hGW hb8 hW1 hl h0
  rw [hR] at htx
  obtain ⟨t, hT⟩ : ∃ t, R.1.1 = t := ⟨_, rfl⟩
  have HT := Lib.hid htx
  clear hR h40 h41 h34 htx
  go_enter Tryz.func78, Tryz.ntmps78
  go_wp2_with (go_at_call 103; refine HT.out.mono ?_)
  rintro e w1 ⟨rfl, ht1, hg1⟩
  rw [hT]
  have HT2 := Lib.hid hT
  clear hT
  have hgb1 : w.grownBy w1 (some b) := gb_trans (gb_of_below hW2 _) hg1
  have hc41 := hW3.gb hg1 (by omega)
  clear hW1 hW2 hW3 hGW hg1 c0
  have r0 := hc41.c0
  have r1 := hc41.c1
  have r2 := hc41.c2
  have r3 := hc41.c3
  have fr := hc41.f
  have h4 := put4_cell hc41 t
  have ht4 := put4_tape (t := t) ht1 (by omega : b ≠ w.heap.size)
  have hg4 := put4_gb t hgb1 (Nat.le_refl _)
  unfold Tok.v
  go_wp2_with fail
  refine bodyPost_ret (v := .tuple #[t.v, .int .i64 R.1.2]) ?_ rfl ⟨by rw [HT2.out], ht4, hg4⟩
  exact results4 rfl h4 rfl rfl
 rw [decide_eq_false h34] at e34
 rw [if_neg h34] at hR
 have hend : endF l = false := by
  have hnb' : ¬ (dr l = 59 ∨ dr l = 32 ∨ dr l = 9 ∨ dr l = 13 ∨ dr l = 10) := by
   intro hh
   simp [noted, blankR] at hnb
   omega
  cases hc : endR (dr l) with
  | false => simp [endF, h0, hc]
  | true => rw [endR_iff] at hc; omega
 have hwd := word_any b l p _ hGW hb8 hW1 hl hend
 have hw1 : (wordF l p).1 = R.1 := by rw [hR]
 have hw2 : (wordF l p).2 = R.2 := by rw [hR]
 unfold wordF at hw1 hw2
 simp only at hw1 hw2
 have hw3 : (bareF true l p).2.1 = R.2.1 := by rw [← hw2]
 have hw4 : (bareF true l p).2.2 = R.2.2 := by rw [← hw2]
 rw [hw1, hw3, hw4] at hwd
 obtain ⟨t, hT⟩ : ∃ t, R.1.1 = t := ⟨_, rfl⟩
 have HT := Lib.hid hwd
 clear hR h40 h41 h34 hwd hw1 hw2 hw3 hw4 hend
 go_enter Tryz.func78, Tryz.ntmps78
 go_wp2_with (go_at_call 104; refine HT.out.mono ?_)
 rintro e w1 ⟨rfl, ht1, hg1⟩
 rw [hT]
 have HT2 := Lib.hid hT
 clear hT
 have hgb1 : w.grownBy w1 (some b) := gb_trans (gb_of_below hW2 _) hg1
 have hc41 := hW3.gb hg1 (by omega)
 clear hW1 hW2 hW3 hGW hg1 c0
 have r0 := hc41.c0
 have r1 := hc41.c1
 have r2 := hc41.c2
 have r3 := hc41.c3
 have fr := hc41.f
 have h4 := put4_cell hc41 t
 have ht4 := put4_tape (t := t) ht1 (by omega : b ≠ w.heap.size)
 have hg4 := put4_gb t hgb1 (Nat.le_refl _)
 unfold Tok.v
 go_wp2_with fail
 refine bodyPost_ret (v := .tuple #[t.v, .int .i64 R.1.2]) ?_ rfl ⟨by rw [HT2.out], ht4, hg4⟩
 exact results4 rfl h4 rfl rfl
end Go.Proofs.YtgjfbbmachoolaaGreatDoor.lx
namespace Go.Proofs.YtgjfbbmachoolaaGreatDoor.lx
open Go.RowKit

theorem skipF_spec (n : Nat) : ∀ (note : Bool) (l : ByteArray) (p : Nat), l.size = n →
  (skipF note l p).1.size ≤ l.size ∧ p ≤ (skipF note l p).2 ∧ (skipF note l p).2 + (skipF note l p).1.size ≤ p + l.size ∧
  ((skipF note l p).1.size = 0 ∨ (noted false (dr (skipF note l p).1) || blankR (dr (skipF note l p).1)) = false) := by
 induction n using Nat.strongRecOn with
 | _ n ih =>
  intro note l p hn
  by_cases h0 : l.size = 0
  ·
   rw [skipF_end h0]; exact ⟨Nat.le_refl _, Nat.le_refl _, Nat.le_refl _, .inl h0⟩
  ·
   cases hc : (noted note (dr l) || blankR (dr l)) with
   | true =>
    rw [skipF_go h0 hc]
    have hlt := adv_lt l h0
    obtain ⟨a, b, c, d⟩ := ih (adv l).size (by omega) (noted note (dr l)) (adv l) (p + 1) rfl
    exact ⟨by omega, by omega, by omega, d⟩
   | false =>
    rw [skipF_stop h0 hc]
    refine ⟨Nat.le_refl _, Nat.le_refl _, Nat.le_refl _, .inr ?_⟩
    cases note with
    | false => exact hc
    | true =>
     simp [noted, blankR] at hc ⊢
     omega

theorem textF_size (n : Nat) : ∀ (fine : Bool) (acc : List UInt8) (l : ByteArray) (p : Nat), l.size = n →
  (textF fine acc l p).2.1.size ≤ l.size ∧ p ≤ (textF fine acc l p).2.2 ∧ (textF fine acc l p).2.2 + (textF fine acc l p).2.1.size ≤ p + l.size := by
 induction n using Nat.strongRecOn with
 | _ n ih =>
  intro fine acc l p hn
  by_cases h0 : l.size = 0
  ·
   rw [textF_end h0]; exact ⟨Nat.le_refl _, Nat.le_refl _, Nat.le_refl _⟩
  ·
   have hlt := adv_lt l h0
   by_cases h34 : dr l = 34
   ·
    rw [textF_close h0 h34]; simp only; omega
   ·
    by_cases h92 : dr l = 92
    ·
     have he := escF_size (adv l) (p + 1)
     cases hes : (escF (adv l) (p + 1)).1.isSome with
     | false => rw [textF_bad h0 h92 hes]; simp only; omega
     | true =>
      rw [textF_esc h0 h92 hes]
      have := ih (escF (adv l) (p + 1)).2.1.size (by omega) fine (acc ++ Lib.encodeRune ((escF (adv l) (p + 1)).1.getD 0)) (escF (adv l) (p + 1)).2.1 (escF (adv l) (p + 1)).2.2 rfl
      omega
    ·
     rw [textF_rune h0 h34 h92]
     have := ih (adv l).size (by omega) (fine && stepOk l) (acc ++ Lib.encodeRune (dr l)) (adv l) (p + 1) rfl
     omega

theorem endF_of {l : ByteArray} (h0 : l.size ≠ 0) (hnb : (noted false (dr l) || blankR (dr l)) = false) (h40 : dr l ≠ 40) (h41 : dr l ≠ 41) (h34 : dr l ≠ 34) : endF l = false := by
 have hnb' : ¬ (dr l = 59 ∨ dr l = 32 ∨ dr l = 9 ∨ dr l = 13 ∨ dr l = 10) := by
  intro hh
  simp [noted, blankR] at hnb
  omega
 cases hc : endR (dr l) with
 | false => simp [endF, h0, hc]
 | true => rw [endR_iff] at hc; omega

theorem tokF_size (l : ByteArray) (p : Nat) (h0 : l.size ≠ 0) (hnb : (noted false (dr l) || blankR (dr l)) = false) :
  (tokF l p).2.1.size < l.size ∧ p + 1 ≤ (tokF l p).2.2 ∧ (tokF l p).2.2 + (tokF l p).2.1.size ≤ p + l.size := by
 have hlt := adv_lt l h0
 unfold tokF
 split
 ·
  simp only; omega
 rename_i h40
 split
 ·
  simp only; omega
 rename_i h41
 split
 ·
  have := textF_size _ (stepOk l) [] (adv l) (p + 1) rfl
  omega
 rename_i h34
 have he := endF_of h0 hnb h40 h41 h34
 simp only [wordF]
 rw [bareF_go he]
 have := bareF_size _ (stepOk l && true) (adv l) (p + 1) rfl
 omega

def Tok.at (t : Tok) (p : Nat) : Tok := ⟨t.k, t.s, t.n, p⟩
/-- what Lex gathers from a place on that is no blank: the tokens, the error's number, the place -/
def lexF (out : List Tok) (l : ByteArray) (p : Nat) : List Tok × Int × Int :=
 if l.size = 0 then (out, 0, 0)
 else if (tokF l p).1.2 ≠ 0 then ([], (tokF l p).1.2, p)
 else if _h : (skipF false (tokF l p).2.1 (tokF l p).2.2).1.size < l.size then
  lexF (out ++ [(tokF l p).1.1.at p]) (skipF false (tokF l p).2.1 (tokF l p).2.2).1 (skipF false (tokF l p).2.1 (tokF l p).2.2).2
 else ([], 0, 0)
termination_by l.size
/-- Lex: the tokens, the error's number, the place -/
def lexR (s : ByteArray) : List Tok × Int × Int := if 2048 < s.size then ([], 4, 0) else lexF [] (skipF false s 0).1 (skipF false s 0).2

theorem lexF_end {out : List Tok} {l : ByteArray} {p : Nat} (h : l.size = 0) : lexF out l p = (out, 0, 0) := by rw [lexF, if_pos h]
theorem lexF_bad {out : List Tok} {l : ByteArray} {p : Nat} (h : l.size ≠ 0) (hw : (tokF l p).1.2 ≠ 0) : lexF out l p = ([], (tokF l p).1.2, (p : Int)) := by rw [lexF, if_neg h, if_pos hw]
theorem lexF_go {out : List Tok} {l : ByteArray} {p : Nat} (h : l.size ≠ 0) (hnb : (noted false (dr l) || blankR (dr l)) = false) (hw : (tokF l p).1.2 = 0) :
  lexF out l p = lexF (out ++ [(tokF l p).1.1.at p]) (skipF false (tokF l p).2.1 (tokF l p).2.2).1 (skipF false (tokF l p).2.1 (tokF l p).2.2).2 := by
 have h1 := tokF_size l p h hnb
 have h2 := skipF_spec _ false (tokF l p).2.1 (tokF l p).2.2 rfl
 rw [lexF, if_neg h, if_neg (by simp [hw]), dif_pos (by omega)]

def Tok.cells (t : Tok) : List Value := [.int .u8 t.k, .string t.s, .int .i64 t.n, .int .i64 t.a]
def tokCells (ts : List Tok) : List Value := ts.flatMap Tok.cells
theorem tokCells_snoc (ts : List Tok) (t : Tok) : tokCells (ts ++ [t]) = tokCells ts ++ t.cells := by simp [tokCells]

theorem infoT : (Tryz.prog.info? 144).map (fun i => (i.zero, i.size, i.bytes)) = some (some (.agg #[.int .u8 0, .string ⟨#[]⟩, .int .i64 0, .int .i64 0]), 4, 40) := by kernel_rfl

theorem own_le {w : World} {B B' : Nat} {e : TypeId} {size : Nat} {v : Value} {n : Nat} {xs : List Value} (h : w.ownsRow B e size v n xs) (hB : B' ≤ B) : w.ownsRow B' e size v n xs := by
 refine ⟨h.1, ?_⟩
 rcases h.2 with hn | ⟨g, cap, cur, hv, hg, rest⟩
 ·
  exact .inl hn
 ·
  exact .inr ⟨g, cap, cur, hv, Nat.le_trans hB hg, rest⟩
theorem own_base {w : World} {base : Nat} {e : TypeId} {size n : Nat} {v : Value} {xs : List Value} (h : w.ownsRow base e size v n xs) : ∀ k, v.ownBlock = some k → base ≤ k := by
 intro k hk
 rcases h.2 with ⟨rfl, _⟩ | ⟨g, cap, cur, rfl, hb, _⟩
 ·
  simp [Value.ownBlock] at hk
 ·
  have : g = k := by simpa [Value.ownBlock] using hk
  omega
theorem own_gb {w w' : World} {base tb : Nat} {e : TypeId} {size n : Nat} {v : Value} {xs : List Value} (h : w.ownsRow base e size v n xs) (hg : w.grownBy w' (some tb)) (ht : tb < base) : w'.ownsRow base e size v n xs := by
 refine h.kept hg ?_
 cases hv : v.ownBlock with
 | none => exact .inl rfl
 | some k =>
  have := own_base h k hv
  exact .inr (by intro e; injection e; omega)

set_option maxHeartbeats 8000000 in
set_option maxRecDepth 100000 in
theorem Lex_long (s : ByteArray) (w : World) (h : 2048 < s.size) (hmax : s.size ≤ 9223372036854775807) :
  Calls Tryz.prog 59 #[.string s] w fun e w' => e = .returned (.tuple #[.slice none 0 0, .int .i64 4, .int .i64 0]) ∧ w = w' := by
 have hI : (2048 : Int) < (s.size : Int) := by omega
 go_enter Tryz.func59, Tryz.ntmps59
 go_wp2_with fail
 go_ret3
 exact ⟨rfl, rfl⟩

set_option maxHeartbeats 8000000 in
set_option maxRecDepth 100000 in
theorem Lex_short (s : ByteArray) (w : World) (hG : Glob w) (h : ¬ 2048 < s.size) :
  Calls Tryz.prog 59 #[.string s] w fun e w' => ∃ v, e = .returned (.tuple #[v, .int .i64 (lexR s).2.1, .int .i64 (lexR s).2.2]) ∧
   w'.ownsRow w.heap.size 144 4 v (lexR s).1.length (tokCells (lexR s).1) ∧ Below w.heap.size w w' := by
 have hI : ¬ (2048 : Int) < (s.size : Int) := by omega
 obtain ⟨R, hR⟩ : ∃ R, lexR s = R := ⟨_, rfl⟩
 rw [hR]
 have hR2 : lexF [] (skipF false s 0).1 (skipF false s 0).2 = R := by rw [← hR, lexR, if_neg h]
 have HR := Lib.hid hR2
 have hT0 : Tape w.heap.size s 0 (w.alloc (.cells #[.string s, .int .i64 0] 141)) := by
  unfold Tape; rw [heap_alloc_new]; rfl
 have hW2 : Below w.heap.size w (w.alloc (.cells #[.string s, .int .i64 0] 141)) := (Below.refl w.heap.size w).alloc (Nat.le_refl _) _
 have hGW := hG.self hW2
 have hGs := hG.size
 clear hR hR2
 go_enter Tryz.func59, Tryz.ntmps59
 go_wp2_with (go_at_call 77; refine (skip_any w.heap.size s 0 _ hGW hGs hT0 (by omega)).mono ?_; rintro e w1 ⟨rfl, ht1, hg1⟩; refine Hid.out ?_)
 refine Lib.hid ?_
 have hsp := skipF_spec _ false s 0 rfl
 have hb1 : Below w.heap.size w w1 := hW2.trans (gb_below hg1 (Nat.le_refl _) (by simp))
 have hsz1 : w.heap.size + 1 ≤ w1.heap.size := ht1.lt
 clear hT0 hW2 hGW hg1
 go_wp2_with fail
 go_loopw [5] (fun v wr => ∃ (ts : List Tok) (l : ByteArray) (p : Nat), wr.ownsRow (w.heap.size + 1) 144 4 v ts.length (tokCells ts) ∧ Tape w.heap.size l p wr ∧ Below w.heap.size w wr ∧ Hid (lexF ts l p = R) ∧ p + l.size ≤ 2048 ∧ ts.length + l.size ≤ 2048 ∧ Hid (l.size = 0 ∨ (noted false (dr l) || blankR (dr l)) = false)) (fun _ wr => tlen w.heap.size wr)
 case atStart =>
  exact ⟨[], _, _, World.ownsRow_nil _ _ _ _, ht1, hb1, HR, by omega, by simp; omega, Lib.hid hsp.2.2.2⟩
 case round =>
  clear ht1 hb1 hsz1 hsp HR w1
  obtain ⟨ts, l, p, hown, ht, hb, HS, hp, hlen, HNB⟩ := hrel
  have hGr := hG.self hb
  have c0 := ht.c0
  have c1 := ht.c1
  have hsz := ht.lt
  by_cases h0 : l.size = 0
  ·
   have he : l.toList = [] := by
    rw [Lib.toList_data]; exact List.eq_nil_of_length_eq_zero (by rw [← Lib.size_eq]; exact h0)
   have hi : (!l.toList.isEmpty) = false := by rw [he]; rfl
   have hfin : R = (ts, 0, 0) := by rw [← HS.out]; exact lexF_end h0
   have HF := Lib.hid hfin
   clear hfin
   go_wp2_with fail
   go_ret3
   rw [HF.out]
   exact ⟨u5, rfl, own_le hown (by omega), hb⟩
  ·
   have he : ¬ l.toList = [] := by
    intro he
    rw [Lib.toList_data] at he
    exact h0 (by rw [Lib.size_eq, he]; rfl)
   have hi : (!l.toList.isEmpty) = true := by simp [he]
   have hnb : (noted false (dr l) || blankR (dr l)) = false := HNB.out.resolve_left h0
   have hts := tokF_size l p h0 hnb
   have hss := skipF_spec _ false (tokF l p).2.1 (tokF l p).2.2 rfl
   have HSS := Lib.hid hss
   have HNX := Lib.hid hnb
   have HM := Lib.hid (tlen_of ht)
   clear hss hnb HNB
   by_cases hw : (tokF l p).1.2 = 0
   ·
    have hnext : lexF (ts ++ [(tokF l p).1.1.at p]) (skipF false (tokF l p).2.1 (tokF l p).2.2).1 (skipF false (tokF l p).2.1 (tokF l p).2.2).2 = R := by rw [← HS.out, lexF_go h0 HNX.out hw]
    have htk := token_any w.heap.size l p wr hGr hG.size ht (by omega) h0 HNX.out
    obtain ⟨K, hK⟩ : ∃ K, tokF l p = K := ⟨_, rfl⟩
    rw [hK] at hnext htk hw hts HSS
    rw [hw] at htk
    obtain ⟨t, hT⟩ : ∃ t, K.1.1 = t := ⟨_, rfl⟩
    rw [hT] at hnext htk
    have HT := Lib.hid htk
    have HN := Lib.hid hnext
    clear hnext htk hK hw hT
    go_wp2_with (go_at_call 78; refine HT.out.mono ?_; rintro e w2 ⟨rfl, ht2, hg2⟩; refine Hid.out ?_)
    refine Lib.hid ?_
    have hown2 := own_gb hown hg2 (by omega)
    have hb2 : Below w.heap.size w w2 := hb.trans (gb_below hg2 (Nat.le_refl _) (by omega))
    have hsz2 := ht2.lt
    clear hown ht hb hg2 hGr c0 c1
    unfold Tok.v
    obtain ⟨i0, hi0, hz0, hz1, hz2⟩ := info_parts infoT
    go_wp2_with (at_builtin; refine wpList_append_own_at _ rfl _ _ 111 rfl (w.heap.size + 1) 144 i0 _ 4 40 Tryz.underlying111 hi0 hz0 hz1 hz2 rfl (by decide) u5 ts.length (tokCells ts) rfl ((hown2.alloc _).alloc _) ⟨w2.heap.size + 1, 0, none⟩ 1 1 [.int .u8 t.k, .string t.s, .int .i64 t.n, .int .i64 p] rfl rfl ?c1 ?c2 ?c3 ?c4 ?c5 ?_)
    case c1 =>
     intro j u hj
     match j, hj with
     | 0, hj => simp at hj; subst hj; simp [Addr.add]
     | 1, hj => simp at hj; subst hj; simp [Addr.add]
     | 2, hj => simp at hj; subst hj; simp [Addr.add]
     | 3, hj => simp at hj; subst hj; simp [Addr.add]
     | (j + 4), hj => simp at hj
    case c2 => intro u hu; simp at hu; rcases hu with rfl | rfl | rfl | rfl <;> rfl
    case c3 => unfold maxLen; omega
    case c4 => omega
    case c5 => simp; omega
    intro v' w3 hown3 hg3 _ _
    have hne : u5.ownBlock ≠ some w.heap.size := fun e => by have := own_base hown2 _ e; omega
    have ht3 : Tape w.heap.size K.2.1 K.2.2 w3 := by
     refine (hg3.block w.heap.size (by simp; omega) (fun e => hne e.symm)).trans ?_
     rw [Lib.alloc_old _ _ _ (by simp; omega), Lib.alloc_old _ _ _ hsz2]
     exact ht2
    have hb3 : Below w.heap.size w w3 := ((hb2.alloc (by omega) _).alloc (by simp; omega) _).grown hg3 (by simp; omega) (fun k hk => by have := own_base hown2 k hk; omega)
    have hown3' : w3.ownsRow (w.heap.size + 1) 144 4 v' (ts ++ [t.at p]).length (tokCells (ts ++ [t.at p])) := by
     rw [tokCells_snoc]
     simpa [Tok.cells, Tok.at] using hown3
    have hG3 := hG.self hb3
    clear hne hown2 hown3 hg3 ht2 hb2 hsz2 hi0 hz0 hz1 hz2
    go_wp2_with (go_at_call 77; refine (skip_any w.heap.size K.2.1 K.2.2 _ hG3 hG.size ht3 (by omega)).mono ?_; rintro e w4 ⟨rfl, ht4, hg4⟩; refine Hid.out ?_)
    refine Lib.hid ?_
    have hown4 := own_gb hown3' hg4 (by omega)
    have hb4 : Below w.heap.size w w4 := hb3.trans (gb_below hg4 (Nat.le_refl _) (by have := ht3.lt; omega))
    obtain ⟨s1, s2, s3, s4⟩ := HSS.out
    go_wp2_with fail
    go_roundw
    case rel => exact ⟨ts ++ [t.at p], _, _, hown4, ht4, hb4, HN, by omega, by simp; omega, Lib.hid s4⟩
    case measure => rw [HM.out, tlen_of ht4]; omega
   ·
    have hfin : R = ([], (tokF l p).1.2, (p : Int)) := by rw [← HS.out]; exact lexF_bad h0 hw
    have htk := token_any w.heap.size l p wr hGr hG.size ht (by omega) h0 HNX.out
    obtain ⟨K, hK⟩ : ∃ K, tokF l p = K := ⟨_, rfl⟩
    rw [hK] at hfin htk hw
    obtain ⟨t, hT⟩ : ∃ t, K.1.1 = t := ⟨_, rfl⟩
    obtain ⟨y, hY⟩ : ∃ y, K.1.2 = y := ⟨_, rfl⟩
    rw [hT, hY] at htk
    rw [hY] at hw hfin
    have hyb : (y != 0) = true := by simpa using hw
    have HT := Lib.hid htk
    have HF := Lib.hid hfin
    clear hfin htk hK hw hT hY hts HSS
    go_wp2_with (go_at_call 78; refine HT.out.mono ?_; rintro e w2 ⟨rfl, ht2, hg2⟩; refine Hid.out ?_)
    refine Lib.hid ?_
    have hb2 : Below w.heap.size w w2 := hb.trans (gb_below hg2 (Nat.le_refl _) (by omega))
    clear hown ht hb hg2 hGr c0 c1
    unfold Tok.v
    go_wp2_with fail
    go_ret3
    rw [HF.out]
    exact ⟨_, rfl, World.ownsRow_nil _ _ _ _, hb2.alloc hb2.size _⟩
end Go.Proofs.YtgjfbbmachoolaaGreatDoor.lx
namespace Go.Proofs.YtgjfbbmachoolaaGreatDoor.lx
open Go.RowKit

abbrev G := Int × Bool
/-- a text's bytes -/
abbrev B (l : ByteArray) : List UInt8 := l.data.toList

theorem dec_width (l : List UInt8) : 1 ≤ (Lib.decodeL l).2 := Lib.decodeL_width l

/-- a text's glyphs -/
def gl (l : List UInt8) : List G :=
 if _h : l = [] then [] else ((Lib.decodeL l).1, !decide ((Lib.decodeL l).1 = 65533 ∧ (Lib.decodeL l).2 = 1)) :: gl (l.drop (Lib.decodeL l).2)
termination_by l.length
decreasing_by
 have := dec_width l
 have : 0 < l.length := List.length_pos_iff.2 _h
 simp; omega

theorem gl_nil : gl [] = [] := by rw [gl, dif_pos rfl]
theorem gl_cons {l : List UInt8} (h : l ≠ []) : gl l = (((Lib.decodeL l).1 : Int), !decide ((Lib.decodeL l).1 = 65533 ∧ (Lib.decodeL l).2 = 1)) :: gl (l.drop (Lib.decodeL l).2) := by rw [gl, dif_neg h]

theorem B_nil {l : ByteArray} (h : l.size = 0) : B l = [] := List.eq_nil_of_length_eq_zero (by rw [← Lib.size_eq]; exact h)
theorem B_ne {l : ByteArray} (h : l.size ≠ 0) : B l ≠ [] := fun e => h (by rw [Lib.size_eq, show l.data.toList = [] from e]; rfl)
theorem B_length (l : ByteArray) : (B l).length = l.size := (Lib.size_eq l).symm
theorem dec_B (l : ByteArray) (h : l.size ≠ 0) : Lib.decodeL (B l) = Lib.decodeGo l := by
 unfold Lib.decodeGo
 rw [if_neg h, ← Lib.decodeL_drop]
 simp
theorem B_drop (l : ByteArray) (k : Nat) : B (l.extract k l.size) = (B l).drop k := by
 show (l.extract k l.size).data.toList = _
 rw [ByteArray.data_extract, Array.toList_extract, List.extract_eq_take_drop]
 exact List.take_of_length_le (by rw [List.length_drop, B_length]; exact Nat.le_refl _)
theorem B_adv (l : ByteArray) : B (adv l) = (B l).drop (dn l) := B_drop l _

theorem glB_nil {l : ByteArray} (h : l.size = 0) : gl (B l) = [] := by rw [B_nil h, gl_nil]
theorem glB_cons {l : ByteArray} (h : l.size ≠ 0) : gl (B l) = (dr l, stepOk l) :: gl (B (adv l)) := by
 have hb := dn_bounds l h
 rw [gl_cons (B_ne h), B_adv, dec_B l h]
 have e : stepOk l = !decide ((Lib.decodeGo l).1 = 65533 ∧ (Lib.decodeGo l).2 = 1) := by
  unfold stepOk dr
  unfold dn at *
  by_cases h1 : (Lib.decodeGo l).2 = 1
  ·
   by_cases h2 : (Lib.decodeGo l).1 = 65533 <;> simp [h1, h2]
   exact fun hh => h2 (by omega)
  ·
   simp [h1]; omega
 rw [e]
 rfl

/-! ### skip -/
def skipG : Bool → List G → List G
 | _, [] => []
 | note, g :: gs => if noted note g.1 || blankR g.1 then skipG (noted note g.1) gs else g :: gs

def bareG (gs : List G) : List G := gs.takeWhile fun g => !endR g.1
def bareR (gs : List G) : List G := gs.dropWhile fun g => !endR g.1
def runeB (gs : List G) : List UInt8 := gs.flatMap fun g => Lib.encodeRune g.1

end Go.Proofs.YtgjfbbmachoolaaGreatDoor.lx
namespace Go.Proofs.YtgjfbbmachoolaaGreatDoor.lx
open Go.RowKit

/-- a step -/
structure Stp where
 k : Int
 s : ByteArray
 n : Int
def Stp.v (t : Stp) : Value := .agg #[.int .u8 t.k, .string t.s, .int .i64 t.n]
def Stp.cells (t : Stp) : List Value := [.int .u8 t.k, .string t.s, .int .i64 t.n]
def stpCells (ts : List Stp) : List Value := ts.flatMap Stp.cells
theorem stpCells_length (ts : List Stp) : (stpCells ts).length = ts.length * 3 := by
 induction ts with
 | nil => rfl
 | cons t ts ih => simp [stpCells] at ih ⊢; rw [ih]; simp [Stp.cells]; omega
theorem stpCells_append (ts us : List Stp) : stpCells (ts ++ us) = stpCells ts ++ stpCells us := by simp [stpCells]

/-- why a text is none, and where -/
abbrev Er := Int × Int
/-- what may go wrong -/
inductive Res (α : Type) where
 | ok (x : α)
 | bad (why at_ : Int)
def Res.then {α β : Type} (r : Res α) (f : α → Res β) : Res β := match r with | .ok x => f x | .bad y p => .bad y p

def takeR (fin k : Int) (p : ByteArray → Bool) (l : List Tok) (op : Int) : Res (List Tok × Int) :=
 if (tokAt l fin).k = 1 ∧ ¬ op < 8 then .bad 10 (tokAt l fin).a
 else if (tokAt l fin).k ≠ k then .bad 13 (tokAt l fin).a
 else if p (tokAt l fin).s = false then .bad 13 (tokAt l fin).a
 else .ok (l.tail, if k = 1 then op + 1 else if k = 2 then op - 1 else op)
def putR (fin : Int) (l : List Tok) (st new : List Stp) : Res (List Stp) :=
 if st.length + new.length ≤ 64 then .ok (st ++ new) else .bad 3 (tokAt l fin).a
def closesR (l : List Tok) (fin : Int) : Bool := (tokAt l fin).k == 2
def headR (l : List Tok) : ByteArray := match l with | t :: u :: _ => if t.k = 1 ∧ u.k = 3 then u.s else ⟨#[]⟩ | _ => ⟨#[]⟩

def bs (l : List UInt8) : ByteArray := ⟨l.toArray⟩
def nullB : ByteArray := ⟨#[110, 117, 108, 108]⟩
def trueB : ByteArray := ⟨#[116, 114, 117, 101]⟩
def falseB : ByteArray := ⟨#[102, 97, 108, 115, 101]⟩
/-- the atoms of steps -/
def opsL : List ByteArray := [⟨#[110, 101, 103]⟩, ⟨#[110, 111, 116]⟩, ⟨#[110, 117, 108, 108, 63]⟩, ⟨#[108, 101, 110, 103, 116, 104]⟩, ⟨#[43]⟩, ⟨#[45]⟩, ⟨#[42]⟩, ⟨#[61]⟩, ⟨#[60, 62]⟩, ⟨#[60]⟩, ⟨#[60, 61]⟩, ⟨#[62]⟩, ⟨#[62, 61]⟩, ⟨#[97, 110, 100]⟩, ⟨#[111, 114]⟩]
def isOp (s : ByteArray) : Bool := Lib.containsS opsL s
def opK (s : ByteArray) : Int := 7 + Lib.idxOfS opsL s
def wordsL : List ByteArray := [⟨#[]⟩, ⟨#[99, 111, 117, 110, 116]⟩, ⟨#[115, 117, 109]⟩, ⟨#[109, 105, 110]⟩, ⟨#[109, 97, 120]⟩]

/-- whether a text is a name: its runes -/
def nameG (first : Bool) : List G → Bool
 | [] => true
 | g :: gs => ((97 ≤ g.1 && g.1 ≤ 122) || (65 ≤ g.1 && g.1 ≤ 90) || g.1 == 95 || 128 ≤ g.1 || (!first && 48 ≤ g.1 && g.1 ≤ 57)) && nameG false gs
def nameR (s : ByteArray) : Bool := decide (s.size ≠ 0) && decide (s.size ≤ 64) && Lib.validD s.data.toList && !(Lib.containsS [nullB, trueB, falseB] s) && nameG true (gl (B s))
/-- a column's parts -/
def cutD (s : ByteArray) : List ByteArray := Lib.splitB ⟨#[46]⟩ 0 (min 2 (s.size + 1) - 1) s
def columnR (s : ByteArray) : Bool := !(cutD s).any fun x => !nameR x

/-- the step of a leaf; none: it is no leaf -/
def leafS (t : Tok) : Option Stp :=
 if t.k = 4 then some ⟨4, ⟨#[]⟩, t.n⟩ else if t.k = 5 then some ⟨5, t.s, 0⟩
 else if t.k = 3 then
  if t.s = nullB then some ⟨1, ⟨#[]⟩, 0⟩ else if t.s = trueB then some ⟨2, ⟨#[]⟩, 0⟩ else if t.s = falseB then some ⟨3, ⟨#[]⟩, 0⟩
  else if columnR t.s then some ⟨6, t.s, 0⟩ else none
 else none
def leafR (fin : Int) (l : List Tok) (op : Int) (st : List Stp) : Res (List Tok × Int × List Stp) :=
 match leafS (tokAt l fin) with
 | none => .bad 13 (tokAt l fin).a
 | some x => (putR fin l st [x]).then fun st' => .ok (l.tail, op, st')

abbrev PS := List Tok × Int × List Stp
def partsR (f : List Tok → Int → List Stp → Res PS) (fin k : Int) : Nat → Nat → List Tok → Int → List Stp → Res (Nat × PS)
 | 0, _, _, _, _ => .bad 0 0
 | m + 1, parts, l, op, st =>
  if parts < 1 ∨ (parts < 2 ∧ 10 < k) ∨ (20 ≤ k ∧ closesR l fin = false) then (f l op st).then fun s => partsR f fin k m (parts + 1) s.1 s.2.1 s.2.2
  else .ok (parts, l, op, st)
def endR' (fin k : Int) (parts : Nat) (l : List Tok) (op : Int) (st : List Stp) : Res PS :=
 if closesR l fin = false then .bad (if (tokAt l fin).k = 1 ∧ ¬ op < 8 then 10 else 13) (tokAt l fin).a
 else (putR fin l st (List.replicate (if 20 ≤ k then parts - 1 else 1) ⟨k, ⟨#[]⟩, 0⟩)).then fun st' => (takeR fin 2 (fun _ => true) l op).then fun x => .ok (x.1, x.2, st')
def exprR (fin : Int) : Nat → List Tok → Int → List Stp → Res PS
 | 0, _, _, _ => .bad 0 0
 | n + 1, l, op, st =>
  if (tokAt l fin).k ≠ 1 then leafR fin l op st
  else (takeR fin 1 (fun _ => true) l op).then fun x => (takeR fin 3 isOp x.1 x.2).then fun y =>
   (partsR (exprR fin n) fin (opK (tokAt x.1 fin).s) (y.1.length + 2) 0 y.1 y.2 st).then fun z => endR' fin (opK (tokAt x.1 fin).s) z.1 z.2.1 z.2.2.1 z.2.2.2
/-- an expression alone -/
def wholeR (fin : Int) (l : List Tok) (op : Int) : Res PS := exprR fin (l.length + 1) l op []

/-- an item: its aggregate's number, its expression -/
structure Itm where
 agg : Int
 e : List Stp
def itemR (fin : Int) (l : List Tok) (op : Int) : Res (List Tok × Int × Itm) :=
 if Lib.idxOfS wordsL (headR l) < 1 then (wholeR fin l op).then fun s => .ok (s.1, s.2.1, ⟨0, s.2.2⟩)
 else (takeR fin 1 (fun _ => true) l op).then fun x => (takeR fin 3 (fun _ => true) x.1 x.2).then fun y =>
  (if Lib.idxOfS wordsL (headR l) = 1 then .ok (y.1, y.2, []) else wholeR fin y.1 y.2).then fun s =>
   (takeR fin 2 (fun _ => true) s.1 s.2.1).then fun z => .ok (z.1, z.2, ⟨Lib.idxOfS wordsL (headR l), s.2.2⟩)
/-- one or more of something, up to a closing bracket -/
def someR {α : Type} (one : List Tok → Int → Res (List Tok × Int × α)) (fin : Int) : Nat → List α → List Tok → Int → Res (List Tok × Int × List α)
 | 0, _, _, _ => .bad 0 0
 | m + 1, out, l, op =>
  if out.length = 0 ∨ closesR l fin = false then
   if out.length < 8 then (one l op).then fun s => someR one fin m (out ++ [s.2.2]) s.1 s.2.1 else .bad 3 (tokAt l fin).a
  else .ok (l, op, out)
def atomR (p : ByteArray → Bool) (fin : Int) (l : List Tok) (op : Int) : Res (List Tok × Int × ByteArray) := (takeR fin 3 p l op).then fun x => .ok (x.1, x.2, (tokAt l fin).s)

/-- a query -/
structure Qry where
 items : List Itm
 table : ByteArray
 join : ByteArray
 left : ByteArray
 right : ByteArray
 wher : List Stp
 group : List ByteArray
def Qry.none : Qry := ⟨[], ⟨#[]⟩, ⟨#[]⟩, ⟨#[]⟩, ⟨#[]⟩, [], []⟩
def joinB : ByteArray := ⟨#[106, 111, 105, 110]⟩
def whereB : ByteArray := ⟨#[119, 104, 101, 114, 101]⟩
def groupB : ByteArray := ⟨#[103, 114, 111, 117, 112]⟩
def getB : ByteArray := ⟨#[103, 101, 116]⟩
def fromB : ByteArray := ⟨#[102, 114, 111, 109]⟩
abbrev QS := List Tok × Int × Qry
def readR (i : Nat) (fin : Int) (s : QS) : Res QS :=
 match i with
 | 0 => (atomR nameR fin s.1 s.2.1).then fun a => (atomR columnR fin a.1 a.2.1).then fun b => (atomR columnR fin b.1 b.2.1).then fun c => .ok (c.1, c.2.1, { s.2.2 with join := a.2.2, left := b.2.2, right := c.2.2 })
 | 1 => (wholeR fin s.1 s.2.1).then fun a => .ok (a.1, a.2.1, { s.2.2 with wher := a.2.2 })
 | 2 => (someR (atomR columnR fin) fin (s.1.length + 2) [] s.1 s.2.1).then fun a => .ok (a.1, a.2.1, { s.2.2 with group := a.2.2 })
 | _ => (someR (itemR fin) fin (s.1.length + 2) [] s.1 s.2.1).then fun a => .ok (a.1, a.2.1, { s.2.2 with items := a.2.2 })
def clauseR (i : Nat) (word : ByteArray) (fin : Int) (s : QS) : Res QS :=
 if headR s.1 = word then (takeR fin 1 (fun _ => true) s.1 s.2.1).then fun x => (takeR fin 3 (fun _ => true) x.1 x.2).then fun y =>
  (readR i fin (y.1, y.2, s.2.2)).then fun z => (takeR fin 2 (fun _ => true) z.1 z.2.1).then fun u => .ok (u.1, u.2, z.2.2)
 else .ok s
def clausesL : List ByteArray := [joinB, whereB, groupB, getB]
def clausesR (fin : Int) : Nat → List ByteArray → QS → Res QS
 | _, [], s => .ok s
 | i, w :: ws, s => (clauseR i w fin s).then fun s' => clausesR fin (i + 1) ws s'
def queryR (fin : Int) (l : List Tok) : Res Qry :=
 (takeR fin 1 (fun _ => true) l 0).then fun x => (takeR fin 3 (fun s => decide (s = fromB)) x.1 x.2).then fun y => (atomR nameR fin y.1 y.2).then fun n =>
  (clausesR fin 0 clausesL (n.1, n.2.1, { Qry.none with table := n.2.2 })).then fun s => (takeR fin 2 (fun _ => true) s.1 s.2.1).then fun u =>
   if u.1.length = 0 then .ok s.2.2 else .bad 13 (tokAt u.1 fin).a
end Go.Proofs.YtgjfbbmachoolaaGreatDoor.lx
