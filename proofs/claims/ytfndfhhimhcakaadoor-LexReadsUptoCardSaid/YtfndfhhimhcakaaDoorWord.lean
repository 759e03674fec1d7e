/-
  The lexer's word (an atom, or a number), for every tape. Conditions: as for text.
-/
import Derived.Test.YtfndfhhimhcakaaDoorText
import Derived.Lib.AppendIntMem
namespace Go.Proofs.YtfndfhhimhcakaaDoor.lx
open Go.RowKit

def digB (b : UInt8) : Bool := decide (48 ≤ (b.toNat : Int)) && decide ((b.toNat : Int) ≤ 57)
/-- does a word begin as a number does? -/
def numStart : List UInt8 → Bool
  | [] => false
  | c :: r => digB c || (c == 45 && (match r with | [] => false | d :: _ => digB d))
/-- a number's token, of its bytes; or why it is none -/
def numTok (s : ByteArray) : Tok × Int :=
  match Lib.parseIntB 64 s.data.toList with
  | .ok n => if Lib.itoa n = s.data.toList then (⟨4, ⟨#[]⟩, n, 0⟩, 0) else (Tok.no, 13)
  | _ => (Tok.no, 13)
/-- a word's token, of its bytes; or why it is none -/
def wordTok (fine : Bool) (s : ByteArray) : Tok × Int :=
  if fine = false then (Tok.no, 9)
  else if numStart s.data.toList = true then numTok s
  else if 64 < s.size then (Tok.no, 13)
  else (⟨3, s, 0, 0⟩, 0)

theorem at_list (s : ByteArray) (i : Nat) (h : i < s.size) : s.data.toList[i]? = some (s[i]'h) := by
  obtain ⟨⟨l⟩⟩ := s
  exact Lib.getElem_mk l i h

theorem digit45 (w : World) : Calls Tryd.prog 34 #[.int .u8 45] w fun e w' => e = .returned (.bool false) ∧ w = w' := (digit_any 45 w).mono fun e w' ⟨h1, h2⟩ => ⟨by rw [h1]; rfl, h2⟩

theorem pi_ok (s : ByteArray) (hmax : s.size ≤ 281474976710656) (v : Int) (h : Lib.parseIntB 64 s.data.toList = .ok v) (w : World) :
    Calls Tryd.prog 35 #[.string s, .int .i64 10, .int .i64 64] w fun e w' => e = .returned (.tuple #[.int .i64 v, .nilIface]) ∧ Below w.heap.size w w' :=
  (Tryd.strconv_ParseInt_10_at64_ok s (by omega) v h w).mono fun e w' ⟨h1, h2⟩ => ⟨h1, by
    rcases h2 with rfl | ⟨t, rfl⟩
    · exact Below.refl _ _
    · exact Lib.bytesWorld_below _ _ _⟩
theorem pi_bad (s : ByteArray) (hmax : s.size ≤ 281474976710656) (h : ∀ v, Lib.parseIntB 64 s.data.toList ≠ .ok v) (w : World) (hG : Glob w) :
    Calls Tryd.prog 35 #[.string s, .int .i64 10, .int .i64 64] w fun e w' => ∃ v N, e = .returned (.tuple #[.int .i64 v, .iface 110 (.pointer (some ⟨N, 0, none⟩))]) ∧ Below w.heap.size w w' := by
  cases hp : Lib.parseIntB 64 s.data.toList with
  | ok v => exact absurd hp (h v)
  | range =>
    obtain ⟨tp, p, hv⟩ := hG.era
    exact (Tryd.strconv_ParseInt_10_at64_range_var s hmax hp tp p w hv).mono fun e w' ⟨N, h1, _, _, h2⟩ => ⟨_, N, h1, h2⟩
  | _ =>
    obtain ⟨tp, p, hv⟩ := hG.esy
    exact (Tryd.strconv_ParseInt_10_at64_syntax_var s hmax hp tp p w hv).mono fun e w' ⟨N, h1, _, _, h2⟩ => ⟨_, N, h1, h2⟩
theorem pi_range (s : ByteArray) (v : Int) (h : Lib.parseIntB 64 s.data.toList = .ok v) : -9223372036854775808 ≤ v ∧ v ≤ 9223372036854775807 := by
  unfold Lib.parseIntB at h
  split at h
  · cases h
  simp only at h
  split at h
  · cases h
  · cases h
  split at h
  · cases h
  split at h
  · cases h
  rename_i h1 h2
  simp only [Lib.NumEnd.ok.injEq] at h
  have e : (2 : Nat) ^ (64 - 1) = 9223372036854775808 := by decide
  rw [e] at h1 h2
  split at h <;> omega
theorem fi_any (n : Int) (h0 : -9223372036854775808 ≤ n) (h1 : n ≤ 9223372036854775807) (w : World) (hG : Glob w) :
    Calls Tryd.prog 15 #[.int .i64 n, .int .i64 10] w fun e w' => e = .returned (.string ⟨(Lib.itoa n).toArray⟩) ∧ Below w.heap.size w w' :=
  (Tryd.strconv_FormatInt_10 n h0 h1 w hG.pow).mono fun e w' ⟨h1, k, os, h2⟩ => ⟨h1, by rw [h2]; exact Lib.below_grow _ _ (Nat.le_refl _) k os⟩

set_option maxHeartbeats 8000000 in
set_option maxRecDepth 100000 in
theorem word_any (b : Nat) (l : ByteArray) (p : Nat) (w : World) (hG : Glob w) (hb8 : 8 ≤ b) (h : Tape b l p w) (hl : p + l.size + 1 ≤ 1099511627776) (he : endF l = false) :
    Calls Tryd.prog 22 #[.pointer (some ⟨b, 0, none⟩)] w fun e w' =>
      e = .returned (.tuple #[(wordTok (bareF true l p).1 (l.extract 0 (l.size - (bareF true l p).2.1.size))).1.v, .int .i64 (wordTok (bareF true l p).1 (l.extract 0 (l.size - (bareF true l p).2.1.size))).2]) ∧
      Tape b (bareF true l p).2.1 (bareF true l p).2.2 w' ∧ w.grownBy w' (some b) := by
  have hblt := h.lt
  have h0 : l.size ≠ 0 := fun h0 => by simp [endF, h0] at he
  have hlt := adv_lt l h0
  have hsz : (bareF true l p).2.1.size < l.size := by
    rw [bareF_go he]
    have := (bareF_size _ (stepOk l && true) (adv l) (p + 1) rfl).1
    omega
  have hsl : (l.extract 0 (l.size - (bareF true l p).2.1.size)).size = l.size - (bareF true l p).2.1.size := by simp [ByteArray.size_extract]
  have hW1 : Tape b l p (w.alloc (.cells #[.int .u8 0, .string ⟨#[]⟩, .int .i64 0, .int .i64 0] 24)) :=
    h.below ((Below.refl w.heap.size w).alloc (Nat.le_refl _) _) hblt
  have hW2 : Below w.heap.size w (w.alloc (.cells #[.int .u8 0, .string ⟨#[]⟩, .int .i64 0, .int .i64 0] 24)) := (Below.refl w.heap.size w).alloc (Nat.le_refl _) _
  have hW3 : Cell4 w.heap.size Tok.no (w.alloc (.cells #[.int .u8 0, .string ⟨#[]⟩, .int .i64 0, .int .i64 0] 24)) := by
    unfold Cell4
    rw [heap_alloc_new]
    rfl
  have hGW := hG.self hW2
  have hbare := bare_any b l p _ hGW hb8 hW1 (by omega)
  obtain ⟨s, hs⟩ : ∃ s, l.extract 0 (l.size - (bareF true l p).2.1.size) = s := ⟨_, rfl⟩
  obtain ⟨R, hR⟩ : ∃ R, bareF true l p = R := ⟨_, rfl⟩
  rw [hs] at hsl hbare ⊢
  rw [hR] at hsl hbare hsz ⊢
  have HB := Lib.hid hbare
  have hs1 : 1 ≤ s.size := by omega
  have hs2 : s.size ≤ 1099511627776 := by omega
  clear hbare hs hR h0 hlt hsz hsl he
  go_enter Tryd.func22, Tryd.ntmps22
  go_wp2_with (go_at_call 33; refine HB.out.mono ?_)
  rintro e w1 ⟨rfl, ht1, hg1⟩
  have hgb1 : w.grownBy w1 (some b) := gb_trans (gb_of_below hW2 _) hg1
  have hc41 := hW3.gb hg1 (by omega)
  have hG1 := hG.gb hb8 hgb1
  clear hW1 hW2 hW3 hGW hg1 HB
  have r0 := hc41.c0
  have r1 := hc41.c1
  have r2 := hc41.c2
  have r3 := hc41.c3
  have fr := hc41.f
  cases hf : R.1 with
  | false =>
    have h4 := put4_cell hc41 Tok.no
    have ht4 := put4_tape (t := Tok.no) ht1 (by omega : b ≠ w.heap.size)
    have hg4 := put4_gb Tok.no hgb1 (Nat.le_refl _)
    go_wp2_with fail
    refine bodyPost_ret (v := .tuple #[Tok.no.v, .int .i64 9]) ?_ rfl ⟨by rw [hf]; rfl, ht4, hg4⟩
    exact results4 rfl h4 rfl rfl
  | true =>
    obtain ⟨c, r, hcr⟩ : ∃ c r, s.data.toList = c :: r := by
      cases hh : s.data.toList with
      | nil => rw [Lib.size_eq, hh] at hs1; simp at hs1
      | cons c r => exact ⟨c, r, rfl⟩
    have hz : s.size = r.length + 1 := by rw [Lib.size_eq, hcr]; simp
    have hc0 : ∀ h, s[0]'h = c := fun h => by
      have e := at_list s 0 h
      rw [hcr] at e
      simpa using e.symm
    have hsI : (0 : Int) < (s.size : Int) := by omega
    have hwt : wordTok true s = if numStart (c :: r) = true then numTok s else if 64 < s.size then (Tok.no, 13) else (⟨3, s, 0, 0⟩, 0) := by
      unfold wordTok
      rw [if_neg (by simp), ← hcr]
    have HWT := Lib.hid hwt
    have HCR := Lib.hid hcr
    have HZ := Lib.hid hz
    clear hwt hcr hz hs1
    have hdc := fun w => digit_any (c.toNat : Int) w
    have hdB : (decide (48 ≤ (c.toNat : Int)) && decide ((c.toNat : Int) ≤ 57)) = digB c := rfl
    rw [hdB] at hdc
    cases hns : numStart (c :: r) with
    | false =>
      have hnd : digB c = false := by simp [numStart] at hns; exact hns.1
      have HT : Hid (wordTok true s = if 64 < s.size then (Tok.no, 13) else (⟨3, s, 0, 0⟩, 0)) := Lib.hid (by rw [HWT.out, hns]; rfl)
      rw [hnd] at hdc
      have HD := Lib.hid hdc
      have HNS := Lib.hid hns
      have HND := Lib.hid hnd
      clear hdc hdB hnd hns
      by_cases h45 : c = 45
      · subst h45
        have h45b : (((45 : UInt8).toNat : Int) == 45) = true := rfl
        cases r with
        | nil =>
          have hs1 : ¬ ((1 : Int) < s.size) := by have := HZ.out; simp at this; omega
          have hs64 : ¬ 64 < s.size := by omega
          have h4 := put4_cell hc41 ⟨3, s, 0, 0⟩
          have ht4 := put4_tape (t := ⟨3, s, 0, 0⟩) ht1 (by omega : b ≠ w.heap.size)
          have hg4 := put4_gb ⟨3, s, 0, 0⟩ hgb1 (Nat.le_refl _)
          go_wp2_with (go_at_call 34; refine (HD.out _).mono ?_; rintro e w' ⟨rfl, rfl⟩)
          refine bodyPost_ret (v := .tuple #[Tok.v ⟨3, s, 0, 0⟩, .int .i64 0]) ?_ rfl ⟨by first | rw [HT.out, if_neg hs64] | rw [hf, HT.out, if_neg hs64], ht4, hg4⟩
          exact results4 rfl h4 rfl rfl
        | cons d rs =>
          have hs1 : (1 : Int) < s.size := by have := HZ.out; simp at this; omega
          have hd1 : ∀ h, s[1]'h = d := fun h => by
            have e := at_list s 1 h
            rw [HCR.out] at e
            simpa using e.symm
          have hnd2 : digB d = false := by have := HNS.out; simp [numStart] at this; exact this.2
          have hdc2 := fun w => digit_any (d.toNat : Int) w
          have hdB2 : (decide (48 ≤ (d.toNat : Int)) && decide ((d.toNat : Int) ≤ 57)) = digB d := rfl
          rw [hdB2, hnd2] at hdc2
          have HD2 := Lib.hid hdc2
          clear hdc2 hdB2 hnd2 HD
          have HD := Lib.hid digit45
          by_cases hs64 : 64 < s.size
          · have hs64I : (64 : Int) < (s.size : Int) := by omega
            have h4 := put4_cell hc41 Tok.no
            have ht4 := put4_tape (t := Tok.no) ht1 (by omega : b ≠ w.heap.size)
            have hg4 := put4_gb Tok.no hgb1 (Nat.le_refl _)
            go_wp2_with (go_at_call 34; first | ((with_reducible refine (HD.out _).mono ?_); rintro e w' ⟨rfl, rfl⟩) | ((with_reducible refine (HD2.out _).mono ?_); rintro e w' ⟨rfl, rfl⟩))
            refine bodyPost_ret (v := .tuple #[Tok.no.v, .int .i64 13]) ?_ rfl ⟨by first | rw [HT.out, if_pos hs64] | rw [hf, HT.out, if_pos hs64], ht4, hg4⟩
            exact results4 rfl h4 rfl rfl
          · have hs64I : ¬ (64 : Int) < (s.size : Int) := by omega
            have h4 := put4_cell hc41 ⟨3, s, 0, 0⟩
            have ht4 := put4_tape (t := ⟨3, s, 0, 0⟩) ht1 (by omega : b ≠ w.heap.size)
            have hg4 := put4_gb ⟨3, s, 0, 0⟩ hgb1 (Nat.le_refl _)
            go_wp2_with (go_at_call 34; first | ((with_reducible refine (HD.out _).mono ?_); rintro e w' ⟨rfl, rfl⟩) | ((with_reducible refine (HD2.out _).mono ?_); rintro e w' ⟨rfl, rfl⟩))
            refine bodyPost_ret (v := .tuple #[Tok.v ⟨3, s, 0, 0⟩, .int .i64 0]) ?_ rfl ⟨by first | rw [HT.out, if_neg hs64] | rw [hf, HT.out, if_neg hs64], ht4, hg4⟩
            exact results4 rfl h4 rfl rfl
      · have h45b : ((c.toNat : Int) == 45) = false := by
          apply beq_eq_false_iff_ne.2
          intro e
          apply h45
          have e' : c.toNat = 45 := by omega
          exact UInt8.toNat_inj.1 e'
        clear h45
        by_cases hs64 : 64 < s.size
        · have hs64I : (64 : Int) < (s.size : Int) := by omega
          have h4 := put4_cell hc41 Tok.no
          have ht4 := put4_tape (t := Tok.no) ht1 (by omega : b ≠ w.heap.size)
          have hg4 := put4_gb Tok.no hgb1 (Nat.le_refl _)
          go_wp2_with (go_at_call 34; refine (HD.out _).mono ?_; rintro e w' ⟨rfl, rfl⟩)
          refine bodyPost_ret (v := .tuple #[Tok.no.v, .int .i64 13]) ?_ rfl ⟨by first | rw [HT.out, if_pos hs64] | rw [hf, HT.out, if_pos hs64], ht4, hg4⟩
          exact results4 rfl h4 rfl rfl
        · have hs64I : ¬ (64 : Int) < (s.size : Int) := by omega
          have h4 := put4_cell hc41 ⟨3, s, 0, 0⟩
          have ht4 := put4_tape (t := ⟨3, s, 0, 0⟩) ht1 (by omega : b ≠ w.heap.size)
          have hg4 := put4_gb ⟨3, s, 0, 0⟩ hgb1 (Nat.le_refl _)
          go_wp2_with (go_at_call 34; refine (HD.out _).mono ?_; rintro e w' ⟨rfl, rfl⟩)
          refine bodyPost_ret (v := .tuple #[Tok.v ⟨3, s, 0, 0⟩, .int .i64 0]) ?_ rfl ⟨by first | rw [HT.out, if_neg hs64] | rw [hf, HT.out, if_neg hs64], ht4, hg4⟩
          exact results4 rfl h4 rfl rfl
    | true =>
      have HT : Hid (wordTok true s = numTok s) := Lib.hid (by rw [HWT.out, hns]; rfl)
      cases hnd : digB c with
      | true =>
        rw [hnd] at hdc
        have HD := Lib.hid hdc
        clear hdc hdB hnd hns
        cases hpi : Lib.parseIntB 64 s.data.toList with
        | ok n =>
          have hr := pi_range s n hpi
          have hpc := fun w => pi_ok s (by omega) n hpi w
          have hfc := fun w hG => fi_any n hr.1 hr.2 w hG
          have HP := Lib.hid hpc
          have HFI := Lib.hid hfc
          have HPI := Lib.hid hpi
          clear hpc hfc hpi hr
          by_cases heq : Lib.itoa n = s.data.toList
          · have hss : (⟨(Lib.itoa n).toArray⟩ : ByteArray) = s := by rw [heq, Lib.mk_data]
            have HN : Hid (wordTok true s = (⟨4, ⟨#[]⟩, n, 0⟩, 0)) := Lib.hid (by rw [HT.out, numTok, HPI.out]; simp only; rw [if_pos heq])
            clear heq HPI
            go_wp2_with (first | (go_at_call 34; refine (HD.out _).mono ?_; rintro e w' ⟨rfl, rfl⟩) | (go_at_call 35; refine (HP.out _).mono ?_))
            rintro e w2 ⟨rfl, hb2⟩
            have hG2 := hG1.self hb2
            go_wp2_with (go_at_call 15; refine (HFI.out _ hG2).mono ?_)
            rintro e w3 ⟨rfl, hb3⟩
            rw [hss]
            clear hss
            have hb := below_self hb2 hb3
            have hc5 := hc41.below hb (by have := hgb1.size; have := ht1.lt; exact (Array.getElem?_eq_some_iff.1 hc41).1)
            have ht5 := ht1.below hb ht1.lt
            have hgb5 := gb_trans hgb1 (gb_of_below hb _)
            clear r0 r1 r2 r3 fr hc41 ht1 hgb1 hb hb2 hb3
            have r0 := hc5.c0
            have r1 := hc5.c1
            have r2 := hc5.c2
            have r3 := hc5.c3
            have fr := hc5.f
            have h4 := put4_cell hc5 ⟨4, ⟨#[]⟩, n, 0⟩
            have ht4 := put4_tape (t := ⟨4, ⟨#[]⟩, n, 0⟩) ht5 (by omega : b ≠ w.heap.size)
            have hg4 := put4_gb ⟨4, ⟨#[]⟩, n, 0⟩ hgb5 (Nat.le_refl _)
            go_wp2_with fail
            refine bodyPost_ret (v := .tuple #[Tok.v ⟨4, ⟨#[]⟩, n, 0⟩, .int .i64 0]) ?_ rfl ⟨by first | rw [HN.out] | rw [hf, HN.out], ht4, hg4⟩
            exact results4 rfl h4 rfl rfl
          · have hss : (⟨(Lib.itoa n).toArray⟩ : ByteArray).toList ≠ s.toList := by
              intro e
              rw [Lib.toList_data, Lib.toList_data] at e
              exact heq (by simpa using e)
            have hsb : ((⟨(Lib.itoa n).toArray⟩ : ByteArray).toList == s.toList) = false := by simpa using hss
            have HN : Hid (wordTok true s = (Tok.no, 13)) := Lib.hid (by rw [HT.out, numTok, HPI.out]; simp only; rw [if_neg heq])
            obtain ⟨z, hz⟩ : ∃ z, (⟨(Lib.itoa n).toArray⟩ : ByteArray) = z := ⟨_, rfl⟩
            have hfc := HFI.out
            rw [hz] at hsb hfc
            have HFI := Lib.hid hfc
            clear heq hss hz HPI hfc
            go_wp2_with (first | (go_at_call 34; refine (HD.out _).mono ?_; rintro e w' ⟨rfl, rfl⟩) | (go_at_call 35; refine (HP.out _).mono ?_))
            rintro e w2 ⟨rfl, hb2⟩
            have hG2 := hG1.self hb2
            go_wp2_with (go_at_call 15; refine (HFI.out _ hG2).mono ?_)
            rintro e w3 ⟨rfl, hb3⟩
            have hb := below_self hb2 hb3
            have hc5 := hc41.below hb (by have := hgb1.size; have := ht1.lt; exact (Array.getElem?_eq_some_iff.1 hc41).1)
            have ht5 := ht1.below hb ht1.lt
            have hgb5 := gb_trans hgb1 (gb_of_below hb _)
            clear r0 r1 r2 r3 fr hc41 ht1 hgb1 hb hb2 hb3
            have r0 := hc5.c0
            have r1 := hc5.c1
            have r2 := hc5.c2
            have r3 := hc5.c3
            have fr := hc5.f
            have h4 := put4_cell hc5 Tok.no
            have ht4 := put4_tape (t := Tok.no) ht5 (by omega : b ≠ w.heap.size)
            have hg4 := put4_gb Tok.no hgb5 (Nat.le_refl _)
            go_wp2_with fail
            refine bodyPost_ret (v := .tuple #[Tok.no.v, .int .i64 13]) ?_ rfl ⟨by first | rw [HN.out] | rw [hf, HN.out], ht4, hg4⟩
            exact results4 rfl h4 rfl rfl
        | _ =>
          have hpc := fun w hG => pi_bad s (by omega) (by rw [hpi]; intro v e; cases e) w hG
          have HN : Hid (wordTok true s = (Tok.no, 13)) := Lib.hid (by rw [HT.out, numTok, hpi])
          have HP := Lib.hid hpc
          clear hpc hpi
          go_wp2_with (first | (go_at_call 34; refine (HD.out _).mono ?_; rintro e w' ⟨rfl, rfl⟩) | (go_at_call 35; refine (HP.out _ hG1).mono ?_))
          rintro e w2 ⟨v2, N2, rfl, hb⟩
          have hc5 := hc41.below hb (by have := hgb1.size; have := ht1.lt; exact (Array.getElem?_eq_some_iff.1 hc41).1)
          have ht5 := ht1.below hb ht1.lt
          have hgb5 := gb_trans hgb1 (gb_of_below hb _)
          clear r0 r1 r2 r3 fr hc41 ht1 hgb1 hb
          have r0 := hc5.c0
          have r1 := hc5.c1
          have r2 := hc5.c2
          have r3 := hc5.c3
          have fr := hc5.f
          have h4 := put4_cell hc5 Tok.no
          have ht4 := put4_tape (t := Tok.no) ht5 (by omega : b ≠ w.heap.size)
          have hg4 := put4_gb Tok.no hgb5 (Nat.le_refl _)
          go_wp2_with fail
          refine bodyPost_ret (v := .tuple #[Tok.no.v, .int .i64 13]) ?_ rfl ⟨by first | rw [HN.out] | rw [hf, HN.out], ht4, hg4⟩
          exact results4 rfl h4 rfl rfl
      | false =>
        rw [hnd] at hdc
        have HD := Lib.hid hdc
        have h45 : c = 45 := by simp [numStart, hnd] at hns; exact hns.1
        subst h45
        have h45b : (((45 : UInt8).toNat : Int) == 45) = true := rfl
        cases r with
        | nil => simp [numStart, hnd] at hns
        | cons d rs =>
          have hs1 : (1 : Int) < s.size := by have := HZ.out; simp at this; omega
          have hd1 : ∀ h, s[1]'h = d := fun h => by
            have e := at_list s 1 h
            rw [HCR.out] at e
            simpa using e.symm
          have hnd2 : digB d = true := by simp [numStart, hnd] at hns; exact hns
          have hdc2 := fun w => digit_any (d.toNat : Int) w
          have hdB2 : (decide (48 ≤ (d.toNat : Int)) && decide ((d.toNat : Int) ≤ 57)) = digB d := rfl
          rw [hdB2, hnd2] at hdc2
          have HD2 := Lib.hid hdc2
          clear hdc2 hdB2 hnd2 hdc hdB hnd hns HD
          have HD := Lib.hid digit45
          cases hpi : Lib.parseIntB 64 s.data.toList with
          | ok n =>
            have hr := pi_range s n hpi
            have hpc := fun w => pi_ok s (by omega) n hpi w
            have hfc := fun w hG => fi_any n hr.1 hr.2 w hG
            have HP := Lib.hid hpc
            have HFI := Lib.hid hfc
            have HPI := Lib.hid hpi
            clear hpc hfc hpi hr
            by_cases heq : Lib.itoa n = s.data.toList
            · have hss : (⟨(Lib.itoa n).toArray⟩ : ByteArray) = s := by rw [heq, Lib.mk_data]
              have HN : Hid (wordTok true s = (⟨4, ⟨#[]⟩, n, 0⟩, 0)) := Lib.hid (by rw [HT.out, numTok, HPI.out]; simp only; rw [if_pos heq])
              clear heq HPI
              go_wp2_with (first | (go_at_call 34; first | ((with_reducible refine (HD.out _).mono ?_); rintro e w' ⟨rfl, rfl⟩) | ((with_reducible refine (HD2.out _).mono ?_); rintro e w' ⟨rfl, rfl⟩)) | (go_at_call 35; refine (HP.out _).mono ?_))
              rintro e w2 ⟨rfl, hb2⟩
              have hG2 := hG1.self hb2
              go_wp2_with (go_at_call 15; refine (HFI.out _ hG2).mono ?_)
              rintro e w3 ⟨rfl, hb3⟩
              rw [hss]
              clear hss
              have hb := below_self hb2 hb3
              have hc5 := hc41.below hb (by have := hgb1.size; have := ht1.lt; exact (Array.getElem?_eq_some_iff.1 hc41).1)
              have ht5 := ht1.below hb ht1.lt
              have hgb5 := gb_trans hgb1 (gb_of_below hb _)
              clear r0 r1 r2 r3 fr hc41 ht1 hgb1 hb hb2 hb3
              have r0 := hc5.c0
              have r1 := hc5.c1
              have r2 := hc5.c2
              have r3 := hc5.c3
              have fr := hc5.f
              have h4 := put4_cell hc5 ⟨4, ⟨#[]⟩, n, 0⟩
              have ht4 := put4_tape (t := ⟨4, ⟨#[]⟩, n, 0⟩) ht5 (by omega : b ≠ w.heap.size)
              have hg4 := put4_gb ⟨4, ⟨#[]⟩, n, 0⟩ hgb5 (Nat.le_refl _)
              go_wp2_with fail
              refine bodyPost_ret (v := .tuple #[Tok.v ⟨4, ⟨#[]⟩, n, 0⟩, .int .i64 0]) ?_ rfl ⟨by first | rw [HN.out] | rw [hf, HN.out], ht4, hg4⟩
              exact results4 rfl h4 rfl rfl
            · have hss : (⟨(Lib.itoa n).toArray⟩ : ByteArray).toList ≠ s.toList := by
                intro e
                rw [Lib.toList_data, Lib.toList_data] at e
                exact heq (by simpa using e)
              have hsb : ((⟨(Lib.itoa n).toArray⟩ : ByteArray).toList == s.toList) = false := by simpa using hss
              have HN : Hid (wordTok true s = (Tok.no, 13)) := Lib.hid (by rw [HT.out, numTok, HPI.out]; simp only; rw [if_neg heq])
              obtain ⟨z, hz⟩ : ∃ z, (⟨(Lib.itoa n).toArray⟩ : ByteArray) = z := ⟨_, rfl⟩
              have hfc := HFI.out
              rw [hz] at hsb hfc
              have HFI := Lib.hid hfc
              clear heq hss hz HPI hfc
              go_wp2_with (first | (go_at_call 34; first | ((with_reducible refine (HD.out _).mono ?_); rintro e w' ⟨rfl, rfl⟩) | ((with_reducible refine (HD2.out _).mono ?_); rintro e w' ⟨rfl, rfl⟩)) | (go_at_call 35; refine (HP.out _).mono ?_))
              rintro e w2 ⟨rfl, hb2⟩
              have hG2 := hG1.self hb2
              go_wp2_with (go_at_call 15; refine (HFI.out _ hG2).mono ?_)
              rintro e w3 ⟨rfl, hb3⟩
              have hb := below_self hb2 hb3
              have hc5 := hc41.below hb (by have := hgb1.size; have := ht1.lt; exact (Array.getElem?_eq_some_iff.1 hc41).1)
              have ht5 := ht1.below hb ht1.lt
              have hgb5 := gb_trans hgb1 (gb_of_below hb _)
              clear r0 r1 r2 r3 fr hc41 ht1 hgb1 hb hb2 hb3
              have r0 := hc5.c0
              have r1 := hc5.c1
              have r2 := hc5.c2
              have r3 := hc5.c3
              have fr := hc5.f
              have h4 := put4_cell hc5 Tok.no
              have ht4 := put4_tape (t := Tok.no) ht5 (by omega : b ≠ w.heap.size)
              have hg4 := put4_gb Tok.no hgb5 (Nat.le_refl _)
              go_wp2_with fail
              refine bodyPost_ret (v := .tuple #[Tok.no.v, .int .i64 13]) ?_ rfl ⟨by first | rw [HN.out] | rw [hf, HN.out], ht4, hg4⟩
              exact results4 rfl h4 rfl rfl
          | _ =>
            have hpc := fun w hG => pi_bad s (by omega) (by rw [hpi]; intro v e; cases e) w hG
            have HN : Hid (wordTok true s = (Tok.no, 13)) := Lib.hid (by rw [HT.out, numTok, hpi])
            have HP := Lib.hid hpc
            clear hpc hpi
            go_wp2_with (first | (go_at_call 34; first | ((with_reducible refine (HD.out _).mono ?_); rintro e w' ⟨rfl, rfl⟩) | ((with_reducible refine (HD2.out _).mono ?_); rintro e w' ⟨rfl, rfl⟩)) | (go_at_call 35; refine (HP.out _ hG1).mono ?_))
            rintro e w2 ⟨v2, N2, rfl, hb⟩
            have hc5 := hc41.below hb (by have := hgb1.size; have := ht1.lt; exact (Array.getElem?_eq_some_iff.1 hc41).1)
            have ht5 := ht1.below hb ht1.lt
            have hgb5 := gb_trans hgb1 (gb_of_below hb _)
            clear r0 r1 r2 r3 fr hc41 ht1 hgb1 hb
            have r0 := hc5.c0
            have r1 := hc5.c1
            have r2 := hc5.c2
            have r3 := hc5.c3
            have fr := hc5.f
            have h4 := put4_cell hc5 Tok.no
            have ht4 := put4_tape (t := Tok.no) ht5 (by omega : b ≠ w.heap.size)
            have hg4 := put4_gb Tok.no hgb5 (Nat.le_refl _)
            go_wp2_with fail
            refine bodyPost_ret (v := .tuple #[Tok.no.v, .int .i64 13]) ?_ rfl ⟨by first | rw [HN.out] | rw [hf, HN.out], ht4, hg4⟩
            exact results4 rfl h4 rfl rfl
end Go.Proofs.YtfndfhhimhcakaaDoor.lx
