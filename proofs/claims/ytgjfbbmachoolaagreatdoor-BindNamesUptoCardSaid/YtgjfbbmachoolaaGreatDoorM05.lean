/-
  The parser's take of an atom that a function must let pass. Conditions: the walk lies there; what the function answers; the package-level variables are laid. The parser's column. Conditions: the package-level variables are laid; the text is below 2^32 bytes. The parser's take, every way; column and name of the walk. Conditions: the walk lies there; how many brackets are open is no great number; the tokens' texts are no great ones. The parser's put: steps laid behind those that are. Conditions: the walk lies there; its steps' row is its own; the new ones lie somewhere. The parser's leaf. Conditions: the walk lies there; its steps' row is its own; the package-level variables are laid; the tokens' texts are no great ones.
-/
import Derived.Test.YtgjfbbmachoolaaGreatDoorM04
import Derived.Maps.AppendAt
import Derived.Maps.OwnOps
import Derived.Maps.OwnSet
import Derived.StringKeys
namespace Go.Proofs.YtgjfbbmachoolaaGreatDoor.lx
open Go.RowKit

/-- what a function of texts answers -/
def Lets (g : Nat) (p : ByteArray → Bool) : Prop :=
 (∀ args w, (callFunc g args).run Tryz.prog w = .ok (.enter g args) w) ∧ ∀ (s : ByteArray) (w : World), PGlob w → s.size < 4294967281 → Calls Tryz.prog g #[.string s] w fun e w' => e = .returned (.bool (p s)) ∧ Below w.heap.size w w'
theorem Took.set {A R : Nat} {rest : List Tok} {fin op : Int} {sv : Value} {t : Tok} {w w2 wr : World} {ao : Option Addr} {cap : Nat} {x : Value} (hA : wr.heap[A]? = some (.cells #[x, .int .i64 fin, .int .i64 op, sv] 119 (0, 0)))
  (hc : rest.length ≤ cap) (hm : cap ≤ 9223372036854775807) (hT : TRow A ao rest wr) (hg : w.grownBy wr (some A)) (h0 : Cell4 w.heap.size Tok.no wr) (h1 : Cell4 R t wr) (hlt : A < w.heap.size) (hR : A < R) :
  Took A R rest fin op sv t w w2 (wr.setCell ⟨A, 0, none⟩ (.slice ao rest.length cap)) :=
 ⟨⟨ao, cap, atw_left hA, hc, hm, hT.other (Nat.le_refl _) _ _⟩, set_gb hg _ _, h0.set (by omega) _ _, h1.set (by omega) _ _⟩

set_option maxHeartbeats 4000000 in
set_option maxRecDepth 100000 in
theorem take_may {A bf g : Nat} {p : ByteArray → Bool} {t : Tok} {rest : List Tok} {fin op : Int} {sv : Value} {w : World} (h : AtW A (t :: rest) fin op sv w) (hG : PGlob w) (hf : Lets g p) (hcf : w.cell? ⟨bf, 0, none⟩ = some (.func (.func g) #[] #[])) (hs : t.s.size < 4294967281)
  (hk : t.k = 3) (hp3 : p t.s = true) :
  Calls Tryz.prog 79 #[.pointer (some ⟨A, 0, none⟩), .int .u8 3, .slice (some ⟨bf, 0, none⟩) 1 1] w fun e w' => e = .returned t.v ∧ AtW A rest fin op sv w' ∧ w.grownBy w' (some A) := by
 have hp := wpeek_any (h.below ((Below.refl _ w).alloc (Nat.le_refl _) (.cells #[.int .u8 0, .string ⟨#[]⟩, .int .i64 0, .int .i64 0] 144)))
 have HT := Lib.hid fun w2 hb => Taken.mk' (w2 := w2) (t := t) h hb
 have HY := Lib.hid fun w2 p y is (hi : is = true) => must_yes (w := w2) (p := p) (why := y) (is := is) hi
 have HGW := Lib.hid fun w2 (hb : Below w.heap.size w w2) => hG.self hb
 have HCF := Lib.hid fun w2 (hb : Below w.heap.size w w2) => keep_cellP hb hcf
 have eg := hf.1
 have HF := Lib.hid fun w2 hG => hf.2 t.s w2 hG hs
 have hbl := World.block_lt_of_cell? w ⟨bf, 0, none⟩ hcf
 rw [hp3] at HF
 rw [show tokAt (t :: rest) fin = t from rfl] at hp
 obtain ⟨tk, ts, tn, ta⟩ := t
 unfold Tok.v at hp
 simp only at hk hp HF ⊢
 subst hk
 clear h hG hf hcf hp3 hs
 go_enter Tryz.func79, Tryz.ntmps79
 go_wp2_with (go_at_call 105; refine hp.mono ?_; rintro e w2 ⟨rfl, hb2⟩; refine Hid.out ?_)
 refine Lib.hid ?_
 have ht := HT.out w2 hb2
 have hlt2 : A < w2.heap.size := ht.at_.lt
 have hRlt := ht.size
 have hlt := ht.lt
 have HTk := Lib.hid ht
 clear hp hb2 HT ht
 go_wp2_with (go_at_call 92; refine (HY.out _ _ _ _ (by first | rfl | simp)).mono ?_; rintro e w3 ⟨rfl, rfl⟩; refine Hid.out ?_)
 refine Lib.hid ?_
 go_wp2_with (go_at_call 92; refine (HY.out _ _ _ _ (by first | rfl | simp)).mono ?_; rintro e w3 ⟨rfl, rfl⟩; refine Hid.out ?_)
 refine Lib.hid ?_
 go_wp2_with fail
 go_loopw [9, 32] (fun _ v wr => ∃ i : Nat, v = .int .i64 i ∧ i ≤ 1 ∧ Below (tkT w2 ⟨3, ts, tn, ta⟩).heap.size (tkT w2 ⟨3, ts, tn, ta⟩) wr) (fun _ v _ => 1 - (intOf v).toNat)
 case atStart => exact ⟨0, rfl, Nat.zero_le _, Below.refl _ _⟩
 case round =>
  obtain ⟨i, rfl, hi, hbr⟩ := hrel
  have hbw : Below w.heap.size w wr := below_self (HTk.out.below.alloc HTk.out.below.size _) hbr
  have hszr : w2.heap.size < wr.heap.size := by have := hbr.size; simp only [tkT] at this; rw [show (w2.alloc _).heap.size = w2.heap.size + 1 by simp] at this; omega
  have hTok : Cell4 w2.heap.size ⟨3, ts, tn, ta⟩ wr := by
   have hc : Cell4 w2.heap.size ⟨3, ts, tn, ta⟩ (tkT w2 ⟨3, ts, tn, ta⟩) := by unfold Cell4; rw [heap_alloc_new]
   exact hc.below hbr (by simp)
  by_cases hi0 : i = 0
  ·
   subst hi0
   have cf := HCF.out wr hbw
   have hcl := HF.out wr (HGW.out wr hbw)
   have q1 := hTok.c1
   clear hTok
   go_wp2_with (go_at_fn g; refine hcl.mono ?_; rintro e w4 ⟨rfl, hb4⟩; refine Hid.out ?_)
   refine Lib.hid ?_
   have hbz := below_then hbr (by have := hbr.size; omega) hb4
   clear hcl cf q1 hb4 hbr hbw
   go_wp2_with (go_at_call 92; refine (HY.out _ _ _ _ (by first | rfl | simp)).mono ?_; rintro e w3 ⟨rfl, rfl⟩; refine Hid.out ?_)
   refine Lib.hid ?_
   go_wp2_with fail
   exact ⟨⟨1, rfl, Nat.le_refl _, hbz⟩, by simp [intOf]⟩
  ·
   obtain rfl : i = 1 := by omega
   have hres : Cell4 w.heap.size Tok.no wr := (HTk.out.res.alloc _).below hbr (by simp; omega)
   obtain ⟨ao, cap, hA, hc, hm, hR⟩ := HTk.out.tk.below hbr
   obtain ⟨b, o, rfl, hbA, d0, d1, d2, d3, hR'⟩ := hR.cons
   have c0 : wr.cell? ⟨A, 0, none⟩ = some (.slice (some ⟨b, o, none⟩) (rest.length + 1) cap) := by rw [Lib.cell_of_heap hA]; rfl
   have f0 : wr.frozen? ⟨A, 0, none⟩ = false := Lib.frozen_of_heap hA 0
   have hgw : w.grownBy wr (some A) := below_gb hbw
   simp only [List.length_cons] at hA hc
   have HA := Lib.hid hA
   have HR := Lib.hid hR'
   have HRS := Lib.hid hres
   have HTO := Lib.hid hTok
   have HGB := Lib.hid hgw
   have hltr : A < wr.heap.size := by omega
   clear hA hR hR' d0 d1 d2 d3 hres hTok hgw hbw hbr
   go_upto_region 14 with fail
   by_cases hcp : cap = 1
   ·
    have hr0 : rest.length = 0 := by omega
    subst hcp
    rw [hr0] at c0
    have HK : Took A w2.heap.size rest fin op sv ⟨3, ts, tn, ta⟩ w w2 (wr.setCell ⟨A, 0, none⟩ (.slice (some ⟨b, o, none⟩) 0 0)) := by
     have h0 := Took.set (ao := some ⟨b, o, none⟩) (cap := 0) (rest := rest) (w2 := w2) HA.out (by omega) (by omega) (.inl hr0) HGB.out HRS.out HTO.out hlt hlt2
     rw [hr0] at h0
     exact h0
    go_upto_region 15 with fail
    have HKT := Lib.hid HK
    obtain ⟨W, hW⟩ : ∃ W, wr.setCell ⟨A, 0, none⟩ (.slice (some ⟨b, o, none⟩) 0 0) = W := ⟨_, rfl⟩
    rw [hW] at HK HKT
    rw [hW]
    have r0 := HK.res.c0
    have r1 := HK.res.c1
    have r2 := HK.res.c2
    have r3 := HK.res.c3
    have fr := HK.res.f
    have q0 := HK.tok.c0
    have q1 := HK.tok.c1
    have q2 := HK.tok.c2
    have q3 := HK.tok.c3
    clear hW HK HTk HA HR HY HRS HTO HGB c0 f0
    go_wp2_with fail
    exact bodyPost_ret (v := (⟨3, ts, tn, ta⟩ : Tok).v) (results1 rfl (put4_cell HKT.out.res ⟨3, ts, tn, ta⟩) rfl) rfl ⟨rfl, HKT.out.at_.put4w hlt ⟨3, ts, tn, ta⟩, put4_gbw HKT.out.gb (Nat.le_refl _) ⟨3, ts, tn, ta⟩⟩
   ·
    have HK : Took A w2.heap.size rest fin op sv ⟨3, ts, tn, ta⟩ w w2 (wr.setCell ⟨A, 0, none⟩ (.slice (some ⟨b, o + 4, none⟩) rest.length (cap - 1))) :=
     Took.set (ao := some ⟨b, o + 4, none⟩) (cap := cap - 1) (rest := rest) (w2 := w2) HA.out (by omega) (by omega) HR.out HGB.out HRS.out HTO.out hlt hlt2
    go_upto_region 15 with fail
    have HKT := Lib.hid HK
    obtain ⟨W, hW⟩ : ∃ W, wr.setCell ⟨A, 0, none⟩ (.slice (some ⟨b, o + 4, none⟩) rest.length (cap - 1)) = W := ⟨_, rfl⟩
    rw [hW] at HK HKT
    rw [hW]
    have r0 := HK.res.c0
    have r1 := HK.res.c1
    have r2 := HK.res.c2
    have r3 := HK.res.c3
    have fr := HK.res.f
    have q0 := HK.tok.c0
    have q1 := HK.tok.c1
    have q2 := HK.tok.c2
    have q3 := HK.tok.c3
    clear hW HK HTk HA HR HY HRS HTO HGB c0 f0
    go_wp2_with fail
    exact bodyPost_ret (v := (⟨3, ts, tn, ta⟩ : Tok).v) (results1 rfl (put4_cell HKT.out.res ⟨3, ts, tn, ta⟩) rfl) rfl ⟨rfl, HKT.out.at_.put4w hlt ⟨3, ts, tn, ta⟩, put4_gbw HKT.out.gb (Nat.le_refl _) ⟨3, ts, tn, ta⟩⟩

set_option maxHeartbeats 4000000 in
set_option maxRecDepth 100000 in
theorem take_not {A bf g : Nat} {p : ByteArray → Bool} {t : Tok} {rest : List Tok} {fin op : Int} {sv : Value} {w : World} (h : AtW A (t :: rest) fin op sv w) (hG : PGlob w) (hf : Lets g p) (hcf : w.cell? ⟨bf, 0, none⟩ = some (.func (.func g) #[] #[])) (hs : t.s.size < 4294967281)
  (hk : t.k = 3) (hp3 : p t.s = false) :
  Calls Tryz.prog 79 #[.pointer (some ⟨A, 0, none⟩), .int .u8 3, .slice (some ⟨bf, 0, none⟩) 1 1] w fun e w' => e = .panicked [flt 13 t.a] ∧ w.grownBy w' (some A) := by
 have hp := wpeek_any (h.below ((Below.refl _ w).alloc (Nat.le_refl _) (.cells #[.int .u8 0, .string ⟨#[]⟩, .int .i64 0, .int .i64 0] 144)))
 have HT := Lib.hid fun w2 hb => Taken.mk' (w2 := w2) (t := t) h hb
 have HY := Lib.hid fun w2 p y is (hi : is = true) => must_yes (w := w2) (p := p) (why := y) (is := is) hi
 have HM := Lib.hid fun w2 is (hi : is = false) (H : AtW A (t :: rest) fin op sv w2) => must_no (why := 13) (is := is) hi H
 have HGW := Lib.hid fun w2 (hb : Below w.heap.size w w2) => hG.self hb
 have HCF := Lib.hid fun w2 (hb : Below w.heap.size w w2) => keep_cellP hb hcf
 have eg := hf.1
 have HF := Lib.hid fun w2 hG => hf.2 t.s w2 hG hs
 rw [hp3] at HF
 rw [show tokAt (t :: rest) fin = t from rfl] at hp HM
 obtain ⟨tk, ts, tn, ta⟩ := t
 unfold Tok.v at hp
 simp only at hk hp HF HM ⊢
 subst hk
 clear h hG hf hcf hp3 hs
 go_enter Tryz.func79, Tryz.ntmps79
 go_wp2_with (go_at_call 105; refine hp.mono ?_; rintro e w2 ⟨rfl, hb2⟩; refine Hid.out ?_)
 refine Lib.hid ?_
 have ht := HT.out w2 hb2
 have hlt2 : A < w2.heap.size := ht.at_.lt
 have HTk := Lib.hid ht
 clear hp hb2 HT ht
 go_wp2_with (go_at_call 92; refine (HY.out _ _ _ _ (by first | rfl | simp)).mono ?_; rintro e w3 ⟨rfl, rfl⟩; refine Hid.out ?_)
 refine Lib.hid ?_
 go_wp2_with (go_at_call 92; refine (HY.out _ _ _ _ (by first | rfl | simp)).mono ?_; rintro e w3 ⟨rfl, rfl⟩; refine Hid.out ?_)
 refine Lib.hid ?_
 go_wp2_with fail
 go_loopw [9, 32] (fun _ v wr => v = .int .i64 0 ∧ Below (tkT w2 ⟨3, ts, tn, ta⟩).heap.size (tkT w2 ⟨3, ts, tn, ta⟩) wr) (fun _ _ _ => 0)
 case atStart => exact ⟨rfl, Below.refl _ _⟩
 case round =>
  obtain ⟨rfl, hbr⟩ := hrel
  have hbw : Below w.heap.size w wr := below_self (HTk.out.below.alloc HTk.out.below.size _) hbr
  have hTok : Cell4 w2.heap.size ⟨3, ts, tn, ta⟩ wr := by
   have hc : Cell4 w2.heap.size ⟨3, ts, tn, ta⟩ (tkT w2 ⟨3, ts, tn, ta⟩) := by unfold Cell4; rw [heap_alloc_new]
   exact hc.below hbr (by simp)
  have cf := HCF.out wr hbw
  have hcl := HF.out wr (HGW.out wr hbw)
  have q1 := hTok.c1
  have HW := Lib.hid (HTk.out.tk.below hbr)
  clear hTok
  go_wp2_with (go_at_fn g; refine hcl.mono ?_; rintro e w4 ⟨rfl, hb4⟩; refine Hid.out ?_)
  refine Lib.hid ?_
  have hbz := below_self hbw hb4
  have HW4 := Lib.hid (HW.out.below hb4)
  clear hcl cf q1 hb4 hbr hbw HW
  go_wp2_with (go_at_call 92; refine (HM.out _ _ (by first | rfl | simp) HW4.out).mono ?_; rintro e w3 ⟨rfl, hb3⟩; refine Hid.out ?_)
  refine Lib.hid ?_
  exact ⟨rfl, rfl, below_gb (below_self hbz hb3)⟩
end Go.Proofs.YtgjfbbmachoolaaGreatDoor.lx
namespace Go.Proofs.YtgjfbbmachoolaaGreatDoor.lx
open Go.RowKit

set_option maxRecDepth 100000 in
theorem colfn_any (s : ByteArray) (w : World) (hG : Glob w) (hs : s.size ≤ 9223372036854775807) :
  Calls Tryz.prog 67 #[.string s] w fun e w' => e = .returned (.bool (!nameR s)) ∧ Below w.heap.size w w' := by
 go_enter Tryz.func67, Tryz.ntmps67
 go_wp2_with (go_at_call 41; refine (name_any s _ hG hs).mono ?_; rintro e w2 ⟨rfl, hb2⟩; refine Hid.out ?_)
 refine Lib.hid ?_
 go_wp2_with fail
 go_ret
 exact ⟨rfl, hb2⟩

set_option maxHeartbeats 4000000 in
set_option maxRecDepth 100000 in
theorem indexFunc_any (b c : Nat) (zs : List ByteArray) (w : World) (hG : Glob w) (hS : SBlk b zs w) (hz : zs.length ≤ 1099511627776) (hsz : ∀ x ∈ zs, x.size ≤ 9223372036854775807) :
  Calls Tryz.prog 96 #[.slice (some ⟨b, 0, none⟩) zs.length c, .func (.func 67) #[] #[]] w fun e w' =>
   ∃ i : Int, e = .returned (.int .i64 i) ∧ decide (0 ≤ i) = (zs.any fun x => !nameR x) ∧ Below w.heap.size w w' := by
 go_enter Tryz.func96, Tryz.ntmps96
 go_wp2_with fail
 go_loopw [8] (fun v wr => ∃ k : Nat, v = .int .i64 k ∧ k ≤ zs.length ∧ Below w.heap.size w wr ∧ Hid ((zs.take k).any (fun x => !nameR x) = false)) (fun v _ => zs.length - (intOf v).toNat)
 case atStart => exact ⟨0, rfl, Nat.zero_le _, Below.refl _ _, Lib.hid rfl⟩
 case round =>
  obtain ⟨k, rfl, hk, hb, HT⟩ := hrel
  have hGr := hG.self hb
  by_cases hlt : k < zs.length
  ·
   obtain ⟨x, hx⟩ : ∃ x, zs[k]? = some x := ⟨_, List.getElem?_eq_getElem hlt⟩
   have hc := (hS.below hb) k hlt
   have hgd : zs.getD k ByteArray.empty = x := by rw [List.getD_eq_getElem?_getD, hx]; rfl
   rw [hgd, Nat.zero_add] at hc
   have hcf := colfn_any x wr hGr (hsz x (List.mem_of_getElem? hx))
   cases hnx : nameR x with
   | false =>
    rw [hnx] at hcf
    have HF : Hid ((zs.any fun x => !nameR x) = true) := Lib.hid (List.any_eq_true.2 ⟨x, List.mem_of_getElem? hx, by rw [hnx]; rfl⟩)
    simp only [Bool.not_false] at hcf
    clear hx hgd hnx HT hsz
    go_wp2_with (go_at_call 67; refine hcf.mono ?_; rintro e w2 ⟨rfl, hb2⟩; refine Hid.out ?_)
    refine Lib.hid ?_
    go_wp2_with fail
    go_ret
    exact ⟨_, rfl, by rw [HF.out]; simp, below_self hb hb2⟩
   | true =>
    rw [hnx] at hcf
    have HN : Hid ((zs.take (k + 1)).any (fun x => !nameR x) = false) := Lib.hid (by rw [List.take_add_one, hx, List.any_append, HT.out]; simp [hnx])
    simp only [Bool.not_true] at hcf
    clear hx hgd hnx HT hsz
    go_wp2_with (go_at_call 67; refine hcf.mono ?_; rintro e w2 ⟨rfl, hb2⟩; refine Hid.out ?_)
    refine Lib.hid ?_
    have hbz := below_self hb hb2
    go_wp2_with fail
    exact ⟨⟨k + 1, by go_num, by omega, hbz, HN⟩, by simp [intOf]; omega⟩
  ·
   have HF : Hid ((zs.any fun x => !nameR x) = false) := Lib.hid (by
    have := HT.out
    rw [List.take_of_length_le (by omega)] at this
    exact this)
   clear HT
   go_wp2_with fail
   go_ret
   exact ⟨_, rfl, by rw [HF.out]; rfl, hb⟩

set_option maxRecDepth 100000 in
theorem containsFunc_any (b c : Nat) (zs : List ByteArray) (w : World) (hG : Glob w) (hS : SBlk b zs w) (hz : zs.length ≤ 1099511627776) (hsz : ∀ x ∈ zs, x.size ≤ 9223372036854775807) :
  Calls Tryz.prog 66 #[.slice (some ⟨b, 0, none⟩) zs.length c, .func (.func 67) #[] #[]] w fun e w' =>
   e = .returned (.bool (zs.any fun x => !nameR x)) ∧ Below w.heap.size w w' := by
 have hi := indexFunc_any b c zs w hG hS hz hsz
 go_enter Tryz.func66, Tryz.ntmps66
 go_wp2_with (go_at_call 96; refine hi.mono ?_; rintro e w2 ⟨i, rfl, hd, hb2⟩; refine Hid.out ?_)
 refine Lib.hid ?_
 have HD := Lib.hid hd
 clear hd hi
 go_wp2_with fail
 go_ret
 exact ⟨ret_bool HD.out, hb2⟩

theorem cutD_mem : ∀ (k : Nat) (s : ByteArray), ∀ x ∈ Lib.splitB ⟨#[46]⟩ 0 k s, x.size ≤ s.size
 | 0, s => by intro x hx; rw [Lib.splitB_zero] at hx; rw [List.mem_singleton.1 hx]; exact Nat.le_refl _
 | k + 1, s => by
  intro x hx
  unfold Lib.splitB at hx
  split at hx
  ·
   rw [List.mem_singleton.1 hx]; exact Nat.le_refl _
  ·
   rcases List.mem_cons.1 hx with rfl | hx
   ·
    rw [ByteArray.size_extract]; omega
   ·
    have := cutD_mem k _ x hx
    rw [ByteArray.size_extract] at this
    omega
theorem cutD_len (k : Nat) : ∀ s : ByteArray, (Lib.splitB ⟨#[46]⟩ 0 k s).length ≤ k + 1 := by
 induction k with
 | zero => intro s; rw [Lib.splitB_zero]; simp
 | succ k ih =>
  intro s
  unfold Lib.splitB
  split
  ·
   simp
  ·
   rw [List.length_cons]; have := ih (s.extract ((Lib.indexB s ⟨#[46]⟩).toNat + (⟨#[46]⟩ : ByteArray).size) s.size); omega

set_option maxHeartbeats 4000000 in
set_option maxRecDepth 100000 in
theorem column_any (s : ByteArray) (w : World) (hG : PGlob w) (hs : s.size < 4294967281) :
  Calls Tryz.prog 42 #[.string s] w fun e w' => e = .returned (.bool (columnR s)) ∧ Below w.heap.size w w' := by
 obtain ⟨m, hm⟩ := hG.mxl
 have hsp := Tryz.strings_SplitN s ⟨#[46]⟩ 2 m w hs hm (by decide) (by decide) (by decide)
 have hcol : columnR s = !(cutD s).any fun x => !nameR x := rfl
 rw [hcol]
 have hlen := cutD_len (min 2 (s.size + 1) - 1) s
 have hmem := cutD_mem (min 2 (s.size + 1) - 1) s
 have hcd : Lib.splitB ⟨#[46]⟩ 0 (min 2 (s.size + 1) - 1) s = cutD s := rfl
 rw [hcd] at hsp hlen hmem
 generalize cutD s = zs at hsp hlen hmem
 have hb : Below w.heap.size w (w.alloc (.cells (Lib.cellsOf zs (min 2 (s.size + 1))) 9)) := (Below.refl _ w).alloc (Nat.le_refl _) _
 have hS : SBlk w.heap.size zs (w.alloc (.cells (Lib.cellsOf zs (min 2 (s.size + 1))) 9)) := sblk_new w zs _ _ (by
  intro j hj
  unfold Lib.cellsOf
  rw [List.getElem?_toArray, List.getElem?_append_left (by simpa using hj), List.getElem?_map, List.getElem?_eq_getElem hj, List.getD_eq_getElem?_getD, List.getElem?_eq_getElem hj]
  rfl)
 have hG1 := hG.glob.self hb
 have hc := containsFunc_any w.heap.size (min 2 (s.size + 1)) zs _ hG1 hS (by omega) (fun x hx => by have := hmem x hx; omega)
 generalize w.alloc (.cells (Lib.cellsOf zs (min 2 (s.size + 1))) 9) = W at hsp hb hc
 clear hS hG1 hmem hlen hm
 go_enter Tryz.func42, Tryz.ntmps42
 go_wp2_with (go_at_call 65; refine hsp.mono ?_; rintro e w2 ⟨rfl, rfl⟩; refine Hid.out ?_)
 refine Lib.hid ?_
 go_wp2_with (go_at_call 66; refine hc.mono ?_; rintro e w3 ⟨rfl, hb3⟩; refine Hid.out ?_)
 refine Lib.hid ?_
 go_wp2_with fail
 go_ret
 exact ⟨rfl, below_self hb hb3⟩
end Go.Proofs.YtgjfbbmachoolaaGreatDoor.lx
namespace Go.Proofs.YtgjfbbmachoolaaGreatDoor.lx
open Go.RowKit

/-- no great number of brackets -/
def OpOk (op : Int) : Prop := -4611686018427387904 ≤ op ∧ op ≤ 4611686018427387904
theorem tok_cons {l : List Tok} {fin k : Int} (h : (tokAt l fin).k = k) (h0 : k ≠ 0) : ∃ t rest, l = t :: rest := by
 cases l with
 | nil => exact absurd h.symm h0
 | cons t rest => exact ⟨t, rest, rfl⟩

theorem takeN_any {A : Nat} {l : List Tok} {fin op k : Int} {sv : Value} {w : World} (h : AtW A l fin op sv w) (ho : OpOk op) (hk : k = 1 ∨ k = 2 ∨ k = 3) :
  Calls Tryz.prog 79 #[.pointer (some ⟨A, 0, none⟩), .int .u8 k, .slice none 0 0] w fun e w' => TakeP A fin sv (tokAt l fin) w (takeR fin k (fun _ => true) l op) e w' := by
 unfold takeR
 by_cases h1 : (tokAt l fin).k = 1 ∧ ¬ op < 8
 ·
  rw [if_pos h1]
  exact (take_deep h h1.1 h1.2).mono fun e w' h => h
 rw [if_neg h1]
 by_cases h2 : (tokAt l fin).k ≠ k
 ·
  rw [if_pos h2]
  exact (take_kind h h1 h2).mono fun e w' h => h
 rw [if_neg h2, if_neg (by simp)]
 have h3 : (tokAt l fin).k = k := Classical.not_not.1 h2
 obtain ⟨t, rest, rfl⟩ := tok_cons h3 (by omega)
 have h4 : t.k = k := h3
 rcases hk with rfl | rfl | rfl
 ·
  rw [if_pos rfl]
  have h8 : op < 8 := by by_cases h8 : op < 8; exact h8; exact absurd ⟨h3, h8⟩ h1
  exact (take_open h h4 h8 ho.1).mono fun e w' h => h
 ·
  rw [if_neg (by decide), if_pos rfl]
  exact (take_close h h4 ho.1 ho.2).mono fun e w' h => h
 ·
  rw [if_neg (by decide), if_neg (by decide)]
  exact (take_atom h h4 (by omega) (by omega)).mono fun e w' h => h

theorem takeF_any {A bf g : Nat} {p : ByteArray → Bool} {l : List Tok} {fin op : Int} {sv : Value} {w : World} (h : AtW A l fin op sv w) (hG : PGlob w) (hf : Lets g p) (hcf : w.cell? ⟨bf, 0, none⟩ = some (.func (.func g) #[] #[])) (hs : ∀ t ∈ l, t.s.size < 4294967281) :
  Calls Tryz.prog 79 #[.pointer (some ⟨A, 0, none⟩), .int .u8 3, .slice (some ⟨bf, 0, none⟩) 1 1] w fun e w' => TakeP A fin sv (tokAt l fin) w (takeR fin 3 p l op) e w' := by
 unfold takeR
 by_cases h1 : (tokAt l fin).k = 1 ∧ ¬ op < 8
 ·
  rw [if_pos h1]
  exact (take_deep h h1.1 h1.2).mono fun e w' h => h
 rw [if_neg h1]
 by_cases h2 : (tokAt l fin).k ≠ 3
 ·
  rw [if_pos h2]
  exact (take_kind h h1 h2).mono fun e w' h => h
 rw [if_neg h2]
 have h3 : (tokAt l fin).k = 3 := Classical.not_not.1 h2
 obtain ⟨t, rest, rfl⟩ := tok_cons h3 (by omega)
 have hst := hs t (List.mem_cons_self)
 cases hp : p (tokAt (t :: rest) fin).s with
 | false =>
  rw [if_pos rfl]
  exact (take_not h hG hf hcf hst h3 hp).mono fun e w' h => h
 | true =>
  rw [if_neg (by simp), if_neg (by decide), if_neg (by decide)]
  exact (take_may h hG hf hcf hst h3 hp).mono fun e w' h => h

theorem lets_column : Lets 42 columnR := ⟨enters_of Tryz.func42 (by kernel_rfl) rfl, fun s w hG hs => column_any s w hG hs⟩
theorem lets_name : Lets 41 nameR := ⟨enters_of Tryz.func41 (by kernel_rfl) rfl, fun s w hG hs => name_any s w hG.glob (by omega)⟩

/-- what an atom comes to -/
def AtomP (A : Nat) (fin : Int) (sv : Value) (w : World) (R : Res (List Tok × Int × ByteArray)) (e : Ending) (w' : World) : Prop :=
 match R with
 | .ok x => e = .returned (.string x.2.2) ∧ AtW A x.1 fin x.2.1 sv w' ∧ w.grownBy w' (some A)
 | .bad y p => e = .panicked [flt y p] ∧ w.grownBy w' (some A)
theorem gb_self {w w1 w2 : World} {A : Nat} (h : Below w.heap.size w w1) (k : w1.grownBy w2 (some A)) : w.grownBy w2 (some A) := gb_trans (below_gb h) k

set_option maxHeartbeats 4000000 in
set_option maxRecDepth 100000 in
theorem wcolumn_any {A : Nat} {l : List Tok} {fin op : Int} {sv : Value} {w : World} (h : AtW A l fin op sv w) (hG : PGlob w) (hs : ∀ t ∈ l, t.s.size < 4294967281) :
  Calls Tryz.prog 83 #[.pointer (some ⟨A, 0, none⟩)] w fun e w' => AtomP A fin sv w (atomR columnR fin l op) e w' := by
 have hb0 : Below w.heap.size w (w.alloc (.cells #[.func (.func 42) #[] #[]] 91)) := (Below.refl _ w).alloc (Nat.le_refl _) _
 have ht := takeF_any (h.below hb0) (hG.self hb0) lets_column (bf := w.heap.size) (by rw [Lib.cell_of_heap (heap_alloc_new _ _)]; rfl) hs
 have hfl := flds (.int .u8 (tokAt l fin).k) (.string (tokAt l fin).s) (.int .i64 (tokAt l fin).n) (.int .i64 (tokAt l fin).a)
 unfold atomR
 generalize takeR fin 3 columnR l op = R at ht
 generalize tokAt l fin = t at ht hfl
 have HB := Lib.hid hb0
 clear h hG hb0 hs
 cases R with
 | ok x =>
  have HT : Hid _ := Lib.hid ht
  clear ht
  go_enter Tryz.func83, Tryz.ntmps83
  go_wp2_with (go_at_call 79; refine HT.out.mono ?_; rintro e w2 ⟨rfl, ha, hg⟩; refine Hid.out ?_)
  refine Lib.hid ?_
  unfold Tok.v
  go_wp2_with fail
  go_ret
  exact ⟨rfl, ha, gb_self HB.out hg⟩
 | bad y p =>
  have HT : Hid _ := Lib.hid ht
  clear ht
  go_enter Tryz.func83, Tryz.ntmps83
  go_wp2_with (go_at_call 79; refine HT.out.mono ?_; rintro e w2 ⟨rfl, hg⟩; refine Hid.out ?_)
  refine Lib.hid ?_
  exact ⟨rfl, rfl, gb_self HB.out hg⟩
set_option maxHeartbeats 4000000 in
set_option maxRecDepth 100000 in
theorem wname_any {A : Nat} {l : List Tok} {fin op : Int} {sv : Value} {w : World} (h : AtW A l fin op sv w) (hG : PGlob w) (hs : ∀ t ∈ l, t.s.size < 4294967281) :
  Calls Tryz.prog 81 #[.pointer (some ⟨A, 0, none⟩)] w fun e w' => AtomP A fin sv w (atomR nameR fin l op) e w' := by
 have hb0 : Below w.heap.size w (w.alloc (.cells #[.func (.func 41) #[] #[]] 91)) := (Below.refl _ w).alloc (Nat.le_refl _) _
 have ht := takeF_any (h.below hb0) (hG.self hb0) lets_name (bf := w.heap.size) (by rw [Lib.cell_of_heap (heap_alloc_new _ _)]; rfl) hs
 have hfl := flds (.int .u8 (tokAt l fin).k) (.string (tokAt l fin).s) (.int .i64 (tokAt l fin).n) (.int .i64 (tokAt l fin).a)
 unfold atomR
 generalize takeR fin 3 nameR l op = R at ht
 generalize tokAt l fin = t at ht hfl
 have HB := Lib.hid hb0
 clear h hG hb0 hs
 cases R with
 | ok x =>
  have HT : Hid _ := Lib.hid ht
  clear ht
  go_enter Tryz.func81, Tryz.ntmps81
  go_wp2_with (go_at_call 79; refine HT.out.mono ?_; rintro e w2 ⟨rfl, ha, hg⟩; refine Hid.out ?_)
  refine Lib.hid ?_
  unfold Tok.v
  go_wp2_with fail
  go_ret
  exact ⟨rfl, ha, gb_self HB.out hg⟩
 | bad y p =>
  have HT : Hid _ := Lib.hid ht
  clear ht
  go_enter Tryz.func81, Tryz.ntmps81
  go_wp2_with (go_at_call 79; refine HT.out.mono ?_; rintro e w2 ⟨rfl, hg⟩; refine Hid.out ?_)
  refine Lib.hid ?_
  exact ⟨rfl, rfl, gb_self HB.out hg⟩
end Go.Proofs.YtgjfbbmachoolaaGreatDoor.lx
namespace Go.Proofs.YtgjfbbmachoolaaGreatDoor.lx
open Go.RowKit

/-- all that lay lies as it did, but the walk's block and its steps' -/
structure Fr (A : Nat) (sv : Value) (w w' : World) : Prop where
 os : w'.os = w.os
 tape : w'.tape = w.tape
 output : w'.output = w.output
 size : w.heap.size ≤ w'.heap.size
 block : ∀ k, k < w.heap.size → k ≠ A → some k ≠ sv.ownBlock → w'.heap[k]? = w.heap[k]?
/-- all below B lies as it did, but the walk's block -/
structure KB (A B : Nat) (w w' : World) : Prop where
 os : w'.os = w.os
 tape : w'.tape = w.tape
 output : w'.output = w.output
 size : w.heap.size ≤ w'.heap.size
 block : ∀ k, k < B → k ≠ A → w'.heap[k]? = w.heap[k]?
theorem KB.refl (A B : Nat) (w : World) : KB A B w w := ⟨rfl, rfl, rfl, Nat.le_refl _, fun _ _ _ => rfl⟩
theorem KB.trans {A B : Nat} {w w1 w2 : World} (h : KB A B w w1) (k : KB A B w1 w2) : KB A B w w2 :=
 ⟨k.os.trans h.os, k.tape.trans h.tape, k.output.trans h.output, Nat.le_trans h.size k.size, fun i hi hne => (k.block i hi hne).trans (h.block i hi hne)⟩
theorem KB.of_gb {A B : Nat} {w w' : World} (h : w.grownBy w' (some A)) (hB : B ≤ w.heap.size) : KB A B w w' :=
 ⟨h.os, h.tape, h.output, h.size, fun k hk hne => h.block k (by omega) (by intro e; injection e; omega)⟩
theorem KB.of_below {A B : Nat} {w w' : World} (h : Below w.heap.size w w') (hB : B ≤ w.heap.size) : KB A B w w' :=
 ⟨h.os, h.tape, h.output, h.size, fun k hk _ => h.block k (by omega)⟩
theorem Fr.kb {A B : Nat} {sv : Value} {w w' : World} (h : Fr A sv w w') (hB : B ≤ w.heap.size) (hs : ∀ k, sv.ownBlock = some k → B ≤ k) : KB A B w w' :=
 ⟨h.os, h.tape, h.output, h.size, fun k hk hne => h.block k (by omega) hne (fun e => by have := hs k e.symm; omega)⟩
theorem Fr.gb {A : Nat} {sv : Value} {w w' : World} (h : w.grownBy w' (some A)) : Fr A sv w w' :=
 ⟨h.os, h.tape, h.output, h.size, fun k hk hne _ => h.block k hk (by intro e; injection e; omega)⟩
theorem KB.gb {A B : Nat} {w w' : World} (h : KB A B w w') (hB : w.heap.size ≤ B) : w.grownBy w' (some A) :=
 ⟨h.os, h.tape, h.output, h.size, fun k hk hne => h.block k (by omega) (fun e => hne (by rw [e]))⟩
theorem KB.glob {A B : Nat} {w w' : World} (h : KB A B w w') (hG : PGlob w) (hA : 11 ≤ A) (hB : 11 ≤ B) : PGlob w' := hG.of h.size fun k hk => h.block k (by omega) (by omega)

theorem own_shape {w : World} {B : Nat} {e : TypeId} {size : Nat} {v : Value} {n : Nat} {xs : List Value} (h : w.ownsRow B e size v n xs) : ∃ ao cap, v = .slice ao n cap := by
 rcases h.2 with ⟨hv, h0⟩ | ⟨g, cap, cur, hv, rest⟩
 ·
  exact ⟨none, 0, by rw [hv, h0]⟩
 ·
  exact ⟨_, cap, hv⟩
theorem infoS : (Tryz.prog.info? 50).map (fun i => (i.zero, i.size, i.bytes)) = some (some (.agg #[.int .u8 0, .string ⟨#[]⟩, .int .i64 0]), 3, 32) := by kernel_rfl
theorem stpCells_one (ts : List Stp) : ∀ u ∈ stpCells ts, u.oneCell' = true := by
 intro u hu
 obtain ⟨t, _, ht⟩ := List.mem_flatMap.1 hu
 simp [Stp.cells] at ht
 rcases ht with rfl | rfl | rfl <;> rfl
theorem own_keepA {w w' : World} {B : Nat} {e : TypeId} {size n : Nat} {v : Value} {xs : List Value} (h : w.ownsRow B e size v n xs) (hb : ∀ k, B ≤ k → k < w.heap.size → w'.heap[k]? = w.heap[k]?) : w'.ownsRow B e size v n xs := by
 refine ⟨h.1, ?_⟩
 rcases h.2 with hn | ⟨g, cap, cur, hv, hg, hc, rest⟩
 ·
  exact .inl hn
 ·
  exact .inr ⟨g, cap, cur, hv, hg, (hb g hg (Array.getElem?_eq_some_iff.1 hc).1).trans hc, rest⟩

theorem atw_steps {w : World} {A : Nat} {fin op : Value} {sv x y : Value} {ty : TypeId} (h : w.heap[A]? = some (.cells #[x, fin, op, sv] ty (0, 0))) : (w.setCell ⟨A, 3, none⟩ y).heap[A]? = some (.cells #[x, fin, op, y] ty (0, 0)) := by
 simp [World.setCell, Array.getElem?_modify, h]
/-- what put comes to -/
def PutP (A B : Nat) (l : List Tok) (fin op : Int) (sv : Value) (w : World) (R : Res (List Stp)) (e : Ending) (w' : World) : Prop :=
 match R with
 | .ok st => e = .returned (.tuple #[]) ∧ (∃ sv', AtW A l fin op sv' w' ∧ w'.ownsRow B 50 3 sv' st.length (stpCells st)) ∧ Fr A sv w w'
 | .bad y p => e = .panicked [flt y p] ∧ Fr A sv w w'

set_option maxHeartbeats 4000000 in
set_option maxRecDepth 100000 in
theorem put_any {A B bn on cn : Nat} {l : List Tok} {fin op : Int} {sv : Value} {st new : List Stp} {w : World} (h : AtW A l fin op sv w) (hAB : A < B) (hB : B ≤ w.heap.size) (hown : w.ownsRow B 50 3 sv st.length (stpCells st))
  (hst : st.length ≤ 64) (hn : new.length ≤ 1099511627776) (hnew : ∀ (j : Nat) u, (stpCells new)[j]? = some u → w.cell? ⟨bn, on + j, none⟩ = some u) :
  Calls Tryz.prog 132 #[.pointer (some ⟨A, 0, none⟩), .slice (some ⟨bn, on, none⟩) new.length cn] w fun e w' => PutP A B l fin op sv w (putR fin l st new) e w' := by
 have hbase := own_base hown
 obtain ⟨so, scap, rfl⟩ := own_shape hown
 have hlt := h.lt
 have h' := h
 obtain ⟨ao, cap, hA, hc, hm, hT⟩ := h'
 have c3 : w.cell? ⟨A, 3, none⟩ = some (.slice so st.length scap) := by rw [Lib.cell_of_heap hA]; rfl
 have f3 : w.frozen? ⟨A, 3, none⟩ = false := Lib.frozen_of_heap hA 3
 unfold putR
 by_cases h64 : st.length + new.length ≤ 64
 ·
  rw [if_pos h64]
  have HY := Lib.hid fun w2 p y is (hi : is = true) => must_yes (w := w2) (p := p) (why := y) (is := is) hi
  have HA := Lib.hid hA
  have HT := Lib.hid hT
  have HB := Lib.hid hbase
  have h64I : (st.length : Int) + (new.length : Int) ≤ 64 := by omega
  clear hA hT h hbase
  go_enter Tryz.func132, Tryz.ntmps132
  go_wp2_with (go_at_call 92; refine (HY.out _ _ _ _ (by first | rfl | (simp; omega))).mono ?_; rintro e w3 ⟨rfl, rfl⟩; refine Hid.out ?_)
  refine Lib.hid ?_
  obtain ⟨i0, hi0, hz0, hz1, hz2⟩ := info_parts infoS
  go_wp2_with (at_builtin; refine wpList_append_own_at _ rfl _ _ 23 rfl B 50 i0 _ 3 32 Tryz.underlying23 hi0 hz0 hz1 hz2 rfl (by decide) (.slice so st.length scap) st.length (stpCells st) rfl hown ⟨bn, on, none⟩ new.length cn (stpCells new) rfl (stpCells_length new) ?c1 (stpCells_one new) ?c3 ?c4 hB ?_)
  case c1 =>
   intro j u hj
   have := hnew j u hj
   unfold Addr.add
   by_cases hj0 : j = 0
   ·
    subst hj0; simpa using this
   ·
    simpa [hj0] using this
  case c3 => unfold maxLen; omega
  case c4 => omega
  intro v' w3 hown3 hg3 _ _
  obtain ⟨so', scap', rfl⟩ := own_shape hown3
  have hA3 : w3.heap[A]? = _ := (hg3.block A hlt (fun e => by have := HB.out A e.symm; omega)).trans HA.out
  have c33 : w3.cell? ⟨A, 3, none⟩ = some (.slice so st.length scap) := by rw [Lib.cell_of_heap hA3]; rfl
  have f33 : w3.frozen? ⟨A, 3, none⟩ = false := Lib.frozen_of_heap hA3 3
  have HA3 := Lib.hid hA3
  have HG3 := Lib.hid hg3
  have HO := Lib.hid hown3
  clear hown hown3 hg3 hA3 hi0 hz0 hz1 hz2 hnew c3 f3
  go_wp2_with fail
  refine bodyPost_end (results_none rfl _ _ _) rfl ⟨rfl, ⟨_, ⟨ao, cap, atw_steps HA3.out, hc, hm, (HT.out.kept fun k hk => HG3.out.block k (by omega) (fun e => by have := HB.out k e.symm; omega)).other (Nat.le_refl _) _ _⟩, ?_⟩, ?_⟩
  ·
   have e : (st ++ new).length = st.length + new.length := List.length_append
   rw [e, stpCells_append]
   exact own_keepA HO.out fun k hk _ => Below.heap_setCell _ _ _ _ (by show k ≠ A; omega)
  ·
   exact ⟨HG3.out.os, HG3.out.tape, HG3.out.output, by have := HG3.out.size; simpa [World.setCell] using this, fun k hk hne hns => (Below.heap_setCell _ _ _ _ (by show k ≠ A; omega)).trans (HG3.out.block k hk hns)⟩
 ·
  rw [if_neg h64]
  have HM := Lib.hid fun is (hi : is = false) => must_no (why := 3) (is := is) hi h
  have h64I : ¬ (st.length : Int) + (new.length : Int) ≤ 64 := by omega
  clear hA hT h hown hbase hnew
  go_enter Tryz.func132, Tryz.ntmps132
  go_wp2_with (go_at_call 92; refine (HM.out _ (by first | rfl | (simp; omega))).mono ?_; rintro e w3 ⟨rfl, hb3⟩; refine Hid.out ?_)
  refine Lib.hid ?_
  exact ⟨rfl, rfl, Fr.gb (below_gb hb3)⟩
end Go.Proofs.YtgjfbbmachoolaaGreatDoor.lx
namespace Go.Proofs.YtgjfbbmachoolaaGreatDoor.lx
open Go.RowKit Go.Maps

/-- the constants -/
def constK (s : ByteArray) : Option Int := if s = nullB then some 1 else if s = trueB then some 2 else if s = falseB then some 3 else none
theorem leafS_const {t : Tok} (h : t.k = 3) {k : Int} (hc : constK t.s = some k) : leafS t = some ⟨k, ⟨#[]⟩, 0⟩ := by
 unfold constK at hc
 unfold leafS
 rw [if_neg (by omega), if_neg (by omega), if_pos h]
 split at hc
 ·
  rename_i e; injection hc with hc; rw [if_pos e, hc]
 split at hc
 ·
  rename_i e1 e; injection hc with hc; rw [if_neg e1, if_pos e, hc]
 split at hc
 ·
  rename_i e1 e2 e; injection hc with hc; rw [if_neg e1, if_neg e2, if_pos e, hc]
 ·
  cases hc
theorem leafS_atom {t : Tok} (h : t.k = 3) (hc : constK t.s = none) : leafS t = if columnR t.s then some ⟨6, t.s, 0⟩ else none := by
 unfold constK at hc
 unfold leafS
 rw [if_neg (by omega), if_neg (by omega), if_pos h]
 split at hc
 ·
  cases hc
 split at hc
 ·
  cases hc
 split at hc
 ·
  cases hc
 ·
  rename_i e1 e2 e3; rw [if_neg e1, if_neg e2, if_neg e3]
def litS (s : ByteArray) : Lit := .string s.data.toList
theorem litS_ne {a b : ByteArray} (h : a ≠ b) : litS a ≠ litS b := by
 intro e
 injection e with e
 exact h (ByteArray.ext (Array.toList_inj.1 e))
def constD : DataW Unit := (((DataW.map []).put (litS nullB) (.lit (.int .u8 1))).put (litS trueB) (.lit (.int .u8 2))).put (litS falseB) (.lit (.int .u8 3))
theorem constD_has (s : ByteArray) : Maps.has constD (litS s) = (constK s).isSome := by
 unfold constK
 by_cases h1 : s = nullB
 ·
  subst h1; rfl
 by_cases h2 : s = trueB
 ·
  subst h2; rfl
 by_cases h3 : s = falseB
 ·
  subst h3; rfl
 rw [if_neg h1, if_neg h2, if_neg h3]
 unfold constD
 rw [has_put_other (litS_ne h3), has_put_other (litS_ne h2), has_put_other (litS_ne h1)]
 rfl
theorem constD_at (s : ByteArray) : constD.atKey (litS s) (.lit (.int .u8 0)) = .lit (.int .u8 ((constK s).getD 0)) := by
 by_cases hh : (constK s).isSome = true
 ·
  unfold constK at hh ⊢
  by_cases h1 : s = nullB
  ·
   subst h1; rfl
  by_cases h2 : s = trueB
  ·
   subst h2; rfl
  by_cases h3 : s = falseB
  ·
   subst h3; rfl
  rw [if_neg h1, if_neg h2, if_neg h3] at hh
  cases hh
 ·
  rw [atKey_of_not_has (by rw [constD_has]; simpa using hh)]
  cases h : constK s with
  | none => rfl
  | some x => rw [h] at hh; exact absurd rfl hh
theorem law_str : Keyed Tryz.prog 9 := string_keyed Tryz.underlying9
theorem zero_sk (w : World) : (zeroValue 48).run Tryz.prog w = .ok (.int .u8 0) w := by kernel_rfl
/-- the map of constants, laid in a new block -/
theorem const_laid (w : World) : ∃ w1 w2 w3,
  (Instr.mapUpdate 214 (.map (some w.heap.size)) (.string ⟨#[110, 117, 108, 108]⟩) (.int .u8 1)).run Tryz.prog (w.alloc (.map #[] 0)) = .ok () w1 ∧
  (Instr.mapUpdate 214 (.map (some w.heap.size)) (.string ⟨#[116, 114, 117, 101]⟩) (.int .u8 2)).run Tryz.prog w1 = .ok () w2 ∧
  (Instr.mapUpdate 214 (.map (some w.heap.size)) (.string ⟨#[102, 97, 108, 115, 101]⟩) (.int .u8 3)).run Tryz.prog w2 = .ok () w3 ∧
  w3.ownsMap Tryz.prog 9 (plainElem Tryz.prog 48) w.heap.size 3 constD ∧ Below w.heap.size w w3 := by
 have u := Tryz.underlying214
 have ui := Tryz.underlying9
 have ue := Tryz.underlying48
 have h0 := World.ownsMap_made (H := Unit) w Tryz.prog 9 (plainElem Tryz.prog 48)
 obtain ⟨w1, r1, o1, g1⟩ := h0.update law_str u (by unfold maxLen; omega) (Go.WideMaps.keyOf_string_mk ui (s := nullB) (by decide)) (plainElem_int ue (a := 1) (by decide))
 obtain ⟨w2, r2, o2, g2⟩ := o1.update law_str u (by unfold maxLen; omega) (Go.WideMaps.keyOf_string_mk ui (s := trueB) (by decide)) (plainElem_int ue (a := 2) (by decide))
 obtain ⟨w3, r3, o3, g3⟩ := o2.update law_str u (by unfold maxLen; omega) (Go.WideMaps.keyOf_string_mk ui (s := falseB) (by decide)) (plainElem_int ue (a := 3) (by decide))
 refine ⟨w1, w2, w3, r1, r2, r3, o3, ?_⟩
 have g := gb_trans (gb_trans (gb_trans (World.grownBy_alloc w _ (some w.heap.size)) g1) g2) g3
 exact gb_below g (Nat.le_refl _) (Nat.le_refl _)

theorem own_bel {w w' : World} {B : Nat} {e : TypeId} {size n : Nat} {v : Value} {xs : List Value} (h : w.ownsRow B e size v n xs) (hb : Below w.heap.size w w') : w'.ownsRow B e size v n xs :=
 own_keepA h fun k _ hk => hb.block k hk
theorem own_gbA {w w' : World} {A B : Nat} {e : TypeId} {size n : Nat} {v : Value} {xs : List Value} (h : w.ownsRow B e size v n xs) (hb : w.grownBy w' (some A)) (hAB : A < B) : w'.ownsRow B e size v n xs :=
 own_keepA h fun k hB hk => hb.block k hk (by intro e; injection e; omega)
theorem own_lt {w : World} {B : Nat} {e : TypeId} {size n : Nat} {v : Value} {xs : List Value} (h : w.ownsRow B e size v n xs) : ∀ k, v.ownBlock = some k → k < w.heap.size := by
 intro k hk
 rcases h.2 with ⟨hv, _⟩ | ⟨g, cap, cur, hv, _, hg, _⟩
 ·
  rw [hv] at hk; cases hk
 ·
  rw [hv] at hk; injection hk with hk; subst hk; exact (Array.getElem?_eq_some_iff.1 hg).1
/-- one step, laid anew and put -/
theorem put_new {A B : Nat} {l : List Tok} {fin op : Int} {sv : Value} {st : List Stp} {w : World} (x : Stp) (h : AtW A l fin op sv w) (hAB : A < B) (hB : B ≤ w.heap.size) (hown : w.ownsRow B 50 3 sv st.length (stpCells st)) (hst : st.length ≤ 64) :
  Calls Tryz.prog 132 #[.pointer (some ⟨A, 0, none⟩), .slice (some ⟨w.heap.size, 0, none⟩) 1 1] (w.alloc (.cells #[.int .u8 x.k, .string x.s, .int .i64 x.n] 50)) fun e w' =>
   PutP A B l fin op sv (w.alloc (.cells #[.int .u8 x.k, .string x.s, .int .i64 x.n] 50)) (putR fin l st [x]) e w' := by
 have hb : Below w.heap.size w (w.alloc (.cells #[.int .u8 x.k, .string x.s, .int .i64 x.n] 50)) := (Below.refl _ w).alloc (Nat.le_refl _) _
 refine put_any (h.below hb) hAB (by simp; omega) (own_bel hown hb) hst (new := [x]) (by simp) (fun j u hj => ?_)
 rw [Lib.cell_of_heap (heap_alloc_new _ _), Nat.zero_add]
 match j, hj with
 | 0, hj => simpa [stpCells, Stp.cells] using hj
 | 1, hj => simpa [stpCells, Stp.cells] using hj
 | 2, hj => simpa [stpCells, Stp.cells] using hj
 | (j + 3), hj => simp [stpCells, Stp.cells] at hj

/-- what an expression comes to -/
def ExprP (A B : Nat) (fin : Int) (w : World) (R : Res PS) (e : Ending) (w' : World) : Prop :=
 match R with
 | .ok x => e = .returned (.tuple #[]) ∧ (∃ sv', AtW A x.1 fin x.2.1 sv' w' ∧ w'.ownsRow B 50 3 sv' x.2.2.length (stpCells x.2.2)) ∧ KB A B w w'
 | .bad y p => e = .panicked [flt y p] ∧ KB A B w w'

/-- what holds in leaf behind its look at the next token -/
structure Leafed (A B : Nat) (l : List Tok) (fin op : Int) (sv : Value) (st : List Stp) (w w5 : World) : Prop where
 at_ : AtW A l fin op sv w5
 below : Below w.heap.size w w5
 own : w5.ownsRow B 50 3 sv st.length (stpCells st)
 hB : B ≤ w5.heap.size
 hAB : A < B
 glob : PGlob w5
theorem Leafed.next {A B : Nat} {l : List Tok} {fin op : Int} {sv : Value} {st : List Stp} {w w5 w6 : World} (h : Leafed A B l fin op sv st w w5) (hb : Below w5.heap.size w5 w6) : Leafed A B l fin op sv st w w6 :=
 ⟨h.at_.below hb, below_self h.below hb, own_bel h.own hb, Nat.le_trans h.hB hb.size, h.hAB, h.glob.self hb⟩
theorem Leafed.tk {A B : Nat} {l : List Tok} {fin op : Int} {sv : Value} {st : List Stp} {w w5 : World} (h : Leafed A B l fin op sv st w w5) (o : Obj) : Leafed A B l fin op sv st w (w5.alloc o) :=
 h.next ((Below.refl _ _).alloc (Nat.le_refl _) _)
/-- the end of leaf: the token taken behind the put -/
structure Putted (A B T : Nat) (l : List Tok) (fin op : Int) (sv : Value) (st : List Stp) (t : Tok) (w w7 : World) : Prop where
 at_ : AtW A l fin op sv w7
 own : w7.ownsRow B 50 3 sv st.length (stpCells st)
 kb : KB A B w w7
 tok : Cell4 T t w7
 hAB : A < B
theorem Leafed.putted {A B : Nat} {l : List Tok} {fin op : Int} {sv sv' : Value} {st st' : List Stp} {t : Tok} {x : Stp} {w w5 w7 : World} (h : Leafed A B l fin op sv st w w5) (hBw : B ≤ w.heap.size)
  (ha : AtW A l fin op sv' w7) (ho : w7.ownsRow B 50 3 sv' st'.length (stpCells st')) (hf : Fr A sv ((tkT w5 t).alloc (.cells #[.int .u8 x.k, .string x.s, .int .i64 x.n] 50)) w7) : Putted A B w5.heap.size l fin op sv' st' t w w7 := by
 have h1 := (h.tk (.cells #[.int .u8 t.k, .string t.s, .int .i64 t.n, .int .i64 t.a] 144)).tk (.cells #[.int .u8 x.k, .string x.s, .int .i64 x.n] 50)
 refine ⟨ha, ho, (KB.of_below h1.below hBw).trans (hf.kb h1.hB (own_base h1.own)), ?_, h.hAB⟩
 have hc : Cell4 w5.heap.size t ((tkT w5 t).alloc (.cells #[.int .u8 x.k, .string x.s, .int .i64 x.n] 50)) := by
  have hc : Cell4 w5.heap.size t (tkT w5 t) := by unfold Cell4; rw [heap_alloc_new]
  exact hc.alloc _
 have hlt := own_lt h.own
 have hA := h.at_.lt
 exact (hf.block _ (Array.getElem?_eq_some_iff.1 hc).1 (by omega) (fun e => by have := hlt _ e.symm; omega)).trans hc
theorem Putted.done {A B T : Nat} {l rest : List Tok} {fin op op' : Int} {sv : Value} {st : List Stp} {t : Tok} {w w7 w8 : World} (h : Putted A B T l fin op sv st t w w7) (ha : AtW A rest fin op' sv w8) (hg : w7.grownBy w8 (some A)) (hB : B ≤ w.heap.size) :
  (∃ sv', AtW A rest fin op' sv' w8 ∧ w8.ownsRow B 50 3 sv' st.length (stpCells st)) ∧ KB A B w w8 :=
 ⟨⟨sv, ha, own_gbA h.own hg h.hAB⟩, h.kb.trans (KB.of_gb hg (by have := h.kb.size; omega))⟩
theorem alloc_sz (w : World) (o : Obj) : (w.alloc o).heap.size = w.heap.size + 1 := by simp
theorem put_newT {A B : Nat} {l : List Tok} {fin op : Int} {sv : Value} {st : List Stp} {t : Tok} {w w5 : World} (x : Stp) (H : Leafed A B l fin op sv st w w5) (hst : st.length ≤ 64) :
  Calls Tryz.prog 132 #[.pointer (some ⟨A, 0, none⟩), .slice (some ⟨w5.heap.size + 1, 0, none⟩) 1 1] ((tkT w5 t).alloc (.cells #[.int .u8 x.k, .string x.s, .int .i64 x.n] 50)) fun e w' =>
   PutP A B l fin op sv ((tkT w5 t).alloc (.cells #[.int .u8 x.k, .string x.s, .int .i64 x.n] 50)) (putR fin l st [x]) e w' := by
 have H1 := H.tk (.cells #[.int .u8 t.k, .string t.s, .int .i64 t.n, .int .i64 t.a] 144)
 have := put_new x H1.at_ H1.hAB H1.hB H1.own hst
 rw [alloc_sz] at this
 exact this
theorem Leafed.putkb {A B : Nat} {l : List Tok} {fin op : Int} {sv : Value} {st : List Stp} {t : Tok} {x : Stp} {w w5 w7 : World} (h : Leafed A B l fin op sv st w w5) (hBw : B ≤ w.heap.size)
  (hf : Fr A sv ((tkT w5 t).alloc (.cells #[.int .u8 x.k, .string x.s, .int .i64 x.n] 50)) w7) : KB A B w w7 := by
 have h1 := (h.tk (.cells #[.int .u8 t.k, .string t.s, .int .i64 t.n, .int .i64 t.a] 144)).tk (.cells #[.int .u8 x.k, .string x.s, .int .i64 x.n] 50)
 exact (KB.of_below h1.below hBw).trans (hf.kb h1.hB (own_base h1.own))
theorem Leafed.putted6 {A B T : Nat} {l : List Tok} {fin op : Int} {sv sv' : Value} {st st' : List Stp} {t : Tok} {x : Stp} {w w6 w7 : World} (h : Leafed A B l fin op sv st w w6) (hBw : B ≤ w.heap.size) (hT : Cell4 T t w6) (hTA : A < T) (hTo : ∀ k, sv.ownBlock = some k → k < T)
  (ha : AtW A l fin op sv' w7) (ho : w7.ownsRow B 50 3 sv' st'.length (stpCells st')) (hf : Fr A sv (w6.alloc (.cells #[.int .u8 x.k, .string x.s, .int .i64 x.n] 50)) w7) : Putted A B T l fin op sv' st' t w w7 := by
 have h1 := h.tk (.cells #[.int .u8 x.k, .string x.s, .int .i64 x.n] 50)
 refine ⟨ha, ho, (KB.of_below h1.below hBw).trans (hf.kb h1.hB (own_base h1.own)), ?_, h.hAB⟩
 have hc := hT.alloc (.cells #[.int .u8 x.k, .string x.s, .int .i64 x.n] 50)
 exact (hf.block _ (Array.getElem?_eq_some_iff.1 hc).1 (by omega) (fun e => by have := hTo _ e.symm; omega)).trans hc
theorem Leafed.putkb6 {A B : Nat} {l : List Tok} {fin op : Int} {sv : Value} {st : List Stp} {x : Stp} {w w6 w7 : World} (h : Leafed A B l fin op sv st w w6) (hBw : B ≤ w.heap.size)
  (hf : Fr A sv (w6.alloc (.cells #[.int .u8 x.k, .string x.s, .int .i64 x.n] 50)) w7) : KB A B w w7 := by
 have h1 := h.tk (.cells #[.int .u8 x.k, .string x.s, .int .i64 x.n] 50)
 exact (KB.of_below h1.below hBw).trans (hf.kb h1.hB (own_base h1.own))

set_option maxHeartbeats 4000000 in
set_option maxRecDepth 100000 in
theorem leaf_int {A B : Nat} {t : Tok} {rest : List Tok} {fin op : Int} {sv : Value} {st : List Stp} {w : World} (h : AtW A (t :: rest) fin op sv w) (hAB : A < B) (hB : B ≤ w.heap.size) (hown : w.ownsRow B 50 3 sv st.length (stpCells st)) (hst : st.length ≤ 64) (hG : PGlob w)
  (hk : t.k = 4) :
  Calls Tryz.prog 129 #[.pointer (some ⟨A, 0, none⟩)] w fun e w' => ExprP A B fin w ((putR fin (t :: rest) st [⟨4, ⟨#[]⟩, t.n⟩]).then fun st' => .ok (rest, op, st')) e w' := by
 have hmm := @run_makeMap Tryz.prog
 obtain ⟨w1, w2, w3, r1, r2, r3, ho, hb4⟩ := const_laid w
 have hL : Leafed A B (t :: rest) fin op sv st w w3 := ⟨h.below hb4, hb4, own_bel hown hb4, Nat.le_trans hB hb4.size, hAB, hG.self hb4⟩
 have hp := wpeek_any hL.at_
 rw [show tokAt (t :: rest) fin = t from rfl] at hp
 have HL := Lib.hid fun w5 (hb : Below w3.heap.size w3 w5) => hL.next hb
 have HBW := Lib.hid hB
 clear h hown hL hG
 obtain ⟨R, hR⟩ : ∃ R, putR fin (t :: rest) st [⟨4, ⟨#[]⟩, t.n⟩] = R := ⟨_, rfl⟩
 rw [hR]
 have HP := Lib.hid fun w5 (H : Leafed A B (t :: rest) fin op sv st w w5) => put_newT (t := t) (⟨4, ⟨#[]⟩, t.n⟩) H hst
 rw [hR] at HP
 obtain ⟨tk, ts, tn, ta⟩ := t
 unfold Tok.v at hp
 simp only at hk hp HP
 subst hk
 clear hR
 cases R with
 | ok st2 =>
  go_enter Tryz.func129, Tryz.ntmps129
  go_wp2_with (go_at_call 105; refine hp.mono ?_; rintro e w5 ⟨rfl, hb5⟩; refine Hid.out ?_)
  refine Lib.hid ?_
  have hl := HL.out w5 hb5
  have hlt5 : A < w5.heap.size := hl.at_.lt
  have HLF := Lib.hid hl
  clear hp hb5 HL hl r1 r2 r3 hmm
  go_wp2_with (go_at_call 132; refine (HP.out _ HLF.out).mono ?_; rintro e w7 ⟨rfl, ⟨sv2, ha, ho2⟩, hf⟩; refine Hid.out ?_)
  refine Lib.hid ?_
  have hpt := HLF.out.putted (x := ⟨4, ⟨#[]⟩, tn⟩) HBW.out ha ho2 hf
  have q0 := hpt.tok.c0
  have HPT := Lib.hid hpt
  have ht := take_atom hpt.at_ (k := 4) rfl (by simp only; omega) (by simp only; omega)
  clear ha ho2 hf hpt HLF
  go_wp2_with (go_at_call 79; refine ht.mono ?_; rintro e w8 ⟨rfl, ha8, hg8⟩; refine Hid.out ?_)
  refine Lib.hid ?_
  go_wp2_with fail
  exact bodyPost_end (results_none rfl _ _ _) rfl ⟨rfl, HPT.out.done ha8 hg8 HBW.out⟩
 | bad y p =>
  go_enter Tryz.func129, Tryz.ntmps129
  go_wp2_with (go_at_call 105; refine hp.mono ?_; rintro e w5 ⟨rfl, hb5⟩; refine Hid.out ?_)
  refine Lib.hid ?_
  have hl := HL.out w5 hb5
  have hlt5 : A < w5.heap.size := hl.at_.lt
  have HLF := Lib.hid hl
  clear hp hb5 HL hl r1 r2 r3 hmm
  go_wp2_with (go_at_call 132; refine (HP.out _ HLF.out).mono ?_; rintro e w7 ⟨rfl, hf⟩; refine Hid.out ?_)
  refine Lib.hid ?_
  exact ⟨rfl, rfl, HLF.out.putkb (t := ⟨4, ts, tn, ta⟩) (x := ⟨4, ⟨#[]⟩, tn⟩) HBW.out hf⟩

set_option maxHeartbeats 4000000 in
set_option maxRecDepth 100000 in
theorem leaf_text {A B : Nat} {t : Tok} {rest : List Tok} {fin op : Int} {sv : Value} {st : List Stp} {w : World} (h : AtW A (t :: rest) fin op sv w) (hAB : A < B) (hB : B ≤ w.heap.size) (hown : w.ownsRow B 50 3 sv st.length (stpCells st)) (hst : st.length ≤ 64) (hG : PGlob w)
  (hk : t.k = 5) :
  Calls Tryz.prog 129 #[.pointer (some ⟨A, 0, none⟩)] w fun e w' => ExprP A B fin w ((putR fin (t :: rest) st [⟨5, t.s, 0⟩]).then fun st' => .ok (rest, op, st')) e w' := by
 have hmm := @run_makeMap Tryz.prog
 obtain ⟨w1, w2, w3, r1, r2, r3, ho, hb4⟩ := const_laid w
 have hL : Leafed A B (t :: rest) fin op sv st w w3 := ⟨h.below hb4, hb4, own_bel hown hb4, Nat.le_trans hB hb4.size, hAB, hG.self hb4⟩
 have hp := wpeek_any hL.at_
 rw [show tokAt (t :: rest) fin = t from rfl] at hp
 have HL := Lib.hid fun w5 (hb : Below w3.heap.size w3 w5) => hL.next hb
 have HBW := Lib.hid hB
 clear h hown hL hG
 obtain ⟨R, hR⟩ : ∃ R, putR fin (t :: rest) st [⟨5, t.s, 0⟩] = R := ⟨_, rfl⟩
 rw [hR]
 have HP := Lib.hid fun w5 (H : Leafed A B (t :: rest) fin op sv st w w5) => put_newT (t := t) (⟨5, t.s, 0⟩) H hst
 rw [hR] at HP
 obtain ⟨tk, ts, tn, ta⟩ := t
 unfold Tok.v at hp
 simp only at hk hp HP
 subst hk
 clear hR
 cases R with
 | ok st2 =>
  go_enter Tryz.func129, Tryz.ntmps129
  go_wp2_with (go_at_call 105; refine hp.mono ?_; rintro e w5 ⟨rfl, hb5⟩; refine Hid.out ?_)
  refine Lib.hid ?_
  have hl := HL.out w5 hb5
  have hlt5 : A < w5.heap.size := hl.at_.lt
  have HLF := Lib.hid hl
  clear hp hb5 HL hl r1 r2 r3 hmm
  go_wp2_with (go_at_call 132; refine (HP.out _ HLF.out).mono ?_; rintro e w7 ⟨rfl, ⟨sv2, ha, ho2⟩, hf⟩; refine Hid.out ?_)
  refine Lib.hid ?_
  have hpt := HLF.out.putted (x := ⟨5, ts, 0⟩) HBW.out ha ho2 hf
  have q0 := hpt.tok.c0
  have HPT := Lib.hid hpt
  have ht := take_atom hpt.at_ (k := 5) rfl (by simp only; omega) (by simp only; omega)
  clear ha ho2 hf hpt HLF
  go_wp2_with (go_at_call 79; refine ht.mono ?_; rintro e w8 ⟨rfl, ha8, hg8⟩; refine Hid.out ?_)
  refine Lib.hid ?_
  go_wp2_with fail
  exact bodyPost_end (results_none rfl _ _ _) rfl ⟨rfl, HPT.out.done ha8 hg8 HBW.out⟩
 | bad y p =>
  go_enter Tryz.func129, Tryz.ntmps129
  go_wp2_with (go_at_call 105; refine hp.mono ?_; rintro e w5 ⟨rfl, hb5⟩; refine Hid.out ?_)
  refine Lib.hid ?_
  have hl := HL.out w5 hb5
  have hlt5 : A < w5.heap.size := hl.at_.lt
  have HLF := Lib.hid hl
  clear hp hb5 HL hl r1 r2 r3 hmm
  go_wp2_with (go_at_call 132; refine (HP.out _ HLF.out).mono ?_; rintro e w7 ⟨rfl, hf⟩; refine Hid.out ?_)
  refine Lib.hid ?_
  exact ⟨rfl, rfl, HLF.out.putkb (t := ⟨5, ts, tn, ta⟩) (x := ⟨5, ts, 0⟩) HBW.out hf⟩

set_option maxHeartbeats 4000000 in
set_option maxRecDepth 100000 in
theorem leaf_const {A B : Nat} {t : Tok} {rest : List Tok} {fin op : Int} {sv : Value} {st : List Stp} {w : World} (h : AtW A (t :: rest) fin op sv w) (hAB : A < B) (hB : B ≤ w.heap.size) (hown : w.ownsRow B 50 3 sv st.length (stpCells st)) (hst : st.length ≤ 64) (hG : PGlob w)
  {k : Int} (hk : t.k = 3) (hc : constK t.s = some k) (hsz : t.s.size < 4294967281) :
  Calls Tryz.prog 129 #[.pointer (some ⟨A, 0, none⟩)] w fun e w' => ExprP A B fin w ((putR fin (t :: rest) st [⟨k, ⟨#[]⟩, 0⟩]).then fun st' => .ok (rest, op, st')) e w' := by
 have hmm := @run_makeMap Tryz.prog
 obtain ⟨w1, w2, w3, r1, r2, r3, ho, hb4⟩ := const_laid w
 have hL : Leafed A B (t :: rest) fin op sv st w w3 := ⟨h.below hb4, hb4, own_bel hown hb4, Nat.le_trans hB hb4.size, hAB, hG.self hb4⟩
 have hp := wpeek_any hL.at_
 rw [show tokAt (t :: rest) fin = t from rfl] at hp
 have HL := Lib.hid fun w5 (hb : Below w3.heap.size w3 w5) => hL.next hb
 have HBW := Lib.hid hB
 clear h hown hL hG
 obtain ⟨R, hR⟩ : ∃ R, putR fin (t :: rest) st [⟨k, ⟨#[]⟩, 0⟩] = R := ⟨_, rfl⟩
 rw [hR]
 have HP := Lib.hid fun w5 (H : Leafed A B (t :: rest) fin op sv st w w5) => put_newT (t := t) (⟨k, ⟨#[]⟩, 0⟩) H hst
 rw [hR] at HP
 obtain ⟨tk, ts, tn, ta⟩ := t
 unfold Tok.v at hp
 have HSZ : Hid (ts.size ≤ maxLen) := Lib.hid (by simp only at hsz; unfold maxLen; omega)
 have HHAS : Hid (Maps.has constD (.string ts.data.toList) = true) := Lib.hid ((constD_has ts).trans (by simp only at hc; rw [hc]; rfl))
 have HCC : Hid (∀ c : Int, constD.atKey (.string ts.data.toList) (.lit (.int .u8 0)) = .lit (.int .u8 c) → c = k) := Lib.hid (fun c hat => by
  rw [show Lit.string ts.data.toList = litS ts from rfl, constD_at] at hat
  simp only at hc
  rw [hc] at hat
  injection hat with hat
  injection hat with _ hat
  exact hat.symm)
 simp only at hk hp HP
 subst hk
 clear hc hsz
 clear hR
 cases R with
 | ok st2 =>
  go_enter Tryz.func129, Tryz.ntmps129
  go_wp2_with (go_at_call 105; refine hp.mono ?_; rintro e w5 ⟨rfl, hb5⟩; refine Hid.out ?_)
  refine Lib.hid ?_
  have hl := HL.out w5 hb5
  have hlt5 : A < w5.heap.size := hl.at_.lt
  have ho5 := ho.kept (gb_of_below hb5 none) (by simp)
  have HLF := Lib.hid hl
  clear hp hb5 HL hl r1 r2 r3 hmm
  have ho6 := ho5.kept (gb_of_below ((Below.refl _ w5).alloc (Nat.le_refl _) (.cells #[.int .u8 3, .string ts, .int .i64 tn, .int .i64 ta] 144)) none) (by simp)
  go_wp2_with (at_lookup; refine wpList_lookup_own_ok_int _ rfl _ _ 214 rfl 9 48 .u8 law_str Tryz.underlying214 Tryz.underlying48 (zero_sk _) w.heap.size 3 _ rfl ho6 _ _ rfl (Go.WideMaps.keyOf_string_mk Tryz.underlying9 HSZ.out) ?_; intro c hat hwc; rw [HHAS.out]; have hck := HCC.out c hat; subst c; clear hat hwc ho ho5 ho6; refine Hid.out ?_)
  refine Lib.hid ?_
  go_wp2_with (go_at_call 132; refine (HP.out _ HLF.out).mono ?_; rintro e w7 ⟨rfl, ⟨sv2, ha, ho2⟩, hf⟩; refine Hid.out ?_)
  refine Lib.hid ?_
  have hpt := HLF.out.putted (x := ⟨k, ⟨#[]⟩, 0⟩) HBW.out ha ho2 hf
  have q0 := hpt.tok.c0
  have HPT := Lib.hid hpt
  have ht := take_atom hpt.at_ (k := 3) rfl (by simp only; omega) (by simp only; omega)
  clear ha ho2 hf hpt HLF
  go_wp2_with (go_at_call 79; refine ht.mono ?_; rintro e w8 ⟨rfl, ha8, hg8⟩; refine Hid.out ?_)
  refine Lib.hid ?_
  go_wp2_with fail
  exact bodyPost_end (results_none rfl _ _ _) rfl ⟨rfl, HPT.out.done ha8 hg8 HBW.out⟩
 | bad y p =>
  go_enter Tryz.func129, Tryz.ntmps129
  go_wp2_with (go_at_call 105; refine hp.mono ?_; rintro e w5 ⟨rfl, hb5⟩; refine Hid.out ?_)
  refine Lib.hid ?_
  have hl := HL.out w5 hb5
  have hlt5 : A < w5.heap.size := hl.at_.lt
  have ho5 := ho.kept (gb_of_below hb5 none) (by simp)
  have HLF := Lib.hid hl
  clear hp hb5 HL hl r1 r2 r3 hmm
  have ho6 := ho5.kept (gb_of_below ((Below.refl _ w5).alloc (Nat.le_refl _) (.cells #[.int .u8 3, .string ts, .int .i64 tn, .int .i64 ta] 144)) none) (by simp)
  go_wp2_with (at_lookup; refine wpList_lookup_own_ok_int _ rfl _ _ 214 rfl 9 48 .u8 law_str Tryz.underlying214 Tryz.underlying48 (zero_sk _) w.heap.size 3 _ rfl ho6 _ _ rfl (Go.WideMaps.keyOf_string_mk Tryz.underlying9 HSZ.out) ?_; intro c hat hwc; rw [HHAS.out]; have hck := HCC.out c hat; subst c; clear hat hwc ho ho5 ho6; refine Hid.out ?_)
  refine Lib.hid ?_
  go_wp2_with (go_at_call 132; refine (HP.out _ HLF.out).mono ?_; rintro e w7 ⟨rfl, hf⟩; refine Hid.out ?_)
  refine Lib.hid ?_
  exact ⟨rfl, rfl, HLF.out.putkb (t := ⟨3, ts, tn, ta⟩) (x := ⟨k, ⟨#[]⟩, 0⟩) HBW.out hf⟩

set_option maxHeartbeats 4000000 in
set_option maxRecDepth 100000 in
theorem leaf_col {A B : Nat} {t : Tok} {rest : List Tok} {fin op : Int} {sv : Value} {st : List Stp} {w : World} (h : AtW A (t :: rest) fin op sv w) (hAB : A < B) (hB : B ≤ w.heap.size) (hown : w.ownsRow B 50 3 sv st.length (stpCells st)) (hst : st.length ≤ 64) (hG : PGlob w)
  (hk : t.k = 3) (hc : constK t.s = none) (hsz : t.s.size < 4294967281) (hcol : columnR t.s = true) :
  Calls Tryz.prog 129 #[.pointer (some ⟨A, 0, none⟩)] w fun e w' => ExprP A B fin w ((putR fin (t :: rest) st [⟨6, t.s, 0⟩]).then fun st' => .ok (rest, op, st')) e w' := by
 have hmm := @run_makeMap Tryz.prog
 obtain ⟨w1, w2, w3, r1, r2, r3, ho, hb4⟩ := const_laid w
 have hL : Leafed A B (t :: rest) fin op sv st w w3 := ⟨h.below hb4, hb4, own_bel hown hb4, Nat.le_trans hB hb4.size, hAB, hG.self hb4⟩
 have hp := wpeek_any hL.at_
 rw [show tokAt (t :: rest) fin = t from rfl] at hp
 have HL := Lib.hid fun w5 (hb : Below w3.heap.size w3 w5) => hL.next hb
 have HBW := Lib.hid hB
 clear h hown hL hG
 obtain ⟨R, hR⟩ : ∃ R, putR fin (t :: rest) st [⟨6, t.s, 0⟩] = R := ⟨_, rfl⟩
 rw [hR]
 have HP := Lib.hid fun w6 (H : Leafed A B (t :: rest) fin op sv st w w6) => put_new (⟨6, t.s, 0⟩) H.at_ H.hAB H.hB H.own hst
 rw [hR] at HP
 obtain ⟨tk, ts, tn, ta⟩ := t
 unfold Tok.v at hp
 have HSZ : Hid (ts.size ≤ maxLen) := Lib.hid (by simp only at hsz; unfold maxLen; omega)
 have HSZ2 : Hid (ts.size < 4294967281) := Lib.hid hsz
 have HHAS : Hid (Maps.has constD (.string ts.data.toList) = false) := Lib.hid ((constD_has ts).trans (by simp only at hc; rw [hc]; rfl))
 have HCC : Hid (∀ c : Int, constD.atKey (.string ts.data.toList) (.lit (.int .u8 0)) = .lit (.int .u8 c) → c = 0) := Lib.hid (fun c hat => by
  rw [show Lit.string ts.data.toList = litS ts from rfl, constD_at] at hat
  simp only at hc
  rw [hc] at hat
  injection hat with hat
  injection hat with _ hat
  exact hat.symm)
 have HCOL : Hid (columnR ts = true) := Lib.hid hcol
 simp only at hk hp HP
 subst hk
 clear hc hsz hcol
 clear hR
 cases R with
 | ok st2 =>
  go_enter Tryz.func129, Tryz.ntmps129
  go_wp2_with (go_at_call 105; refine hp.mono ?_; rintro e w5 ⟨rfl, hb5⟩; refine Hid.out ?_)
  refine Lib.hid ?_
  have hl := HL.out w5 hb5
  have hlt5 : A < w5.heap.size := hl.at_.lt
  have ho5 := ho.kept (gb_of_below hb5 none) (by simp)
  have hlo := own_lt hl.own
  have hltA : A < w5.heap.size := hlt5
  have HLF := Lib.hid hl
  clear hp hb5 HL hl r1 r2 r3 hmm
  have ho6 := ho5.kept (gb_of_below ((Below.refl _ w5).alloc (Nat.le_refl _) (.cells #[.int .u8 3, .string ts, .int .i64 tn, .int .i64 ta] 144)) none) (by simp)
  go_wp2_with (at_lookup; refine wpList_lookup_own_ok_int _ rfl _ _ 214 rfl 9 48 .u8 law_str Tryz.underlying214 Tryz.underlying48 (zero_sk _) w.heap.size 3 _ rfl ho6 _ _ rfl (Go.WideMaps.keyOf_string_mk Tryz.underlying9 HSZ.out) ?_; intro c hat hwc; rw [HHAS.out]; have hck := HCC.out c hat; subst c; clear hat hwc ho ho5 ho6; refine Hid.out ?_)
  refine Lib.hid ?_
  have HCO : Hid (∀ w, PGlob w → Calls Tryz.prog 42 #[.string ts] w fun e w' => e = .returned (.bool true) ∧ Below w.heap.size w w') := Lib.hid (fun w hG => HCOL.out ▸ column_any ts w hG HSZ2.out)
  have HGL := Lib.hid (HLF.out.tk (.cells #[.int .u8 3, .string ts, .int .i64 tn, .int .i64 ta] 144))
  go_wp2_with (go_at_call 42; refine (HCO.out _ HGL.out.glob).mono ?_; rintro e w6 ⟨rfl, hb6⟩; refine Hid.out ?_)
  refine Lib.hid ?_
  have hl6 := HGL.out.next hb6
  have hlt6 : A < w6.heap.size := hl6.at_.lt
  have hT6 : Cell4 w5.heap.size ⟨3, ts, tn, ta⟩ w6 := by
   have hc : Cell4 w5.heap.size ⟨3, ts, tn, ta⟩ (tkT w5 ⟨3, ts, tn, ta⟩) := by unfold Cell4; rw [heap_alloc_new]
   exact hc.below hb6 (by simp)
  have HL6 := Lib.hid hl6
  have HT6 := Lib.hid hT6
  have q1 := hT6.c1
  clear hb6 hl6 hT6
  go_wp2_with (go_at_call 92; refine (must_yes (by first | rfl | simp)).mono ?_; rintro e w7 ⟨rfl, rfl⟩; refine Hid.out ?_)
  refine Lib.hid ?_
  go_wp2_with (go_at_call 132; refine (HP.out _ HL6.out).mono ?_; rintro e w7 ⟨rfl, ⟨sv2, ha, ho2⟩, hf⟩; refine Hid.out ?_)
  refine Lib.hid ?_
  have hpt := HL6.out.putted6 (x := ⟨6, ts, 0⟩) HBW.out HT6.out hltA hlo ha ho2 hf
  have q0 := hpt.tok.c0
  have HPT := Lib.hid hpt
  have ht := take_atom hpt.at_ (k := 3) rfl (by simp only; omega) (by simp only; omega)
  clear ha ho2 hf hpt HLF
  go_wp2_with (go_at_call 79; refine ht.mono ?_; rintro e w8 ⟨rfl, ha8, hg8⟩; refine Hid.out ?_)
  refine Lib.hid ?_
  go_wp2_with fail
  exact bodyPost_end (results_none rfl _ _ _) rfl ⟨rfl, HPT.out.done ha8 hg8 HBW.out⟩
 | bad y p =>
  go_enter Tryz.func129, Tryz.ntmps129
  go_wp2_with (go_at_call 105; refine hp.mono ?_; rintro e w5 ⟨rfl, hb5⟩; refine Hid.out ?_)
  refine Lib.hid ?_
  have hl := HL.out w5 hb5
  have hlt5 : A < w5.heap.size := hl.at_.lt
  have ho5 := ho.kept (gb_of_below hb5 none) (by simp)
  have hlo := own_lt hl.own
  have hltA : A < w5.heap.size := hlt5
  have HLF := Lib.hid hl
  clear hp hb5 HL hl r1 r2 r3 hmm
  have ho6 := ho5.kept (gb_of_below ((Below.refl _ w5).alloc (Nat.le_refl _) (.cells #[.int .u8 3, .string ts, .int .i64 tn, .int .i64 ta] 144)) none) (by simp)
  go_wp2_with (at_lookup; refine wpList_lookup_own_ok_int _ rfl _ _ 214 rfl 9 48 .u8 law_str Tryz.underlying214 Tryz.underlying48 (zero_sk _) w.heap.size 3 _ rfl ho6 _ _ rfl (Go.WideMaps.keyOf_string_mk Tryz.underlying9 HSZ.out) ?_; intro c hat hwc; rw [HHAS.out]; have hck := HCC.out c hat; subst c; clear hat hwc ho ho5 ho6; refine Hid.out ?_)
  refine Lib.hid ?_
  have HCO : Hid (∀ w, PGlob w → Calls Tryz.prog 42 #[.string ts] w fun e w' => e = .returned (.bool true) ∧ Below w.heap.size w w') := Lib.hid (fun w hG => HCOL.out ▸ column_any ts w hG HSZ2.out)
  have HGL := Lib.hid (HLF.out.tk (.cells #[.int .u8 3, .string ts, .int .i64 tn, .int .i64 ta] 144))
  go_wp2_with (go_at_call 42; refine (HCO.out _ HGL.out.glob).mono ?_; rintro e w6 ⟨rfl, hb6⟩; refine Hid.out ?_)
  refine Lib.hid ?_
  have hl6 := HGL.out.next hb6
  have hlt6 : A < w6.heap.size := hl6.at_.lt
  have hT6 : Cell4 w5.heap.size ⟨3, ts, tn, ta⟩ w6 := by
   have hc : Cell4 w5.heap.size ⟨3, ts, tn, ta⟩ (tkT w5 ⟨3, ts, tn, ta⟩) := by unfold Cell4; rw [heap_alloc_new]
   exact hc.below hb6 (by simp)
  have HL6 := Lib.hid hl6
  have HT6 := Lib.hid hT6
  have q1 := hT6.c1
  clear hb6 hl6 hT6
  go_wp2_with (go_at_call 92; refine (must_yes (by first | rfl | simp)).mono ?_; rintro e w7 ⟨rfl, rfl⟩; refine Hid.out ?_)
  refine Lib.hid ?_
  go_wp2_with (go_at_call 132; refine (HP.out _ HL6.out).mono ?_; rintro e w7 ⟨rfl, hf⟩; refine Hid.out ?_)
  refine Lib.hid ?_
  exact ⟨rfl, rfl, HL6.out.putkb6 (x := ⟨6, ts, 0⟩) HBW.out hf⟩
end Go.Proofs.YtgjfbbmachoolaaGreatDoor.lx
