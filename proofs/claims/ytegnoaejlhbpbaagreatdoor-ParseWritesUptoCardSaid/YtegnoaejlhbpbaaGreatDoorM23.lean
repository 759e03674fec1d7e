/-
  ParseOwn, for every text. Conditions: the package-level variables are laid. Arguments carried into the world behind the call; slices of structs opened; how much a reading holds. No condition. What the rows' list of package-level variables gives (the parser's rows); and a start that meets it.
-/
import Derived.Test.YtegnoaejlhbpbaaGreatDoorM22
import Derived.Test.YtegnoaejlhbpbaaGreatDoorRows
import Derived.Test.YtegnoaejlhbpbaaGreatDoorM01
import Derived.Deep.Slices
import Derived.Deep.Fields
import Derived.ChangeSame
import Derived.Carry
import Derived.ChangeOld
import Derived.Test.YtegnoaejlhbpbaaGreatDoorM05
import Derived.Shelf.Vars
import Derived.Test.YtegnoaejlhbpbaaGreatDoorCards
import Derived.Test.YtegnoaejlhbpbaaGreatDoorTie
import Derived.ProofKit
import Derived.OpenShut
import Derived.Deep.DeepHandedRow
import Derived.Deep.DeepWitnessRowRef
import Derived.Lib.LaidIn
import Derived.Lib.LaidU8T
import Derived.Stop.LaidErr
namespace Go.Proofs.YtegnoaejlhbpbaaGreatDoor.lx
open Go.RowKit
set_option linter.unusedVariables false
set_option linter.unusedSimpArgs false

theorem parse_good (s : ByteArray) : GoodQ (parseR s).1 := by
  unfold parseR
  by_cases h : (lexR s).2.1 = 0
  · rw [if_neg (fun e => e h)]
    have hsm : Small (lexR s).1 := (lexR_small s).1
    cases hq : queryR (gl (B s)).length (lexR s).1 with
    | bad y p => exact GoodQ.none
    | ok q =>
      simp only
      by_cases hc : checkR q = 0
      · rw [if_neg (fun e => e hc)]
        exact queryR_good hq hsm
      · rw [if_pos hc]
        exact GoodQ.none
  · rw [if_pos h]
    exact GoodQ.none

theorem qin_of {B : Nat} {w : World} {q : Qry} {io wo go : Option Addr} {ic wc gc : Nat} (hi : IO B w q.items (.slice io q.items.length ic)) (hw : w.ownsRow B 29 3 (.slice wo q.wher.length wc) q.wher.length (stpCells q.wher)) (hg : w.ownsRow B 9 1 (.slice go q.group.length gc) q.group.length (q.group.map Value.string)) : QryIn q io wo go w := by
  obtain ⟨a, b, e1, h1⟩ := hi.row
  obtain ⟨a2, b2, e2, h2⟩ := own_stps hw
  obtain ⟨a3, b3, e3, h3⟩ := own_txts hg
  injection e1 with e1
  injection e2 with e2
  injection e3 with e3
  subst e1 e2 e3
  exact ⟨h1, h2, h3⟩
set_option maxHeartbeats 4000000 in
set_option maxRecDepth 100000 in
theorem Own_any (s : ByteArray) (w : World) (hG : PGlob w) (hs : s.size ≤ 9223372036854775807) :
    Calls Tryz.prog 6 #[.string s] w fun e w' => e = .returned (.bool true) ∧ Below w.heap.size w w' := by
  have HGQ := Lib.hid (parse_good s)
  have HP := Lib.hid fun w (hG : PGlob w) => Parse_any s w hG hs
  obtain ⟨⟨q, y, p⟩, hR⟩ : ∃ R, parseR s = R := ⟨_, rfl⟩
  rw [hR] at HGQ HP
  have HG := Lib.hid hG
  clear hR hG
  go_enter Tryz.func6, Tryz.ntmps6
  go_wp2_with (go_at_call 13; refine (lives3_any _ HG.out).mono ?_; rintro e w1 ⟨rfl, hb1⟩; refine Hid.out ?_)
  refine Lib.hid ?_
  have HG1 := Lib.hid (HG.out.self hb1)
  have HB1 := Lib.hid hb1
  clear hb1
  go_wp2_with (go_at_call 18; refine (HP.out _ HG1.out).mono ?_; rintro e w2 ⟨v, rfl, hv, hb2⟩; refine Hid.out ?_)
  refine Lib.hid ?_
  obtain ⟨iv, wv, gv, rfl, hi, hw, hg⟩ := hv
  obtain ⟨io, ic, rfl, hri⟩ := hi.row
  obtain ⟨wo, wc, rfl, hrw⟩ := own_stps hw
  obtain ⟨go, gc, rfl, hrg⟩ := own_txts hg
  have HO3 := Lib.hid (own3_of hi hw hg)
  have HQI : Hid (QryIn q io wo go w2) := Lib.hid ⟨hri, hrw, hrg⟩
  have HG2 := Lib.hid (HG1.out.self hb2)
  have HB2 := Lib.hid (below_self HB1.out hb2)
  have HLO : Hid (w.heap.size ≤ w1.heap.size) := Lib.hid HB1.out.size
  clear hri hrw hrg hi hw hg hb2 HG1
  go_upto_region 4 with fail
  have hn := heap_alloc_new w2 (.cells (qryV q io wo go ic wc gc) 26)
  have hbA := (Below.refl w2.heap.size w2).alloc (Nat.le_refl _) (.cells (qryV q io wo go ic wc gc) 26)
  have HG3 := Lib.hid (HG2.out.self hbA)
  have HB3 := Lib.hid (below_self HB2.out hbA)
  have HQ3 := Lib.hid (HQI.out.self hbA)
  have HO3 := Lib.hid (HO3.out.next (Nat.le_refl _) hbA)
  unfold qryV at hn hbA HG3 HB3 HQ3 HO3
  have hl3 := (Array.getElem?_eq_some_iff.1 hn).1
  generalize w2.alloc (.cells #[.slice io q.items.length ic, .string q.table, .string q.join, .string q.left, .string q.right, .slice wo q.wher.length wc, .slice go q.group.length gc] 26) = W3 at *
  have HCP := Lib.hid (Copy_any (ic := ic) (wc := wc) (gc := gc) HQ3.out (by have := HGQ.out.ilen; omega) (by have := HGQ.out.wlen; omega) (by have := HGQ.out.glen; omega) (fun it hit => by have := (HGQ.out.items it hit).len; omega))
  have HN := Lib.hid hn
  have hcl : ∀ (j : Nat) v, (#[.slice io q.items.length ic, .string q.table, .string q.join, .string q.left, .string q.right, .slice wo q.wher.length wc, .slice go q.group.length gc] : Array Value)[j]? = some v → W3.cell? ⟨w2.heap.size, j, none⟩ = some v := fun j v h => by rw [Lib.cell_of_heap hn]; exact h
  have k0 := hcl 0 _ rfl
  have k1 := hcl 1 _ rfl
  have k2 := hcl 2 _ rfl
  have k3 := hcl 3 _ rfl
  have k4 := hcl 4 _ rfl
  have k5 := hcl 5 _ rfl
  have k6 := hcl 6 _ rfl
  clear hcl hn hbA
  go_wp2_with (go_at_call 20; refine HCP.out.mono ?_; rintro e w4 ⟨v4, rfl, hv4, hb4⟩; refine Hid.out ?_)
  refine Lib.hid ?_
  clear k0 k1 k2 k3 k4 k5 k6
  obtain ⟨iv4, wv4, gv4, rfl, hi4, hw4, hg4⟩ := hv4
  obtain ⟨io4, ic4, rfl, _⟩ := hi4.row
  obtain ⟨wo4, wc4, rfl, _⟩ := own_stps hw4
  obtain ⟨go4, gc4, rfl, _⟩ := own_txts hg4
  have HG4 := Lib.hid (HG3.out.self hb4)
  have HB4 := Lib.hid (below_self HB3.out hb4)
  have HO4 := Lib.hid (HO3.out.next (Nat.le_of_lt hl3) hb4)
  have hn4 := (hb4.block _ hl3).trans HN.out
  have hl4 := Nat.lt_of_lt_of_le hl3 hb4.size
  have hh4 : W3.heap.size ≤ w4.heap.size := hb4.size
  clear hb4 HG3 HB3 HO3 HN HCP HQ3
  go_upto_region 5 with fail
  have hbB := (Below.refl w4.heap.size w4).alloc (Nat.le_refl _) (.cells #[.slice io4 q.items.length ic4, .string q.table, .string q.join, .string q.left, .string q.right, .slice wo4 q.wher.length wc4, .slice go4 q.group.length gc4] 26)
  have hnB := heap_alloc_new w4 (.cells #[.slice io4 q.items.length ic4, .string q.table, .string q.join, .string q.left, .string q.right, .slice wo4 q.wher.length wc4, .slice go4 q.group.length gc4] 26)
  have HG5 := Lib.hid (HG4.out.self hbB)
  have HB5 := Lib.hid (below_self HB4.out hbB)
  have HO5 := Lib.hid (HO4.out.next (by omega) hbB)
  have HN5 := Lib.hid ((hbB.block _ hl4).trans hn4)
  have HI5 := Lib.hid (hi4.kept fun k _ hk => hbB.block k hk)
  have HW5 := Lib.hid (own_keepA hw4 fun k _ hk => hbB.block k hk)
  have HY5 := Lib.hid (own_keepA hg4 fun k _ hk => hbB.block k hk)
  have hl5 := Nat.lt_of_lt_of_le hl4 hbB.size
  have hh5 : w4.heap.size < (w4.alloc (.cells #[.slice io4 q.items.length ic4, .string q.table, .string q.join, .string q.left, .string q.right, .slice wo4 q.wher.length wc4, .slice go4 q.group.length gc4] 26)).heap.size := (Array.getElem?_eq_some_iff.1 hnB).1
  clear HG4 HB4 HO4 hn4 hi4 hw4 hg4 hbB
  generalize w4.alloc (.cells #[.slice io4 q.items.length ic4, .string q.table, .string q.join, .string q.left, .string q.right, .slice wo4 q.wher.length wc4, .slice go4 q.group.length gc4] 26) = W5 at *
  have HNB := Lib.hid hnB
  clear hnB
  have k5 : W5.cell? ⟨w2.heap.size, 5, none⟩ = some (.slice wo q.wher.length wc) := by rw [Lib.cell_of_heap HN5.out]; rfl
  go_wp2_with fail
  go_loopw [26] (fun i wr => ∃ k : Nat, i = .int .i64 k ∧ k ≤ q.wher.length ∧ Mut w1.heap.size w2.heap.size W5 wr ∧ Own3 w1.heap.size w2.heap.size q io wo go wr) (fun i _ => q.wher.length - (intOf i).toNat)
  case atStart => exact ⟨0, rfl, Nat.zero_le _, Mut.refl _ _ _, HO5.out⟩
  case round =>
    obtain ⟨k, rfl, hk, hm, ho⟩ := hrel
    have hwl := HGQ.out.wlen
    by_cases hlt : k < q.wher.length
    · obtain ⟨g, rfl, hlo, hhi, hf⟩ := ho.fw (by omega)
      obtain ⟨_, hc, x, rfl⟩ := hf.at hlt
      have hfz := hf.free (k * 3 + 2)
      have hn2 := (hm.keep w2.heap.size (Nat.le_refl _) hl5).trans HN5.out
      have k5 : wr.cell? ⟨w2.heap.size, 5, none⟩ = some (.slice (some ⟨g, 0, none⟩) q.wher.length wc) := by rw [Lib.cell_of_heap hn2]; rfl
      have HM := Lib.hid hm
      have HO := Lib.hid ho
      have HF := Lib.hid hf
      clear hm ho hf hn2
      go_wp2_with fail
      go_roundw
      case rel => exact ⟨k + 1, by go_num, by omega, HM.out.set hlo hhi _, HO.out.fi.far HF.out (by decide) _ _, HO.out.fw.set rfl _ ⟨_, rfl⟩, HO.out.fg.far HF.out (by decide) _ _⟩
      case measure => simp [intOf]; omega
    · have HM := Lib.hid hm
      have HO := Lib.hid ho
      clear hm ho
      have hn2 := (HM.out.keep w2.heap.size (Nat.le_refl _) hl5).trans HN5.out
      have k0 : wr.cell? ⟨w2.heap.size, 0, none⟩ = some (.slice io q.items.length ic) := by rw [Lib.cell_of_heap hn2]; rfl
      clear hn2
      go_wp2_with fail
      clear k0
      go_loopw [42] (fun i wr => ∃ k : Nat, i = .int .i64 k ∧ k ≤ q.items.length ∧ Mut w1.heap.size w2.heap.size W5 wr ∧ Own3 w1.heap.size w2.heap.size q io wo go wr) (fun i _ => q.items.length - (intOf i).toNat)
      case atStart => exact ⟨0, rfl, Nat.zero_le _, HM.out, HO.out⟩
      case round =>
        clear HM HO
        obtain ⟨k, rfl, hk, hm, ho⟩ := hrel
        have hil := HGQ.out.ilen
        by_cases hlt : k < q.items.length
        · obtain ⟨g, rfl, hlo, hhi, hf⟩ := ho.fi (by omega)
          obtain ⟨_, hc, x, rfl⟩ := hf.at hlt
          rw [Nat.add_zero] at hc
          have hfz := hf.free (k * 2)
          have hn2 := (hm.keep w2.heap.size (Nat.le_refl _) hl5).trans HN5.out
          have HM := Lib.hid hm
          have HO := Lib.hid ho
          have HF := Lib.hid hf
          clear hm ho hf
          have k0 : _ = some (Value.slice (some ⟨g, 0, none⟩) q.items.length ic) := (Lib.cell_of_heap hn2 0).trans rfl
          clear hn2
          go_wp2_with fail
          go_roundw
          case rel => exact ⟨k + 1, by go_num, by omega, HM.out.set hlo hhi _, HO.out.fi.set rfl _ ⟨_, rfl⟩, HO.out.fw.far HF.out (by decide) _ _, HO.out.fg.far HF.out (by decide) _ _⟩
          case measure => simp [intOf]; omega
        · have HM := Lib.hid hm
          have HO := Lib.hid ho
          clear hm ho
          have hn2 := (HM.out.keep w2.heap.size (Nat.le_refl _) hl5).trans HN5.out
          have k6 : _ = some (Value.slice go q.group.length gc) := (Lib.cell_of_heap hn2 6).trans rfl
          clear hn2
          go_wp2_with fail
          clear k6
          go_loopw [58] (fun i wr => ∃ k : Nat, i = .int .i64 k ∧ k ≤ q.group.length ∧ Mut w1.heap.size w2.heap.size W5 wr ∧ Own3 w1.heap.size w2.heap.size q io wo go wr) (fun i _ => q.group.length - (intOf i).toNat)
          case atStart => exact ⟨0, rfl, Nat.zero_le _, HM.out, HO.out⟩
          case round =>
            clear HM HO
            obtain ⟨k, rfl, hk, hm, ho⟩ := hrel
            have hgl := HGQ.out.glen
            by_cases hlt : k < q.group.length
            · obtain ⟨g, rfl, hlo, hhi, hf⟩ := ho.fg (by omega)
              obtain ⟨_, hc, x, rfl⟩ := hf.at hlt
              rw [Nat.mul_one, Nat.add_zero] at hc
              have hfz := hf.free k
              have hn2 := (hm.keep w2.heap.size (Nat.le_refl _) hl5).trans HN5.out
              have HM := Lib.hid hm
              have HO := Lib.hid ho
              have HF := Lib.hid hf
              clear hm ho hf
              have k6 : _ = some (Value.slice (some ⟨g, 0, none⟩) q.group.length gc) := (Lib.cell_of_heap hn2 6).trans rfl
              clear hn2
              go_wp2_with fail
              go_roundw
              case rel => exact ⟨k + 1, by go_num, by omega, HM.out.set hlo hhi _, HO.out.fi.far HF.out (by decide) _ _, HO.out.fw.far HF.out (by decide) _ _, HO.out.fg.set rfl _ ⟨_, rfl⟩⟩
              case measure => simp [intOf]; omega
            · have HM := Lib.hid hm
              clear hm ho
              have hbM : Below w.heap.size W5 _ := HM.out.below.mono HLO.out
              have HBW := Lib.hid (HB5.out.trans hbM)
              have HGW := Lib.hid (HG.out.self HBW.out)
              have hkI := HI5.out.kept fun k hk hk2 => HM.out.keep k (by omega) hk2
              have hkW := own_keepA HW5.out fun k hk hk2 => HM.out.keep k (by omega) hk2
              have hkG := own_keepA HY5.out fun k hk hk2 => HM.out.keep k (by omega) hk2
              have hkN := (HM.out.keep _ (Nat.le_of_lt hl4) hh5).trans HNB.out
              have HKI := Lib.hid hkI
              have HKW := Lib.hid hkW
              have HKG := Lib.hid hkG
              have HKN := Lib.hid hkN
              clear hkI hkW hkG hkN hbM HM
              go_wp2_with (go_at_call 18; refine (HP.out _ HGW.out).mono ?_; rintro e w6 ⟨v6, rfl, hv6, hb6⟩; refine Hid.out ?_)
              refine Lib.hid ?_
              obtain ⟨iv6, wv6, gv6, rfl, hi6, hw6, hg6⟩ := hv6
              obtain ⟨io6, ic6, rfl, _⟩ := hi6.row
              obtain ⟨wo6, wc6, rfl, _⟩ := own_stps hw6
              obtain ⟨go6, gc6, rfl, _⟩ := own_txts hg6
              have HQA := Lib.hid (qin_of hi6 hw6 hg6)
              have HQC := Lib.hid (qin_of (HKI.out.kept fun k _ hk => hb6.block k hk) (own_keepA HKW.out fun k _ hk => hb6.block k hk) (own_keepA HKG.out fun k _ hk => hb6.block k hk))
              have hlw := (Array.getElem?_eq_some_iff.1 HKN.out).1
              have HN6 := Lib.hid ((hb6.block _ hlw).trans HKN.out)
              have HB6 := Lib.hid (below_self HBW.out hb6)
              clear hi6 hw6 hg6 hb6 hlw HKI HKW HKG HKN HBW HGW
              go_upto_region 21 with fail
              have hn7 := heap_alloc_new w6 (.cells #[.slice io6 q.items.length ic6, .string q.table, .string q.join, .string q.left, .string q.right, .slice wo6 q.wher.length wc6, .slice go6 q.group.length gc6] 26)
              have hb7 := (Below.refl w6.heap.size w6).alloc (Nat.le_refl _) (.cells #[.slice io6 q.items.length ic6, .string q.table, .string q.join, .string q.left, .string q.right, .slice wo6 q.wher.length wc6, .slice go6 q.group.length gc6] 26)
              have HB7 := Lib.hid (below_self HB6.out hb7)
              have HQA7 := Lib.hid (HQA.out.self hb7)
              have HQC7 := Lib.hid (HQC.out.self hb7)
              have hn6 := (hb7.block _ (Array.getElem?_eq_some_iff.1 HN6.out).1).trans HN6.out
              clear hb7 HB6 HQA HQC HN6
              generalize w6.alloc (.cells #[.slice io6 q.items.length ic6, .string q.table, .string q.join, .string q.left, .string q.right, .slice wo6 q.wher.length wc6, .slice go6 q.group.length gc6] 26) = W7 at *
              have hcl : ∀ (j : Nat) v, (#[.slice io6 q.items.length ic6, .string q.table, .string q.join, .string q.left, .string q.right, .slice wo6 q.wher.length wc6, .slice go6 q.group.length gc6] : Array Value)[j]? = some v → W7.cell? ⟨w6.heap.size, j, none⟩ = some v := fun j v h => by rw [Lib.cell_of_heap hn7]; exact h
              have hcm : ∀ (j : Nat) v, (#[.slice io4 q.items.length ic4, .string q.table, .string q.join, .string q.left, .string q.right, .slice wo4 q.wher.length wc4, .slice go4 q.group.length gc4] : Array Value)[j]? = some v → W7.cell? ⟨w4.heap.size, j, none⟩ = some v := fun j v h => by rw [Lib.cell_of_heap hn6]; exact h
              have k0 := hcl 0 _ rfl
              have k1 := hcl 1 _ rfl
              have k2 := hcl 2 _ rfl
              have k3 := hcl 3 _ rfl
              have k4 := hcl 4 _ rfl
              have k5 := hcl 5 _ rfl
              have k6 := hcl 6 _ rfl
              have m0 := hcm 0 _ rfl
              have m1 := hcm 1 _ rfl
              have m2 := hcm 2 _ rfl
              have m3 := hcm 3 _ rfl
              have m4 := hcm 4 _ rfl
              have m5 := hcm 5 _ rfl
              have m6 := hcm 6 _ rfl
              have HS := Lib.hid (SameQ_any (ic := ic6) (wc := wc6) (gc := gc6) (ic' := ic4) (wc' := wc4) (gc' := gc4) HQA7.out HQC7.out (by have := HGQ.out.ilen; omega) (by have := HGQ.out.wlen; omega) (by have := HGQ.out.glen; omega) (fun it hit => by have := (HGQ.out.items it hit).len; omega))
              unfold qryV at HS
              clear hcl hcm hn6 hn7 HQA7 HQC7
              go_wp2_with (go_at_call 19; refine HS.out.mono ?_; rintro e w8 ⟨rfl, hb8⟩; refine Hid.out ?_)
              refine Lib.hid ?_
              have HB8 := Lib.hid (below_self HB7.out hb8)
              clear hb8 k0 k1 k2 k3 k4 k5 k6 m0 m1 m2 m3 m4 m5 m6
              go_wp2_with fail
              go_ret
              exact ⟨rfl, HB8.out⟩
end Go.Proofs.YtegnoaejlhbpbaaGreatDoor.lx
namespace Go.Proofs.YtegnoaejlhbpbaaGreatDoor.lx
open Go.ChangeShapes Go.WideShapes Go.Deep Go.RowKit

section
variable {H : Type} {enc : TypeId × Value → H} {P : Program} {w : World} {base : Nat} {spare : Nat → Bool} {held : Bool}
theorem open_slice_fields {t e : TypeId} {fs : Array Field} {fuel : Nat} {cs : List Value} {x : DataW H × List MemPlace} (ht : P.underlying t = some (.slice e)) (he : P.underlying e = some (.struct fs))
    (hone : oneCellFields P fs = true) (hC : P.cellsOf e = fs.size) (h : DataW.trod enc P w base spare held fuel t cs = some x) :
    (cs = [.slice none 0 0] ∧ x = (.nil, [])) ∨
    ∃ (a : Addr) (len cap m : Nat) (D : Nat → DataW H) (Pl : Nat → List MemPlace), cs = [.slice (some a) len cap] ∧ base ≤ a.block ∧ len ≤ cap ∧ cap ≤ maxLen ∧ m = (if spare a.block then cap else len) ∧
      x = (.slice ((List.range len).map D) ((List.range (m - len)).map fun j => D (len + j)), MemPlace.row a (m * fs.size) ++ (List.range m).flatMap Pl) ∧
      ∀ i, i < m → ∃ (ys : List (DataW H × List MemPlace)) (n : Nat), D i = .agg (ys.map (·.1)) ∧ Pl i = ys.flatMap (·.2) ∧ ys.length = fs.size ∧
        ∀ (j : Nat) (f : Field), fs[j]? = some f → ∃ (v : Value) (y : DataW H × List MemPlace), w.cell? (a.add (i * fs.size + j)) = some v ∧ ys[j]? = some y ∧ DataW.trod enc P w base spare held n f.type [v] = some y := by
  rcases open_slice ht h with h0 | ⟨a, len, cap, m, n, D, Pl, hcs, hb, hl, hm, hmm, hx, hi⟩
  · exact .inl h0
  · refine .inr ⟨a, len, cap, m, D, Pl, hcs, hb, hl, hm, hmm, by rw [hC] at hx; exact hx, fun i him => ?_⟩
    obtain ⟨cs', hc, ht'⟩ := hi i him
    rw [hC] at hc
    obtain ⟨ys, n', hn', hy, hlen, hyl, hf⟩ := DataW.trod_struct he ht'
    obtain ⟨_, hcl, hat⟩ := World.cells?_some hc
    simp only [Prod.mk.injEq] at hy
    refine ⟨ys, n', hy.1, hy.2, hyl, fun j f hj => ?_⟩
    obtain ⟨ho, hk⟩ := hone_of hone j f hj
    have hjl : j < fs.size := (Array.getElem?_eq_some_iff.1 hj).1
    have hcell := hat j hjl
    have hv : cs'[j]? = some (cs'[j]'(by omega)) := List.getElem?_eq_getElem (by omega)
    have h1 := hf j f hj
    rw [ho, hk] at h1
    have hone' : (cs'.drop j).take 1 = [cs'[j]'(by omega)] := by
      rw [List.drop_eq_getElem_cons (by omega)]
      rfl
    rw [hone'] at h1
    have hys : ys[j]? = some (ys[j]'(by omega)) := List.getElem?_eq_getElem (by omega)
    refine ⟨_, _, ?_, hys, h1.trans hys⟩
    rw [← Go.Deep.add_add, hcell, hv]
end

namespace bulks
theorem one_le {H : Type} (d : DataW H) : 1 ≤ Rows.uptoBulk d := by
  cases d with
  | lit l => cases l <;> simp [Rows.uptoBulk]
  | nil => simp [Rows.uptoBulk]
  | ptr d => simp [Rows.uptoBulk]
  | slice elems spare => simp [Rows.uptoBulk]
  | agg parts => simp [Rows.uptoBulk]
  | iface t d => simp [Rows.uptoBulk]
  | map entries => simp [Rows.uptoBulk]
  | held h => simp [Rows.uptoBulk]

/-- a part's bulk is at most the whole's -/
theorem part_le {H : Type} {d : DataW H} {l : List (DataW H)} (h : d ∈ l) : Rows.uptoBulk d ≤ Rows.uptoBulkAll l := by
  induction l with
  | nil => cases h
  | cons x r ih =>
    simp only [Rows.uptoBulkAll]
    cases List.mem_cons.1 h with
    | inl e => subst e; omega
    | inr e => have := ih e; omega

theorem append {H : Type} (l r : List (DataW H)) : Rows.uptoBulkAll (l ++ r) = Rows.uptoBulkAll l + Rows.uptoBulkAll r := by
  induction l with
  | nil => simp [Rows.uptoBulkAll]
  | cons x l ih => simp only [List.cons_append, Rows.uptoBulkAll, ih]; omega

/-- so many values at the most -/
theorem length_le {H : Type} (l : List (DataW H)) : l.length ≤ Rows.uptoBulkAll l := by
  induction l with
  | nil => simp [Rows.uptoBulkAll]
  | cons x r ih => have := one_le x; simp only [Rows.uptoBulkAll, List.length_cons]; omega

/-- a slice's places, and what they hold -/
theorem slice_le {H : Type} (elems spare : List (DataW H)) : elems.length + spare.length + 1 ≤ Rows.uptoBulk (.slice elems spare) := by
  have h1 := length_le elems
  have h2 := length_le spare
  simp only [Rows.uptoBulk]
  omega
theorem slice_elems {H : Type} (elems spare : List (DataW H)) : Rows.uptoBulkAll elems + 1 ≤ Rows.uptoBulk (.slice elems spare) := by
  simp only [Rows.uptoBulk]
  omega

end bulks

theorem laidOutT : laidOutB Tryz.prog = true := by kernel_rfl
theorem carryP {P : Program} (hl : laidOutB P = true) {H : Type} {enc : TypeId × Value → H} {W W' : World} (hb : Below W.heap.size W W') : ∀ {ts : List TypeId} {vs : List Value} {ds : List (DataW H)} {ps : List MemPlace},
    (ts.all fun t => P.readableRec t && decide (t < P.types.size)) = true → DataW.TrodAll enc P W 0 (fun _ => true) true ts vs ds ps →
    DataW.TrodAll enc P W' 0 (fun b => decide (b < W.heap.size)) true ts vs ds ps
  | [], _, _, _, _, h => by
    obtain ⟨rfl, rfl, rfl⟩ := trodAll_nil h
    exact trodAll_mk0
  | t :: ts, _, _, _, ht, h => by
    have hlt := DataW.TrodAll.lt h
    simp only [List.all_cons, Bool.and_eq_true, decide_eq_true_eq] at ht
    obtain ⟨v, vs1, d, ds1, a, b, rfl, rfl, rfl, h1, h2⟩ := trodAll_cons h
    exact ⟨a, b, Below.trod hl ht.1.1 ht.1.2 h1 hb (fun x hx => hlt x (by simp [hx])), carryP hl hb ht.2 h2, rfl⟩
/-- the arguments read behind the call as they did before -/
theorem carryAll {H : Type} {enc : TypeId × Value → H} {W W' : World} (hb : Below W.heap.size W W') {ts : List TypeId} {vs : List Value} {ds : List (DataW H)} {ps : List MemPlace}
    (ht : (ts.all fun t => Tryz.prog.readableRec t && decide (t < Tryz.prog.types.size)) = true) (h : DataW.TrodAll enc Tryz.prog W 0 (fun _ => true) true ts vs ds ps) :
    DataW.TrodAll enc Tryz.prog W' 0 (fun b => decide (b < W.heap.size)) true ts vs ds ps := carryP laidOutT hb ht h

theorem add_none (b o k : Nat) : (⟨b, o, none⟩ : Addr).add k = ⟨b, o + k, none⟩ := by
  unfold Addr.add
  split <;> simp_all
theorem spot_of {w : World} {a : Addr} {u : Value} (h : w.cell? a = some u) : a.spot = none := by
  unfold World.cell? at h
  split at h
  · cases hs : a.spot with
    | none => rfl
    | some x => simp [hs] at h
  · simp at h

end Go.Proofs.YtegnoaejlhbpbaaGreatDoor.lx
namespace Go.Proofs.YtegnoaejlhbpbaaGreatDoor.lx
open Go.ChangeShapes Go.WideShapes Go.ChangeAt Go.RowKit Go.Lib Go.Shelf

abbrev laidL : List (String × DataW Unit) := [("math/bits.deBruijn32tab", Rows.laid_math_bits_deBruijn32tab), ("math/bits.deBruijn64tab", Rows.laid_math_bits_deBruijn64tab), ("internal/strconv.uint64pow10", Rows.laid_internal_strconv_uint64pow10), ("unicode/utf8.acceptRanges", Rows.laid_unicode_utf8_acceptRanges), ("strconv.ErrRange", Rows.laid_strconv_ErrRange), ("strconv.ErrSyntax", Rows.laid_strconv_ErrSyntax), ("unicode.White_Space", Rows.laid_unicode_White_Space), ("strings.asciiSpace", Rows.laid_strings_asciiSpace), ("unicode/utf8.first", Rows.laid_unicode_utf8_first)]

theorem wfi64 {n : Int} (h : (Lit.int .i64 n).wf = true) : -9223372036854775808 ≤ n ∧ n ≤ 9223372036854775807 := by
  simp only [Lit.wf, Bool.and_eq_true, decide_eq_true_eq] at h
  have e1 : IntKind.min .i64 = -9223372036854775808 := by decide
  have e2 : IntKind.max .i64 = 9223372036854775807 := by decide
  rw [e1, e2] at h
  exact h
theorem wfu32 {n : Int} (h : (Lit.int .u32 n).wf = true) : 0 ≤ n ∧ n ≤ 4294967295 := by
  simp only [Lit.wf, Bool.and_eq_true, decide_eq_true_eq] at h
  have e1 : IntKind.min .u32 = 0 := by decide
  have e2 : IntKind.max .u32 = 4294967295 := by decide
  rw [e1, e2] at h
  exact h
theorem wfu8 {n : Int} (h : (Lit.int .u8 n).wf = true) : 0 ≤ n ∧ n ≤ 255 := by
  simp only [Lit.wf, Bool.and_eq_true, decide_eq_true_eq] at h
  have e1 : IntKind.min .u8 = 0 := by decide
  have e2 : IntKind.max .u8 = 255 := by decide
  rw [e1, e2] at h
  exact h
theorem own : ownKnob Tryz.prog.godebug = none := by kernel_rfl
theorem star_es : "*" ++ "errors.errorString" = "*errors.errorString" := by decide
theorem row_es (u : TypeId) (h : Tryz.prog.typeName? 3 u = some "*errors.errorString") : u = 214 :=
  typeName_ptr_named (nm := "errors.errorString") (by rw [star_es]; kernel_rfl) (by kernel_rfl) (by decide) u (by rw [star_es]; exact h)

set_option maxRecDepth 100000 in
theorem first_data : Rows.laid_unicode_utf8_first = Lib.firstData := by kernel_rfl
set_option maxRecDepth 100000 in
theorem accept_data : (Rows.laid_unicode_utf8_acceptRanges : DataW Unit) = Lib.acceptData := by kernel_rfl
set_option maxRecDepth 100000 in
theorem pow_data : (Rows.laid_internal_strconv_uint64pow10 : DataW Unit) = Lib.tabData .u64 Lib.pow10Tab := by kernel_rfl
set_option maxRecDepth 100000 in
theorem asp_data : (Rows.laid_strings_asciiSpace : DataW Unit) = Lib.tabData .u8 Lib.asciiSpaceTab := by kernel_rfl
set_option maxRecDepth 100000 in
theorem db_data : (Rows.laid_math_bits_deBruijn64tab : DataW Unit) = Lib.tabData .u8 (Lib.deBruijn64tab.map fun (n : Nat) => (n : Int)) := by kernel_rfl

theorem heap_globals {W : World} (h : W.ShapedOpen Tryz.prog) : 11 ≤ W.heap.size := by
  have hs : (((begin Tryz.prog (fun _ _ => 0) default).world.heap[11 - 1]?).bind Obj.row?).isSome = true := by kernel_rfl
  obtain ⟨x, hx⟩ := Option.isSome_iff_exists.1 hs
  obtain ⟨cs, hc, _⟩ := h.1 (11 - 1) x.1 x.2 (of_decide_eq_true (by kernel_rfl)) hx
  have := (Array.getElem?_eq_some_iff.1 hc).1
  omega

set_option maxRecDepth 100000 in
theorem glob_of {W : World} (hL : laidMet Tryz.prog laidL W) (hS : W.ShapedOpen Tryz.prog) : Glob W where
  size := heap_globals hS
  utf := utf8Tabs_of_readsT (U8Types.of260 Tryz.lays260) ⟨by kernel_rfl, by kernel_rfl, by kernel_rfl, by kernel_rfl, by kernel_rfl, by kernel_rfl, by kernel_rfl⟩
    (first_data ▸ Lib.laidMet.reads hL (by simp [laidL])) (accept_data ▸ Lib.laidMet.reads hL (by simp [laidL]))
  pow := by
    have h := hL.tail.tail
    rw [pow_data] at h
    exact Lib.tabIs_of_head g_pow (by kernel_rfl) Tryz.underlying180 Tryz.underlying82 (by kernel_rfl) (by kernel_rfl) h
  db := by
    have h := hL.tail
    rw [db_data] at h
    exact Lib.tabIs_of_head g_db (by kernel_rfl) Tryz.underlying212 Tryz.underlying5 (by kernel_rfl) (by kernel_rfl) h
  esy := by
    obtain ⟨a, s, hv, _⟩ := laid_sentinel hL.tail.tail.tail.tail.tail g_esy (by kernel_rfl) Tryz.underlying115 row_es Tryz.underlying214 Tryz.underlying216 rfl rfl Tryz.underlying9 (by kernel_rfl) (by kernel_rfl)
    exact ⟨_, _, hv⟩
  era := by
    obtain ⟨a, s, hv, _⟩ := laid_sentinel hL.tail.tail.tail.tail g_era (by kernel_rfl) Tryz.underlying115 row_es Tryz.underlying214 Tryz.underlying216 rfl rfl Tryz.underlying9 (by kernel_rfl) (by kernel_rfl)
    exact ⟨_, _, hv⟩

set_option maxRecDepth 100000 in
theorem pglob_of {W : World} (hL : laidMet Tryz.prog laidL W) (hS : W.ShapedOpen Tryz.prog) : PGlob W where
  glob := glob_of hL hS
  asp := by
    have h := hL.tail.tail.tail.tail.tail.tail.tail
    rw [asp_data] at h
    exact Lib.tabIs_of_head g_asp (by kernel_rfl) Tryz.underlying84 Tryz.underlying5 (by kernel_rfl) (by kernel_rfl) h
  mxl := cell_of_shapedOpen_int (zero := #[.int .i64 0]) (t := 3) hS (of_decide_eq_true (by kernel_rfl)) (by kernel_rfl) rfl (by kernel_rfl) (by kernel_rfl) Tryz.underlying3

/-- A start that meets the list. -/
noncomputable def laidWorld (os : Os) : World :=
  let N := (World.settled Tryz.prog os).heap.size
  let w0 := World.holding Tryz.prog os ⟨#[.cells #[.string ⟨#[118, 97, 108, 117, 101, 32, 111, 117, 116, 32, 111, 102, 32, 114, 97, 110, 103, 101]⟩] 216, .cells #[.string ⟨#[105, 110, 118, 97, 108, 105, 100, 32, 115, 121, 110, 116, 97, 120]⟩] 216, .cells #[.slice (some ⟨N + 3, 0, none⟩) 7 7, .slice none 0 0, .int .i64 2] 163, .cells #[.int .u16 9, .int .u16 13, .int .u16 1, .int .u16 32, .int .u16 133, .int .u16 101, .int .u16 160, .int .u16 5760, .int .u16 5600, .int .u16 8192, .int .u16 8202, .int .u16 1, .int .u16 8232, .int .u16 8233, .int .u16 1, .int .u16 8239, .int .u16 8287, .int .u16 48, .int .u16 12288, .int .u16 12288, .int .u16 1] 166], #[], []⟩
  let put (h : Array Obj) (g : Nat) (cs : Array Value) : Array Obj := h.modify g fun
    | .cells _ t frozen => .cells cs t frozen
    | o => o
  let h0 := put (put w0.heap 7 #[.iface 214 (.pointer (some ⟨N, 0, none⟩))]) 6 #[.iface 214 (.pointer (some ⟨N + 1, 0, none⟩))]
  let h1 := put (put (put h0 5 (Lib.pow10Tab.map (Value.int .u64)).toArray) 8 (Lib.deBruijn32tab.map fun (n : Nat) => Value.int .u8 n).toArray) 9 (Lib.deBruijn64tab.map fun (n : Nat) => Value.int .u8 n).toArray
  let h2 := put (put h1 0 (Lib.firstTab.map fun z => Value.int .u8 z).toArray) 1 ((List.range 16).flatMap fun i => [Value.int .u8 (Lib.accLo i), Value.int .u8 (Lib.accHi i)]).toArray
  let h3 := put (put h2 2 (Lib.asciiSpaceTab.map (Value.int .u8)).toArray) 3 #[.pointer (some ⟨N + 2, 0, none⟩)]
  { w0 with heap := h3 }

noncomputable abbrev N0 : Nat := (World.settled Tryz.prog default).heap.size
set_option maxRecDepth 1000000 in
theorem laid_met (os : Os) (args : Array Value) : laidMet Tryz.prog laidL ((laidWorld os).forCall (fun _ _ => 0) ⟨#[], args, []⟩).memory :=
  (LaidIn.of_run (l := laidL) [8, 9, 5, 1, 7, N0, 6, N0 + 1, 3, N0 + 2, N0 + 3, 2, 0] 10 (by kernel_rfl) (by kernel_rfl) (by kernel_rfl) (by kernel_rfl)).met
end Go.Proofs.YtegnoaejlhbpbaaGreatDoor.lx
