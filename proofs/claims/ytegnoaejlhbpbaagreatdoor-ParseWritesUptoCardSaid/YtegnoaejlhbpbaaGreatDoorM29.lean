/-
  The reference's Print, as the program's. Conditions: the query lies there, its texts are no great ones, its numbers are of 64 bits. ParseWrites, for every query, row of steps and step that are no great ones. Conditions: the package-level variables are laid. Rows of steps and steps as arguments. No condition.
-/
import Derived.Test.YtegnoaejlhbpbaaGreatDoorM28
import Derived.Deep.RegionHeld3
import Derived.Test.YtegnoaejlhbpbaaGreatDoorM25
namespace Go.Proofs.YtegnoaejlhbpbaaGreatDoor.lx
open Go.RowKit
set_option linter.unusedVariables false
set_option linter.unusedSimpArgs false

/-- a query's text so far -/
def FrA (q : Qry) (L : List ByteArray) (F : ByteArray) : Prop := B F = 40 :: (joinT [fromB, q.table] ++ sfxL L)
/-- .. with a part under way -/
def FrB (q : Qry) (L : List ByteArray) (w : ByteArray) (xs : List ByteArray) (F : ByteArray) : Prop := B F = 40 :: (joinT [fromB, q.table] ++ (sfxL L ++ 32 :: 40 :: (B w ++ sfxL xs)))
theorem joinT_one (x : ByteArray) : joinT [x] = B x := by unfold joinT; simp [Lib.join]
theorem joinT_sfx (x : ByteArray) (L : List ByteArray) : joinT (x :: L) = B x ++ sfxL L := by
  have := joinT_app x [] L
  rw [List.nil_append] at this
  rw [this, joinT_one]
theorem FrA.zero (q : Qry) : FrA q [] (⟨#[40, 102, 114, 111, 109, 32]⟩ ++ q.table) := by
  unfold FrA
  rw [B_append, joinT_sfx]
  simp [sfxL]
  rfl
theorem FrA.add {q : Qry} {L : List ByteArray} {F X x : ByteArray} (h : FrA q L F) (hX : B X = 32 :: B x) : FrA q (L ++ [x]) (F ++ X) := by
  unfold FrA at h ⊢
  rw [B_append, h, hX]
  simp [sfxL]
theorem FrA.start {q : Qry} {L : List ByteArray} {F X w : ByteArray} (h : FrA q L F) (hX : B X = 32 :: 40 :: B w) : FrB q L w [] (F ++ X) := by
  unfold FrA at h
  unfold FrB
  rw [B_append, h, hX]
  simp [sfxL]
theorem FrB.add {q : Qry} {L xs : List ByteArray} {F X w x : ByteArray} (h : FrB q L w xs F) (hX : B X = 32 :: B x) : FrB q L w (xs ++ [x]) (F ++ X) := by
  unfold FrB at h ⊢
  rw [B_append, h, hX]
  simp [sfxL]
theorem FrB.close {q : Qry} {L xs : List ByteArray} {F w : ByteArray} (h : FrB q L w xs F) : FrA q (L ++ [bracketT (w :: xs)]) (F ++ ⟨#[41]⟩) := by
  unfold FrB at h
  unfold FrA
  have e : B (bracketT (w :: xs)) = 40 :: (B w ++ (sfxL xs ++ [41])) := by rw [B_bracket, joinT_sfx, List.append_assoc]
  rw [B_append, h]
  simp [sfxL, e]
theorem FrA.done {q : Qry} {L : List ByteArray} {F : ByteArray} (h : FrA q L F) : F ++ ⟨#[41]⟩ = frontT q L := by
  have e : B (F ++ ⟨#[41]⟩) = B (frontT q L) := by
    rw [B_append, h, B_front]
    simp
  rw [← mkB (F ++ ⟨#[41]⟩), e, mkB]
theorem join_text (j l r : ByteArray) : B ((((((⟨#[32, 40, 106, 111, 105, 110, 32]⟩ ++ j) ++ ⟨#[32]⟩) ++ l) ++ ⟨#[32]⟩) ++ r) ++ ⟨#[41]⟩) = 32 :: B (bracketT [joinB, j, l, r]) := by
  rw [B_bracket, joinT_sfx]
  simp only [B_append, sfxL, List.flatMap_cons, List.flatMap_nil, List.append_nil, List.append_assoc, List.cons_append]
  rfl
theorem where_text (e : ByteArray) : B ((⟨#[32, 40, 119, 104, 101, 114, 101, 32]⟩ ++ e) ++ ⟨#[41]⟩) = 32 :: B (bracketT [whereB, e]) := by
  rw [B_bracket, joinT_sfx]
  simp only [B_append, sfxL, List.flatMap_cons, List.flatMap_nil, List.append_nil, List.append_assoc, List.cons_append]
  rfl
theorem plain_text (x : ByteArray) : B (⟨#[32]⟩ ++ x) = 32 :: B x := by rw [B_append]; rfl
theorem count_text : B ⟨#[32, 40, 99, 111, 117, 110, 116, 41]⟩ = 32 :: B (bracketT [countB]) := by rw [B_bracket, joinT_one]; rfl
theorem agg_text (w e : ByteArray) : B (((((⟨#[32, 40]⟩ ++ w) ++ ⟨#[32]⟩) ++ e)) ++ ⟨#[41]⟩) = 32 :: B (bracketT [w, e]) := by
  rw [B_bracket, joinT_sfx]
  simp only [B_append, sfxL, List.flatMap_cons, List.flatMap_nil, List.append_nil, List.append_assoc, List.cons_append]
  rfl
theorem lit_size (l : List UInt8) : (ByteArray.mk l.toArray).size = l.length := by rw [Lib.size_eq]

set_option maxHeartbeats 16000000 in
set_option maxRecDepth 100000 in
theorem rPrint_any {q : Qry} {io wo go : Option Addr} {icap wcap gcap : Nat} {w : World} (hR : QryIn q io wo go w) (hok : QryOk q) (hnum : QryNum q) (hil : q.items.length ≤ 1099511627776) (hwl : q.wher.length ≤ 1099511627776) (hgl : q.group.length ≤ 1099511627776) (hel : ∀ it ∈ q.items, it.e.length ≤ 1099511627776) :
    Calls Tryz.prog 8 #[.agg #[.slice io q.items.length icap, .string q.table, .string q.join, .string q.left, .string q.right, .slice wo q.wher.length wcap, .slice go q.group.length gcap]] w fun e w' => e = .returned (.tuple #[.string (printR q).1, .int .i64 (printR q).2]) ∧ Below w.heap.size w w' := by
  have hb1 := (Below.refl w.heap.size w).alloc (Nat.le_refl _) (.cells #[.slice io q.items.length icap, .string q.table, .string q.join, .string q.left, .string q.right, .slice wo q.wher.length wcap, .slice go q.group.length gcap] 26)
  have hn := heap_alloc_new w (.cells #[.slice io q.items.length icap, .string q.table, .string q.join, .string q.left, .string q.right, .slice wo q.wher.length wcap, .slice go q.group.length gcap] 26)
  have HB1 := Lib.hid hb1
  have HR1 := Lib.hid (hR.self hb1)
  have hl1 := (Array.getElem?_eq_some_iff.1 hn).1
  have HOK := Lib.hid hok
  have HNUM := Lib.hid hnum
  have HEL := Lib.hid hel
  have hCK := fun (w : World) (hR : QryIn q io wo go w) => rCheck_any (icap := icap) (wcap := wcap) (gcap := gcap) hR hok hil hwl hgl hel
  by_cases hc : checkR q = 0
  · rw [hc] at hCK
    have HCK := Lib.hid hCK
    have hC := check_ok hc
    have hp := printR_ok hc
    obtain ⟨z1, z2, z3, z4⟩ := hC.sizes
    have HC := Lib.hid hC
    obtain ⟨T, hT⟩ : ∃ T, frontT q (joinL q ++ (whereL q ++ (groupL q ++ getL q))) = T := ⟨_, rfl⟩
    have HT := Lib.hid hT
    have hpT : printR q = (T, 0) := by rw [hp, ← hT]; rfl
    rw [hpT]
    have h8 := hC.ilen
    have g8 := hC.glen
    clear hC hp hT hpT hc hCK hR hok hnum hel hb1
    go_enter Tryz.func8, Tryz.ntmps8
    go_upto_region 1 with fail
    generalize w.alloc (.cells #[.slice io q.items.length icap, .string q.table, .string q.join, .string q.left, .string q.right, .slice wo q.wher.length wcap, .slice go q.group.length gcap] 26) = W1 at *
    have hcl : ∀ (j : Nat) v, #[Value.slice io q.items.length icap, .string q.table, .string q.join, .string q.left, .string q.right, .slice wo q.wher.length wcap, .slice go q.group.length gcap][j]? = some v → W1.cell? ⟨w.heap.size, j, none⟩ = some v := fun j v h => by rw [Lib.cell_of_heap hn]; exact h
    have k0 := hcl 0 _ rfl
    have k1 := hcl 1 _ rfl
    have k2 := hcl 2 _ rfl
    have k3 := hcl 3 _ rfl
    have k4 := hcl 4 _ rfl
    have k5 := hcl 5 _ rfl
    have k6 := hcl 6 _ rfl
    have HN := Lib.hid hn
    clear hcl hn
    go_wp2_with (go_at_call 15; refine (HCK.out _ HR1.out).mono ?_; rintro e w2 ⟨rfl, hb2⟩; refine Hid.out ?_)
    refine Lib.hid ?_
    have HB2 := Lib.hid (below_self HB1.out hb2)
    have HR2 := Lib.hid (HR1.out.self hb2)
    have hn2 := (hb2.block _ hl1).trans HN.out
    have hl2 := Nat.lt_of_lt_of_le hl1 hb2.size
    clear hb2 HB1 HR1 HN HCK k0 k1 k2 k3 k4 k5 k6
    have HK := Lib.hid fun (wx : World) (hb : Below w2.heap.size w2 wx) (j : Nat) (v : Value) (h : (#[Value.slice io q.items.length icap, .string q.table, .string q.join, .string q.left, .string q.right, .slice wo q.wher.length wcap, .slice go q.group.length gcap] : Array Value)[j]? = some v) => (show wx.cell? ⟨w.heap.size, j, none⟩ = some v by rw [Lib.cell_of_heap ((hb.block _ hl2).trans hn2)]; exact h)
    clear hn2
    have k1 := HK.out w2 (Below.refl _ _) 1 _ rfl
    have k2 := HK.out w2 (Below.refl _ _) 2 _ rfl
    have k3 := HK.out w2 (Below.refl _ _) 3 _ rfl
    have k4 := HK.out w2 (Below.refl _ _) 4 _ rfl
    go_upto_if 24 with fail
    go_cut [5] (fun v wx => ∃ F, v = .string F ∧ F.size ≤ 600 ∧ Hid (FrA q (joinL q) F) ∧ wx = w2)
    case first =>
      cases s2 : q.join.toList.isEmpty with
      | true =>
        have z2' : q.join.toList = [] := List.isEmpty_iff.1 s2
        have HF : Hid (FrA q (joinL q) (⟨#[40, 102, 114, 111, 109, 32]⟩ ++ q.table)) := Lib.hid (by unfold joinL; rw [if_pos (show emptyS q.join = true from s2)]; exact FrA.zero q)
        have hsz : (⟨#[40, 102, 114, 111, 109, 32]⟩ ++ q.table : ByteArray).size ≤ 600 := by rw [ByteArray.size_append]; have : (ByteArray.mk #[40, 102, 114, 111, 109, 32]).size = 6 := rfl; omega
        go_wp2_with fail
        go_meet
        exact ⟨_, rfl, hsz, HF, rfl⟩
      | false =>
        have z2' : ¬ q.join.toList = [] := fun e => by rw [e] at s2; cases s2
        have HF := Lib.hid (show FrA q (joinL q) ((⟨#[40, 102, 114, 111, 109, 32]⟩ ++ q.table) ++ ((((((⟨#[32, 40, 106, 111, 105, 110, 32]⟩ ++ q.join) ++ ⟨#[32]⟩) ++ q.left) ++ ⟨#[32]⟩) ++ q.right) ++ ⟨#[41]⟩)) by
          unfold joinL
          rw [if_neg (show ¬ emptyS q.join = true by unfold emptyS; rw [s2]; decide)]
          exact (FrA.zero q).add (join_text _ _ _))
        have hsz : ((⟨#[40, 102, 114, 111, 109, 32]⟩ ++ q.table) ++ ((((((⟨#[32, 40, 106, 111, 105, 110, 32]⟩ ++ q.join) ++ ⟨#[32]⟩) ++ q.left) ++ ⟨#[32]⟩) ++ q.right) ++ ⟨#[41]⟩) : ByteArray).size ≤ 600 := by
          simp only [ByteArray.size_append]
          have e1 : (ByteArray.mk #[40, 102, 114, 111, 109, 32]).size = 6 := rfl
          have e2 : (ByteArray.mk #[32, 40, 106, 111, 105, 110, 32]).size = 7 := rfl
          have e3 : (ByteArray.mk #[32]).size = 1 := rfl
          have e4 : (ByteArray.mk #[41]).size = 1 := rfl
          omega
        go_wp2_with fail
        go_meet
        exact ⟨_, rfl, hsz, HF, rfl⟩
    case rest =>
    obtain ⟨F, rfl, hF, HF, hwc⟩ := hcut
    obtain rfl : w2 = _ := hwc.symm
    clear k1 k2 k3 k4
    have k5 := HK.out w2 (Below.refl _ _) 5 _ rfl
    have HSW := Lib.hid (rShow_any3 (cap := wcap) HR2.out.wher HOK.out.wher HNUM.out.wher hwl)
    have hsw := showR_size HNUM.out.wher
    obtain ⟨E, hE⟩ : ∃ E, showR q.wher = E := ⟨_, rfl⟩
    rw [hE] at HSW hsw
    have HE := Lib.hid hE
    clear hE
    go_upto_if 42 with fail
    go_cut [5] (fun v wx => ∃ F, v = .string F ∧ F.size ≤ 105000 ∧ Hid (FrA q (joinL q ++ whereL q) F) ∧ Hid (Below w2.heap.size w2 wx))
    case first =>
      by_cases h0 : 0 < q.wher.length
      · have hi : (0 : Int) < (q.wher.length : Int) := by omega
        go_wp2_with (go_at_call 10; refine HSW.out.mono ?_; rintro e w3 ⟨rfl, hb3⟩; refine Hid.out ?_)
        refine Lib.hid ?_
        have HB3 := Lib.hid hb3
        clear hb3 k5
        have HF2 := Lib.hid (show FrA q (joinL q ++ whereL q) (F ++ ((⟨#[32, 40, 119, 104, 101, 114, 101, 32]⟩ ++ E.1) ++ ⟨#[41]⟩)) by
          unfold whereL
          rw [if_pos h0, HE.out]
          exact HF.out.add (where_text _))
        have hsz : (F ++ ((⟨#[32, 40, 119, 104, 101, 114, 101, 32]⟩ ++ E.1) ++ ⟨#[41]⟩) : ByteArray).size ≤ 105000 := by
          simp only [ByteArray.size_append]
          have e1 : (ByteArray.mk #[32, 40, 119, 104, 101, 114, 101, 32]).size = 8 := rfl
          have e4 : (ByteArray.mk #[41]).size = 1 := rfl
          omega
        go_wp2_with fail
        go_meet
        exact ⟨_, rfl, hsz, HF2, HB3⟩
      · have hi : ¬ (0 : Int) < (q.wher.length : Int) := by omega
        have HF2 := Lib.hid (show FrA q (joinL q ++ whereL q) F by unfold whereL; rw [if_neg h0, List.append_nil]; exact HF.out)
        go_wp2_with fail
        go_meet
        exact ⟨_, rfl, by omega, HF2, Lib.hid (Below.refl _ _)⟩
    case rest =>
    clear HF hF
    obtain ⟨F, rfl, hF, HF, HBC⟩ := hcut
    clear k5 HSW hsw HE
    generalize hW3 : wc = W3 at *
    clear hW3
    have k6 := HK.out W3 HBC.out 6 _ rfl
    have HRG := Lib.hid (HR2.out.self HBC.out)
    go_upto_if 57 with fail
    go_cut [5] (fun v wx => ∃ F, v = .string F ∧ F.size ≤ 107000 ∧ Hid (FrA q ((joinL q ++ whereL q) ++ groupL q) F) ∧ wx = W3)
    case first =>
      by_cases h0 : 0 < q.group.length
      · have hi : (0 : Int) < (q.group.length : Int) := by omega
        have HF2 := Lib.hid (HF.out.start (X := ⟨#[32, 40, 103, 114, 111, 117, 112]⟩) (w := groupB) rfl)
        have hsz : (F ++ ⟨#[32, 40, 103, 114, 111, 117, 112]⟩ : ByteArray).size ≤ 105007 := by
          rw [ByteArray.size_append]
          have : (ByteArray.mk #[32, 40, 103, 114, 111, 117, 112]).size = 7 := rfl
          omega
        go_wp2_with fail
        go_loopw [5, 63] (fun v i wx => ∃ (k : Nat) (F : ByteArray), i = .int .i64 k ∧ v = .string F ∧ k ≤ q.group.length ∧ F.size ≤ 105007 + k * 130 ∧ Hid (FrB q (joinL q ++ whereL q) groupB (q.group.take k) F) ∧ wx = W3) (fun _ i _ => q.group.length - (intOf i).toNat)
        case atStart => exact ⟨0, _, rfl, rfl, Nat.zero_le _, by omega, HF2, rfl⟩
        case round =>
          clear HF HF2 hF hsz
          obtain ⟨k, F, rfl, rfl, hk, hF, HF, hwx⟩ := hrel
          obtain rfl : W3 = _ := hwx.symm
          by_cases hlt : k < q.group.length
          · have hit : q.group[k]? = some q.group[k] := List.getElem?_eq_getElem hlt
            obtain ⟨b, o, rfl, hcs⟩ := HRG.out.group.resolve_left (by omega)
            have c0 := hcs k _ hit
            have hcz := (column_size (HC.out.group _ (List.getElem_mem hlt)).1).2
            have HSN : Hid (q.group.take (k + 1) = q.group.take k ++ [q.group[k]]) := Lib.hid (List.take_succ_eq_append_getElem hlt)
            generalize q.group[k] = g at *
            have HF2 := Lib.hid (show FrB q (joinL q ++ whereL q) groupB (q.group.take (k + 1)) (F ++ (⟨#[32]⟩ ++ g)) by rw [HSN.out]; exact HF.out.add (plain_text g))
            have hsz : (F ++ (⟨#[32]⟩ ++ g) : ByteArray).size ≤ 105007 + (k + 1) * 130 := by
              simp only [ByteArray.size_append]
              have : (ByteArray.mk #[32]).size = 1 := rfl
              omega
            clear hit hcs
            go_wp2_with fail
            go_roundw
            case rel => exact ⟨k + 1, _, by go_num, rfl, by omega, hsz, HF2, trivial⟩
            case measure => simp [intOf]; omega
          · obtain rfl : k = q.group.length := by omega
            have HF2 := Lib.hid (show FrA q ((joinL q ++ whereL q) ++ groupL q) (F ++ ⟨#[41]⟩) by
              have h := HF.out.close
              rw [List.take_length] at h
              unfold groupL
              rw [if_pos h0]
              exact h)
            have hsz : (F ++ ⟨#[41]⟩ : ByteArray).size ≤ 107000 := by
              rw [ByteArray.size_append]
              have : (ByteArray.mk #[41]).size = 1 := rfl
              omega
            go_wp2_with fail
            go_meet
            exact ⟨_, rfl, hsz, HF2, rfl⟩
      · have hi : ¬ (0 : Int) < (q.group.length : Int) := by omega
        have HF2 := Lib.hid (show FrA q ((joinL q ++ whereL q) ++ groupL q) F by unfold groupL; rw [if_neg h0, List.append_nil]; exact HF.out)
        go_wp2_with fail
        go_meet
        exact ⟨_, rfl, by omega, HF2, rfl⟩
    case rest =>
    clear HF hF k6
    obtain ⟨F, rfl, hF, HF, hwx⟩ := hcut
    obtain rfl : W3 = _ := hwx.symm
    have k0 := HK.out W3 HBC.out 0 _ rfl
    go_upto_if 77 with fail
    go_cut [5] (fun v wx => ∃ F, v = .string F ∧ F.size ≤ 2000000 ∧ Hid (FrA q (((joinL q ++ whereL q) ++ groupL q) ++ getL q) F) ∧ Hid (Below w2.heap.size w2 wx))
    case first =>
      by_cases h0 : 0 < q.items.length
      · have hi : (0 : Int) < (q.items.length : Int) := by omega
        have HF2 := Lib.hid (HF.out.start (X := ⟨#[32, 40, 103, 101, 116]⟩) (w := getB) rfl)
        have hsz : (F ++ ⟨#[32, 40, 103, 101, 116]⟩ : ByteArray).size ≤ 107005 := by
          rw [ByteArray.size_append]
          have : (ByteArray.mk #[32, 40, 103, 101, 116]).size = 5 := rfl
          omega
        go_wp2_with fail
        go_loopw [5, 83] (fun v i wx => ∃ (k : Nat) (F : ByteArray), i = .int .i64 k ∧ v = .string F ∧ k ≤ q.items.length ∧ F.size ≤ 107005 + k * 103441 ∧ Hid (FrB q ((joinL q ++ whereL q) ++ groupL q) getB ((q.items.map itemT).take k) F) ∧ Hid (Below w2.heap.size w2 wx)) (fun _ i _ => q.items.length - (intOf i).toNat)
        case atStart => exact ⟨0, _, rfl, rfl, Nat.zero_le _, by omega, HF2, HBC⟩
        case round =>
          clear HF HF2 hF hsz k0 HBC HRG
          obtain ⟨k, F, rfl, rfl, hk, hF, HF, HBR⟩ := hrel
          by_cases hlt : k < q.items.length
          · have hit : q.items[k]? = some q.items[k] := List.getElem?_eq_getElem hlt
            obtain ⟨b, o, rfl, hcs⟩ := (HR2.out.self HBR.out).items.resolve_left (by omega)
            obtain ⟨eo, ec, i0, i1, hst⟩ := hcs k _ hit
            have hpo := HOK.out.items _ (List.getElem_mem hlt)
            have hle := HEL.out _ (List.getElem_mem hlt)
            have hnu := HNUM.out.items _ (List.getElem_mem hlt)
            have hio := HC.out.items _ (List.getElem_mem hlt)
            have hitz := itemT_size hnu
            have HSN : Hid ((q.items.map itemT).take (k + 1) = (q.items.map itemT).take k ++ [itemT q.items[k]]) := Lib.hid (by
              rw [List.take_succ_eq_append_getElem (by rw [List.length_map]; exact hlt), List.getElem_map])
            generalize q.items[k] = it at *
            have hbA := (Below.refl wr.heap.size wr).alloc (Nat.le_refl _) (.cells #[.int .u8 it.agg, .slice eo it.e.length ec] 48)
            have hnA := heap_alloc_new wr (.cells #[.int .u8 it.agg, .slice eo it.e.length ec] 48)
            have HSH := Lib.hid (rShow_any3 (cap := ec) (hst.self hbA) hpo.e hnu hle)
            have HBA := Lib.hid (HBR.out.trans (hbA.mono HBR.out.size))
            have hlA := (Array.getElem?_eq_some_iff.1 hnA).1
            have hsw := showR_size hnu
            have HADD := Lib.hid fun (X : ByteArray) (hX : B X = 32 :: B (itemT it)) => (show FrB q ((joinL q ++ whereL q) ++ groupL q) getB ((q.items.map itemT).take (k + 1)) (F ++ X) by rw [HSN.out]; exact HF.out.add hX)
            have hlo := hpo.lo
            obtain ⟨a, L⟩ := it
            have hT : itemT ⟨a, L⟩ = if a = 0 then (showR L).1 else if a = 1 then bracketT [countB] else bracketT [wordT a, (showR L).1] := rfl
            have hO : itemOkR ⟨a, L⟩ = if a = 1 then decide (L.length = 0) else decide (a < 5) && rightR L := rfl
            rw [hO] at hio
            have ha5 : a < 5 := by
              by_cases h1 : a = 1
              · omega
              · rw [if_neg h1, Bool.and_eq_true, decide_eq_true_eq] at hio
                exact hio.1
            simp only at hlo hsw HSH hnA hlA HBA i0 i1
            generalize showR L = E at *
            have HTT := Lib.hid hT
            have HITZ := Lib.hid hitz
            have HNA := Lib.hid hnA
            clear hit hcs hst hpo hle hnu hio hbA hnA hT hO hitz HBR HF HSN
            go_wp2_with (go_at_call 10; refine HSH.out.mono ?_; rintro e w4 ⟨rfl, hb4⟩; refine Hid.out ?_)
            refine Lib.hid ?_
            have HB4 := Lib.hid (HBA.out.trans (hb4.mono HBA.out.size))
            have hn4 := (hb4.block _ hlA).trans HNA.out
            clear hb4 HNA HBA HSH i0 i1
            have j0 : w4.cell? ⟨wr.heap.size, 0, none⟩ = some (.int .u8 a) := by rw [Lib.cell_of_heap hn4]; rfl
            clear hn4
            by_cases e0 : a = 0
            · have a0 : (a == 0) = true := by simp [e0]
              have HX := Lib.hid (HADD.out (⟨#[32]⟩ ++ E.1) (by rw [HTT.out, if_pos e0]; exact plain_text _))
              have hsz : (F ++ (⟨#[32]⟩ ++ E.1) : ByteArray).size ≤ 107005 + (k + 1) * 103441 := by
                simp only [ByteArray.size_append]
                have : (ByteArray.mk #[32]).size = 1 := rfl
                omega
              clear e0
              go_wp2_with fail
              go_roundw
              case rel => exact ⟨k + 1, _, by go_num, rfl, by omega, hsz, HX, HB4⟩
              case measure => simp [intOf]; omega
            · have a0 : (a == 0) = false := by simp [e0]
              by_cases e1 : a = 1
              · have a1 : (a == 1) = true := by simp [e1]
                have HX := Lib.hid (HADD.out ⟨#[32, 40, 99, 111, 117, 110, 116, 41]⟩ (by rw [HTT.out, if_neg e0, if_pos e1]; exact count_text))
                have hsz : (F ++ ⟨#[32, 40, 99, 111, 117, 110, 116, 41]⟩ : ByteArray).size ≤ 107005 + (k + 1) * 103441 := by
                  simp only [ByteArray.size_append]
                  have : (ByteArray.mk #[32, 40, 99, 111, 117, 110, 116, 41]).size = 8 := rfl
                  omega
                clear e0 e1
                go_wp2_with fail
                go_roundw
                case rel => exact ⟨k + 1, _, by go_num, rfl, by omega, hsz, HX, HB4⟩
                case measure => simp [intOf]; omega
              · have a1 : (a == 1) = false := by simp [e1]
                have HX := Lib.hid (HADD.out (((((⟨#[32, 40]⟩ ++ wordT a) ++ ⟨#[32]⟩) ++ E.1)) ++ ⟨#[41]⟩) (by rw [HTT.out, if_neg e0, if_neg e1]; exact agg_text _ _))
                have hwz := wordT_size a
                have HWD := Lib.hid fun w => rword_any a w hlo (by omega)
                have hsz : (F ++ (((((⟨#[32, 40]⟩ ++ wordT a) ++ ⟨#[32]⟩) ++ E.1)) ++ ⟨#[41]⟩) : ByteArray).size ≤ 107005 + (k + 1) * 103441 := by
                  simp only [ByteArray.size_append]
                  have c1 : (ByteArray.mk #[32, 40]).size = 2 := rfl
                  have c2 : (ByteArray.mk #[32]).size = 1 := rfl
                  have c3 : (ByteArray.mk #[41]).size = 1 := rfl
                  omega
                clear e0 e1
                generalize wordT a = WT at *
                go_wp2_with (go_at_call 24; refine (HWD.out _).mono ?_; rintro e w5 ⟨rfl, hb5⟩; refine Hid.out ?_)
                refine Lib.hid ?_
                have HB5 := Lib.hid (HB4.out.trans (hb5.mono HB4.out.size))
                clear hb5
                go_wp2_with fail
                go_roundw
                case rel => exact ⟨k + 1, _, by go_num, rfl, by omega, hsz, HX, HB5⟩
                case measure => simp [intOf]; omega
          · obtain rfl : k = q.items.length := by omega
            have HF2 := Lib.hid (show FrA q (((joinL q ++ whereL q) ++ groupL q) ++ getL q) (F ++ ⟨#[41]⟩) by
              have h := HF.out.close
              rw [List.take_of_length_le (by rw [List.length_map]; exact Nat.le_refl _)] at h
              unfold getL
              rw [if_pos h0]
              exact h)
            have hsz : (F ++ ⟨#[41]⟩ : ByteArray).size ≤ 2000000 := by
              rw [ByteArray.size_append]
              have : (ByteArray.mk #[41]).size = 1 := rfl
              omega
            go_wp2_with fail
            go_meet
            exact ⟨_, rfl, hsz, HF2, HBR⟩
      · have hi : ¬ (0 : Int) < (q.items.length : Int) := by omega
        have HF2 := Lib.hid (show FrA q (((joinL q ++ whereL q) ++ groupL q) ++ getL q) F by unfold getL; rw [if_neg h0, List.append_nil]; exact HF.out)
        go_wp2_with fail
        go_meet
        exact ⟨_, rfl, by omega, HF2, HBC⟩
    case rest =>
    clear HF hF k0
    obtain ⟨F, rfl, hF, HF, HBF⟩ := hcut
    have hdone := HF.out.done
    rw [List.append_assoc, List.append_assoc] at hdone
    have HD := Lib.hid (hdone.trans HT.out)
    clear hdone HF
    go_wp2_with fail
    go_ret2
    exact ⟨by show Ending.returned (.tuple #[.string (F ++ ⟨#[41]⟩), .int .i64 0]) = _; rw [HD.out], HB2.out.trans (HBF.out.mono HB2.out.size)⟩
  · have hp : printR q = (⟨#[]⟩, checkR q) := by unfold printR; rw [if_pos hc]
    rw [hp]
    have h13 : (checkR q != 0) = true := by simp [hc]
    have h130 : (checkR q == 0) = false := by simp [hc]
    generalize checkR q = C at *
    have HCK := Lib.hid hCK
    clear hp hc hCK hR hok hnum hel hb1
    go_enter Tryz.func8, Tryz.ntmps8
    go_upto_region 1 with fail
    generalize w.alloc (.cells #[.slice io q.items.length icap, .string q.table, .string q.join, .string q.left, .string q.right, .slice wo q.wher.length wcap, .slice go q.group.length gcap] 26) = W1 at *
    have hcl : ∀ (j : Nat) v, #[Value.slice io q.items.length icap, .string q.table, .string q.join, .string q.left, .string q.right, .slice wo q.wher.length wcap, .slice go q.group.length gcap][j]? = some v → W1.cell? ⟨w.heap.size, j, none⟩ = some v := fun j v h => by rw [Lib.cell_of_heap hn]; exact h
    have k0 := hcl 0 _ rfl
    have k1 := hcl 1 _ rfl
    have k2 := hcl 2 _ rfl
    have k3 := hcl 3 _ rfl
    have k4 := hcl 4 _ rfl
    have k5 := hcl 5 _ rfl
    have k6 := hcl 6 _ rfl
    clear hcl hn
    go_wp2_with (go_at_call 15; refine (HCK.out _ HR1.out).mono ?_; rintro e w2 ⟨rfl, hb2⟩; refine Hid.out ?_)
    refine Lib.hid ?_
    have HB2 := Lib.hid (below_self HB1.out hb2)
    clear hb2 HB1 HR1 HCK k0 k1 k2 k3 k4 k5 k6
    go_wp2_with fail
    go_ret2
    exact ⟨rfl, HB2.out⟩
end Go.Proofs.YtegnoaejlhbpbaaGreatDoor.lx
namespace Go.Proofs.YtegnoaejlhbpbaaGreatDoor.lx
open Go.RowKit
set_option linter.unusedVariables false
set_option linter.unusedSimpArgs false

theorem nextH {W1 w w9 : World} (h : Hid (Below W1.heap.size W1 w)) (hb : Below w.heap.size w w9) : Hid (Below W1.heap.size W1 w9) := Lib.hid (below_self h.out hb)
set_option maxHeartbeats 4000000 in
set_option maxRecDepth 100000 in
theorem Writes_any {b : Nat} {q : Qry} {v : Value} {lo : Option Addr} {lc : Nat} {l : List Stp} {s : Stp} {w : World} (hG : PGlob w) (hA : QryArg b q v w) (hL : StpRow lo l w) (hll : l.length ≤ b) (hls : ∀ t ∈ l, StpWf t ∧ t.s.size ≤ b) (hs : StpWf s ∧ s.s.size ≤ b) (hb : b ≤ 1048576) :
    Calls Tryz.prog 3 #[v, .slice lo l.length lc, s.v] w fun e w' => e = .returned (.bool true) ∧ Below w.heap.size w w' := by
  obtain ⟨hok, hnum⟩ := hA.ok hb
  obtain ⟨lok, lnum⟩ := stps_ok hls hb
  have hil := hA.ilen
  have hwl := hA.wlen
  have hgl := hA.glen
  have hel := fun it hi => (hA.items it hi).2.1
  obtain ⟨io, ci, wo, cw, go, cg, rfl, hq, hgc⟩ := hA.val
  have hsk := wfu8 hs.1.1
  have HCs : Hid (∀ w1 : World, Below w.heap.size w w1 → PGlob w1 ∧ QryIn q io wo go w1 ∧ StpRow lo l w1) := Lib.hid fun w1 h1 => ⟨hG.self h1, hq.self h1, hL.self h1⟩
  have HP := Lib.hid fun (w1 : World) (h : Below w.heap.size w w1) => print_any (icap := ci) (wcap := cw) (HCs.out w1 h).1 (HCs.out w1 h).2.1 hok hnum hgc
  have HRP := Lib.hid fun (w1 : World) (h : Below w.heap.size w w1) => rPrint_any (icap := ci) (wcap := cw) (gcap := cg) (HCs.out w1 h).2.1 hok hnum (by omega) (by omega) (by omega) (fun it hi => by have := hel it hi; omega)
  have HS := Lib.hid fun (w1 : World) (h : Below w.heap.size w w1) => pshow_any (cap := lc) (HCs.out w1 h).1 (HCs.out w1 h).2.2 lok lnum (by omega)
  have HRS := Lib.hid fun (w1 : World) (h : Below w.heap.size w w1) => rShow_any3 (cap := lc) (HCs.out w1 h).2.2 lok lnum (by omega)
  have HT := Lib.hid fun (w1 : World) (h : Below w.heap.size w w1) => takes_any s w1 (HCs.out w1 h).1 (by omega) hsk
  have HRT := Lib.hid fun (w1 : World) (h : Below w.heap.size w w1) => rTakes_any s w1 (by omega) hsk
  have HLV := Lib.hid fun (w1 : World) (h : Below w.heap.size w w1) => lives3_any w1 (HCs.out w1 h).1
  have HC := Lib.hid fun (w1 : World) (h : Below w.heap.size w w1) => check_any (icap := ci) (wcap := cw) (gcap := cg) (HCs.out w1 h).1 (HCs.out w1 h).2.1 hok
  have HRC := Lib.hid fun (w1 : World) (h : Below w.heap.size w w1) => rCheck_any (icap := ci) (wcap := cw) (gcap := cg) (HCs.out w1 h).2.1 hok (by omega) (by omega) (by omega) (fun it hi => by have := hel it hi; omega)
  have HR := Lib.hid fun (w1 : World) (h : Below w.heap.size w w1) => right_any (cap := lc) (HCs.out w1 h).1 (HCs.out w1 h).2.2 lok (by omega)
  have HRR := Lib.hid fun (w1 : World) (h : Below w.heap.size w w1) => rRight_any (cap := lc) (HCs.out w1 h).2.2 lok (by omega)
  obtain ⟨sk, ss, sn⟩ := s
  unfold Stp.v at *
  simp only at *
  generalize printR q = P at *
  generalize showR l = S at *
  generalize takesR ⟨sk, ss, sn⟩ = T at *
  generalize checkR q = C at *
  generalize rightR l = R at *
  obtain ⟨P1, P2⟩ := P
  obtain ⟨S1, S2⟩ := S
  obtain ⟨T1, T2⟩ := T
  have hb1 := ((Below.refl w.heap.size w).alloc (Nat.le_refl _) (.cells (qryV q io wo go ci cw cg) 26)).alloc (by rw [alloc_sz]; omega) (.cells #[.int .u8 sk, .string ss, .int .i64 sn] 29)
  have hn1 := heap_alloc_new w (.cells (qryV q io wo go ci cw cg) 26)
  have hn1 := (Lib.alloc_old _ (.cells #[.int .u8 sk, .string ss, .int .i64 sn] 29) _ (Array.getElem?_eq_some_iff.1 hn1).1).trans hn1
  have hn2 := heap_alloc_new (w.alloc (.cells (qryV q io wo go ci cw cg) 26)) (.cells #[.int .u8 sk, .string ss, .int .i64 sn] 29)
  rw [alloc_sz] at hn2
  unfold qryV at *
  have HB1 := Lib.hid hb1
  clear hA hL hll hls hs hok hnum lok lnum hil hwl hgl hel hq hgc hG hb1
  go_enter Tryz.func3, Tryz.ntmps3
  go_upto_region 1 with fail
  generalize (w.alloc (.cells #[.slice io q.items.length ci, .string q.table, .string q.join, .string q.left, .string q.right, .slice wo q.wher.length cw, .slice go q.group.length cg] 26)).alloc (.cells #[.int .u8 sk, .string ss, .int .i64 sn] 29) = W1 at *
  have hl1 := (Array.getElem?_eq_some_iff.1 hn1).1
  have hl2 := (Array.getElem?_eq_some_iff.1 hn2).1
  have HQ := Lib.hid fun (wx : World) (hb : Below W1.heap.size W1 wx) (j : Nat) (v : Value) (h : (#[Value.slice io q.items.length ci, .string q.table, .string q.join, .string q.left, .string q.right, .slice wo q.wher.length cw, .slice go q.group.length cg] : Array Value)[j]? = some v) => (show wx.cell? ⟨w.heap.size, j, none⟩ = some v by rw [Lib.cell_of_heap ((hb.block _ hl1).trans hn1)]; exact h)
  have HZ := Lib.hid fun (wx : World) (hb : Below W1.heap.size W1 wx) (j : Nat) (v : Value) (h : (#[Value.int .u8 sk, .string ss, .int .i64 sn] : Array Value)[j]? = some v) => (show wx.cell? ⟨w.heap.size + 1, j, none⟩ = some v by rw [Lib.cell_of_heap ((hb.block _ hl2).trans hn2)]; exact h)
  have HB := Lib.hid fun (wx : World) (hb : Below W1.heap.size W1 wx) => HB1.out.trans (hb.mono HB1.out.size)
  clear hn1 hn2 hl1 hl2
  have k0 := HQ.out W1 (Below.refl _ _) 0 _ rfl
  have k1 := HQ.out W1 (Below.refl _ _) 1 _ rfl
  have k2 := HQ.out W1 (Below.refl _ _) 2 _ rfl
  have k3 := HQ.out W1 (Below.refl _ _) 3 _ rfl
  have k4 := HQ.out W1 (Below.refl _ _) 4 _ rfl
  have k5 := HQ.out W1 (Below.refl _ _) 5 _ rfl
  have k6 := HQ.out W1 (Below.refl _ _) 6 _ rfl
  go_wp2_with (go_at_call 7; refine (HP.out _ HB1.out).mono ?_; rintro e w2 ⟨rfl, hb2⟩; refine Hid.out ?_)
  refine Lib.hid ?_
  have B2 := Lib.hid hb2
  clear hb2 k0 k1 k2 k3 k4 k5 k6
  have k0 := HQ.out w2 B2.out 0 _ rfl
  have k1 := HQ.out w2 B2.out 1 _ rfl
  have k2 := HQ.out w2 B2.out 2 _ rfl
  have k3 := HQ.out w2 B2.out 3 _ rfl
  have k4 := HQ.out w2 B2.out 4 _ rfl
  have k5 := HQ.out w2 B2.out 5 _ rfl
  have k6 := HQ.out w2 B2.out 6 _ rfl
  go_wp2_with (go_at_call 8; refine (HRP.out _ (HB.out _ B2.out)).mono ?_; rintro e w3 ⟨rfl, hb3⟩; refine Hid.out ?_)
  refine Lib.hid ?_
  have B3 := Lib.hid (below_self B2.out hb3)
  clear hb3 k0 k1 k2 k3 k4 k5 k6 HP HRP B2
  go_wp2_with (go_at_call 9; refine (HS.out _ (HB.out _ B3.out)).mono ?_; rintro e w4 ⟨rfl, hb4⟩; refine Hid.out ?_)
  refine Lib.hid ?_
  have B4 := Lib.hid (below_self B3.out hb4)
  clear hb4 B3
  go_wp2_with (go_at_call 10; refine (HRS.out _ (HB.out _ B4.out)).mono ?_; rintro e w5 ⟨rfl, hb5⟩; refine Hid.out ?_)
  refine Lib.hid ?_
  have B5 := Lib.hid (below_self B4.out hb5)
  clear hb5 B4 HS HRS
  have z0 := HZ.out w5 B5.out 0 _ rfl
  have z1 := HZ.out w5 B5.out 1 _ rfl
  have z2 := HZ.out w5 B5.out 2 _ rfl
  go_wp2_with (go_at_call 11; refine (HT.out _ (HB.out _ B5.out)).mono ?_; rintro e w6 ⟨rfl, hb6⟩; refine Hid.out ?_)
  refine Lib.hid ?_
  have B6 := Lib.hid (below_self B5.out hb6)
  clear hb6 B5 z0 z1 z2
  have z0 := HZ.out w6 B6.out 0 _ rfl
  have z1 := HZ.out w6 B6.out 1 _ rfl
  have z2 := HZ.out w6 B6.out 2 _ rfl
  go_wp2_with (go_at_call 12; refine (HRT.out _ (HB.out _ B6.out)).mono ?_; rintro e w7 ⟨rfl, hb7⟩; refine Hid.out ?_)
  refine Lib.hid ?_
  have B7 := Lib.hid (below_self B6.out hb7)
  clear hb7 B6 z0 z1 z2 HT HRT HZ
  go_upto_region 7 with fail
  have HKA := Lib.hid fun (wx : World) (hb : Below W1.heap.size W1 wx) => (show wx.cell? ⟨w.heap.size, 0, none⟩ = some (.slice io q.items.length ci) ∧ wx.cell? ⟨w.heap.size, 1, none⟩ = some (.string q.table) ∧ wx.cell? ⟨w.heap.size, 2, none⟩ = some (.string q.join) ∧ wx.cell? ⟨w.heap.size, 3, none⟩ = some (.string q.left) ∧ wx.cell? ⟨w.heap.size, 4, none⟩ = some (.string q.right) ∧ wx.cell? ⟨w.heap.size, 5, none⟩ = some (.slice wo q.wher.length cw) ∧ wx.cell? ⟨w.heap.size, 6, none⟩ = some (.slice go q.group.length cg) ∧ Hid (Below W1.heap.size W1 wx) from ⟨HQ.out wx hb 0 _ rfl, HQ.out wx hb 1 _ rfl, HQ.out wx hb 2 _ rfl, HQ.out wx hb 3 _ rfl, HQ.out wx hb 4 _ rfl, HQ.out wx hb 5 _ rfl, HQ.out wx hb 6 _ rfl, Lib.hid hb⟩)
  clear HQ
  go_region_held3 (fun wx => wx.cell? ⟨w.heap.size, 0, none⟩ = some (.slice io q.items.length ci) ∧ wx.cell? ⟨w.heap.size, 1, none⟩ = some (.string q.table) ∧ wx.cell? ⟨w.heap.size, 2, none⟩ = some (.string q.join) ∧ wx.cell? ⟨w.heap.size, 3, none⟩ = some (.string q.left) ∧ wx.cell? ⟨w.heap.size, 4, none⟩ = some (.string q.right) ∧ wx.cell? ⟨w.heap.size, 5, none⟩ = some (.slice wo q.wher.length cw) ∧ wx.cell? ⟨w.heap.size, 6, none⟩ = some (.slice go q.group.length cg) ∧ Hid (Below W1.heap.size W1 wx)) ((go_split_ands; first | exact HKA.out _ (Hid.out (by assumption)) | exact HKA.out _ (bdn (Hid.out (by assumption)) 1)))
    (first
    | (go_at_call 13; go_split_ands; refine (HLV.out _ (HB.out _ (Hid.out (by assumption)))).mono ?_; rintro e w8 ⟨rfl, hb8⟩; have B8 := nextH (by assumption) hb8; clear hb8)
    | (go_at_call 14; go_split_ands; refine (HC.out _ (HB.out _ (Hid.out (by assumption)))).mono ?_; rintro e w8 ⟨rfl, hb8⟩; have B8 := nextH (by assumption) hb8; clear hb8)
    | (go_at_call 15; go_split_ands; refine (HRC.out _ (HB.out _ (Hid.out (by assumption)))).mono ?_; rintro e w8 ⟨rfl, hb8⟩; have B8 := nextH (by assumption) hb8; clear hb8)
    | (go_at_call 16; go_split_ands; refine (HR.out _ (HB.out _ (Hid.out (by assumption)))).mono ?_; rintro e w8 ⟨rfl, hb8⟩; have B8 := nextH (by assumption) hb8; clear hb8)
    | (go_at_call 17; go_split_ands; refine (HRR.out _ (HB.out _ (Hid.out (by assumption)))).mono ?_; rintro e w8 ⟨rfl, hb8⟩; have B8 := nextH (by assumption) hb8; clear hb8))
  go_split_ands
  go_wp2_with fail
  go_ret
  exact ⟨rfl, HB.out _ (by first | exact Hid.out (by assumption) | exact bdn (Hid.out (by assumption)) 1)⟩
end Go.Proofs.YtegnoaejlhbpbaaGreatDoor.lx
namespace Go.Proofs.YtegnoaejlhbpbaaGreatDoor.lx
open Go.ChangeShapes Go.WideShapes Go.Deep Go.RowKit

theorem QryArg.mono {b b' : Nat} {q : Qry} {v : Value} {w : World} (h : QryArg b q v w) (hb : b ≤ b') : QryArg b' q v w where
  val := h.val
  ilen := Nat.le_trans h.ilen hb
  wlen := Nat.le_trans h.wlen hb
  glen := Nat.le_trans h.glen hb
  items := fun it hi => ⟨(h.items it hi).1, Nat.le_trans (h.items it hi).2.1 hb, fun t ht => ⟨((h.items it hi).2.2 t ht).1, Nat.le_trans ((h.items it hi).2.2 t ht).2 hb⟩⟩
  wher := fun t ht => ⟨(h.wher t ht).1, Nat.le_trans (h.wher t ht).2 hb⟩
  group := fun s hs => Nat.le_trans (h.group s hs) hb
  table := Nat.le_trans h.table hb
  join := Nat.le_trans h.join hb
  left := Nat.le_trans h.left hb
  right := Nat.le_trans h.right hb
variable {H : Type} {enc : TypeId × Value → H} {W : World}
set_option maxRecDepth 100000 in
theorem open_stps {r : Reach} {base : Nat} {v : Value} {d : DataW H} {ps : List MemPlace} (hval : Value.okWide Tryz.prog W r base 23 v)
    (h : DataW.Trod enc Tryz.prog W 0 (fun _ => true) true 23 v d ps) :
    ∃ ao L cap, v = .slice ao L.length cap ∧ StpRow ao L W ∧ L.length ≤ Rows.uptoBulk d ∧ ∀ t ∈ L, StpWf t ∧ t.s.size ≤ Rows.uptoBulk d := by
  obtain ⟨sa, len, cap, rfl⟩ := okWide_slice Tryz.underlying23 hval
  obtain ⟨fuel, hf⟩ := h
  have hcells : (Value.slice sa len cap).cells.toList = [.slice sa len cap] := by simp [Value.cells]
  rw [hcells] at hf
  obtain ⟨ao, L, c, e, h1, _, h2, h3⟩ := trod_stps hf
  exact ⟨ao, L, c, e, h1, h2, h3⟩
set_option maxRecDepth 100000 in
theorem open_stp {r : Reach} {base : Nat} {v : Value} {d : DataW H} {ps : List MemPlace} (hval : Value.okWide Tryz.prog W r base 29 v)
    (h : DataW.Trod enc Tryz.prog W 0 (fun _ => true) true 29 v d ps) : ∃ t : Stp, v = t.v ∧ StpWf t ∧ t.s.size ≤ Rows.uptoBulk d := by
  obtain ⟨v0, v1, v2, y0, y1, y2, n, rfl, rfl, rfl, t0, t1, t2⟩ := Go.Joins.open_agg3 Tryz.underlying29 (by kernel_rfl) (by kernel_rfl) hval h
  obtain ⟨k, hk, e0, wk⟩ := DataW.trod_int Tryz.underlying27 t0
  obtain ⟨s, hs, e1, ws⟩ := DataW.trod_string Tryz.underlying9 t1
  obtain ⟨nn, hn, e2, wn⟩ := DataW.trod_int Tryz.underlying2 t2
  obtain rfl : v0 = .int .u8 k := by simpa using hk
  obtain rfl : v1 = .string s := by simpa using hs
  obtain rfl : v2 = .int .i64 nn := by simpa using hn
  refine ⟨⟨k, s, nn⟩, rfl, ⟨wk, wn⟩, ?_⟩
  have := Lib.size_eq s
  rw [e0, e1, e2]
  simp only [Rows.uptoBulk, Rows.uptoBulkAll]
  omega
end Go.Proofs.YtegnoaejlhbpbaaGreatDoor.lx
