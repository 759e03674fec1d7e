/-
  bind's Right, whole. Conditions: the package-level variables are laid; the bound query and the tables lie there. What is bound has numbers of a model's. Plain. potsherdlaw04's catalog, of, lives: the answers that the document gives. Conditions: the package-level variables are laid. What the rows' list of package-level variables gives (the parser's rows); and a start that meets it.
-/
import Derived.Test.YtgjfbbmachoolaaGreatDoorM20
import Derived.Test.YtgjfbbmachoolaaGreatDoorM19
import Derived.Test.YtgjfbbmachoolaaGreatDoorM14
import Derived.Test.YtgjfbbmachoolaaGreatDoorM04
import Derived.Shelf.Vars
import Derived.Test.YtgjfbbmachoolaaGreatDoorCards
import Derived.Test.YtgjfbbmachoolaaGreatDoorTie
import Derived.ProofKit
import Derived.OpenShut
import Derived.Deep.DeepHandedRow
import Derived.Deep.DeepWitnessRowRef
import Derived.Lib.LaidIn
import Derived.Lib.LaidU8T
import Derived.Stop.LaidErr
namespace Go.Proofs.YtgjfbbmachoolaaGreatDoor.lx
open Go.RowKit
set_option linter.unusedVariables false
set_option linter.unusedSimpArgs false

set_option maxHeartbeats 4000000 in
set_option maxRecDepth 100000 in
theorem Right_any {b : Bnd} {wo ga ia na ka lo : Option Addr} {wcp gc ic nc kc lcap : Nat} {L : List Tbl} {w : World} (hG : PGlob w) (hbi : BndIn b wo ga ia na ka w) (hbk : BndOk b) (hgc : b.group.length ≤ gc) (hL : TblRow lo L w) (hLo : TblsOk L) (hll : L.length ≤ 1099511627776) :
  Calls Tryz.prog 15 #[.agg #[.string b.table, .string b.join, .int .i64 b.width, .int .i64 b.left, .int .i64 b.right, .slice wo b.wher.length wcp, .slice ga b.group.length gc, .slice ia b.items.length ic, .bool b.grouped, .slice na b.names.length nc, .slice ka b.kinds.length kc], .slice lo L.length lcap] w fun e w' => e = .returned (.bool (rightB b L)) ∧ Below w.heap.size w w' := by
 have hmf : ∀ (fn : Fn) (first cap : Array Value) (w : World), (Instr.makeFunc fn first cap).run Tryz.prog w = .ok (.func fn first cap) w := fun _ _ _ _ => rfl
 obtain ⟨hz, hb0, h0, h1⟩ := alloc2 w (.cells #[.string b.table, .string b.join, .int .i64 b.width, .int .i64 b.left, .int .i64 b.right, .slice wo b.wher.length wcp, .slice ga b.group.length gc, .slice ia b.items.length ic, .bool b.grouped, .slice na b.names.length nc, .slice ka b.kinds.length kc] 32) (.cells #[.slice lo L.length lcap] 27)
 obtain ⟨W0, hW0⟩ : ∃ W0, ((w.alloc (.cells #[.string b.table, .string b.join, .int .i64 b.width, .int .i64 b.left, .int .i64 b.right, .slice wo b.wher.length wcp, .slice ga b.group.length gc, .slice ia b.items.length ic, .bool b.grouped, .slice na b.names.length nc, .slice ka b.kinds.length kc] 32)).alloc (.cells #[.slice lo L.length lcap] 27)) = W0 := ⟨_, rfl⟩
 rw [hW0] at hz hb0 h0 h1
 have hbA := (Below.refl W0.heap.size W0).alloc (Nat.le_refl _) (.cells #[.int .i64 0] 33)
 have hb1 := below_self hb0 hbA
 have hfn := rightfn_any (Lb := w.heap.size + 1) (Bb := w.heap.size) (hG.self hb1) (hbi.self hb1) hbk hgc (hL.self hb1) hLo hll ((hbA.block _ (by omega)).trans h1) ((hbA.block _ (by omega)).trans h0)
 have HCA := Lib.hid (caught_any (w := W0) (enters_of Tryz.func36 (by kernel_rfl) rfl) (hfn.mono fun e w' he => ⟨he, by
  have hg : Below (W0.alloc (.cells #[.int .i64 0] 33)).heap.size (W0.alloc (.cells #[.int .i64 0] 33)) w' := by
   rcases he with ⟨_, _, hg⟩ | ⟨_, _, _, hg⟩ <;> exact hg
  exact (hg.block _ (by rw [alloc_sz]; omega)).trans (heap_alloc_new _ _)⟩))
 have HB1 := Lib.hid hb1
 have HZ := Lib.hid hz
 have HW0 := Lib.hid hW0
 generalize rightB b L = R at *
 clear hG hbi hbk hL hLo hb0 hb1 hfn h0 h1 hbA hz hW0
 go_enter Tryz.func15, Tryz.ntmps15
 go_upto_region 1 with fail
 rw [HW0.out]
 clear HW0
 go_wp2_with (go_at_call 19; refine HCA.out.mono ?_; rintro e w2 ⟨y, w1, rfl, ⟨hr, hg⟩, he, rfl⟩; refine Hid.out ?_)
 refine Lib.hid ?_
 have hz := HZ.out
 have hB1 : Below w.heap.size w w1 := below_self HB1.out hg
 have HB3 := Lib.hid (hB1.setCell (p := ⟨W0.heap.size, 0, none⟩) (by show w.heap.size ≤ W0.heap.size; omega) (.int .i64 y))
 have HR := Lib.hid hr
 clear hg he HCA hB1 hr hz HZ HB1
 generalize w1.setCell ⟨W0.heap.size, 0, none⟩ (.int .i64 y) = w3 at *
 go_wp2_with fail
 go_ret
 exact ⟨by rw [← HR.out]; rfl, HB3.out⟩
end Go.Proofs.YtgjfbbmachoolaaGreatDoor.lx
namespace Go.Proofs.YtgjfbbmachoolaaGreatDoor.lx
open Go.RowKit

theorem whereR_okB {ts : List Tbl} {l r : List Stp} (h : whereR ts l = .ok r) (hl : StpsOk l) : StpsOk r ∧ r.length ≤ l.length := by
 unfold whereR at h
 split at h
 ·
  cases h; exact ⟨fun t ht => (by cases ht), Nat.zero_le _⟩
 ·
  obtain ⟨e, h1, h2⟩ := Ex.then_ok h
  obtain ⟨a, b⟩ := sbindR_okB (el := e.1) (k := e.2) h1 hl
  split at h2
  ·
   cases h2; exact ⟨a, by rw [b]; exact Nat.le_refl _⟩
  ·
   cases h2
theorem itemsB_okB {ts : List Tbl} {g : List Int} {gr : Bool} : ∀ {l out its : List Itm}, itemsB ts g gr l out = .ok its → ItsOk l → ItsOk out → ItsOk its
 | [], out, its, h, _, ho => by cases h; exact ho
 | x :: l, out, its, h, hl, ho => by
  rw [itemsB_step] at h
  obtain ⟨e, h1, h2⟩ := Ex.then_ok h
  obtain ⟨_, _, h3⟩ := Ex.then_ok h2
  obtain ⟨a, b, c⟩ := hl x (List.mem_cons_self ..)
  refine itemsB_okB h3 (fun y hy => hl y (List.mem_cons_of_mem _ hy)) (ho.snoc ?_)
  split at h1
  ·
   cases h1; exact ⟨a, b, c⟩
  ·
   obtain ⟨p, q⟩ := sbindR_okB (el := e.1) (k := e.2) h1 a
   exact ⟨p, by rw [q]; exact b, c⟩
theorem allItems_ok (n : Nat) : ItsOk (allItems n) := by
 intro it hi
 unfold allItems at hi
 obtain ⟨i, _, rfl⟩ := List.mem_map.1 hi
 exact itsOk_col _
theorem bndOk_none : BndOk Bnd.none := ⟨fun t ht => (by cases ht), by decide, fun t ht => (by cases ht), by decide, by decide⟩
theorem bindA_bok {q : Qry} {L : List Tbl} (hq : QryOk q) (hwl : q.wher.length ≤ 1099511627776) (hxl : ∀ it ∈ q.items, it.e.length ≤ 1099511627776) : BndOk (bindA q L).1 := by
 cases h : bindR q L with
 | no y => rw [bindA_no h]; exact bndOk_none
 | ok b =>
  rw [bindA_ok h]
  obtain ⟨ts, hb⟩ := bindR_ok h
  obtain ⟨a1, a2⟩ := whereR_okB hb.wher hq.wher
  obtain ⟨_, hi8, hg8⟩ := checkR_ok hb.chk
  obtain ⟨i1, i2, _, _⟩ := hb.items_is
  obtain ⟨r, hr, hrl, _⟩ := groupR_ok hb.group
  refine ⟨a1, Nat.le_trans a2 hwl, ?_, by show b.items.length ≤ _; omega, ?_⟩
  ·
   have hit := hb.items
   split at hit
   ·
    injection hit with hit; rw [← hit]; exact allItems_ok _
   ·
    exact itemsB_okB hit (fun x hx => ⟨(hq.items x hx).e, hxl x hx, (hq.items x hx).lo⟩) (fun x hx => by cases hx)
  ·
   show b.group.length ≤ _
   rw [hr, List.nil_append, hrl]
   omega
end Go.Proofs.YtgjfbbmachoolaaGreatDoor.lx
namespace Go.Proofs.YtgjfbbmachoolaaGreatDoor.lx
open Go.RowKit
set_option linter.unusedVariables false
set_option linter.unusedSimpArgs false

abbrev catL : List Tbl := [⟨⟨#[116]⟩, [⟨⟨#[107]⟩, 2⟩, ⟨⟨#[115]⟩, 3⟩]⟩, ⟨⟨#[117]⟩, [⟨⟨#[107]⟩, 2⟩]⟩]
theorem catL_ok : TblsOk catL := by
 intro t ht
 simp only [catL, List.mem_cons, List.not_mem_nil, or_false] at ht
 rcases ht with rfl | rfl
 ·
  refine ⟨by decide, fun c hc => ?_, by decide⟩
  simp only [List.mem_cons, List.not_mem_nil, or_false] at hc
  rcases hc with rfl | rfl <;> exact ⟨by decide, by decide, by decide⟩
 ·
  refine ⟨by decide, fun c hc => ?_, by decide⟩
  simp only [List.mem_cons, List.not_mem_nil, or_false] at hc
  rcases hc with rfl
  exact ⟨by decide, by decide, by decide⟩
set_option maxHeartbeats 4000000 in
set_option maxRecDepth 100000 in
theorem catalog_any (w : World) : Calls Tryz.prog 18 #[] w fun e w' => (∃ lo cap, e = .returned (.slice lo 2 cap) ∧ TblRow lo catL w') ∧ Below w.heap.size w w' := by
 obtain ⟨hz, hb, h0, h1, h2⟩ := alloc3 w (.cells #[.string ⟨#[107]⟩, .int .u8 2, .string ⟨#[115]⟩, .int .u8 3] 47) (.cells #[.string ⟨#[107]⟩, .int .u8 2] 47)
  (.cells #[.string ⟨#[116]⟩, .slice (some ⟨w.heap.size, 0, none⟩) 2 2, .slice none 0 0, .string ⟨#[117]⟩, .slice (some ⟨w.heap.size + 1, 0, none⟩) 1 1, .slice none 0 0] 53)
 have HR : Hid (TblRow (some ⟨w.heap.size + 2, 0, none⟩) catL (((w.alloc (.cells #[.string ⟨#[107]⟩, .int .u8 2, .string ⟨#[115]⟩, .int .u8 3] 47)).alloc (.cells #[.string ⟨#[107]⟩, .int .u8 2] 47)).alloc
  (.cells #[.string ⟨#[116]⟩, .slice (some ⟨w.heap.size, 0, none⟩) 2 2, .slice none 0 0, .string ⟨#[117]⟩, .slice (some ⟨w.heap.size + 1, 0, none⟩) 1 1, .slice none 0 0] 53))) := Lib.hid (by
  generalize (((w.alloc (.cells #[.string ⟨#[107]⟩, .int .u8 2, .string ⟨#[115]⟩, .int .u8 3] 47)).alloc (.cells #[.string ⟨#[107]⟩, .int .u8 2] 47)).alloc
   (.cells #[.string ⟨#[116]⟩, .slice (some ⟨w.heap.size, 0, none⟩) 2 2, .slice none 0 0, .string ⟨#[117]⟩, .slice (some ⟨w.heap.size + 1, 0, none⟩) 1 1, .slice none 0 0] 53)) = W at *
  refine .inr ⟨w.heap.size + 2, 0, rfl, fun i t ht => ?_⟩
  match i, ht with
  | 0, ht =>
   cases ht
   refine ⟨_, _, _, _, _, by rw [Lib.cell_of_heap h2]; rfl, by rw [Lib.cell_of_heap h2]; rfl, by rw [Lib.cell_of_heap h2]; rfl, .inr ⟨_, 0, rfl, fun j c hc => ?_⟩, by decide, by decide⟩
   match j, hc with
   | 0, hc => cases hc; exact ⟨by rw [Lib.cell_of_heap h0]; rfl, by rw [Lib.cell_of_heap h0]; rfl⟩
   | 1, hc => cases hc; exact ⟨by rw [Lib.cell_of_heap h0]; rfl, by rw [Lib.cell_of_heap h0]; rfl⟩
   | j + 2, hc => cases hc
  | 1, ht =>
   cases ht
   refine ⟨_, _, _, _, _, by rw [Lib.cell_of_heap h2]; rfl, by rw [Lib.cell_of_heap h2]; rfl, by rw [Lib.cell_of_heap h2]; rfl, .inr ⟨_, 0, rfl, fun j c hc => ?_⟩, by decide, by decide⟩
   match j, hc with
   | 0, hc => cases hc; exact ⟨by rw [Lib.cell_of_heap h1]; rfl, by rw [Lib.cell_of_heap h1]; rfl⟩
   | j + 1, hc => cases hc
  | i + 2, ht => cases ht)
 have HB := Lib.hid hb
 clear hz hb h0 h1 h2
 go_enter Tryz.func18, Tryz.ntmps18
 go_wp2_with fail
 go_ret
 exact ⟨⟨_, _, rfl, HR.out⟩, HB.out⟩

theorem parse_goodB (s : ByteArray) : GoodQ (parseR s).1 := by
 unfold parseR
 by_cases h : (lexR s).2.1 = 0
 ·
  rw [if_neg (fun e => e h)]
  have hsm : Small (lexR s).1 := (lexR_small s).1
  cases hq : queryR (gl (B s)).length (lexR s).1 with
  | bad y p => exact GoodQ.none
  | ok q =>
   simp only
   by_cases hc : checkR q = 0
   ·
    rw [if_neg (fun e => e hc)]
    exact queryR_good hq hsm
   ·
    rw [if_pos hc]
    exact GoodQ.none
 ·
  rw [if_pos h]
  exact GoodQ.none
/-- a text's binding -/
def ofA (s : ByteArray) (L : List Tbl) : Bnd × Int := if (parseR s).2.1 = 0 then bindA (parseR s).1 L else (Bnd.none, (parseR s).2.1)
set_option maxHeartbeats 4000000 in
set_option maxRecDepth 100000 in
theorem of_any {s : ByteArray} {lo : Option Addr} {lcap : Nat} {L : List Tbl} {w : World} (hG : PGlob w) (hs : s.size ≤ 9223372036854775807) (hL : TblRow lo L w) (hLo : TblsOk L) (hll : L.length ≤ 1099511627776) :
  Calls Tryz.prog 17 #[.string s, .slice lo L.length lcap] w fun e w' => BndAns w.heap.size (ofA s L) e w' ∧ Below w.heap.size w w' := by
 have HGQ := Lib.hid (parse_goodB s)
 have HP := Lib.hid fun w (hG : PGlob w) => Parse_any s w hG hs
 obtain ⟨A, hA⟩ : ∃ A, ofA s L = A := ⟨_, rfl⟩
 rw [hA]
 unfold ofA at hA
 generalize parseR s = R at *
 obtain ⟨q, y, p⟩ := R
 simp only at hA HGQ
 have HA := Lib.hid hA
 have HG := Lib.hid hG
 have HTR := Lib.hid hL
 have HTO := Lib.hid hLo
 have hn0 := heap_alloc_new w (.cells #[.string ⟨#[]⟩, .string ⟨#[]⟩, .int .i64 0, .int .i64 0, .int .i64 0, .slice none 0 0, .slice none 0 0, .slice none 0 0, .bool false, .slice none 0 0, .slice none 0 0] 32)
 have HB0 := Lib.hid ((Below.refl w.heap.size w).alloc (Nat.le_refl _) (.cells #[.string ⟨#[]⟩, .string ⟨#[]⟩, .int .i64 0, .int .i64 0, .int .i64 0, .slice none 0 0, .slice none 0 0, .slice none 0 0, .bool false, .slice none 0 0, .slice none 0 0] 32))
 have HN0 := Lib.hid hn0
 clear hn0 hA hG hL hLo
 go_enter Tryz.func17, Tryz.ntmps17
 go_upto_region 1 with fail
 generalize w.alloc (.cells #[.string ⟨#[]⟩, .string ⟨#[]⟩, .int .i64 0, .int .i64 0, .int .i64 0, .slice none 0 0, .slice none 0 0, .slice none 0 0, .bool false, .slice none 0 0, .slice none 0 0] 32) = W0 at *
 have HG0 := Lib.hid (HG.out.self HB0.out)
 go_wp2_with (go_at_call 39; refine (HP.out _ HG0.out).mono ?_; rintro e w2 ⟨v, rfl, hv, hb2⟩; refine Hid.out ?_)
 refine Lib.hid ?_
 obtain ⟨io, ic, wo, wc, go, gc, rfl, hq⟩ := hv.read
 have HB2 := Lib.hid (below_self HB0.out hb2)
 have HN2 := Lib.hid ((hb2.block _ (Array.getElem?_eq_some_iff.1 HN0.out).1).trans HN0.out)
 clear hv hb2 HB0 HG0 HN0
 go_upto_region 2 with fail
 have hn := heap_alloc_new w2 (.cells #[.slice io q.items.length ic, .string q.table, .string q.join, .string q.left, .string q.right, .slice wo q.wher.length wc, .slice go q.group.length gc] 26)
 have hbA := (Below.refl w2.heap.size w2).alloc (Nat.le_refl _) (.cells #[.slice io q.items.length ic, .string q.table, .string q.join, .string q.left, .string q.right, .slice wo q.wher.length wc, .slice go q.group.length gc] 26)
 have HB3 := Lib.hid (below_self HB2.out hbA)
 have HQ3 := Lib.hid (hq.self hbA)
 have HN3 := Lib.hid ((hbA.block _ (Array.getElem?_eq_some_iff.1 HN2.out).1).trans HN2.out)
 generalize w2.alloc (.cells #[.slice io q.items.length ic, .string q.table, .string q.join, .string q.left, .string q.right, .slice wo q.wher.length wc, .slice go q.group.length gc] 26) = W3 at *
 have hcl : ∀ (j : Nat) v, (#[.slice io q.items.length ic, .string q.table, .string q.join, .string q.left, .string q.right, .slice wo q.wher.length wc, .slice go q.group.length gc] : Array Value)[j]? = some v → W3.cell? ⟨w2.heap.size, j, none⟩ = some v := fun j v h => by rw [Lib.cell_of_heap hn]; exact h
 have k0 := hcl 0 _ rfl
 have k1 := hcl 1 _ rfl
 have k2 := hcl 2 _ rfl
 have k3 := hcl 3 _ rfl
 have k4 := hcl 4 _ rfl
 have k5 := hcl 5 _ rfl
 have k6 := hcl 6 _ rfl
 clear hcl hn hbA HB2 hq HN2
 by_cases hy : y = 0
 ·
  subst hy
  have HA2 : Hid (bindA q L = A) := Lib.hid (by have := HA.out; rwa [if_pos rfl] at this)
  have hqo := HGQ.out.ok
  have HBD := Lib.hid (Bind_any (icp := ic) (wcp := wc) (gcp := gc) (lcap := lcap) (HG.out.self HB3.out) HQ3.out hqo (by have := HGQ.out.wlen; omega) (fun it hi => by have := (HGQ.out.items it hi).len; omega) (HTR.out.self HB3.out) HTO.out hll)
  rw [HA2.out] at HBD
  clear hqo HA HA2
  go_wp2_with (go_at_call 9; refine HBD.out.mono ?_; rintro e w5 ⟨⟨wo5, wc5, ga5, gc5, ia5, ic5, na5, nc5, ka5, kc5, rfl, hbi, hgc, hgh, hnh⟩, hb5⟩; refine Hid.out ?_)
  refine Lib.hid ?_
  have HB5 := Lib.hid (below_self HB3.out hb5)
  have hn5 := (hb5.block _ (Array.getElem?_eq_some_iff.1 HN3.out).1).trans HN3.out
  have hs3 := HB3.out.size
  have hs3' := (Array.getElem?_eq_some_iff.1 HN3.out).1
  have HBI := Lib.hid (hbi.off (w' := set11 w.heap.size (.string A.1.table) (.string A.1.join) (.int .i64 A.1.width) (.int .i64 A.1.left) (.int .i64 A.1.right) (.slice wo5 A.1.wher.length wc5) (.slice ga5 A.1.group.length gc5) (.slice ia5 A.1.items.length ic5) (.bool A.1.grouped) (.slice na5 A.1.names.length nc5) (.slice ka5 A.1.kinds.length kc5) w5) (zero_bnd hn5) (fun g o h => by have := hgh g o h; omega) (fun g o h => by have := hnh g o h; omega) fun k hk => set11_ne hk)
  have HGH : Hid (∀ g o, ga5 = some ⟨g, o, none⟩ → w.heap.size ≤ g) := Lib.hid fun g o h => by have := hgh g o h; omega
  have HNH : Hid (∀ g o, na5 = some ⟨g, o, none⟩ → w.heap.size ≤ g) := Lib.hid fun g o h => by have := hnh g o h; omega
  have f2 := Lib.frozen_of_heap hn5
  have hcl : ∀ (m : Nat) v, (#[.string ⟨#[]⟩, .string ⟨#[]⟩, .int .i64 0, .int .i64 0, .int .i64 0, .slice none 0 0, .slice none 0 0, .slice none 0 0, .bool false, .slice none 0 0, .slice none 0 0] : Array Value)[m]? = some v → w5.cell? ⟨w.heap.size, m, none⟩ = some v := fun m v hv => by rw [Lib.cell_of_heap hn5]; exact hv
  have c0 := hcl 0 _ rfl
  have c1 := hcl 1 _ rfl
  have c2 := hcl 2 _ rfl
  have c3 := hcl 3 _ rfl
  have c4 := hcl 4 _ rfl
  have c5 := hcl 5 _ rfl
  have c6 := hcl 6 _ rfl
  have c7 := hcl 7 _ rfl
  have c8 := hcl 8 _ rfl
  have c9 := hcl 9 _ rfl
  have c10 := hcl 10 _ rfl
  have HX := Lib.hid hn5
  clear hcl hn5 hb5 hbi hgh hnh HB3 HN3 HQ3 HBD hs3 hs3' k0 k1 k2 k3 k4 k5 k6
  go_wp2_with fail
  refine bodyPost_ret (v := .tuple #[.agg (bndA A.1 wo5 wc5 ga5 gc5 ia5 ic5 na5 nc5 ka5 kc5), .int .i64 A.2]) (by exact results_bnd rfl (set11_at HX.out) rfl rfl) rfl ⟨⟨_, _, _, _, _, _, _, _, _, _, rfl, HBI.out, hgc, HGH.out, HNH.out⟩, below11 HB5.out (Nat.le_refl _)⟩
 ·
  have HA2 : Hid ((Bnd.none, y) = A) := Lib.hid (by have := HA.out; rwa [if_neg hy] at this)
  have hn5 := HN3.out
  have f2 := Lib.frozen_of_heap hn5
  have hcl : ∀ (m : Nat) v, (#[.string ⟨#[]⟩, .string ⟨#[]⟩, .int .i64 0, .int .i64 0, .int .i64 0, .slice none 0 0, .slice none 0 0, .slice none 0 0, .bool false, .slice none 0 0, .slice none 0 0] : Array Value)[m]? = some v → W3.cell? ⟨w.heap.size, m, none⟩ = some v := fun m v hv => by rw [Lib.cell_of_heap hn5]; exact hv
  have c0 := hcl 0 _ rfl
  have c1 := hcl 1 _ rfl
  have c2 := hcl 2 _ rfl
  have c3 := hcl 3 _ rfl
  have c4 := hcl 4 _ rfl
  have c5 := hcl 5 _ rfl
  have c6 := hcl 6 _ rfl
  have c7 := hcl 7 _ rfl
  have c8 := hcl 8 _ rfl
  have c9 := hcl 9 _ rfl
  have c10 := hcl 10 _ rfl
  clear hcl hn5 HQ3 HA k0 k1 k2 k3 k4 k5 k6
  go_wp2_with fail
  refine bodyPost_ret (v := .tuple #[.agg (bndA Bnd.none none 0 none 0 none 0 none 0 none 0), .int .i64 y]) (by exact results_bnd rfl (set11_at HN3.out) rfl rfl) rfl ⟨⟨none, 0, none, 0, none, 0, none, 0, none, 0, by rw [← HA2.out], by rw [← HA2.out]; exact bndIn_none _, by rw [← HA2.out]; exact Nat.zero_le _, (fun _ _ h => by cases h), (fun _ _ h => by cases h)⟩, below11 HB3.out (Nat.le_refl _)⟩
abbrev lvs1 : ByteArray := ⟨#[40, 102, 114, 111, 109, 32, 116, 32, 40, 103, 101, 116, 32, 40, 108, 101, 110, 103, 116, 104, 32, 115, 41, 41, 41]⟩
abbrev lvs2 : ByteArray := ⟨#[40, 102, 114, 111, 109, 32, 116, 32, 40, 103, 101, 116, 32, 40, 43, 32, 115, 32, 49, 41, 41, 41]⟩
abbrev lvs3 : ByteArray := ⟨#[40, 102, 114, 111, 109, 32, 116, 32, 40, 106, 111, 105, 110, 32, 117, 32, 117, 46, 107, 32, 116, 46, 107, 41, 32, 40, 103, 114, 111, 117, 112, 32, 115, 41, 32, 40, 103, 101, 116, 32, 115, 32, 40, 99, 111, 117, 110, 116, 41, 41, 41]⟩
abbrev lvs4 : ByteArray := ⟨#[40, 102, 114, 111, 109, 32, 116, 32, 40, 106, 111, 105, 110, 32, 117, 32, 116, 46, 107, 32, 117, 46, 107, 41, 32, 40, 103, 101, 116, 32, 107, 41, 41]⟩
theorem ofA_bok (s : ByteArray) (L : List Tbl) : BndOk (ofA s L).1 := by
 have hg := parse_goodB s
 unfold ofA
 split
 ·
  exact bindA_bok hg.ok (by have := hg.wlen; omega) fun it hi => by have := (hg.items it hi).len; omega
 ·
  exact bndOk_none
set_option maxRecDepth 100000 in
theorem of_lvs1 : (ofA lvs1 catL).2 = 0 ∧ (ofA lvs1 catL).1.names = [⟨#[99, 49]⟩] ∧ (ofA lvs1 catL).1.kinds = [2] := ⟨by kernel_rfl, by kernel_rfl, by kernel_rfl⟩
set_option maxRecDepth 100000 in
theorem of_lvs2 : (ofA lvs2 catL).2 = 5 := by kernel_rfl
set_option maxRecDepth 100000 in
theorem of_lvs3 : (ofA lvs3 catL).2 = 0 ∧ (ofA lvs3 catL).1.grouped = true ∧ (ofA lvs3 catL).1.width = 2 ∧ (ofA lvs3 catL).1.names = [⟨#[115]⟩, ⟨#[99, 50]⟩] ∧ (ofA lvs3 catL).1.kinds.length = 2 := ⟨by kernel_rfl, by kernel_rfl, by kernel_rfl, by kernel_rfl, by kernel_rfl⟩
set_option maxRecDepth 100000 in
theorem of_lvs4 : (ofA lvs4 catL).2 = 14 := by kernel_rfl
set_option maxRecDepth 100000 in
theorem right_lvs3 : rightB (ofA lvs3 catL).1 catL = true := by kernel_rfl
def Of1 (e : Ending) (w' : World) : Prop := ∃ (s0 s1 : ByteArray) (z2 z3 z4 : Int) (p5 : Option Addr) (n5 c5 : Nat) (p6 : Option Addr) (n6 c6 : Nat) (p7 : Option Addr) (n7 c7 : Nat) (g8 : Bool) (p9 : Option Addr) (c9 : Nat) (p10 : Option Addr) (c10 : Nat), e = .returned (.tuple #[.agg #[.string s0, .string s1, .int .i64 z2, .int .i64 z3, .int .i64 z4, .slice p5 n5 c5, .slice p6 n6 c6, .slice p7 n7 c7, .bool g8, .slice p9 1 c9, .slice p10 1 c10], .int .i64 0]) ∧ TxtRow p9 [⟨#[99, 49]⟩] w' ∧ KRow p10 [2] w'
def OfN (y : Int) (e : Ending) : Prop := ∃ (s0 s1 : ByteArray) (z2 z3 z4 : Int) (p5 : Option Addr) (n5 c5 : Nat) (p6 : Option Addr) (n6 c6 : Nat) (p7 : Option Addr) (n7 c7 : Nat) (g8 : Bool) (p9 : Option Addr) (n9 c9 : Nat) (p10 : Option Addr) (n10 c10 : Nat), e = .returned (.tuple #[.agg #[.string s0, .string s1, .int .i64 z2, .int .i64 z3, .int .i64 z4, .slice p5 n5 c5, .slice p6 n6 c6, .slice p7 n7 c7, .bool g8, .slice p9 n9 c9, .slice p10 n10 c10], .int .i64 y])
def Of3 (e : Ending) (w' : World) : Prop := ∃ (s0 s1 : ByteArray) (z3 z4 : Int) (p5 : Option Addr) (n5 c5 : Nat) (p6 : Option Addr) (n6 c6 : Nat) (p7 : Option Addr) (n7 c7 : Nat) (p9 : Option Addr) (c9 : Nat) (p10 : Option Addr) (c10 : Nat), e = .returned (.tuple #[.agg #[.string s0, .string s1, .int .i64 2, .int .i64 z3, .int .i64 z4, .slice p5 n5 c5, .slice p6 n6 c6, .slice p7 n7 c7, .bool true, .slice p9 2 c9, .slice p10 2 c10], .int .i64 0]) ∧ TxtRow p9 [⟨#[115]⟩, ⟨#[99, 50]⟩] w' ∧
 ∀ (wx : World) lo cap, Below w'.heap.size w' wx → PGlob wx → TblRow lo catL wx → Calls Tryz.prog 15 #[.agg #[.string s0, .string s1, .int .i64 2, .int .i64 z3, .int .i64 z4, .slice p5 n5 c5, .slice p6 n6 c6, .slice p7 n7 c7, .bool true, .slice p9 2 c9, .slice p10 2 c10], .slice lo 2 cap] wx fun e w'' => e = .returned (.bool true) ∧ Below wx.heap.size wx w''
theorem of1_any {lo : Option Addr} {cap : Nat} {w : World} (hG : PGlob w) (hL : TblRow lo catL w) : Calls Tryz.prog 17 #[.string lvs1, .slice lo 2 cap] w fun e w' => Of1 e w' ∧ Below w.heap.size w w' := by
 have h := of_any (s := lvs1) (lcap := cap) hG (by decide) hL catL_ok (by decide)
 obtain ⟨h1, h2, h3⟩ := of_lvs1
 generalize ofA lvs1 catL = A at h h1 h2 h3
 obtain ⟨⟨s0, s1, z2, z3, z4, wh, gr, it, g8, ns, ks⟩, y⟩ := A
 simp only at h1 h2 h3
 subst h1 h2 h3
 refine h.mono fun e w' he => ?_
 obtain ⟨⟨wo, wc, ga, gc, ia, ic, na, nc, ka, kc, he, hb, _⟩, hbel⟩ := he
 exact ⟨⟨_, _, _, _, _, _, _, _, _, _, _, _, _, _, _, _, _, _, _, he, hb.names, hb.kinds⟩, hbel⟩
theorem ofN_any {s : ByteArray} {y : Int} {lo : Option Addr} {cap : Nat} {w : World} (hs : s.size ≤ 9223372036854775807) (hy : (ofA s catL).2 = y) (hG : PGlob w) (hL : TblRow lo catL w) : Calls Tryz.prog 17 #[.string s, .slice lo 2 cap] w fun e w' => OfN y e ∧ Below w.heap.size w w' := by
 have h := of_any (s := s) (lcap := cap) hG hs hL catL_ok (by decide)
 generalize ofA s catL = A at h hy
 obtain ⟨⟨s0, s1, z2, z3, z4, wh, gr, it, g8, ns, ks⟩, y'⟩ := A
 simp only at hy
 subst hy
 refine h.mono fun e w' he => ?_
 obtain ⟨⟨wo, wc, ga, gc, ia, ic, na, nc, ka, kc, he, hb, _⟩, hbel⟩ := he
 exact ⟨⟨_, _, _, _, _, _, _, _, _, _, _, _, _, _, _, _, _, _, _, _, _, he⟩, hbel⟩
theorem of3_any {lo : Option Addr} {cap : Nat} {w : World} (hG : PGlob w) (hL : TblRow lo catL w) : Calls Tryz.prog 17 #[.string lvs3, .slice lo 2 cap] w fun e w' => Of3 e w' ∧ Below w.heap.size w w' := by
 have h := of_any (s := lvs3) (lcap := cap) hG (by decide) hL catL_ok (by decide)
 obtain ⟨h1, h2, h3, h4, h5⟩ := of_lvs3
 have hok := ofA_bok lvs3 catL
 have hr := right_lvs3
 generalize ofA lvs3 catL = A at h h1 h2 h3 h4 h5 hok hr
 obtain ⟨⟨s0, s1, z2, z3, z4, wh, gr, it, g8, ns, ks⟩, y⟩ := A
 simp only at h1 h2 h3 h4 h5 hok hr
 subst h1 h2 h3 h4
 refine h.mono fun e w' he => ?_
 obtain ⟨⟨wo, wc, ga, gc, ia, ic, na, nc, ka, kc, he, hb, hgc, _⟩, hbel⟩ := he
 refine ⟨⟨s0, s1, z3, z4, wo, wh.length, wc, ga, gr.length, gc, ia, it.length, ic, na, nc, ka, kc, ?_, hb.names, fun wx lo2 cap2 hbx hGx hLx => ?_⟩, hbel⟩
 ·
  rw [he]
  simp [bndA, h5]
 ·
  have hR := Right_any (wcp := wc) (ic := ic) (nc := nc) (kc := kc) (lcap := cap2) hGx (hb.self hbx) hok hgc hLx catL_ok (by decide)
  rw [hr] at hR
  simp only [h5] at hR
  exact hR
set_option maxHeartbeats 8000000 in
set_option maxRecDepth 100000 in
theorem lives4_any (w : World) (hG : PGlob w) : Calls Tryz.prog 8 #[] w fun e w' => e = .returned (.bool true) ∧ Below w.heap.size w w' := by
 have HG := Lib.hid hG
 have HB0 : Hid (Below w.heap.size w w) := Lib.hid (Below.refl _ _)
 clear hG
 go_enter Tryz.func8, Tryz.ntmps8
 go_wp2_with (go_at_call 18; refine (catalog_any _).mono ?_; rintro e w11 ⟨⟨lo1, cap1, rfl, htr1⟩, hb11⟩; refine Hid.out ?_)
 refine Lib.hid ?_
 have HB11 := Lib.hid (below_self HB0.out hb11)
 have HO1 := Lib.hid (of1_any (cap := cap1) (HG.out.self HB11.out) htr1)
 have HS1 := Lib.hid hb11
 clear hb11 htr1
 go_wp2_with (go_at_call 17; refine HO1.out.mono ?_; rintro e w12 ⟨⟨s01, s11, z21, z31, z41, p51, n51, c51, p61, n61, c61, p71, n71, c71, g81, p91, c91, p101, c101, rfl, hn1, hk1⟩, hb12⟩; refine Hid.out ?_)
 refine Lib.hid ?_
 have HB12 := Lib.hid (below_self HB11.out hb12)
 clear HO1
 go_upto_region 2 with fail
 have hb13 := (Below.refl w12.heap.size w12).alloc (Nat.le_refl _) (.cells #[.string s01, .string s11, .int .i64 z21, .int .i64 z31, .int .i64 z41, .slice p51 n51 c51, .slice p61 n61 c61, .slice p71 n71 c71, .bool g81, .slice p91 1 c91, .slice p101 1 c101] 32)
 have hn13 := heap_alloc_new w12 (.cells #[.string s01, .string s11, .int .i64 z21, .int .i64 z31, .int .i64 z41, .slice p51 n51 c51, .slice p61 n61 c61, .slice p71 n71 c71, .bool g81, .slice p91 1 c91, .slice p101 1 c101] 32)
 have HB13 := Lib.hid (below_self HB12.out hb13)
 have HT1 := Lib.hid (below_self (below_self HS1.out hb12) hb13)
 have HN1 := Lib.hid (hn1.self hb13)
 have HK1 := Lib.hid (hk1.self hb13)
 clear hn1 hk1
 clear hb12 hb13 HS1
 generalize w12.alloc (.cells #[.string s01, .string s11, .int .i64 z21, .int .i64 z31, .int .i64 z41, .slice p51 n51 c51, .slice p61 n61 c61, .slice p71 n71 c71, .bool g81, .slice p91 1 c91, .slice p101 1 c101] 32) = W1 at *
 have hl1 := (Array.getElem?_eq_some_iff.1 hn13).1
 have HQ1 := Lib.hid hn13
 generalize w12.heap.size = Q1 at *
 clear hn13
 go_wp2_with (go_at_call 18; refine (catalog_any _).mono ?_; rintro e w21 ⟨⟨lo2, cap2, rfl, htr2⟩, hb21⟩; refine Hid.out ?_)
 refine Lib.hid ?_
 have HB21 := Lib.hid (below_self HB13.out hb21)
 have HO2 := Lib.hid (ofN_any (s := lvs2) (y := 5) (cap := cap2) (by decide) of_lvs2 (HG.out.self HB21.out) htr2)
 have HS2 := Lib.hid hb21
 clear hb21 htr2
 go_wp2_with (go_at_call 17; refine HO2.out.mono ?_; rintro e w22 ⟨⟨s02, s12, z22, z32, z42, p52, n52, c52, p62, n62, c62, p72, n72, c72, g82, p92, n92, c92, p102, n102, c102, rfl⟩, hb22⟩; refine Hid.out ?_)
 refine Lib.hid ?_
 have HB22 := Lib.hid (below_self HB21.out hb22)
 clear HO2
 go_upto_region 3 with fail
 have hb23 := (Below.refl w22.heap.size w22).alloc (Nat.le_refl _) (.cells #[.string s02, .string s12, .int .i64 z22, .int .i64 z32, .int .i64 z42, .slice p52 n52 c52, .slice p62 n62 c62, .slice p72 n72 c72, .bool g82, .slice p92 n92 c92, .slice p102 n102 c102] 32)
 have hn23 := heap_alloc_new w22 (.cells #[.string s02, .string s12, .int .i64 z22, .int .i64 z32, .int .i64 z42, .slice p52 n52 c52, .slice p62 n62 c62, .slice p72 n72 c72, .bool g82, .slice p92 n92 c92, .slice p102 n102 c102] 32)
 have HB23 := Lib.hid (below_self HB22.out hb23)
 have HT2 := Lib.hid (below_self (below_self HS2.out hb22) hb23)
 clear hb22 hb23 HS2
 generalize w22.alloc (.cells #[.string s02, .string s12, .int .i64 z22, .int .i64 z32, .int .i64 z42, .slice p52 n52 c52, .slice p62 n62 c62, .slice p72 n72 c72, .bool g82, .slice p92 n92 c92, .slice p102 n102 c102] 32) = W2 at *
 have hl2 := (Array.getElem?_eq_some_iff.1 hn23).1
 have HQ2 := Lib.hid hn23
 generalize w22.heap.size = Q2 at *
 clear hn23
 have HQ1 := Lib.hid ((HT2.out.block Q1 hl1).trans HQ1.out)
 have hl1 := (Array.getElem?_eq_some_iff.1 HQ1.out).1
 have HN1 := Lib.hid (HN1.out.self HT2.out)
 have HK1 := Lib.hid (HK1.out.self HT2.out)
 go_wp2_with (go_at_call 18; refine (catalog_any _).mono ?_; rintro e w31 ⟨⟨lo3, cap3, rfl, htr3⟩, hb31⟩; refine Hid.out ?_)
 refine Lib.hid ?_
 have HB31 := Lib.hid (below_self HB23.out hb31)
 have HO3 := Lib.hid (of3_any (cap := cap3) (HG.out.self HB31.out) htr3)
 have HS3 := Lib.hid hb31
 clear hb31 htr3
 go_wp2_with (go_at_call 17; refine HO3.out.mono ?_; rintro e w32 ⟨⟨s03, s13, z33, z43, p53, n53, c53, p63, n63, c63, p73, n73, c73, p93, c93, p103, c103, rfl, hn3, hr3⟩, hb32⟩; refine Hid.out ?_)
 refine Lib.hid ?_
 have HB32 := Lib.hid (below_self HB31.out hb32)
 clear HO3
 go_upto_region 4 with fail
 have hb33 := (Below.refl w32.heap.size w32).alloc (Nat.le_refl _) (.cells #[.string s03, .string s13, .int .i64 2, .int .i64 z33, .int .i64 z43, .slice p53 n53 c53, .slice p63 n63 c63, .slice p73 n73 c73, .bool true, .slice p93 2 c93, .slice p103 2 c103] 32)
 have hn33 := heap_alloc_new w32 (.cells #[.string s03, .string s13, .int .i64 2, .int .i64 z33, .int .i64 z43, .slice p53 n53 c53, .slice p63 n63 c63, .slice p73 n73 c73, .bool true, .slice p93 2 c93, .slice p103 2 c103] 32)
 have HB33 := Lib.hid (below_self HB32.out hb33)
 have HT3 := Lib.hid (below_self (below_self HS3.out hb32) hb33)
 have HN3 := Lib.hid (hn3.self hb33)
 have HR3 := Lib.hid fun (wx : World) lo cap (hb : Below (w32.alloc (.cells #[.string s03, .string s13, .int .i64 2, .int .i64 z33, .int .i64 z43, .slice p53 n53 c53, .slice p63 n63 c63, .slice p73 n73 c73, .bool true, .slice p93 2 c93, .slice p103 2 c103] 32)).heap.size (w32.alloc (.cells #[.string s03, .string s13, .int .i64 2, .int .i64 z33, .int .i64 z43, .slice p53 n53 c53, .slice p63 n63 c63, .slice p73 n73 c73, .bool true, .slice p93 2 c93, .slice p103 2 c103] 32)) wx) (hG : PGlob wx) (hL : TblRow lo catL wx) => hr3 wx lo cap (below_self hb33 hb) hG hL
 clear hn3 hr3
 clear hb32 hb33 HS3
 generalize w32.alloc (.cells #[.string s03, .string s13, .int .i64 2, .int .i64 z33, .int .i64 z43, .slice p53 n53 c53, .slice p63 n63 c63, .slice p73 n73 c73, .bool true, .slice p93 2 c93, .slice p103 2 c103] 32) = W3 at *
 have hl3 := (Array.getElem?_eq_some_iff.1 hn33).1
 have HQ3 := Lib.hid hn33
 generalize w32.heap.size = Q3 at *
 clear hn33
 have HQ1 := Lib.hid ((HT3.out.block Q1 hl1).trans HQ1.out)
 have hl1 := (Array.getElem?_eq_some_iff.1 HQ1.out).1
 have HN1 := Lib.hid (HN1.out.self HT3.out)
 have HK1 := Lib.hid (HK1.out.self HT3.out)
 go_wp2_with (go_at_call 18; refine (catalog_any _).mono ?_; rintro e w41 ⟨⟨lo4, cap4, rfl, htr4⟩, hb41⟩; refine Hid.out ?_)
 refine Lib.hid ?_
 have HB41 := Lib.hid (below_self HB33.out hb41)
 have HO4 := Lib.hid (ofN_any (s := lvs4) (y := 14) (cap := cap4) (by decide) of_lvs4 (HG.out.self HB41.out) htr4)
 have HS4 := Lib.hid hb41
 clear hb41 htr4
 go_wp2_with (go_at_call 17; refine HO4.out.mono ?_; rintro e w42 ⟨⟨s04, s14, z24, z34, z44, p54, n54, c54, p64, n64, c64, p74, n74, c74, g84, p94, n94, c94, p104, n104, c104, rfl⟩, hb42⟩; refine Hid.out ?_)
 refine Lib.hid ?_
 have HB42 := Lib.hid (below_self HB41.out hb42)
 clear HO4
 go_upto_region 5 with fail
 have hb43 := (Below.refl w42.heap.size w42).alloc (Nat.le_refl _) (.cells #[.string s04, .string s14, .int .i64 z24, .int .i64 z34, .int .i64 z44, .slice p54 n54 c54, .slice p64 n64 c64, .slice p74 n74 c74, .bool g84, .slice p94 n94 c94, .slice p104 n104 c104] 32)
 have hn43 := heap_alloc_new w42 (.cells #[.string s04, .string s14, .int .i64 z24, .int .i64 z34, .int .i64 z44, .slice p54 n54 c54, .slice p64 n64 c64, .slice p74 n74 c74, .bool g84, .slice p94 n94 c94, .slice p104 n104 c104] 32)
 have HB43 := Lib.hid (below_self HB42.out hb43)
 have HT4 := Lib.hid (below_self (below_self HS4.out hb42) hb43)
 clear hb42 hb43 HS4
 generalize w42.alloc (.cells #[.string s04, .string s14, .int .i64 z24, .int .i64 z34, .int .i64 z44, .slice p54 n54 c54, .slice p64 n64 c64, .slice p74 n74 c74, .bool g84, .slice p94 n94 c94, .slice p104 n104 c104] 32) = W4 at *
 have hl4 := (Array.getElem?_eq_some_iff.1 hn43).1
 have HQ4 := Lib.hid hn43
 generalize w42.heap.size = Q4 at *
 clear hn43
 have HQ1 := Lib.hid ((HT4.out.block Q1 hl1).trans HQ1.out)
 have hl1 := (Array.getElem?_eq_some_iff.1 HQ1.out).1
 have HN1 := Lib.hid (HN1.out.self HT4.out)
 have HK1 := Lib.hid (HK1.out.self HT4.out)
 have HQ3 := Lib.hid ((HT4.out.block Q3 hl3).trans HQ3.out)
 have hl3 := (Array.getElem?_eq_some_iff.1 HQ3.out).1
 have HN3 := Lib.hid (HN3.out.self HT4.out)
 have HR3 := Lib.hid fun (wx : World) lo cap (hb : Below W4.heap.size W4 wx) (hG : PGlob wx) (hL : TblRow lo catL wx) => HR3.out wx lo cap (below_self HT4.out hb) hG hL
 clear HT1 HT2 HT3 HT4 HB11 HB12 HB13 HB21 HB22 HB23 HB31 HB32 HB33 HB41 HB42 HB0
 obtain ⟨nb1, nf1, rfl, hn1⟩ := HN1.out.resolve_left (by decide)
 obtain ⟨kb1, kf1, rfl, hk1⟩ := HK1.out.resolve_left (by decide)
 obtain ⟨nb3, nf3, rfl, hn3⟩ := HN3.out.resolve_left (by decide)
 have an : W4.cell? ⟨nb1, nf1, none⟩ = some (.string ⟨#[99, 49]⟩) := hn1 0 _ rfl
 have ak : W4.cell? ⟨kb1, kf1, none⟩ = some (.int .u8 2) := hk1 0 _ rfl
 have bn0 : W4.cell? ⟨nb3, nf3, none⟩ = some (.string ⟨#[115]⟩) := hn3 0 _ rfl
 have bn1 : W4.cell? ⟨nb3, nf3 + 1, none⟩ = some (.string ⟨#[99, 50]⟩) := hn3 1 _ rfl
 have a9 : W4.cell? ⟨Q1, 9, none⟩ = some (.slice (some ⟨nb1, nf1, none⟩) 1 c91) := by rw [Lib.cell_of_heap HQ1.out]; rfl
 have a10 : W4.cell? ⟨Q1, 10, none⟩ = some (.slice (some ⟨kb1, kf1, none⟩) 1 c101) := by rw [Lib.cell_of_heap HQ1.out]; rfl
 have hcl : ∀ (m : Nat) v, (#[.string s03, .string s13, .int .i64 2, .int .i64 z33, .int .i64 z43, .slice p53 n53 c53, .slice p63 n63 c63, .slice p73 n73 c73, .bool true, .slice (some ⟨nb3, nf3, none⟩) 2 c93, .slice p103 2 c103] : Array Value)[m]? = some v → W4.cell? ⟨Q3, m, none⟩ = some v := fun m v hv => by rw [Lib.cell_of_heap HQ3.out]; exact hv
 have q0 := hcl 0 _ rfl
 have q1 := hcl 1 _ rfl
 have q2 := hcl 2 _ rfl
 have q3 := hcl 3 _ rfl
 have q4 := hcl 4 _ rfl
 have q5 := hcl 5 _ rfl
 have q6 := hcl 6 _ rfl
 have q7 := hcl 7 _ rfl
 have q8 := hcl 8 _ rfl
 have q9 := hcl 9 _ rfl
 have q10 := hcl 10 _ rfl
 have HKS := Lib.hid fun (wx : World) (hb : Below W4.heap.size W4 wx) => (show wx.cell? ⟨Q1, 9, none⟩ = some (.slice (some ⟨nb1, nf1, none⟩) 1 c91) ∧ wx.cell? ⟨nb1, nf1, none⟩ = some (.string ⟨#[99, 49]⟩) ∧ wx.cell? ⟨Q1, 10, none⟩ = some (.slice (some ⟨kb1, kf1, none⟩) 1 c101) ∧ wx.cell? ⟨kb1, kf1, none⟩ = some (.int .u8 2) ∧ wx.cell? ⟨Q3, 0, none⟩ = some (.string s03) ∧ wx.cell? ⟨Q3, 1, none⟩ = some (.string s13) ∧ wx.cell? ⟨Q3, 2, none⟩ = some (.int .i64 2) ∧ wx.cell? ⟨Q3, 3, none⟩ = some (.int .i64 z33) ∧ wx.cell? ⟨Q3, 4, none⟩ = some (.int .i64 z43) ∧ wx.cell? ⟨Q3, 5, none⟩ = some (.slice p53 n53 c53) ∧ wx.cell? ⟨Q3, 6, none⟩ = some (.slice p63 n63 c63) ∧ wx.cell? ⟨Q3, 7, none⟩ = some (.slice p73 n73 c73) ∧ wx.cell? ⟨Q3, 8, none⟩ = some (.bool true) ∧ wx.cell? ⟨Q3, 9, none⟩ = some (.slice (some ⟨nb3, nf3, none⟩) 2 c93) ∧ wx.cell? ⟨Q3, 10, none⟩ = some (.slice p103 2 c103) ∧ wx.cell? ⟨nb3, nf3, none⟩ = some (.string ⟨#[115]⟩) ∧ wx.cell? ⟨nb3, nf3 + 1, none⟩ = some (.string ⟨#[99, 50]⟩) from ⟨keep_cellP hb a9, keep_cellP hb an, keep_cellP hb a10, keep_cellP hb ak, keep_cellP hb q0, keep_cellP hb q1, keep_cellP hb q2, keep_cellP hb q3, keep_cellP hb q4, keep_cellP hb q5, keep_cellP hb q6, keep_cellP hb q7, keep_cellP hb q8, keep_cellP hb q9, keep_cellP hb q10, keep_cellP hb bn0, keep_cellP hb bn1⟩)
 clear hcl hn1 hk1 hn3 HQ1 HQ2 HQ3 HQ4 HN1 HK1 HN3 a9 an a10 ak q0 q1 q2 q3 q4 q5 q6 q7 q8 q9 q10 bn0 bn1
 refine wp_region_held_drew (S := (fun wx => wx.cell? ⟨Q1, 9, none⟩ = some (.slice (some ⟨nb1, nf1, none⟩) 1 c91) ∧ wx.cell? ⟨nb1, nf1, none⟩ = some (.string ⟨#[99, 49]⟩) ∧ wx.cell? ⟨Q1, 10, none⟩ = some (.slice (some ⟨kb1, kf1, none⟩) 1 c101) ∧ wx.cell? ⟨kb1, kf1, none⟩ = some (.int .u8 2) ∧ wx.cell? ⟨Q3, 0, none⟩ = some (.string s03) ∧ wx.cell? ⟨Q3, 1, none⟩ = some (.string s13) ∧ wx.cell? ⟨Q3, 2, none⟩ = some (.int .i64 2) ∧ wx.cell? ⟨Q3, 3, none⟩ = some (.int .i64 z33) ∧ wx.cell? ⟨Q3, 4, none⟩ = some (.int .i64 z43) ∧ wx.cell? ⟨Q3, 5, none⟩ = some (.slice p53 n53 c53) ∧ wx.cell? ⟨Q3, 6, none⟩ = some (.slice p63 n63 c63) ∧ wx.cell? ⟨Q3, 7, none⟩ = some (.slice p73 n73 c73) ∧ wx.cell? ⟨Q3, 8, none⟩ = some (.bool true) ∧ wx.cell? ⟨Q3, 9, none⟩ = some (.slice (some ⟨nb3, nf3, none⟩) 2 c93) ∧ wx.cell? ⟨Q3, 10, none⟩ = some (.slice p103 2 c103) ∧ wx.cell? ⟨nb3, nf3, none⟩ = some (.string ⟨#[115]⟩) ∧ wx.cell? ⟨nb3, nf3 + 1, none⟩ = some (.string ⟨#[99, 50]⟩))) (by kernel_rfl) (HKS.out _ (Below.refl _ _).drew) (fun hHeld => ?_)
 refine tkH (i := 0) (v := ?_) opAt0 ?_ ?_; rotate_left; intro wq hSw; (try dsimp only at hSw); go_split_ands; go_simp <;> (with_reducible rfl); try simp only [Act.put, List.setIfInBounds_toArray, List.set_cons_zero, List.set_cons_succ]
 refine tkH (i := 1) (v := ?_) opAt1 ?_ ?_; rotate_left; intro wq hSw; (try dsimp only at hSw); go_split_ands; go_simp <;> (with_reducible rfl); try simp only [Act.put, List.setIfInBounds_toArray, List.set_cons_zero, List.set_cons_succ]
 refine tkH (i := 2) (v := ?_) opAt2 ?_ ?_; rotate_left; intro wq hSw; (try dsimp only at hSw); go_split_ands; go_simp <;> (with_reducible rfl); try simp only [Act.put, List.setIfInBounds_toArray, List.set_cons_zero, List.set_cons_succ]
 refine tkH (i := 3) (v := ?_) opAt3 ?_ ?_; rotate_left; intro wq hSw; (try dsimp only at hSw); go_split_ands; go_simp <;> (with_reducible rfl); try simp only [Act.put, List.setIfInBounds_toArray, List.set_cons_zero, List.set_cons_succ]
 refine tkH (i := 4) (v := ?_) opAt4 ?_ ?_; rotate_left; intro wq hSw; (try dsimp only at hSw); go_split_ands; go_simp <;> (with_reducible rfl); try simp only [Act.put, List.setIfInBounds_toArray, List.set_cons_zero, List.set_cons_succ]
 refine tkH (i := 5) (v := ?_) opAt5 ?_ ?_; rotate_left; intro wq hSw; (try dsimp only at hSw); go_split_ands; go_simp <;> (with_reducible rfl); try simp only [Act.put, List.setIfInBounds_toArray, List.set_cons_zero, List.set_cons_succ]
 refine tkH (i := 6) (v := ?_) opAt6 ?_ ?_; rotate_left; intro wq hSw; (try dsimp only at hSw); go_split_ands; go_simp <;> (with_reducible rfl); try simp only [Act.put, List.setIfInBounds_toArray, List.set_cons_zero, List.set_cons_succ]
 refine tkH (i := 7) (v := ?_) opAt7 ?_ ?_; rotate_left; intro wq hSw; (try dsimp only at hSw); go_split_ands; go_simp <;> (with_reducible rfl); try simp only [Act.put, List.setIfInBounds_toArray, List.set_cons_zero, List.set_cons_succ]
 refine tkH (i := 8) (v := ?_) opAt8 ?_ ?_; rotate_left; intro wq hSw; (try dsimp only at hSw); go_split_ands; go_simp <;> (with_reducible rfl); try simp only [Act.put, List.setIfInBounds_toArray, List.set_cons_zero, List.set_cons_succ]
 refine tkH (i := 9) (v := ?_) opAt9 ?_ ?_; rotate_left; intro wq hSw; (try dsimp only at hSw); go_split_ands; go_simp <;> (with_reducible rfl); try simp only [Act.put, List.setIfInBounds_toArray, List.set_cons_zero, List.set_cons_succ]
 refine tkH (i := 10) (v := ?_) opAt10 ?_ ?_; rotate_left; intro wq hSw; (try dsimp only at hSw); go_split_ands; go_simp <;> (with_reducible rfl); try simp only [Act.put, List.setIfInBounds_toArray, List.set_cons_zero, List.set_cons_succ]
 refine tkH (i := 11) (v := ?_) opAt11 ?_ ?_; rotate_left; intro wq hSw; (try dsimp only at hSw); go_split_ands; go_simp <;> (with_reducible rfl); try simp only [Act.put, List.setIfInBounds_toArray, List.set_cons_zero, List.set_cons_succ]
 refine tkH (i := 12) (v := ?_) opAt12 ?_ ?_; rotate_left; intro wq hSw; (try dsimp only at hSw); go_split_ands; go_simp <;> (with_reducible rfl); try simp only [Act.put, List.setIfInBounds_toArray, List.set_cons_zero, List.set_cons_succ]
 refine tkH (i := 13) (v := ?_) opAt13 ?_ ?_; rotate_left; intro wq hSw; (try dsimp only at hSw); go_split_ands; go_simp <;> (with_reducible rfl); try simp only [Act.put, List.setIfInBounds_toArray, List.set_cons_zero, List.set_cons_succ]
 refine tkH (i := 14) (v := ?_) opAt14 ?_ ?_; rotate_left; intro wq hSw; (try dsimp only at hSw); go_split_ands; go_simp <;> (with_reducible rfl); try simp only [Act.put, List.setIfInBounds_toArray, List.set_cons_zero, List.set_cons_succ]
 refine tkH (i := 15) (v := ?_) opAt15 ?_ ?_; rotate_left; intro wq hSw; (try dsimp only at hSw); go_split_ands; go_simp <;> (with_reducible rfl); try simp only [Act.put, List.setIfInBounds_toArray, List.set_cons_zero, List.set_cons_succ]
 refine tkH (i := 16) (v := ?_) opAt16 ?_ ?_; rotate_left; intro wq hSw; (try dsimp only at hSw); go_split_ands; go_simp <;> (with_reducible rfl); try simp only [Act.put, List.setIfInBounds_toArray, List.set_cons_zero, List.set_cons_succ]
 refine tkH (i := 17) (v := ?_) opAt17 ?_ ?_; rotate_left; intro wq hSw; (try dsimp only at hSw); go_split_ands; go_simp <;> (with_reducible rfl); try simp only [Act.put, List.setIfInBounds_toArray, List.set_cons_zero, List.set_cons_succ]
 refine tkH (i := 18) (v := ?_) opAt18 ?_ ?_; rotate_left; intro wq hSw; (try dsimp only at hSw); go_split_ands; go_simp <;> (with_reducible rfl); try simp only [Act.put, List.setIfInBounds_toArray, List.set_cons_zero, List.set_cons_succ]
 refine tkH (i := 19) (v := ?_) opAt19 ?_ ?_; rotate_left; intro wq hSw; (try dsimp only at hSw); go_split_ands; go_simp <;> (with_reducible rfl); try simp only [Act.put, List.setIfInBounds_toArray, List.set_cons_zero, List.set_cons_succ]
 refine tkH (i := 20) (v := ?_) opAt20 ?_ ?_; rotate_left; intro wq hSw; (try dsimp only at hSw); go_split_ands; go_simp <;> (with_reducible rfl); try simp only [Act.put, List.setIfInBounds_toArray, List.set_cons_zero, List.set_cons_succ]
 refine tkH (i := 21) (v := ?_) opAt21 ?_ ?_; rotate_left; intro wq hSw; (try dsimp only at hSw); go_split_ands; go_simp <;> (with_reducible rfl); try simp only [Act.put, List.setIfInBounds_toArray, List.set_cons_zero, List.set_cons_succ]
 refine tkH (i := 22) (v := ?_) opAt22 ?_ ?_; rotate_left; intro wq hSw; (try dsimp only at hSw); go_split_ands; go_simp <;> (with_reducible rfl); try simp only [Act.put, List.setIfInBounds_toArray, List.set_cons_zero, List.set_cons_succ]
 refine tkH (i := 23) (v := ?_) opAt23 ?_ ?_; rotate_left; intro wq hSw; (try dsimp only at hSw); go_split_ands; go_simp <;> (with_reducible rfl); try simp only [Act.put, List.setIfInBounds_toArray, List.set_cons_zero, List.set_cons_succ]
 refine tkH (i := 24) (v := ?_) opAt24 ?_ ?_; rotate_left; intro wq hSw; (try dsimp only at hSw); go_split_ands; go_simp <;> (with_reducible rfl); try simp only [Act.put, List.setIfInBounds_toArray, List.set_cons_zero, List.set_cons_succ]
 refine tkH (i := 25) (v := ?_) opAt25 ?_ ?_; rotate_left; intro wq hSw; (try dsimp only at hSw); go_split_ands; go_simp <;> (with_reducible rfl); try simp only [Act.put, List.setIfInBounds_toArray, List.set_cons_zero, List.set_cons_succ]
 refine tkH (i := 26) (v := ?_) opAt26 ?_ ?_; rotate_left; intro wq hSw; (try dsimp only at hSw); go_split_ands; go_simp <;> (with_reducible rfl); try simp only [Act.put, List.setIfInBounds_toArray, List.set_cons_zero, List.set_cons_succ]
 refine tkH (i := 27) (v := ?_) opAt27 ?_ ?_; rotate_left; intro wq hSw; (try dsimp only at hSw); go_split_ands; go_simp <;> (with_reducible rfl); try simp only [Act.put, List.setIfInBounds_toArray, List.set_cons_zero, List.set_cons_succ]
 refine tkH (i := 28) (v := ?_) opAt28 ?_ ?_; rotate_left; intro wq hSw; (try dsimp only at hSw); go_split_ands; go_simp <;> (with_reducible rfl); try simp only [Act.put, List.setIfInBounds_toArray, List.set_cons_zero, List.set_cons_succ]
 refine tkH (i := 29) (v := ?_) opAt29 ?_ ?_; rotate_left; intro wq hSw; (try dsimp only at hSw); go_split_ands; go_simp <;> (with_reducible rfl); try simp only [Act.put, List.setIfInBounds_toArray, List.set_cons_zero, List.set_cons_succ]
 refine tkH (i := 30) (v := ?_) opAt30 ?_ ?_; rotate_left; intro wq hSw; (try dsimp only at hSw); go_split_ands; go_simp <;> (with_reducible rfl); try simp only [Act.put, List.setIfInBounds_toArray, List.set_cons_zero, List.set_cons_succ]
 refine tkH (i := 31) (v := ?_) (opT opAt21) ?_ ?_; rotate_left; intro wq hSw; (try dsimp only at hSw); go_split_ands; go_simp <;> (with_reducible rfl); try simp only [Act.put, List.setIfInBounds_toArray, List.set_cons_zero, List.set_cons_succ]
 refine tkH (i := 32) (v := ?_) (opT opAt22) ?_ ?_; rotate_left; intro wq hSw; (try dsimp only at hSw); go_split_ands; go_simp <;> (with_reducible rfl); try simp only [Act.put, List.setIfInBounds_toArray, List.set_cons_zero, List.set_cons_succ]
 refine tkH (i := 33) (v := ?_) (opT opAt23) ?_ ?_; rotate_left; intro wq hSw; (try dsimp only at hSw); go_split_ands; go_simp <;> (with_reducible rfl); try simp only [Act.put, List.setIfInBounds_toArray, List.set_cons_zero, List.set_cons_succ]
 refine tkH (i := 34) (v := ?_) (opT opAt24) ?_ ?_; rotate_left; intro wq hSw; (try dsimp only at hSw); go_split_ands; go_simp <;> (with_reducible rfl); try simp only [Act.put, List.setIfInBounds_toArray, List.set_cons_zero, List.set_cons_succ]
 refine tkH (i := 35) (v := ?_) (opT opAt25) ?_ ?_; rotate_left; intro wq hSw; (try dsimp only at hSw); go_split_ands; go_simp <;> (with_reducible rfl); try simp only [Act.put, List.setIfInBounds_toArray, List.set_cons_zero, List.set_cons_succ]
 refine tkH (i := 36) (v := ?_) (opT opAt26) ?_ ?_; rotate_left; intro wq hSw; (try dsimp only at hSw); go_split_ands; go_simp <;> (with_reducible rfl); try simp only [Act.put, List.setIfInBounds_toArray, List.set_cons_zero, List.set_cons_succ]
 refine tkH (i := 37) (v := ?_) (opT opAt27) ?_ ?_; rotate_left; intro wq hSw; (try dsimp only at hSw); go_split_ands; go_simp <;> (with_reducible rfl); try simp only [Act.put, List.setIfInBounds_toArray, List.set_cons_zero, List.set_cons_succ]
 refine tkH (i := 38) (v := ?_) (opT opAt28) ?_ ?_; rotate_left; intro wq hSw; (try dsimp only at hSw); go_split_ands; go_simp <;> (with_reducible rfl); try simp only [Act.put, List.setIfInBounds_toArray, List.set_cons_zero, List.set_cons_succ]
 refine tkH (i := 39) (v := ?_) (opT opAt29) ?_ ?_; rotate_left; intro wq hSw; (try dsimp only at hSw); go_split_ands; go_simp <;> (with_reducible rfl); try simp only [Act.put, List.setIfInBounds_toArray, List.set_cons_zero, List.set_cons_succ]
 refine tkH (i := 40) (v := ?_) (opT opAt30) ?_ ?_; rotate_left; intro wq hSw; (try dsimp only at hSw); go_split_ands; go_simp <;> (with_reducible rfl); try simp only [Act.put, List.setIfInBounds_toArray, List.set_cons_zero, List.set_cons_succ]
 refine tkH (i := 41) (v := ?_) (opT (opT opAt21)) ?_ ?_; rotate_left; intro wq hSw; (try dsimp only at hSw); go_split_ands; go_simp <;> (with_reducible rfl); try simp only [Act.put, List.setIfInBounds_toArray, List.set_cons_zero, List.set_cons_succ]
 refine tkH (i := 42) (v := ?_) (opT (opT opAt22)) ?_ ?_; rotate_left; intro wq hSw; (try dsimp only at hSw); go_split_ands; go_simp <;> (with_reducible rfl); try simp only [Act.put, List.setIfInBounds_toArray, List.set_cons_zero, List.set_cons_succ]
 refine tkH (i := 43) (v := ?_) (opT (opT opAt23)) ?_ ?_; rotate_left; intro wq hSw; (try dsimp only at hSw); go_split_ands; go_simp <;> (with_reducible rfl); try simp only [Act.put, List.setIfInBounds_toArray, List.set_cons_zero, List.set_cons_succ]
 refine tkH (i := 44) (v := ?_) (opT (opT opAt24)) ?_ ?_; rotate_left; intro wq hSw; (try dsimp only at hSw); go_split_ands; go_simp <;> (with_reducible rfl); try simp only [Act.put, List.setIfInBounds_toArray, List.set_cons_zero, List.set_cons_succ]
 refine tkH (i := 45) (v := ?_) (opT (opT opAt25)) ?_ ?_; rotate_left; intro wq hSw; (try dsimp only at hSw); go_split_ands; go_simp <;> (with_reducible rfl); try simp only [Act.put, List.setIfInBounds_toArray, List.set_cons_zero, List.set_cons_succ]
 refine tkH (i := 46) (v := ?_) (opT (opT opAt26)) ?_ ?_; rotate_left; intro wq hSw; (try dsimp only at hSw); go_split_ands; go_simp <;> (with_reducible rfl); try simp only [Act.put, List.setIfInBounds_toArray, List.set_cons_zero, List.set_cons_succ]
 refine tkH (i := 47) (v := ?_) (opT (opT opAt27)) ?_ ?_; rotate_left; intro wq hSw; (try dsimp only at hSw); go_split_ands; go_simp <;> (with_reducible rfl); try simp only [Act.put, List.setIfInBounds_toArray, List.set_cons_zero, List.set_cons_succ]
 refine tkH (i := 48) (v := ?_) (opT (opT opAt28)) ?_ ?_; rotate_left; intro wq hSw; (try dsimp only at hSw); go_split_ands; go_simp <;> (with_reducible rfl); try simp only [Act.put, List.setIfInBounds_toArray, List.set_cons_zero, List.set_cons_succ]
 refine tkH (i := 49) (v := ?_) (opT (opT opAt29)) ?_ ?_; rotate_left; intro wq hSw; (try dsimp only at hSw); go_split_ands; go_simp <;> (with_reducible rfl); try simp only [Act.put, List.setIfInBounds_toArray, List.set_cons_zero, List.set_cons_succ]
 refine tkH (i := 50) (v := ?_) (opT (opT opAt30)) ?_ ?_; rotate_left; intro wq hSw; (try dsimp only at hSw); go_split_ands; go_simp <;> (with_reducible rfl); try simp only [Act.put, List.setIfInBounds_toArray, List.set_cons_zero, List.set_cons_succ]
 refine tkH (i := 51) (v := ?_) (opT (opT (opT opAt21))) ?_ ?_; rotate_left; intro wq hSw; (try dsimp only at hSw); go_split_ands; go_simp <;> (with_reducible rfl); try simp only [Act.put, List.setIfInBounds_toArray, List.set_cons_zero, List.set_cons_succ]
 refine tkH (i := 52) (v := ?_) (opT (opT (opT opAt22))) ?_ ?_; rotate_left; intro wq hSw; (try dsimp only at hSw); go_split_ands; go_simp <;> (with_reducible rfl); try simp only [Act.put, List.setIfInBounds_toArray, List.set_cons_zero, List.set_cons_succ]
 refine tkH (i := 53) (v := ?_) (opT (opT (opT opAt23))) ?_ ?_; rotate_left; intro wq hSw; (try dsimp only at hSw); go_split_ands; go_simp <;> (with_reducible rfl); try simp only [Act.put, List.setIfInBounds_toArray, List.set_cons_zero, List.set_cons_succ]
 refine tkH (i := 54) (v := ?_) (opT (opT (opT opAt24))) ?_ ?_; rotate_left; intro wq hSw; (try dsimp only at hSw); go_split_ands; go_simp <;> (with_reducible rfl); try simp only [Act.put, List.setIfInBounds_toArray, List.set_cons_zero, List.set_cons_succ]
 refine tkH (i := 55) (v := ?_) (opT (opT (opT opAt25))) ?_ ?_; rotate_left; intro wq hSw; (try dsimp only at hSw); go_split_ands; go_simp <;> (with_reducible rfl); try simp only [Act.put, List.setIfInBounds_toArray, List.set_cons_zero, List.set_cons_succ]
 refine tkH (i := 56) (v := ?_) (opT (opT (opT opAt26))) ?_ ?_; rotate_left; intro wq hSw; (try dsimp only at hSw); go_split_ands; go_simp <;> (with_reducible rfl); try simp only [Act.put, List.setIfInBounds_toArray, List.set_cons_zero, List.set_cons_succ]
 refine tkH (i := 57) (v := ?_) (opT (opT (opT opAt27))) ?_ ?_; rotate_left; intro wq hSw; (try dsimp only at hSw); go_split_ands; go_simp <;> (with_reducible rfl); try simp only [Act.put, List.setIfInBounds_toArray, List.set_cons_zero, List.set_cons_succ]
 refine tkH (i := 58) (v := ?_) (opT (opT (opT opAt28))) ?_ ?_; rotate_left; intro wq hSw; (try dsimp only at hSw); go_split_ands; go_simp <;> (with_reducible rfl); try simp only [Act.put, List.setIfInBounds_toArray, List.set_cons_zero, List.set_cons_succ]
 refine wpAnyH_ready (rs := [59]) (by kernel_rfl) (by simp) (AllReadyH.cons (opT (opT (opT opAt29))) (fun K hK => ?_) AllReadyH.nil)
 go_simp
 go_at_call 18
 refine (catalog_any _).mono ?_
 rintro e w8 ⟨⟨lo8, cap8, rfl, htr8⟩, hb8⟩
 have hb88 : Below W4.heap.size W4 w8 := below_self (Below.refl _ _).drew hb8
 refine hK.out _ _ (HKS.out _ hb88) (fun hHeld2 => ?_)
 clear hK K
 try simp only [Act.put, List.setIfInBounds_toArray, List.set_cons_zero, List.set_cons_succ]
 refine wpAnyH_ready (rs := [60]) (by kernel_rfl) (by simp) (AllReadyH.cons (opT (opT (opT opAt30))) (fun K hK => ?_) AllReadyH.nil)
 go_simp
 go_at_call 15
 refine (HR3.out _ lo8 cap8 hb88 (HG.out.self (below_self HB43.out hb88)) htr8).mono ?_
 rintro e w9 ⟨rfl, hb9⟩
 refine hK.out _ _ (HKS.out _ (below_self hb88 hb9)) (fun hHeld2 => ?_)
 clear hK K
 try simp only [Act.put, List.setIfInBounds_toArray, List.set_cons_zero, List.set_cons_succ]
 refine tkH (i := 61) (v := ?_) (opT (opT (opT (opT opAt21)))) ?_ ?_; rotate_left; intro wq hSw; (try dsimp only at hSw); go_split_ands; go_simp <;> (with_reducible rfl); try simp only [Act.put, List.setIfInBounds_toArray, List.set_cons_zero, List.set_cons_succ]
 refine tkH (i := 62) (v := ?_) (opT (opT (opT (opT opAt22)))) ?_ ?_; rotate_left; intro wq hSw; (try dsimp only at hSw); go_split_ands; go_simp <;> (with_reducible rfl); try simp only [Act.put, List.setIfInBounds_toArray, List.set_cons_zero, List.set_cons_succ]
 refine wpAnyH_done (by kernel_rfl) ?_ _
 have HBF := Lib.hid (below_self HB43.out (below_self hb88 hb9))
 clear hHeld hHeld2 HKS hb8 hb88 hb9 HR3 htr8
 go_wp2_with fail
 go_ret
 exact ⟨rfl, HBF.out⟩
end Go.Proofs.YtgjfbbmachoolaaGreatDoor.lx
namespace Go.Proofs.YtgjfbbmachoolaaGreatDoor.lx
open Go.ChangeShapes Go.WideShapes Go.ChangeAt Go.RowKit Go.Lib Go.Shelf

abbrev laidL : List (String × DataW Unit) := [("math/bits.deBruijn32tab", Rows.laid_math_bits_deBruijn32tab), ("math/bits.deBruijn64tab", Rows.laid_math_bits_deBruijn64tab), ("internal/strconv.uint64pow10", Rows.laid_internal_strconv_uint64pow10), ("unicode/utf8.acceptRanges", Rows.laid_unicode_utf8_acceptRanges), ("strconv.ErrRange", Rows.laid_strconv_ErrRange), ("strconv.ErrSyntax", Rows.laid_strconv_ErrSyntax), ("unicode.White_Space", Rows.laid_unicode_White_Space), ("strings.asciiSpace", Rows.laid_strings_asciiSpace), ("unicode/utf8.first", Rows.laid_unicode_utf8_first)]

theorem wfu8 {n : Int} (h : (Lit.int .u8 n).wf = true) : 0 ≤ n ∧ n ≤ 255 := by
 simp only [Lit.wf, Bool.and_eq_true, decide_eq_true_eq] at h
 have e1 : IntKind.min .u8 = 0 := by decide
 have e2 : IntKind.max .u8 = 255 := by decide
 rw [e1, e2] at h
 exact h
theorem own : ownKnob Tryz.prog.godebug = none := by kernel_rfl
theorem star_es : "*" ++ "errors.errorString" = "*errors.errorString" := by decide
theorem row_es (u : TypeId) (h : Tryz.prog.typeName? 3 u = some "*errors.errorString") : u = 255 :=
 typeName_ptr_named (nm := "errors.errorString") (by rw [star_es]; kernel_rfl) (by kernel_rfl) (by decide) u (by rw [star_es]; exact h)

set_option maxRecDepth 100000 in
theorem first_data : Rows.laid_unicode_utf8_first = Lib.firstData := by kernel_rfl
set_option maxRecDepth 100000 in
theorem accept_data : (Rows.laid_unicode_utf8_acceptRanges : DataW Unit) = Lib.acceptData := by kernel_rfl
set_option maxRecDepth 100000 in
theorem pow_data : (Rows.laid_internal_strconv_uint64pow10 : DataW Unit) = Lib.tabData .u64 Lib.pow10Tab := by kernel_rfl
set_option maxRecDepth 100000 in
theorem asp_data : (Rows.laid_strings_asciiSpace : DataW Unit) = Lib.tabData .u8 Lib.asciiSpaceTab := by kernel_rfl
set_option maxRecDepth 100000 in
theorem db_data : (Rows.laid_math_bits_deBruijn64tab : DataW Unit) = Lib.tabData .u8 (Lib.deBruijn64tab.map fun (n : Nat) => (n : Int)) := by kernel_rfl

theorem heap_globals {W : World} (h : W.ShapedOpen Tryz.prog) : 11 ≤ W.heap.size := by
 have hs : (((begin Tryz.prog (fun _ _ => 0) default).world.heap[11 - 1]?).bind Obj.row?).isSome = true := by kernel_rfl
 obtain ⟨x, hx⟩ := Option.isSome_iff_exists.1 hs
 obtain ⟨cs, hc, _⟩ := h.1 (11 - 1) x.1 x.2 (of_decide_eq_true (by kernel_rfl)) hx
 have := (Array.getElem?_eq_some_iff.1 hc).1
 omega

set_option maxRecDepth 100000 in
theorem glob_of {W : World} (hL : laidMet Tryz.prog laidL W) (hS : W.ShapedOpen Tryz.prog) : Glob W where
 size := heap_globals hS
 utf := utf8Tabs_of_readsT (U8Types.of260 Tryz.lays260) ⟨by kernel_rfl, by kernel_rfl, by kernel_rfl, by kernel_rfl, by kernel_rfl, by kernel_rfl, by kernel_rfl⟩
  (first_data ▸ Lib.laidMet.reads hL (by simp [laidL])) (accept_data ▸ Lib.laidMet.reads hL (by simp [laidL]))
 pow := by
  have h := hL.tail.tail
  rw [pow_data] at h
  exact Lib.tabIs_of_head g_pow (by kernel_rfl) Tryz.underlying206 Tryz.underlying174 (by kernel_rfl) (by kernel_rfl) h
 db := by
  have h := hL.tail
  rw [db_data] at h
  exact Lib.tabIs_of_head g_db (by kernel_rfl) Tryz.underlying236 Tryz.underlying5 (by kernel_rfl) (by kernel_rfl) h
 esy := by
  obtain ⟨a, s, hv, _⟩ := laid_sentinel hL.tail.tail.tail.tail.tail g_esy (by kernel_rfl) Tryz.underlying192 row_es Tryz.underlying255 Tryz.underlying257 rfl rfl Tryz.underlying9 (by kernel_rfl) (by kernel_rfl)
  exact ⟨_, _, hv⟩
 era := by
  obtain ⟨a, s, hv, _⟩ := laid_sentinel hL.tail.tail.tail.tail g_era (by kernel_rfl) Tryz.underlying192 row_es Tryz.underlying255 Tryz.underlying257 rfl rfl Tryz.underlying9 (by kernel_rfl) (by kernel_rfl)
  exact ⟨_, _, hv⟩

set_option maxRecDepth 100000 in
theorem pglob_of {W : World} (hL : laidMet Tryz.prog laidL W) (hS : W.ShapedOpen Tryz.prog) : PGlob W where
 glob := glob_of hL hS
 asp := by
  have h := hL.tail.tail.tail.tail.tail.tail.tail
  rw [asp_data] at h
  exact Lib.tabIs_of_head g_asp (by kernel_rfl) Tryz.underlying157 Tryz.underlying5 (by kernel_rfl) (by kernel_rfl) h
 mxl := cell_of_shapedOpen_int (zero := #[.int .i64 0]) (t := 3) hS (of_decide_eq_true (by kernel_rfl)) (by kernel_rfl) rfl (by kernel_rfl) (by kernel_rfl) Tryz.underlying3

/-- A start that meets the list. -/
noncomputable def laidWorld (os : Os) : World :=
 let N := (World.settled Tryz.prog os).heap.size
 let w0 := World.holding Tryz.prog os ⟨#[.cells #[.string ⟨#[118, 97, 108, 117, 101, 32, 111, 117, 116, 32, 111, 102, 32, 114, 97, 110, 103, 101]⟩] 257, .cells #[.string ⟨#[105, 110, 118, 97, 108, 105, 100, 32, 115, 121, 110, 116, 97, 120]⟩] 257, .cells #[.slice (some ⟨N + 3, 0, none⟩) 7 7, .slice none 0 0, .int .i64 2] 261, .cells #[.int .u16 9, .int .u16 13, .int .u16 1, .int .u16 32, .int .u16 133, .int .u16 101, .int .u16 160, .int .u16 5760, .int .u16 5600, .int .u16 8192, .int .u16 8202, .int .u16 1, .int .u16 8232, .int .u16 8233, .int .u16 1, .int .u16 8239, .int .u16 8287, .int .u16 48, .int .u16 12288, .int .u16 12288, .int .u16 1] 264], #[], []⟩
 let put (h : Array Obj) (g : Nat) (cs : Array Value) : Array Obj := h.modify g fun
  | .cells _ t frozen => .cells cs t frozen
  | o => o
 let h0 := put (put w0.heap 8 #[.iface 255 (.pointer (some ⟨N, 0, none⟩))]) 7 #[.iface 255 (.pointer (some ⟨N + 1, 0, none⟩))]
 let h1 := put (put (put h0 3 (Lib.pow10Tab.map (Value.int .u64)).toArray) 5 (Lib.deBruijn32tab.map fun (n : Nat) => Value.int .u8 n).toArray) 6 (Lib.deBruijn64tab.map fun (n : Nat) => Value.int .u8 n).toArray
 let h2 := put (put h1 0 (Lib.firstTab.map fun z => Value.int .u8 z).toArray) 1 ((List.range 16).flatMap fun i => [Value.int .u8 (Lib.accLo i), Value.int .u8 (Lib.accHi i)]).toArray
 let h3 := put (put h2 4 (Lib.asciiSpaceTab.map (Value.int .u8)).toArray) 9 #[.pointer (some ⟨N + 2, 0, none⟩)]
 { w0 with heap := h3 }

noncomputable abbrev N0 : Nat := (World.settled Tryz.prog default).heap.size
set_option maxRecDepth 1000000 in
theorem laid_met (os : Os) (args : Array Value) : laidMet Tryz.prog laidL ((laidWorld os).forCall (fun _ _ => 0) ⟨#[], args, []⟩).memory :=
 (LaidIn.of_run (l := laidL) [5, 6, 3, 1, 8, N0, 7, N0 + 1, 9, N0 + 2, N0 + 3, 4, 0] 10 (by kernel_rfl) (by kernel_rfl) (by kernel_rfl) (by kernel_rfl)).met
end Go.Proofs.YtgjfbbmachoolaaGreatDoor.lx
