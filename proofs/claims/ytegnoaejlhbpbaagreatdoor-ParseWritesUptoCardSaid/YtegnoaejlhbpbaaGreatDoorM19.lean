/-
  How an expression is shown (parse.Show): from its last step. Conditions: the package-level variables are laid; the steps lie there; it is right. A right expression is shown whole. Plain law; no condition. parse.Show, for every row of steps. Conditions: the package-level variables are laid; the steps lie there, their texts are no great ones, their numbers are of 64 bits.
-/
import Derived.Test.YtegnoaejlhbpbaaGreatDoorM18
import Derived.Laws.EntriesVeiled
namespace Go.Proofs.YtegnoaejlhbpbaaGreatDoor.lx
open Go.RowKit

def opT (k : Int) : ByteArray := opsL.getD (k - 7).toNat ⟨#[]⟩
/-- the steps from a place up to another are one expression, which is shown so -/
inductive Shw (L : List Stp) : Nat → Nat → ByteArray → Prop
  | leaf {e : Nat} : e < L.length → takesR (stpAt L e) = (0, true) → Shw L e (e + 1) (leafT (stpAt L e))
  | one {a e : Nat} {t : ByteArray} : e < L.length → takesR (stpAt L e) = (1, true) → Shw L a e t → Shw L a (e + 1) (bracketT [opT (stpAt L e).k, t])
  | two {a b e : Nat} {t u : ByteArray} : e < L.length → takesR (stpAt L e) = (2, true) → Shw L b e u → Shw L a b t → Shw L a (e + 1) (bracketT [opT (stpAt L e).k, t, u])
def NumOk (L : List Stp) : Prop := ∀ t ∈ L, -9223372036854775808 ≤ t.n ∧ t.n ≤ 9223372036854775807
theorem NumOk.at {L : List Stp} (h : NumOk L) (x : Nat) : -9223372036854775808 ≤ (stpAt L x).n ∧ (stpAt L x).n ≤ 9223372036854775807 := by
  unfold stpAt
  rw [List.getD_eq_getElem?_getD]
  cases hx : L[x]? with
  | none => exact ⟨(by decide : (-9223372036854775808 : Int) ≤ 0), (by decide : (0 : Int) ≤ 9223372036854775807)⟩
  | some t => exact h t (List.mem_of_getElem? hx)

theorem join_one (a : List UInt8) (s : List UInt8) : Lib.join [a] s = a := by simp [Lib.join]
theorem bracket_size2 (x y : ByteArray) : (joinT [x, y]).length = x.size + 1 + y.size ∧ (bracketT [x, y]).size = x.size + y.size + 3 := by
  have h1 : (joinT [x, y]).length = x.size + 1 + y.size := by
    simp [joinT, Lib.join]
    omega
  refine ⟨h1, ?_⟩
  rw [Lib.size_eq, bracketT]
  simp [h1]
  omega
theorem bracket_size3 (x y z : ByteArray) : (joinT [x, y, z]).length = x.size + 1 + y.size + 1 + z.size ∧ (bracketT [x, y, z]).size = x.size + y.size + z.size + 4 := by
  have h1 : (joinT [x, y, z]).length = x.size + 1 + y.size + 1 + z.size := by
    simp [joinT, Lib.join]
    omega
  refine ⟨h1, ?_⟩
  rw [Lib.size_eq, bracketT]
  simp [h1]
  omega
theorem opT_size (k : Int) : (opT k).size ≤ 6 := by
  unfold opT
  rw [List.getD_eq_getElem?_getD]
  have hall : opsL.all (fun x => decide (x.size ≤ 6)) = true := by decide +kernel
  cases h : opsL[(k - 7).toNat]? with
  | none => exact Nat.zero_le _
  | some x =>
    have := List.all_eq_true.1 hall x (List.mem_of_getElem? h)
    simpa using this
theorem leafT_size {s : Stp} (h : takesR s = (0, true)) (hn : -9223372036854775808 ≤ s.n ∧ s.n ≤ 9223372036854775807) : (leafT s).size ≤ 1600 := by
  obtain ⟨k, t, n⟩ := s
  simp only at hn
  rcases takes_leaf h with ⟨hk, h1, h2⟩ | ⟨hk, h1⟩ | ⟨hk, h1, h2, h3⟩ | ⟨hk, _, hc⟩
  · simp only at hk
    rcases hk with rfl | rfl | rfl
    · show nullB.size ≤ 1600; decide
    · show trueB.size ≤ 1600; decide
    · show falseB.size ≤ 1600; decide
  · simp only at hk
    subst hk
    have := itoa_len n hn.1 hn.2
    show (ByteArray.mk (Lib.itoa n).toArray).size ≤ 1600
    rw [Lib.size_eq]
    simp
    omega
  · simp only at hk
    subst hk
    have := quotF_six t
    have h2' : t.size ≤ 256 := h2
    show (quotF t).size ≤ 1600
    omega
  · simp only at hk
    subst hk
    have := (column_size hc).2
    show t.size ≤ 1600
    have h2' : t.size ≤ 129 := this
    omega
theorem Shw.size {L : List Stp} (hn : NumOk L) {a e : Nat} {t : ByteArray} (h : Shw L a e t) : a < e ∧ e ≤ L.length ∧ t.size ≤ (e - a) * 1616 := by
  induction h with
  | @leaf e he ht => exact ⟨by omega, by omega, by have := leafT_size ht (hn.at e); omega⟩
  | @one a e t he ht _ ih =>
    have h2 := (bracket_size2 (opT (stpAt L e).k) t).2
    have h3 := opT_size (stpAt L e).k
    obtain ⟨h4, h5, h6⟩ := ih
    obtain ⟨d, rfl⟩ : ∃ d, e = a + d := ⟨e - a, by omega⟩
    rw [Nat.add_sub_cancel_left] at h6
    exact ⟨by omega, by omega, by rw [h2, show a + d + 1 - a = d + 1 by omega]; omega⟩
  | @two a b e t u he ht _ _ ih1 ih2 =>
    have h2 := (bracket_size3 (opT (stpAt L e).k) t u).2
    have h3 := opT_size (stpAt L e).k
    obtain ⟨h4, h5, h6⟩ := ih1
    obtain ⟨g4, g5, g6⟩ := ih2
    obtain ⟨d, rfl⟩ : ∃ d, b = a + d := ⟨b - a, by omega⟩
    obtain ⟨d2, rfl⟩ : ∃ d2, e = a + d + d2 := ⟨e - (a + d), by omega⟩
    rw [Nat.add_sub_cancel_left] at h6 g6
    exact ⟨by omega, by omega, by rw [h2, show a + d + d2 + 1 - a = d + d2 + 1 by omega]; omega⟩

/-- what holds while an expression is shown -/
structure ShS (E K M : Nat) (ao : Option Addr) (cap : Nat) (L : List Stp) (e : Nat) (w : World) : Prop where
  be : Boxed w E 3 (.int .i64 e)
  bl : Boxed w K 23 (.slice ao L.length cap)
  bk : Boxed w M 53 (.func (.func 25) #[] #[.pointer (some ⟨E, 0, none⟩), .pointer (some ⟨K, 0, none⟩), .pointer (some ⟨M, 0, none⟩)])
  row : StpRow ao L w
  far : ∀ b o, ao = some ⟨b, o, none⟩ → 0 < L.length → b ≠ E
  glob : PGlob w
  hE : 11 ≤ E
  hK : K ≠ E
  hM : M ≠ E
theorem StpRow.gb {E : Nat} {ao : Option Addr} {L : List Stp} {w w' : World} (h : StpRow ao L w) (hf : ∀ b o, ao = some ⟨b, o, none⟩ → 0 < L.length → b ≠ E) (hg : w.grownBy w' (some E)) : StpRow ao L w' := by
  have hlt := h.lt
  rcases h with h | ⟨b, o, h1, h2⟩
  · exact .inl h
  · by_cases h0 : L.length = 0
    · exact .inl h0
    have hb := hf b o h1 (by omega)
    have hl := hlt b o h1 (by omega)
    have e := hg.block b hl (by intro e; injection e; omega)
    refine .inr ⟨b, o, h1, fun i t ht => ?_⟩
    obtain ⟨c0, c1, c2⟩ := h2 i t ht
    exact ⟨(World.cell?_of_block (a := ⟨b, _, none⟩) e).trans c0, (World.cell?_of_block (a := ⟨b, _, none⟩) e).trans c1, (World.cell?_of_block (a := ⟨b, _, none⟩) e).trans c2⟩
theorem ShS.gb {E K M : Nat} {ao : Option Addr} {cap : Nat} {L : List Stp} {e e' : Nat} {w w' : World} (h : ShS E K M ao cap L e w) (hg : w.grownBy w' (some E)) (hb : Boxed w' E 3 (.int .i64 e')) : ShS E K M ao cap L e' w' :=
  ⟨hb, h.bl.kept hg (by have := h.hK; intro e; injection e; omega), h.bk.kept hg (by have := h.hM; intro e; injection e; omega), h.row.gb h.far hg, h.far, h.glob.gb h.hE hg, h.hE, h.hK, h.hM⟩
theorem ShS.next {E K M : Nat} {ao : Option Addr} {cap : Nat} {L : List Stp} {e : Nat} {w w' : World} (h : ShS E K M ao cap L e w) (hb : Below w.heap.size w w') : ShS E K M ao cap L e w' :=
  h.gb (below_gb hb) ((hb.block E h.be.lt).trans h.be)
theorem ShS.put {E K M : Nat} {ao : Option Addr} {cap : Nat} {L : List Stp} {e : Nat} {w : World} (h : ShS E K M ao cap L e w) (e' : Nat) : ShS E K M ao cap L e' (w.setCell ⟨E, 0, none⟩ (.int .i64 e')) :=
  h.gb (set_gb (gb_refl w (some E)) 0 _) (h.be.set _)
theorem ShS.oth' {E K M C j : Nat} {b o : Nat} {cap : Nat} {L : List Stp} {e : Nat} {v : Value} {w : World} (h : ShS E K M (some ⟨b, o, none⟩) cap L e w) (h1 : C ≠ E) (h2 : C ≠ K) (h3 : C ≠ M) (h4 : C ≠ b) (h5 : 11 ≤ C) : ShS E K M (some ⟨b, o, none⟩) cap L e (w.setCell ⟨C, j, none⟩ v) := by
  have gz : ∀ k, k ≠ C → (w.setCell ⟨C, j, none⟩ v).heap[k]? = w.heap[k]? := fun k hk => Below.heap_setCell _ _ _ _ hk
  refine ⟨(gz _ h1.symm).trans h.be, (gz _ h2.symm).trans h.bl, (gz _ h3.symm).trans h.bk, ?_, h.far, h.glob.of (by rw [setCell_size]; exact Nat.le_refl _) fun k hk => gz k (by omega), h.hE, h.hK, h.hM⟩
  rcases h.row with hr | ⟨b', o', e1, e2⟩
  · exact .inl hr
  · injection e1 with e1
    injection e1 with e1 e3 _
    subst e1 e3
    refine .inr ⟨b, o, rfl, fun i t ht => ?_⟩
    obtain ⟨d0, d1, d2⟩ := e2 i t ht
    have e := gz b h4.symm
    exact ⟨(World.cell?_of_block (a := ⟨b, _, none⟩) e).trans d0, (World.cell?_of_block (a := ⟨b, _, none⟩) e).trans d1, (World.cell?_of_block (a := ⟨b, _, none⟩) e).trans d2⟩
theorem ShS.oth {E K M C j : Nat} {ao : Option Addr} {cap : Nat} {L : List Stp} {e : Nat} {v : Value} {w w' : World} (h : ShS E K M ao cap L e w) (h' : ShS E K M ao cap L e w') (hC : w.heap.size ≤ C) : ShS E K M ao cap L e (w'.setCell ⟨C, j, none⟩ v) := by
  have c1 := h.be.lt
  have c2 := h.bl.lt
  have c3 := h.bk.lt
  have gz : ∀ k, k < w.heap.size → (w'.setCell ⟨C, j, none⟩ v).heap[k]? = w'.heap[k]? := fun k hk => Below.heap_setCell _ _ _ _ (by show k ≠ C; omega)
  refine ⟨(gz _ c1).trans h'.be, (gz _ c2).trans h'.bl, (gz _ c3).trans h'.bk, ?_, h.far, h'.glob.of (by rw [setCell_size]; exact Nat.le_refl _) fun k hk => gz k (by have := h.hE; omega), h.hE, h.hK, h.hM⟩
  have hlt := h.row.lt
  rcases h'.row with hr | ⟨b, o, h1, h2⟩
  · exact .inl hr
  · by_cases h0 : L.length = 0
    · exact .inl h0
    have hl := hlt b o h1 (by omega)
    refine .inr ⟨b, o, h1, fun i t ht => ?_⟩
    obtain ⟨d0, d1, d2⟩ := h2 i t ht
    have e := gz b hl
    exact ⟨(World.cell?_of_block (a := ⟨b, _, none⟩) e).trans d0, (World.cell?_of_block (a := ⟨b, _, none⟩) e).trans d1, (World.cell?_of_block (a := ⟨b, _, none⟩) e).trans d2⟩
theorem takes_kind {s : Stp} {n : Int} (h : takesR s = (n, true)) (hn : n = 1 ∨ n = 2) (hk0 : 0 ≤ s.k) : 7 ≤ s.k ∧ s.k ≤ 21 := by
  unfold takesR at h
  split at h
  · injection h with h1 h2; omega
  split at h
  · injection h with h1 h2; omega
  split at h
  · injection h with h1 h2; omega
  split at h
  · injection h with h1 h2; omega
  split at h
  · injection h with h1 h2; cases h2
  · omega
/-- what showing comes to -/
def ShP (E K M : Nat) (ao : Option Addr) (cap : Nat) (L : List Stp) (a : Nat) (t : ByteArray) (w : World) (en : Ending) (w' : World) : Prop :=
  en = .returned (.string t) ∧ ShS E K M ao cap L a w' ∧ w.grownBy w' (some E)

set_option maxHeartbeats 2000000 in
set_option maxRecDepth 100000 in
theorem back_leaf {E K M : Nat} {ao : Option Addr} {cap : Nat} {L : List Stp} {e : Nat} {w : World} (h : ShS E K M ao cap L (e + 1) w) (hok : StpsOk L) (hnum : NumOk L) (he : e < L.length) (hl : L.length ≤ 64) (ht : takesR (stpAt L e) = (0, true)) :
    Calls Tryz.prog 25 #[.pointer (some ⟨E, 0, none⟩), .pointer (some ⟨K, 0, none⟩), .pointer (some ⟨M, 0, none⟩)] w fun en w' => ShP E K M ao cap L e (leafT (stpAt L e)) w en w' := by
  have hlf := leafF_eq ht (hnum.at e)
  have hsz : (stpAt L e).s.size ≤ 1073741824 := by
    rcases takes_leaf ht with ⟨_, h1, _⟩ | ⟨_, h1⟩ | ⟨_, _, h1, _⟩ | ⟨hk, _, hc⟩
    · omega
    · omega
    · omega
    · have := (column_size hc).2; omega
  obtain ⟨o1, o2⟩ := hok.at e
  have H := Lib.hid h
  have HE := Lib.hid (h.put e)
  have hbt := h.be.cell
  have e1 : ((e + 1 : Nat) : Int) = (e : Int) + 1 := by omega
  rw [e1] at hbt
  have hfe := h.be.frozen
  have cK := HE.out.bl.cell
  have cK0 := h.bl.cell
  obtain ⟨b, o, hao, hcs⟩ := h.row.resolve_left (by omega)
  obtain ⟨_, o', hao', hcs'⟩ := HE.out.row.resolve_left (by omega)
  rw [hao] at hao'
  injection hao' with hao'
  injection hao' with hb' ho' _
  subst hb' ho'
  obtain ⟨d0, d1, d2⟩ := hcs' e _ (stpAt_some he)
  have hlt := h.be.lt
  generalize hs : stpAt L e = S at *
  have HT := Lib.hid fun w (hG : PGlob w) => takes_any S w hG o1 o2
  have HL := Lib.hid fun w (hG : PGlob w) => leaf_txt S w hG hsz (hs ▸ hnum.at e)
  rw [ht] at HT
  rw [hlf] at HL
  have HW := Lib.hid fun w' (hb : Below w.heap.size (w.setCell ⟨E, 0, none⟩ (.int .i64 e)) w') => (HE.out.next (w' := w') (by rw [setCell_size]; exact hb))
  clear h hcs hcs' hok hnum ht hlf hs e1
  subst hao
  obtain ⟨sk, ss, sn⟩ := S
  unfold Stp.v at HT HL
  simp only at *
  have he64 : (e : Int) ≤ 64 := by omega
  have heL : (e : Int) < L.length := by omega
  go_enter Tryz.func25, Tryz.ntmps25
  go_wp2_with fail
  have hb1 := (Below.refl (w.setCell ⟨E, 0, none⟩ (.int .i64 e)).heap.size (w.setCell ⟨E, 0, none⟩ (.int .i64 e))).alloc (Nat.le_refl _) (.cells #[.int .u8 sk, .string ss, .int .i64 sn] 29)
  have hn1 := heap_alloc_new (w.setCell ⟨E, 0, none⟩ (.int .i64 e)) (.cells #[.int .u8 sk, .string ss, .int .i64 sn] 29)
  rw [setCell_size] at hn1
  have H1 := Lib.hid (HE.out.next hb1)
  have HG1 := Lib.hid ((set_gb (gb_refl w (some E)) 0 (.int .i64 e)).trans (below_gb hb1))
  obtain ⟨W1, hW1⟩ : ∃ W1, (w.setCell ⟨E, 0, none⟩ (.int .i64 e)).alloc (.cells #[.int .u8 sk, .string ss, .int .i64 sn] 29) = W1 := ⟨_, rfl⟩
  rw [hW1] at hn1 H1 HG1 ⊢
  clear hW1
  have HN1 := Lib.hid hn1
  clear hb1 hn1
  go_wp2_with (go_at_call 11; refine (HT.out _ H1.out.glob).mono ?_; rintro en w2 ⟨rfl, hb2⟩; refine Hid.out ?_)
  refine Lib.hid ?_
  have H2 := Lib.hid (H1.out.next hb2)
  have HG2 := Lib.hid (HG1.out.trans (below_gb hb2))
  have hn2 := (hb2.block _ (Array.getElem?_eq_some_iff.1 HN1.out).1).trans HN1.out
  have x0 : w2.cell? ⟨w.heap.size, 0, none⟩ = some (.int .u8 sk) := by rw [Lib.cell_of_heap hn2]; rfl
  have x1 : w2.cell? ⟨w.heap.size, 1, none⟩ = some (.string ss) := by rw [Lib.cell_of_heap hn2]; rfl
  have x2 : w2.cell? ⟨w.heap.size, 2, none⟩ = some (.int .i64 sn) := by rw [Lib.cell_of_heap hn2]; rfl
  clear hb2 hn2 d0 d1 d2 cK cK0 hbt hfe
  go_wp2_with (go_at_call 26; refine (HL.out _ H2.out.glob).mono ?_; rintro en w3 ⟨rfl, hb3⟩; refine Hid.out ?_)
  refine Lib.hid ?_
  go_wp2_with fail
  go_ret
  exact ⟨rfl, H2.out.next hb3, HG2.out.trans (below_gb hb3)⟩

theorem ops_at {b j : Nat} {w : World} {k : Int} (h : SBlk b opsL w) (hk : k - 7 = j) (hj : j < 15) : w.cell? ⟨b, j, none⟩ = some (.string (opT k)) := by
  have := h j hj
  rw [Nat.zero_add] at this
  rw [opT, hk, Int.toNat_natCast]
  exact this
/-- the parts' block -/
def Pts (P : Nat) (cs : Array Value) (w : World) : Prop := w.heap[P]? = some (.cells cs 9 (0, 0))
theorem Pts.gb {P E : Nat} {cs : Array Value} {w w' : World} (h : Pts P cs w) (hg : w.grownBy w' (some E)) (hne : P ≠ E) : Pts P cs w' := (hg.block P (Array.getElem?_eq_some_iff.1 h).1 (by intro e; injection e; omega)).trans h
theorem Pts.set {P j : Nat} {cs : Array Value} {w : World} (h : Pts P cs w) (v : Value) : Pts P (cs.setIfInBounds j v) (w.setCell ⟨P, j, none⟩ v) := by
  unfold Pts at *
  simp [World.setCell, Array.getElem?_modify, h]
theorem bracket_pts2 {P : Nat} {x t : ByteArray} {w : World} (h : Pts P #[.string x, .string t] w) (hx : x.size ≤ 6) (ht : t.size ≤ 1048576) :
    Calls Tryz.prog 21 #[.slice (some ⟨P, 0, none⟩) 2 2] w fun e w' => e = .returned (.string (bracketT [x, t])) ∧ Below w.heap.size w w' :=
  bracket_any (L := [x, t]) (.inr ⟨P, 0, rfl, fun i s hs => by
    rw [Lib.cell_of_heap h]
    match i, hs with
    | 0, hs => injection hs with hs; subst hs; rfl
    | 1, hs => injection hs with hs; subst hs; rfl
    | (i + 2), hs => cases hs⟩) (Nat.succ_ne_zero 1) (Nat.le_refl _) (show 2 ≤ 140737488355328 by decide) (by rw [(bracket_size2 x t).1]; omega)

set_option maxHeartbeats 2000000 in
set_option maxRecDepth 100000 in
theorem back_one {E K M : Nat} {ao : Option Addr} {cap : Nat} {L : List Stp} {a e : Nat} {t : ByteArray} {w : World} (h : ShS E K M ao cap L (e + 1) w) (hok : StpsOk L) (he : e < L.length) (hl : L.length ≤ 64) (ht : takesR (stpAt L e) = (1, true)) (hts : t.size ≤ 1048576)
    (ih : ∀ w, ShS E K M ao cap L e w → Calls Tryz.prog 25 #[.pointer (some ⟨E, 0, none⟩), .pointer (some ⟨K, 0, none⟩), .pointer (some ⟨M, 0, none⟩)] w fun en w' => ShP E K M ao cap L a t w en w') :
    Calls Tryz.prog 25 #[.pointer (some ⟨E, 0, none⟩), .pointer (some ⟨K, 0, none⟩), .pointer (some ⟨M, 0, none⟩)] w fun en w' => ShP E K M ao cap L a (bracketT [opT (stpAt L e).k, t]) w en w' := by
  obtain ⟨o1, o2⟩ := hok.at e
  have hk7 := takes_kind ht (by omega) o2.1
  have HE := Lib.hid (h.put e)
  have hbt := h.be.cell
  have e1 : ((e + 1 : Nat) : Int) = (e : Int) + 1 := by omega
  rw [e1] at hbt
  have hfe := h.be.frozen
  have cK := HE.out.bl.cell
  have cK0 := h.bl.cell
  obtain ⟨b, o, hao, hcs⟩ := h.row.resolve_left (by omega)
  obtain ⟨_, o', hao', hcs'⟩ := HE.out.row.resolve_left (by omega)
  rw [hao] at hao'
  injection hao' with hao'
  injection hao' with hb' ho' _
  subst hb' ho'
  obtain ⟨d0, d1, d2⟩ := hcs' e _ (stpAt_some he)
  have hlt := h.be.lt
  generalize hs : stpAt L e = S at *
  have HT := Lib.hid fun w (hG : PGlob w) => takes_any S w hG o1 o2
  rw [ht] at HT
  have HIH := Lib.hid ih
  clear h hcs hcs' hok ht hs e1 ih
  subst hao
  obtain ⟨sk, ss, sn⟩ := S
  unfold Stp.v at HT
  simp only at *
  have he64 : (e : Int) ≤ 64 := by omega
  have heL : (e : Int) < L.length := by omega
  go_enter Tryz.func25, Tryz.ntmps25
  go_wp2_with fail
  have hb1 := (Below.refl (w.setCell ⟨E, 0, none⟩ (.int .i64 e)).heap.size (w.setCell ⟨E, 0, none⟩ (.int .i64 e))).alloc (Nat.le_refl _) (.cells #[.int .u8 sk, .string ss, .int .i64 sn] 29)
  have hn1 := heap_alloc_new (w.setCell ⟨E, 0, none⟩ (.int .i64 e)) (.cells #[.int .u8 sk, .string ss, .int .i64 sn] 29)
  rw [setCell_size] at hn1
  have H1 := Lib.hid (HE.out.next hb1)
  have HG1 := Lib.hid ((set_gb (gb_refl w (some E)) 0 (.int .i64 e)).trans (below_gb hb1))
  obtain ⟨W1, hW1⟩ : ∃ W1, (w.setCell ⟨E, 0, none⟩ (.int .i64 e)).alloc (.cells #[.int .u8 sk, .string ss, .int .i64 sn] 29) = W1 := ⟨_, rfl⟩
  rw [hW1] at hn1 H1 HG1 ⊢
  clear hW1
  have HN1 := Lib.hid hn1
  clear hb1 hn1
  go_wp2_with (go_at_call 11; refine (HT.out _ H1.out.glob).mono ?_; rintro en w2 ⟨rfl, hb2⟩; refine Hid.out ?_)
  refine Lib.hid ?_
  have H2 := Lib.hid (H1.out.next hb2)
  have HG2 := Lib.hid (HG1.out.trans (below_gb hb2))
  have hn2 := (hb2.block _ (Array.getElem?_eq_some_iff.1 HN1.out).1).trans HN1.out
  have HN2 := Lib.hid hn2
  clear hb2 hn2 d0 d1 d2 cK cK0 hbt hfe HT H1 HG1 HN1 HE
  have hmk : ∀ w, (Instr.makeSlice 24 (.int .i64 2) (.int .i64 2)).run Tryz.prog w = .ok (.slice (some ⟨w.heap.size, 0, none⟩) 2 2) (w.alloc (.cells #[.string ⟨#[]⟩, .string ⟨#[]⟩] 9)) := fun _ => by kernel_rfl
  go_upto_region 7 with fail
  have hb3 := (Below.refl w2.heap.size w2).alloc (Nat.le_refl _) (.cells #[.string ⟨#[]⟩, .string ⟨#[]⟩] 9)
  have hn3 := heap_alloc_new w2 (.cells #[.string ⟨#[]⟩, .string ⟨#[]⟩] 9)
  have H3 := Lib.hid (H2.out.next hb3)
  have HG3 := Lib.hid (HG2.out.trans (below_gb hb3))
  have hm3 := (hb3.block _ (Array.getElem?_eq_some_iff.1 HN2.out).1).trans HN2.out
  have hw2 : w.heap.size < w2.heap.size := (Array.getElem?_eq_some_iff.1 HN2.out).1
  obtain ⟨W3, hW3⟩ : ∃ W3, w2.alloc (.cells #[.string ⟨#[]⟩, .string ⟨#[]⟩] 9) = W3 := ⟨_, rfl⟩
  rw [hW3] at hn3 H3 HG3 hm3 ⊢
  clear hW3 hb3
  have HS2 := Lib.hid fun (w' : World) (j : Nat) (v : Value) (h' : ShS E K M (some ⟨b, o, none⟩) cap L e w') => H2.out.oth (C := w2.heap.size) (j := j) (v := v) h' (Nat.le_refl _)
  have hwP : w.heap.size ≤ w2.heap.size := Nat.le_of_lt hw2
  have hPK : w2.heap.size ≠ K := by have := H2.out.bl.lt; omega
  have hPM : w2.heap.size ≠ M := by have := H2.out.bk.lt; omega
  have hPb : w2.heap.size ≠ b := by have := H2.out.row.lt b o rfl (by omega); omega
  have hPG : 11 ≤ w2.heap.size := by have := H2.out.hE; have := H2.out.be.lt; omega
  generalize w2.heap.size = P at *
  have hPl := (Array.getElem?_eq_some_iff.1 hn3).1
  have HP3 : Hid (Pts P #[.string ⟨#[]⟩, .string ⟨#[]⟩] W3) := Lib.hid hn3
  have HN3 := Lib.hid hm3
  have hDl := (Array.getElem?_eq_some_iff.1 hm3).1
  have hPE : P ≠ E := by omega
  clear hn3 hm3 HN2 HG2 H2
  go_cut [7] (fun v wx => v = .slice (some ⟨P, 0, none⟩) 2 2 ∧ Hid (ShS E K M (some ⟨b, o, none⟩) cap L e wx) ∧ Hid (w.grownBy wx (some E)) ∧ Hid (Pts P #[.string (opT sk), .string ⟨#[]⟩] wx))
  case first =>
    have hD : ∀ w5, Below W3.heap.size W3 w5 → w5.cell? ⟨w.heap.size, 0, none⟩ = some (.int .u8 sk) := fun w5 hb => by rw [Lib.cell_of_heap ((hb.block _ hDl).trans HN3.out)]; rfl
    have hPc : ∀ w5, Below W3.heap.size W3 w5 → w5.cell? ⟨P, 0, none⟩ = some (.string ⟨#[]⟩) ∧ w5.frozen? ⟨P, 0, none⟩ = false := fun w5 hb => by
      have h5 := (hb.block _ hPl).trans HP3.out
      exact ⟨by rw [Lib.cell_of_heap h5]; rfl, Lib.frozen_of_heap h5 0⟩
    have HD := Lib.hid hD
    have HPC := Lib.hid hPc
    have HOP := Lib.hid fun w5 (hb : Below W3.heap.size W3 w5) => operators_any w5 (H3.out.next hb).glob
    have hd0 := hD _ (Below.refl _ _)
    clear hD hPc
    obtain ⟨j, hj⟩ : ∃ j : Nat, sk - 7 = j := ⟨(sk - 7).toNat, by omega⟩
    have hj14 : j < 15 := by omega
    have hwr : IntKind.u8.wrap (sk - 7) = (j : Int) := by rw [IntKind.wrap_u8]; omega
    have hj0 : (0 : Int) ≤ j := by omega
    have hj1 : (j : Int) < 15 := by omega
    have HJ := Lib.hid hj
    clear hj
    go_region_with (go_at_call 27; refine (HOP.out _ (by first | exact Below.refl _ _ | exact (Below.refl _ _).drew | exact (Below.refl _ _).drew.drew)).mono ?_; rintro en w5 ⟨rfl, hS, hb5⟩; have HB5 := Lib.hid (show Below W3.heap.size W3 w5 by first | exact hb5 | exact below_self (Below.refl _ _).drew hb5 | exact below_self (Below.refl _ _).drew.drew hb5); have g5 := HD.out w5 HB5.out; have g6 := (HPC.out w5 HB5.out).1; have g7 := (HPC.out w5 HB5.out).2; have g8 : w5.cell? ⟨W3.heap.size, j, none⟩ = some (.string (opT sk)) := ops_at hS HJ.out hj14; clear hS hb5)
    all_goals
      go_wp2_with fail
      go_meet
      first
        | exact ⟨rfl, Lib.hid (HS2.out _ _ _ (H3.out.next HB5.out)), Lib.hid (gb_far (HG3.out.trans (below_gb HB5.out)) hwP), Lib.hid (Pts.set (j := 0) (Pts.gb HP3.out (below_gb (A := E) HB5.out) hPE) (.string (opT sk)))⟩
        | (trace_state; sorry)
  case rest =>
  obtain ⟨rfl, H4, HG4, HP4⟩ := hcut
  have HBR := Lib.hid fun wx (h : Pts P #[.string (opT sk), .string t] wx) => bracket_pts2 h (opT_size sk) hts
  clear HS2 H3 HG3 HP3 HN3 hDl hPl hw2
  go_wp2_with fail
  go_loopw [5] (fun v wr => (v = .int .i64 1 ∧ Hid (ShS E K M (some ⟨b, o, none⟩) cap L e wr) ∧ Hid (w.grownBy wr (some E)) ∧ Hid (Pts P #[.string (opT sk), .string ⟨#[]⟩] wr)) ∨
      (v = .int .i64 0 ∧ Hid (ShS E K M (some ⟨b, o, none⟩) cap L a wr) ∧ Hid (w.grownBy wr (some E)) ∧ Hid (Pts P #[.string (opT sk), .string t] wr))) (fun v _ => (intOf v).toNat)
  case atStart => exact .inl ⟨rfl, H4, HG4, HP4⟩
  case round =>
    clear H4 HG4 HP4
    rcases hrel with ⟨rfl, H, HG, HP⟩ | ⟨rfl, H, HG, HP⟩
    · have cM := H.out.bk.cell
      have hPlt := (Array.getElem?_eq_some_iff.1 HP.out).1
      go_wp2_with (go_at_call 25; refine (HIH.out _ H.out).mono ?_; rintro en w5 ⟨rfl, h5, hg5⟩; refine Hid.out ?_)
      refine Lib.hid ?_
      have HP5 := Lib.hid (HP.out.gb hg5 hPE)
      have p1 : w5.cell? ⟨P, 1, none⟩ = some (.string ⟨#[]⟩) := by rw [Lib.cell_of_heap HP5.out]; rfl
      have pf : w5.frozen? ⟨P, 1, none⟩ = false := Lib.frozen_of_heap HP5.out 1
      have H5 := Lib.hid h5
      have HG5 := Lib.hid (gb_trans HG.out hg5)
      clear h5 hg5 cM
      go_wp2_with fail
      go_roundw
      case rel => exact .inr ⟨rfl, Lib.hid (H5.out.oth' hPE hPK hPM hPb hPG), Lib.hid (gb_far HG5.out hwP), Lib.hid (Pts.set (j := 1) HP5.out (.string t))⟩
      case measure => simp [intOf]
    · go_wp2_with (go_at_call 21; refine (HBR.out _ HP.out).mono ?_; rintro en w5 ⟨rfl, hb5⟩; refine Hid.out ?_)
      refine Lib.hid ?_
      go_wp2_with fail
      go_ret
      exact ⟨rfl, H.out.next hb5, HG.out.trans (below_gb hb5)⟩
theorem bracket_pts3 {P : Nat} {x t u : ByteArray} {w : World} (h : Pts P #[.string x, .string t, .string u] w) (hx : x.size ≤ 6) (ht : t.size ≤ 1048576) (hu : u.size ≤ 1048576) :
    Calls Tryz.prog 21 #[.slice (some ⟨P, 0, none⟩) 3 3] w fun e w' => e = .returned (.string (bracketT [x, t, u])) ∧ Below w.heap.size w w' :=
  bracket_any (L := [x, t, u]) (.inr ⟨P, 0, rfl, fun i s hs => by
    rw [Lib.cell_of_heap h]
    match i, hs with
    | 0, hs => injection hs with hs; subst hs; rfl
    | 1, hs => injection hs with hs; subst hs; rfl
    | 2, hs => injection hs with hs; subst hs; rfl
    | (i + 3), hs => cases hs⟩) (Nat.succ_ne_zero 2) (Nat.le_refl _) (show 3 ≤ 140737488355328 by decide) (by rw [(bracket_size3 x t u).1]; omega)

set_option maxHeartbeats 2000000 in
set_option maxRecDepth 100000 in
theorem back_two {E K M : Nat} {ao : Option Addr} {cap : Nat} {L : List Stp} {a bb e : Nat} {t u : ByteArray} {w : World} (h : ShS E K M ao cap L (e + 1) w) (hok : StpsOk L) (he : e < L.length) (hl : L.length ≤ 64) (ht : takesR (stpAt L e) = (2, true)) (hts : t.size ≤ 1048576) (hus : u.size ≤ 1048576)
    (iu : ∀ w, ShS E K M ao cap L e w → Calls Tryz.prog 25 #[.pointer (some ⟨E, 0, none⟩), .pointer (some ⟨K, 0, none⟩), .pointer (some ⟨M, 0, none⟩)] w fun en w' => ShP E K M ao cap L bb u w en w')
    (ih : ∀ w, ShS E K M ao cap L bb w → Calls Tryz.prog 25 #[.pointer (some ⟨E, 0, none⟩), .pointer (some ⟨K, 0, none⟩), .pointer (some ⟨M, 0, none⟩)] w fun en w' => ShP E K M ao cap L a t w en w') :
    Calls Tryz.prog 25 #[.pointer (some ⟨E, 0, none⟩), .pointer (some ⟨K, 0, none⟩), .pointer (some ⟨M, 0, none⟩)] w fun en w' => ShP E K M ao cap L a (bracketT [opT (stpAt L e).k, t, u]) w en w' := by
  obtain ⟨o1, o2⟩ := hok.at e
  have hk7 := takes_kind ht (by omega) o2.1
  have HE := Lib.hid (h.put e)
  have hbt := h.be.cell
  have e1 : ((e + 1 : Nat) : Int) = (e : Int) + 1 := by omega
  rw [e1] at hbt
  have hfe := h.be.frozen
  have cK := HE.out.bl.cell
  have cK0 := h.bl.cell
  obtain ⟨b, o, hao, hcs⟩ := h.row.resolve_left (by omega)
  obtain ⟨_, o', hao', hcs'⟩ := HE.out.row.resolve_left (by omega)
  rw [hao] at hao'
  injection hao' with hao'
  injection hao' with hb' ho' _
  subst hb' ho'
  obtain ⟨d0, d1, d2⟩ := hcs' e _ (stpAt_some he)
  have hlt := h.be.lt
  generalize hs : stpAt L e = S at *
  have HT := Lib.hid fun w (hG : PGlob w) => takes_any S w hG o1 o2
  rw [ht] at HT
  have HIH := Lib.hid ih
  have HIU := Lib.hid iu
  clear h hcs hcs' hok ht hs e1 ih iu
  subst hao
  obtain ⟨sk, ss, sn⟩ := S
  unfold Stp.v at HT
  simp only at *
  have he64 : (e : Int) ≤ 64 := by omega
  have heL : (e : Int) < L.length := by omega
  go_enter Tryz.func25, Tryz.ntmps25
  go_wp2_with fail
  have hb1 := (Below.refl (w.setCell ⟨E, 0, none⟩ (.int .i64 e)).heap.size (w.setCell ⟨E, 0, none⟩ (.int .i64 e))).alloc (Nat.le_refl _) (.cells #[.int .u8 sk, .string ss, .int .i64 sn] 29)
  have hn1 := heap_alloc_new (w.setCell ⟨E, 0, none⟩ (.int .i64 e)) (.cells #[.int .u8 sk, .string ss, .int .i64 sn] 29)
  rw [setCell_size] at hn1
  have H1 := Lib.hid (HE.out.next hb1)
  have HG1 := Lib.hid ((set_gb (gb_refl w (some E)) 0 (.int .i64 e)).trans (below_gb hb1))
  obtain ⟨W1, hW1⟩ : ∃ W1, (w.setCell ⟨E, 0, none⟩ (.int .i64 e)).alloc (.cells #[.int .u8 sk, .string ss, .int .i64 sn] 29) = W1 := ⟨_, rfl⟩
  rw [hW1] at hn1 H1 HG1 ⊢
  clear hW1
  have HN1 := Lib.hid hn1
  clear hb1 hn1
  go_wp2_with (go_at_call 11; refine (HT.out _ H1.out.glob).mono ?_; rintro en w2 ⟨rfl, hb2⟩; refine Hid.out ?_)
  refine Lib.hid ?_
  have H2 := Lib.hid (H1.out.next hb2)
  have HG2 := Lib.hid (HG1.out.trans (below_gb hb2))
  have hn2 := (hb2.block _ (Array.getElem?_eq_some_iff.1 HN1.out).1).trans HN1.out
  have HN2 := Lib.hid hn2
  clear hb2 hn2 d0 d1 d2 cK cK0 hbt hfe HT H1 HG1 HN1 HE
  have hmk : ∀ w, (Instr.makeSlice 24 (.int .i64 3) (.int .i64 3)).run Tryz.prog w = .ok (.slice (some ⟨w.heap.size, 0, none⟩) 3 3) (w.alloc (.cells #[.string ⟨#[]⟩, .string ⟨#[]⟩, .string ⟨#[]⟩] 9)) := fun _ => by kernel_rfl
  go_upto_region 7 with fail
  have hb3 := (Below.refl w2.heap.size w2).alloc (Nat.le_refl _) (.cells #[.string ⟨#[]⟩, .string ⟨#[]⟩, .string ⟨#[]⟩] 9)
  have hn3 := heap_alloc_new w2 (.cells #[.string ⟨#[]⟩, .string ⟨#[]⟩, .string ⟨#[]⟩] 9)
  have H3 := Lib.hid (H2.out.next hb3)
  have HG3 := Lib.hid (HG2.out.trans (below_gb hb3))
  have hm3 := (hb3.block _ (Array.getElem?_eq_some_iff.1 HN2.out).1).trans HN2.out
  have hw2 : w.heap.size < w2.heap.size := (Array.getElem?_eq_some_iff.1 HN2.out).1
  obtain ⟨W3, hW3⟩ : ∃ W3, w2.alloc (.cells #[.string ⟨#[]⟩, .string ⟨#[]⟩, .string ⟨#[]⟩] 9) = W3 := ⟨_, rfl⟩
  rw [hW3] at hn3 H3 HG3 hm3 ⊢
  clear hW3 hb3
  have HS2 := Lib.hid fun (w' : World) (j : Nat) (v : Value) (h' : ShS E K M (some ⟨b, o, none⟩) cap L e w') => H2.out.oth (C := w2.heap.size) (j := j) (v := v) h' (Nat.le_refl _)
  have hwP : w.heap.size ≤ w2.heap.size := Nat.le_of_lt hw2
  have hPK : w2.heap.size ≠ K := by have := H2.out.bl.lt; omega
  have hPM : w2.heap.size ≠ M := by have := H2.out.bk.lt; omega
  have hPb : w2.heap.size ≠ b := by have := H2.out.row.lt b o rfl (by omega); omega
  have hPG : 11 ≤ w2.heap.size := by have := H2.out.hE; have := H2.out.be.lt; omega
  generalize w2.heap.size = P at *
  have hPl := (Array.getElem?_eq_some_iff.1 hn3).1
  have HP3 : Hid (Pts P #[.string ⟨#[]⟩, .string ⟨#[]⟩, .string ⟨#[]⟩] W3) := Lib.hid hn3
  have HN3 := Lib.hid hm3
  have hDl := (Array.getElem?_eq_some_iff.1 hm3).1
  have hPE : P ≠ E := by omega
  clear hn3 hm3 HN2 HG2 H2
  go_cut [7] (fun v wx => v = .slice (some ⟨P, 0, none⟩) 3 3 ∧ Hid (ShS E K M (some ⟨b, o, none⟩) cap L e wx) ∧ Hid (w.grownBy wx (some E)) ∧ Hid (Pts P #[.string (opT sk), .string ⟨#[]⟩, .string ⟨#[]⟩] wx))
  case first =>
    have hD : ∀ w5, Below W3.heap.size W3 w5 → w5.cell? ⟨w.heap.size, 0, none⟩ = some (.int .u8 sk) := fun w5 hb => by rw [Lib.cell_of_heap ((hb.block _ hDl).trans HN3.out)]; rfl
    have hPc : ∀ w5, Below W3.heap.size W3 w5 → w5.cell? ⟨P, 0, none⟩ = some (.string ⟨#[]⟩) ∧ w5.frozen? ⟨P, 0, none⟩ = false := fun w5 hb => by
      have h5 := (hb.block _ hPl).trans HP3.out
      exact ⟨by rw [Lib.cell_of_heap h5]; rfl, Lib.frozen_of_heap h5 0⟩
    have HD := Lib.hid hD
    have HPC := Lib.hid hPc
    have HOP := Lib.hid fun w5 (hb : Below W3.heap.size W3 w5) => operators_any w5 (H3.out.next hb).glob
    have hd0 := hD _ (Below.refl _ _)
    clear hD hPc
    obtain ⟨j, hj⟩ : ∃ j : Nat, sk - 7 = j := ⟨(sk - 7).toNat, by omega⟩
    have hj14 : j < 15 := by omega
    have hwr : IntKind.u8.wrap (sk - 7) = (j : Int) := by rw [IntKind.wrap_u8]; omega
    have hj0 : (0 : Int) ≤ j := by omega
    have hj1 : (j : Int) < 15 := by omega
    have HJ := Lib.hid hj
    clear hj
    go_region_with (go_at_call 27; refine (HOP.out _ (by first | exact Below.refl _ _ | exact (Below.refl _ _).drew | exact (Below.refl _ _).drew.drew)).mono ?_; rintro en w5 ⟨rfl, hS, hb5⟩; have HB5 := Lib.hid (show Below W3.heap.size W3 w5 by first | exact hb5 | exact below_self (Below.refl _ _).drew hb5 | exact below_self (Below.refl _ _).drew.drew hb5); have g5 := HD.out w5 HB5.out; have g6 := (HPC.out w5 HB5.out).1; have g7 := (HPC.out w5 HB5.out).2; have g8 : w5.cell? ⟨W3.heap.size, j, none⟩ = some (.string (opT sk)) := ops_at hS HJ.out hj14; clear hS hb5)
    all_goals
      go_wp2_with fail
      go_meet
      first
        | exact ⟨rfl, Lib.hid (HS2.out _ _ _ (H3.out.next HB5.out)), Lib.hid (gb_far (HG3.out.trans (below_gb HB5.out)) hwP), Lib.hid (Pts.set (j := 0) (Pts.gb HP3.out (below_gb (A := E) HB5.out) hPE) (.string (opT sk)))⟩
        | (trace_state; sorry)
  case rest =>
  obtain ⟨rfl, H4, HG4, HP4⟩ := hcut
  have HBR := Lib.hid fun wx (h : Pts P #[.string (opT sk), .string t, .string u] wx) => bracket_pts3 h (opT_size sk) hts hus
  clear HS2 H3 HG3 HP3 HN3 hDl hPl hw2
  go_wp2_with fail
  go_loopw [5] (fun v wr => (v = .int .i64 2 ∧ Hid (ShS E K M (some ⟨b, o, none⟩) cap L e wr) ∧ Hid (w.grownBy wr (some E)) ∧ Hid (Pts P #[.string (opT sk), .string ⟨#[]⟩, .string ⟨#[]⟩] wr)) ∨
      (v = .int .i64 1 ∧ Hid (ShS E K M (some ⟨b, o, none⟩) cap L bb wr) ∧ Hid (w.grownBy wr (some E)) ∧ Hid (Pts P #[.string (opT sk), .string ⟨#[]⟩, .string u] wr)) ∨
      (v = .int .i64 0 ∧ Hid (ShS E K M (some ⟨b, o, none⟩) cap L a wr) ∧ Hid (w.grownBy wr (some E)) ∧ Hid (Pts P #[.string (opT sk), .string t, .string u] wr))) (fun v _ => (intOf v).toNat)
  case atStart => exact .inl ⟨rfl, H4, HG4, HP4⟩
  case round =>
    clear H4 HG4 HP4
    rcases hrel with ⟨rfl, H, HG, HP⟩ | ⟨rfl, H, HG, HP⟩ | ⟨rfl, H, HG, HP⟩
    · have cM := H.out.bk.cell
      have hPlt := (Array.getElem?_eq_some_iff.1 HP.out).1
      go_wp2_with (go_at_call 25; refine (HIU.out _ H.out).mono ?_; rintro en w5 ⟨rfl, h5, hg5⟩; refine Hid.out ?_)
      refine Lib.hid ?_
      have HP5 := Lib.hid (HP.out.gb hg5 hPE)
      have p1 : w5.cell? ⟨P, 2, none⟩ = some (.string ⟨#[]⟩) := by rw [Lib.cell_of_heap HP5.out]; rfl
      have pf : w5.frozen? ⟨P, 2, none⟩ = false := Lib.frozen_of_heap HP5.out 2
      have H5 := Lib.hid h5
      have HG5 := Lib.hid (gb_trans HG.out hg5)
      clear h5 hg5 cM
      go_wp2_with fail
      go_roundw
      case rel => exact .inr (.inl ⟨rfl, Lib.hid (H5.out.oth' hPE hPK hPM hPb hPG), Lib.hid (gb_far HG5.out hwP), Lib.hid (Pts.set (j := 2) HP5.out (.string u))⟩)
      case measure => simp [intOf]
    · have cM := H.out.bk.cell
      have hPlt := (Array.getElem?_eq_some_iff.1 HP.out).1
      go_wp2_with (go_at_call 25; refine (HIH.out _ H.out).mono ?_; rintro en w5 ⟨rfl, h5, hg5⟩; refine Hid.out ?_)
      refine Lib.hid ?_
      have HP5 := Lib.hid (HP.out.gb hg5 hPE)
      have p1 : w5.cell? ⟨P, 1, none⟩ = some (.string ⟨#[]⟩) := by rw [Lib.cell_of_heap HP5.out]; rfl
      have pf : w5.frozen? ⟨P, 1, none⟩ = false := Lib.frozen_of_heap HP5.out 1
      have H5 := Lib.hid h5
      have HG5 := Lib.hid (gb_trans HG.out hg5)
      clear h5 hg5 cM
      go_wp2_with fail
      go_roundw
      case rel => exact .inr (.inr ⟨rfl, Lib.hid (H5.out.oth' hPE hPK hPM hPb hPG), Lib.hid (gb_far HG5.out hwP), Lib.hid (Pts.set (j := 1) HP5.out (.string t))⟩)
      case measure => simp [intOf]
    · go_wp2_with (go_at_call 21; refine (HBR.out _ HP.out).mono ?_; rintro en w5 ⟨rfl, hb5⟩; refine Hid.out ?_)
      refine Lib.hid ?_
      go_wp2_with fail
      go_ret
      exact ⟨rfl, H.out.next hb5, HG.out.trans (below_gb hb5)⟩
end Go.Proofs.YtegnoaejlhbpbaaGreatDoor.lx
namespace Go.Proofs.YtegnoaejlhbpbaaGreatDoor.lx
open Go.RowKit

/-- a step's text, made of those that it takes -/
def shwStep (st : List ByteArray) (s : Stp) : List ByteArray :=
  if (takesR s).1 = 0 then leafT s :: st
  else match st with
    | [] => []
    | u :: st => if (takesR s).1 = 1 then bracketT [opT s.k, u] :: st else match st with
      | [] => []
      | t :: st => bracketT [opT s.k, t, u] :: st
def showT (L : List Stp) : ByteArray := (L.foldl shwStep []).headD ⟨#[]⟩
/-- the expressions that lie one behind the other up to a place -/
inductive Sgs (L : List Stp) : Nat → List ByteArray → Prop
  | nil : Sgs L 0 []
  | cons {a e : Nat} {t : ByteArray} {st : List ByteArray} : Sgs L a st → Shw L a e t → Sgs L e (t :: st)
theorem Sgs.step {L : List Stp} {p : Nat} {st : List ByteArray} (h : Sgs L p st) (hp : p < L.length) (hok : (takesR (stpAt L p)).2 = true) (hk : (takesR (stpAt L p)).1 ≤ st.length) :
    Sgs L (p + 1) (shwStep st (stpAt L p)) ∧ ((shwStep st (stpAt L p)).length : Int) = st.length - (takesR (stpAt L p)).1 + 1 := by
  have hr := takesR_range (stpAt L p)
  have he : ∀ n, (takesR (stpAt L p)).1 = n → takesR (stpAt L p) = (n, true) := fun n hn => by rw [← hn, ← hok]
  unfold shwStep
  by_cases h0 : (takesR (stpAt L p)).1 = 0
  · rw [if_pos h0]
    exact ⟨.cons h (.leaf hp (he 0 h0)), by rw [h0]; simp⟩
  rw [if_neg h0]
  cases h with
  | nil => simp at hk; omega
  | @cons a _ u st h hu =>
    simp only
    by_cases h1 : (takesR (stpAt L p)).1 = 1
    · rw [if_pos h1]
      exact ⟨.cons h (.one hp (he 1 h1) hu), by rw [h1]; simp⟩
    · rw [if_neg h1]
      have h2 : (takesR (stpAt L p)).1 = 2 := by omega
      cases h with
      | nil => simp at hk; omega
      | @cons b _ t st h ht =>
        exact ⟨.cons h (.two hp (he 2 h2) hu ht), by rw [h2]; simp; omega⟩
theorem right_m {L : List Stp} (h : rightR L = true) : 0 < L.length ∧ L.length ≤ 64 ∧ ∀ p, p ≤ L.length → ∃ m, rrun L (downL L.length (L.length - p)) = some m ∧ (p = 0 → m = 0) ∧ (0 < p → 1 ≤ m) ∧ (p = L.length → m = 1) := by
  unfold rightR at h
  split at h
  · cases h
  rename_i hc
  refine ⟨by omega, by omega, fun p hp => ?_⟩
  have h0 : rrun L (downL L.length L.length) = some 0 := by simpa using h
  cases hm : rrun L (downL L.length (L.length - p)) with
  | none =>
    obtain ⟨b, hb⟩ := down_split (Nat.sub_le L.length p)
    rw [hb, rrun_none hm] at h0
    cases h0
  | some m =>
    refine ⟨m, rfl, fun e => ?_, fun hp0 => ?_, fun e => ?_⟩
    · subst e
      rw [Nat.sub_zero, h0] at hm
      injection hm with hm
      exact hm.symm
    · by_cases e : p = L.length
      · rw [e, Nat.sub_self] at hm
        have : m = 1 := by injection hm with hm; exact hm.symm
        omega
      · have hlt : p < L.length := by omega
        have e2 : L.length - p = L.length - (p + 1) + 1 := by omega
        rw [e2, down_succ, rrun_snoc, show L.length - 1 - (L.length - (p + 1)) = p by omega] at hm
        cases hq : rrun L (downL L.length (L.length - (p + 1))) with
        | none => rw [hq] at hm; cases hm
        | some q =>
          rw [hq] at hm
          simp only [rstep, Option.bind_some] at hm
          split at hm
          · injection hm with hm
            omega
          · cases hm
    · subst e
      rw [Nat.sub_self] at hm
      injection hm with hm
      exact hm.symm
theorem right_step {L : List Stp} {p : Nat} (hp : p < L.length) {m m' : Int} (hm : rrun L (downL L.length (L.length - p)) = some m) (hm' : rrun L (downL L.length (L.length - (p + 1))) = some m') :
    (takesR (stpAt L p)).2 = true ∧ m = m' + ((takesR (stpAt L p)).1 - 1) := by
  have e2 : L.length - p = L.length - (p + 1) + 1 := by omega
  rw [e2, down_succ, rrun_snoc, show L.length - 1 - (L.length - (p + 1)) = p by omega, hm'] at hm
  simp only [rstep, Option.bind_some] at hm
  split at hm
  · rename_i hc
    injection hm with hm
    exact ⟨hc.1, hm.symm⟩
  · cases hm
theorem right_sgs {L : List Stp} (h : rightR L = true) : ∀ p, p ≤ L.length → ∃ m : Int, rrun L (downL L.length (L.length - p)) = some m ∧ Sgs L p ((L.take p).foldl shwStep []) ∧ (((L.take p).foldl shwStep []).length : Int) = m
  | 0, _ => by
    obtain ⟨_, _, hm⟩ := right_m h
    obtain ⟨m, h1, h2, _⟩ := hm 0 (Nat.zero_le _)
    exact ⟨m, h1, .nil, by rw [h2 rfl]; rfl⟩
  | p + 1, hp => by
    obtain ⟨m, h1, h2, h3⟩ := right_sgs h p (by omega)
    obtain ⟨_, _, hm⟩ := right_m h
    obtain ⟨m', g1, _, g2, _⟩ := hm (p + 1) hp
    obtain ⟨hok, he⟩ := right_step (by omega) h1 g1
    have hge := g2 (by omega)
    have hlt : p < L.length := by omega
    obtain ⟨s1, s2⟩ := h2.step hlt hok (by rw [h3]; omega)
    have ht : L.take (p + 1) = L.take p ++ [stpAt L p] := by
      rw [List.take_succ_eq_append_getElem hlt]
      congr 2
      have := stpAt_some hlt
      rw [List.getElem?_eq_getElem hlt] at this
      injection this
    rw [ht, List.foldl_append]
    exact ⟨m', g1, s1, by simp only [List.foldl_cons, List.foldl_nil]; rw [s2, h3]; omega⟩
theorem Sgs.one {L : List Stp} {n : Nat} {t : ByteArray} (h : Sgs L n [t]) : Shw L 0 n t := by
  cases h with
  | cons ha hs => cases ha; exact hs
/-- a right expression is shown as its text -/
theorem right_shw {L : List Stp} (h : rightR L = true) : Shw L 0 L.length (showT L) := by
  obtain ⟨m, h1, h2, h3⟩ := right_sgs h L.length (Nat.le_refl _)
  obtain ⟨_, _, hm⟩ := right_m h
  obtain ⟨m', g1, _, _, g2⟩ := hm L.length (Nat.le_refl _)
  rw [h1] at g1
  injection g1 with g1
  rw [List.take_length] at h2 h3
  have hl : (L.foldl shwStep []).length = 1 := by have := g2 rfl; omega
  unfold showT
  cases h2' : L.foldl shwStep [] with
  | nil => rw [h2'] at hl; cases hl
  | cons t st =>
    rw [h2'] at h2 hl
    cases st with
    | cons _ _ => simp at hl
    | nil =>
      exact h2.one
end Go.Proofs.YtegnoaejlhbpbaaGreatDoor.lx
namespace Go.Proofs.YtegnoaejlhbpbaaGreatDoor.lx
open Go.RowKit

theorem back_any {E K M : Nat} {ao : Option Addr} {cap : Nat} {L : List Stp} (hok : StpsOk L) (hnum : NumOk L) (hl : L.length ≤ 64) {a e : Nat} {t : ByteArray} (h : Shw L a e t) : ∀ w, ShS E K M ao cap L e w →
    Calls Tryz.prog 25 #[.pointer (some ⟨E, 0, none⟩), .pointer (some ⟨K, 0, none⟩), .pointer (some ⟨M, 0, none⟩)] w fun en w' => ShP E K M ao cap L a t w en w' := by
  have hsz : ∀ {a e : Nat} {t : ByteArray}, Shw L a e t → t.size ≤ 1048576 := fun {a e t} h => by
    obtain ⟨h1, h2, h3⟩ := h.size hnum
    have : (e - a) * 1616 ≤ 64 * 1616 := Nat.mul_le_mul_right _ (by omega)
    omega
  induction h with
  | @leaf e he ht => intro w hs; exact back_leaf hs hok hnum he hl ht
  | @one a e t he ht h ih => intro w hs; exact back_one hs hok he hl ht (hsz h) ih
  | @two a b e t u he ht h1 h2 ih1 ih2 => intro w hs; exact back_two hs hok he hl ht (hsz h2) (hsz h1) ih1 ih2

/-- what Show computes -/
def showR (L : List Stp) : ByteArray × Int := if rightR L then (showT L, 0) else (⟨#[]⟩, 13)

set_option maxHeartbeats 2000000 in
set_option maxRecDepth 100000 in
theorem pshow_any {ao : Option Addr} {cap : Nat} {L : List Stp} {w : World} (hG : PGlob w) (hR : StpRow ao L w) (hok : StpsOk L) (hnum : NumOk L) (hlen : L.length ≤ 9223372036854775807) :
    Calls Tryz.prog 9 #[.slice ao L.length cap] w fun e w' => e = .returned (.tuple #[.string (showR L).1, .int .i64 (showR L).2]) ∧ Below w.heap.size w w' := by
  have hb0 := (Below.refl w.heap.size w).alloc (Nat.le_refl _) (.cells #[.slice ao L.length cap] 23)
  have HB0 := Lib.hid hb0
  have HRI := Lib.hid (right_any (cap := cap) (hG.self hb0) (hR.self hb0) hok hlen)
  have HG0 := Lib.hid (hG.self hb0)
  have HR0 := Lib.hid (hR.self hb0)
  have bK := Boxed.new w 23 (.slice ao L.length cap)
  have HK := Lib.hid bK
  obtain ⟨W0, hW0⟩ : ∃ W0, w.alloc (.cells #[.slice ao L.length cap] 23) = W0 := ⟨_, rfl⟩
  unfold showR
  have hmf : ∀ (fn : Fn) (first cap : Array Value) (w : World), (Instr.makeFunc fn first cap).run Tryz.prog w = .ok (.func fn first cap) w := fun _ _ _ _ => rfl
  cases hr : rightR L with
  | false =>
    rw [hr] at HRI
    clear hG hR hok hnum hb0 bK hr hW0
    go_enter Tryz.func9, Tryz.ntmps9
    go_wp2_with (go_at_call 16; refine HRI.out.mono ?_; rintro e w2 ⟨rfl, hb2⟩; refine Hid.out ?_)
    refine Lib.hid ?_
    go_wp2_with fail
    go_ret2
    exact ⟨rfl, below_self HB0.out hb2⟩
  | true =>
    rw [hr] at HRI
    obtain ⟨hp0, hp64, _⟩ := right_m hr
    have HSW := Lib.hid fun E K M w (h : ShS E K M ao cap L L.length w) => back_any (E := E) (K := K) (M := M) (ao := ao) (cap := cap) hok hnum hp64 (right_shw hr) w h
    clear hG hR hok hnum hb0 bK hr hW0
    go_enter Tryz.func9, Tryz.ntmps9
    go_wp2_with (go_at_call 16; refine HRI.out.mono ?_; rintro e w2 ⟨rfl, hb2⟩; refine Hid.out ?_)
    refine Lib.hid ?_
    have bK2 : Boxed w2 w.heap.size 23 (.slice ao L.length cap) := (hb2.block _ HK.out.lt).trans HK.out
    have cK := bK2.cell
    have HR2 := Lib.hid (HR0.out.self hb2)
    have HG2 := Lib.hid (HG0.out.self hb2)
    have HB2 := Lib.hid (below_self HB0.out hb2)
    have HK2 := Lib.hid bK2
    clear bK2 hb2
    go_wp2_with fail
    have hK2 := HK2.out.lt
    have hb4 : Below w2.heap.size w2 ((w2.alloc (.cells #[.int .i64 (L.length : Int)] 3)).alloc (.cells #[.func (.func 25) #[] #[.pointer (some ⟨w2.heap.size, 0, none⟩), .pointer (some ⟨w.heap.size, 0, none⟩), .pointer (some ⟨w2.heap.size + 1, 0, none⟩)]] 53)) :=
      ((Below.refl _ w2).alloc (Nat.le_refl _) _).alloc (by simp) _
    have hE := Boxed.new w2 3 (.int .i64 (L.length : Int))
    have hM := Boxed.new (w2.alloc (.cells #[.int .i64 (L.length : Int)] 3)) 53 (.func (.func 25) #[] #[.pointer (some ⟨w2.heap.size, 0, none⟩), .pointer (some ⟨w.heap.size, 0, none⟩), .pointer (some ⟨w2.heap.size + 1, 0, none⟩)])
    rw [alloc_sz] at hM
    have hS : ShS w2.heap.size w.heap.size (w2.heap.size + 1) ao cap L L.length ((w2.alloc (.cells #[.int .i64 (L.length : Int)] 3)).alloc (.cells #[.func (.func 25) #[] #[.pointer (some ⟨w2.heap.size, 0, none⟩), .pointer (some ⟨w.heap.size, 0, none⟩), .pointer (some ⟨w2.heap.size + 1, 0, none⟩)]] 53)) :=
      ⟨hE.alloc _, (hb4.block _ hK2).trans HK2.out, hM, HR2.out.self hb4, fun b o e h => by have := HR2.out.lt b o e h; omega, HG2.out.self hb4, HG2.out.glob.size, by omega, by omega⟩
    have HC := Lib.hid (HSW.out _ _ _ _ hS)
    have HB4 := Lib.hid (below_self HB2.out hb4)
    have HW4 : Hid (w.heap.size ≤ w2.heap.size) := Lib.hid HB2.out.size
    clear hS hE hM hb4
    go_wp2_with (go_at_call 25; refine HC.out.mono ?_; rintro e w5 ⟨rfl, h5, hg5⟩; refine Hid.out ?_)
    refine Lib.hid ?_
    go_wp2_with fail
    go_ret2
    exact ⟨rfl, below_gbB HB4.out hg5 HW4.out HB4.out.size⟩
end Go.Proofs.YtegnoaejlhbpbaaGreatDoor.lx
