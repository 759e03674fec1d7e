/-
  A query whose columns have their tables ahead is bound as the one without. Plain Lean. potsherdlaw04.full: a column's text with its table ahead. Conditions: the tables lie there. potsherdlaw04.BindNames, for all queries and tables. Conditions: the package-level variables are laid; the query and the tables lie there. potsherdlaw04.BindNames, as its arguments come in. BindNames: the row and the card.
-/
import Derived.Test.YtgjfbbmachoolaaGreatDoorM16
import Derived.Test.YtgjfbbmachoolaaGreatDoorM11
import Derived.Lib.MapLaws
import Derived.Lib.RuneBytes
import Derived.Test.YtgjfbbmachoolaaGreatDoorM19
import Derived.Test.YtgjfbbmachoolaaGreatDoorM21
import Derived.Test.YtgjfbbmachoolaaGreatDoorM24
import Derived.Test.YtgjfbbmachoolaaGreatDoorM22
namespace Go.Proofs.YtgjfbbmachoolaaGreatDoor.lx
open Go.RowKit

theorem validD_bytes (n : Nat) : ∀ l : List UInt8, l.length = n → Lib.validD l = true → ∀ b ∈ l, ∃ g ∈ gl l, b ∈ Lib.encodeRune g.1 := by
 induction n using Nat.strongRecOn with
 | _ n ih =>
  intro l hl hv b hb
  by_cases h0 : l = []
  ·
   subst h0; cases hb
  ·
   rw [Lib.validD_step l h0] at hv
   split at hv
   ·
    cases hv
   ·
    rename_i hbad
    have hw := dec_width l
    have hp : 0 < l.length := List.length_pos_iff.2 h0
    have he := Lib.encode_decode l h0 hbad
    rw [gl_cons h0]
    rw [← List.take_append_drop (Lib.decodeL l).2 l] at hb
    rcases List.mem_append.1 hb with hb | hb
    ·
     exact ⟨_, List.mem_cons_self, by rw [he]; exact hb⟩
    ·
     obtain ⟨g, hg, hb⟩ := ih _ (by rw [List.length_drop]; omega) _ rfl hv b hb
     exact ⟨g, List.mem_cons_of_mem _ hg, hb⟩
theorem enc_nodot {r : Int} (h0 : 0 ≤ r) (h : r ≠ 46) : ∀ b ∈ Lib.encodeRune r, b ≠ 46 := by
 intro b hb e
 obtain ⟨x, hx, rfl⟩ := List.mem_map.1 hb
 have ⟨x0, x1⟩ := Lib.encodeRuneZ_byte r x hx
 have hx46 : x = 46 := by
  have := congrArg UInt8.toNat e
  simp at this
  omega
 subst hx46
 unfold Lib.encodeRuneZ at hx
 repeat' split at hx
 all_goals (simp only [List.mem_cons, List.not_mem_nil, or_false] at hx; omega)
theorem nameG_nodot : ∀ (gs : List G) (b : Bool), nameG b gs = true → ∀ g ∈ gs, 0 ≤ g.1 ∧ g.1 ≠ 46
 | [], _, _ => fun _ h => by cases h
 | g :: gs, b, h => by
  rw [nameG, Bool.and_eq_true] at h
  obtain ⟨h1, h2⟩ := h
  intro x hx
  rcases List.mem_cons.1 hx with rfl | hx
  ·
   simp only [Bool.or_eq_true, Bool.and_eq_true, decide_eq_true_eq, beq_iff_eq] at h1
   omega
  ·
   exact nameG_nodot gs false h2 x hx
theorem name_nodot {s : ByteArray} (h : nameR s = true) : ∀ b ∈ B s, b ≠ 46 := by
 unfold nameR at h
 simp only [Bool.and_eq_true] at h
 intro b hb
 obtain ⟨g, hg, hb⟩ := validD_bytes _ (B s) rfl h.1.1.2 b hb
 have ⟨h0, h1⟩ := nameG_nodot _ _ h.2 g hg
 exact enc_nodot h0 h1 b hb
theorem nodot_index {l : List UInt8} (h : ∀ b ∈ l, b ≠ 46) : Lib.index l [46] = -1 := by
 rw [show Lib.index l [46] = Lib.indexByte l 46 from Lib.index_one _ _]
 induction l with
 | nil => rfl
 | cons b l ih =>
  have hb : (b == 46) = false := by simpa using h b List.mem_cons_self
  rw [Lib.indexByte, hb, ih fun x hx => h x (List.mem_cons_of_mem _ hx)]
  rfl
theorem cut_nodot {l : List UInt8} (h : ∀ b ∈ l, b ≠ 46) : Lib.cut l [46] = (l, [], false) := by
 unfold Lib.cut
 rw [nodot_index h]
 rfl
theorem cut_dot {a b : List UInt8} (h : ∀ x ∈ a, x ≠ 46) : Lib.cut (a ++ 46 :: b) [46] = (a, b, true) := by
 have e : Lib.index (a ++ 46 :: b) [46] = a.length := (Lib.index_one _ _).trans (indexByte_at 46 a b h)
 unfold Lib.cut
 rw [e, if_pos (by omega)]
 simp [List.drop_append]

/-- a text with a table ahead -/
def dotS (t s : ByteArray) : ByteArray := t ++ ⟨#[46]⟩ ++ s
theorem dotS_B (t s : ByteArray) : B (dotS t s) = B t ++ 46 :: B s := by simp [dotS, B]
/-- .. of the first table that has it -/
def fullC (table join : ByteArray) : List Tbl → ByteArray → ByteArray
 | [], s => s
 | t :: l, s => if (t.cols.any fun c => eqS c.nm s) = true ∧ (eqS t.nm table = true ∨ eqS t.nm join = true) then dotS t.nm s else fullC table join l s
def dotIn (s : ByteArray) : Bool := (B s).any (· == 46)
def fullR (table join : ByteArray) (l : List Tbl) (s : ByteArray) : ByteArray := if dotIn s = true then s else fullC table join l s
def stepF (f : ByteArray → ByteArray) (s : Stp) : Stp := if s.k = 6 then ⟨s.k, f s.s, s.n⟩ else s
def fullQ (f : ByteArray → ByteArray) (q : Qry) : Qry :=
 ⟨q.items.map fun x => ⟨x.agg, x.e.map (stepF f)⟩, q.table, q.join, if emptyS q.join = true then ⟨#[]⟩ else f q.left, if emptyS q.join = true then ⟨#[]⟩ else f q.right, q.wher.map (stepF f), q.group.map f⟩
theorem fullC_is (table join : ByteArray) (s : ByteArray) : ∀ l : List Tbl, fullC table join l s = s ∨ ∃ t ∈ l, (∃ c ∈ t.cols, c.nm = s) ∧ (t.nm = table ∨ t.nm = join) ∧ fullC table join l s = dotS t.nm s
 | [] => .inl rfl
 | t :: l => by
  rw [fullC]
  split
  ·
   rename_i hc
   obtain ⟨h1, h2⟩ := hc
   obtain ⟨c, hc, he⟩ := List.any_eq_true.1 h1
   exact .inr ⟨t, List.mem_cons_self, ⟨c, hc, eqS_iff.1 he⟩, h2.imp eqS_iff.1 eqS_iff.1, rfl⟩
  ·
   rcases fullC_is table join s l with h | ⟨t, h1, h2⟩
   ·
    exact .inl h
   ·
    exact .inr ⟨t, List.mem_cons_of_mem _ h1, h2⟩
theorem cutD_nodot {s : ByteArray} (h : ∀ b ∈ B s, b ≠ 46) : cutD s = [s] := by
 unfold cutD
 exact Lib.splitB_miss _ _ _ _ (nodot_index h)
theorem cutD_dot {t s : ByteArray} (h : ∀ b ∈ B t, b ≠ 46) : cutD (dotS t s) = [t, s] := by
 have e : Lib.indexB (dotS t s) ⟨#[46]⟩ = ((B t).length : Nat) := by
  show Lib.index (B (dotS t s)) [46] = _
  rw [dotS_B]
  exact (Lib.index_one _ _).trans (indexByte_at 46 _ _ h)
 have hz : (dotS t s).size = (B t).length + (1 + (B s).length) := by rw [← B_length, dotS_B]; simp; omega
 unfold cutD
 rw [show min 2 ((dotS t s).size + 1) - 1 = 0 + 1 by omega, Lib.splitB_hit _ _ _ _ _ e]
 have e1 : (dotS t s).extract 0 ((B t).length + 0) = t := by
  apply ByteArray.ext
  apply Array.toList_inj.1
  simp [ByteArray.data_extract, dotS, B]
 have e2 : (dotS t s).extract ((B t).length + (ByteArray.mk #[46]).size) (dotS t s).size = s := by
  apply ByteArray.ext
  apply Array.toList_inj.1
  have : (dotS t s).data.toList = B t ++ 46 :: B s := dotS_B t s
  rw [ByteArray.data_extract, Array.toList_extract, this]
  show List.extract (B t ++ 46 :: B s) ((B t).length + 1) (dotS t s).size = B s
  rw [List.extract_eq_take_drop, hz, show B t ++ 46 :: B s = (B t ++ [46]) ++ B s by simp, show (B t).length + 1 = (B t ++ [46]).length by simp, List.drop_left']
  ·
   rw [List.take_of_length_le (by simp; omega)]
  ·
   rfl
 rw [e1, e2]
 rfl
theorem column_name {s : ByteArray} (h : columnR s = true) (hd : ∀ b ∈ B s, b ≠ 46) : nameR s = true := by
 unfold columnR at h
 rw [cutD_nodot hd] at h
 simpa using h
theorem column_dot {t s : ByteArray} (ht : nameR t = true) (hs : nameR s = true) : columnR (dotS t s) = true := by
 unfold columnR
 rw [cutD_dot (name_nodot ht)]
 simp [ht, hs]
/-- what is meant -/
theorem placesT_sub {c c' : List UInt8 × List UInt8 × Bool} (h : ∀ tn cn, meantR c' tn cn = true → meantR c tn cn = true) (tn : ByteArray) : ∀ (l : List Clm) (n : Nat), (placesT c' tn l n).Sublist (placesT c tn l n)
 | [], _ => .refl _
 | x :: l, n => by
  rw [placesT, placesT]
  refine List.Sublist.append ?_ (placesT_sub h tn l (n + 1))
  split
  ·
   rename_i h1
   rw [if_pos (h _ _ h1)]
   exact .refl _
  ·
   exact List.nil_sublist _
theorem placesR_sub {c c' : List UInt8 × List UInt8 × Bool} (h : ∀ tn cn, meantR c' tn cn = true → meantR c tn cn = true) : ∀ (l : List Tbl) (n : Nat), (placesR c' l n).Sublist (placesR c l n)
 | [], _ => .refl _
 | t :: l, n => by
  rw [placesR, placesR]
  exact List.Sublist.append (placesT_sub h _ _ _) (placesR_sub h l _)
theorem placesT_some {c : List UInt8 × List UInt8 × Bool} {tn : ByteArray} : ∀ {l : List Clm} {n : Nat} {x : Clm}, x ∈ l → meantR c tn x.nm = true → placesT c tn l n ≠ []
 | y :: l, n, x, hx, hm => by
  rw [placesT]
  rcases List.mem_cons.1 hx with rfl | hx
  ·
   rw [if_pos hm]
   simp
  ·
   intro e
   exact placesT_some hx hm (List.append_eq_nil_iff.1 e).2
theorem placesR_some {c : List UInt8 × List UInt8 × Bool} {x : Clm} : ∀ {l : List Tbl} {n : Nat} {t : Tbl}, t ∈ l → x ∈ t.cols → meantR c t.nm x.nm = true → placesR c l n ≠ []
 | u :: l, n, t, ht, hx, hm => by
  rw [placesR]
  intro e
  have ⟨e1, e2⟩ := List.append_eq_nil_iff.1 e
  rcases List.mem_cons.1 ht with rfl | ht
  ·
   exact placesT_some hx hm e1
  ·
   exact placesR_some ht hx hm e2
theorem findR_full {ts : List Tbl} {t : Tbl} {c : Clm} {s : ByteArray} {n : Int} (ht : t ∈ ts) (hc : c ∈ t.cols) (hn : c.nm = s) (hd : ∀ b ∈ B s, b ≠ 46) (htn : ∀ b ∈ B t.nm, b ≠ 46) (h : findR ts s = .ok n) : findR ts (dotS t.nm s) = .ok n := by
 have hp : placesR (B s, [], false) ts 0 = [n] := by
  unfold findR at h
  rw [show Lib.cut s.data.toList [46] = _ from cut_nodot hd] at h
  split at h
  ·
   rename_i m hm
   injection h with h
   rw [hm, h]
  ·
   cases h
 have hsub := placesR_sub (c := (B s, [], false)) (c' := (B t.nm, B s, true)) (fun tn cn hm => by
  unfold meantR at hm ⊢
  simp at hm ⊢
  exact hm.1) ts 0
 have hne := placesR_some (c := (B t.nm, B s, true)) (n := 0) ht hc (by
  unfold meantR
  simp [hn, Lib.toList_data])
 rw [hp] at hsub
 have he : placesR (B t.nm, B s, true) ts 0 = [n] := by
  refine hsub.eq_of_length (Nat.le_antisymm hsub.length_le ?_)
  exact List.length_pos_iff.2 hne
 have ec : Lib.cut (dotS t.nm s).data.toList [46] = (B t.nm, B s, true) := by
  rw [show (dotS t.nm s).data.toList = B t.nm ++ 46 :: B s from dotS_B _ _]
  exact cut_dot htn
 unfold findR
 rw [ec, he]
/-- tables of one name are one -/
theorem tblsFrom_seen : ∀ {l : List Tbl} {seen : List ByteArray}, tblsFrom seen l = 0 → ∀ t ∈ l, ∀ n ∈ seen, eqS n t.nm = false
 | [], _, _, t, h => by cases h
 | x :: l, seen, h, t, ht => by
  rw [tblsFrom] at h
  split at h
  ·
   rename_i hc; exact absurd h hc
  split at h
  ·
   cases h
  rename_i hs
  intro n hn
  rcases List.mem_cons.1 ht with rfl | ht
  ·
   cases he : eqS n t.nm with
   | false => rfl
   | true => exact absurd (List.any_eq_true.2 ⟨n, hn, he⟩) hs
  ·
   exact tblsFrom_seen h t ht n (List.mem_cons_of_mem _ hn)
theorem find_one : ∀ {l : List Tbl} {seen : List ByteArray}, tblsFrom seen l = 0 → ∀ t ∈ l, l.find? (fun u => eqS u.nm t.nm) = some t
 | [], _, _, t, h => by cases h
 | x :: l, seen, h, t, ht => by
  have h0 := h
  rw [tblsFrom] at h
  split at h
  ·
   rename_i hc; exact absurd h hc
  split at h
  ·
   cases h
  rcases List.mem_cons.1 ht with rfl | ht
  ·
   simp [eqS_rfl]
  ·
   rw [List.find?_cons, tblsFrom_seen h t ht x.nm List.mem_cons_self]
   exact find_one h t ht
theorem catR_from {l : List Tbl} (h : catR l = 0) : tblsFrom [] l = 0 := by
 unfold catR at h
 split at h
 ·
  cases h
 ·
  exact h
/-- the one place: a column's text and the full one are found alike, and are columns alike -/
structure Full (f : ByteArray → ByteArray) (ts : List Tbl) : Prop where
 col : ∀ s, columnR s = true → columnR (f s) = true
 find : ∀ s n, columnR s = true → findR ts s = .ok n → findR ts (f s) = .ok n
theorem full_is {q : Qry} {l ts : List Tbl} {b : Bnd} (h : BindIs q l b ts) : Full (fullR q.table q.join l) ts := by
 have hok := (checkR_ok h.chk).1
 have hnt : nameR q.table = true := by
  unfold okR frontR at hok
  simp only [Bool.and_eq_true] at hok
  exact hok.1.1.1.1
 have hnj : emptyS q.join = false → nameR q.join = true := fun he => by
  unfold okR frontR singleR doubleR at hok
  simp only [he, Bool.false_and, Bool.false_or, Bool.and_eq_true] at hok
  exact hok.1.1.1.2.1.1.2
 have hdot : ∀ s, dotIn s = false → ∀ b ∈ B s, b ≠ 46 := fun s hs b hb => by
  have := List.any_eq_false.1 hs b hb
  simpa using this
 have hcase : ∀ s, columnR s = true → fullR q.table q.join l s = s ∨ (dotIn s = false ∧ ∃ t ∈ ts, nameR t.nm = true ∧ (∃ c ∈ t.cols, c.nm = s) ∧ fullR q.table q.join l s = dotS t.nm s) := by
  intro s hs
  unfold fullR
  cases hd : dotIn s with
  | true => exact .inl (if_pos rfl)
  | false =>
   rw [if_neg (by decide)]
   rcases fullC_is q.table q.join s l with he | ⟨t, ht, hc, hn, he⟩
   ·
    exact .inl he
   ·
    refine .inr ⟨rfl, t, ?_, ?_, hc, he⟩
    ·
     have hone := find_one (catR_from h.cat) t ht
     obtain ⟨t1, _, f1, hts⟩ := open_two h.opn
     rcases hn with hn | hn
     ·
      rw [← hn, hone] at f1
      injection f1 with f1
      subst f1
      rcases hts with ⟨_, rfl⟩ | ⟨_, u, _, _, rfl⟩ <;> exact List.mem_cons_self
     ·
      have hne := (ctableR_ok ((catR_ok h.cat).2 t ht)).1
      rw [hn] at hne
      rcases hts with ⟨he, _⟩ | ⟨_, u, _, f2, rfl⟩
      ·
       rw [he] at hne; cases hne
      ·
       rw [← hn, hone] at f2
       injection f2 with f2
       subst f2
       exact List.mem_cons_of_mem _ List.mem_cons_self
    ·
     rcases hn with hn | hn
     ·
      rw [hn]; exact hnt
     ·
      have hne := (ctableR_ok ((catR_ok h.cat).2 t ht)).1
      rw [hn] at hne ⊢
      exact hnj hne
 refine ⟨fun s hs => ?_, fun s n hs hf => ?_⟩
 ·
  rcases hcase s hs with he | ⟨hd, t, _, hn, _, he⟩
  ·
   rw [he]; exact hs
  ·
   rw [he]; exact column_dot hn (column_name hs (hdot s hd))
 ·
  rcases hcase s hs with he | ⟨hd, t, ht, hn, ⟨c, hc, hcn⟩, he⟩
  ·
   rw [he]; exact hf
  ·
   rw [he]; exact findR_full ht hc hcn (hdot s hd) (name_nodot hn) hf
theorem takes_full {f : ByteArray → ByteArray} {ts : List Tbl} (hf : Full f ts) {s : Stp} (h : (takesR s).2 = true) : takesR (stepF f s) = takesR s := by
 unfold stepF
 by_cases h6 : s.k = 6
 ·
  rw [if_pos h6]
  obtain ⟨k, t, n⟩ := s
  simp only at h6
  subst h6
  have e : ∀ t, takesR ⟨6, t, n⟩ = (0, n == 0 && columnR t) := fun t => by simp [takesR]
  simp only [e, Bool.and_eq_true] at h ⊢
  rw [hf.col t h.2, h.2]
 ·
  rw [if_neg h6]
/-- steps of an expression -/
theorem right_steps {L : List Stp} (h : rightR L = true) : ∀ s ∈ L, (takesR s).2 = true := by
 unfold rightR at h
 split at h
 ·
  cases h
 intro s hs
 obtain ⟨x, hx, rfl⟩ := List.mem_iff_getElem.1 hs
 have hr : rrun L (downL L.length L.length) = some 0 := by simpa using h
 have hmem : x ∈ downL L.length L.length := by
  unfold downL
  exact List.mem_map.2 ⟨L.length - 1 - x, by rw [List.mem_range]; omega, by omega⟩
 obtain ⟨a, b, hab⟩ := List.append_of_mem hmem
 rw [hab, rrun, List.foldl_append, List.foldl_cons] at hr
 have he : stpAt L x = L[x] := by rw [stpAt, List.getD_eq_getElem?_getD, List.getElem?_eq_getElem hx]; rfl
 cases ho : (takesR L[x]).2 with
 | true => rfl
 | false =>
  have : rstep L (a.foldl (rstep L) (some 1)) x = none := by
   generalize a.foldl (rstep L) (some 1) = o
   cases o with
   | none => rfl
   | some m => simp [rstep, he, ho]
  rw [this, rfold_none] at hr
  cases hr
theorem rfold_full {f : ByteArray → ByteArray} {ts : List Tbl} (hf : Full f ts) {L : List Stp} (h : ∀ s ∈ L, (takesR s).2 = true) : ∀ (D : List Nat) (o : Option Int), (∀ x ∈ D, x < L.length) → D.foldl (rstep (L.map (stepF f))) o = D.foldl (rstep L) o
 | [], _, _ => rfl
 | x :: D, o, hD => by
  have hx := hD x List.mem_cons_self
  have e : takesR (stpAt (L.map (stepF f)) x) = takesR (stpAt L x) := by
   have e1 : stpAt L x = L[x] := by rw [stpAt, List.getD_eq_getElem?_getD, List.getElem?_eq_getElem hx]; rfl
   have e2 : stpAt (L.map (stepF f)) x = stepF f L[x] := by rw [stpAt, List.getD_eq_getElem?_getD, List.getElem?_map, List.getElem?_eq_getElem hx]; rfl
   rw [e1, e2, takes_full hf (h _ (List.getElem_mem hx))]
  rw [List.foldl_cons, List.foldl_cons, show rstep (L.map (stepF f)) o x = rstep L o x by unfold rstep; rw [e]]
  exact rfold_full hf h D _ fun y hy => hD y (List.mem_cons_of_mem _ hy)
theorem right_full {f : ByteArray → ByteArray} {ts : List Tbl} (hf : Full f ts) {L : List Stp} (h : rightR L = true) : rightR (L.map (stepF f)) = true := by
 have hs := right_steps h
 unfold rightR at h ⊢
 rw [List.length_map]
 split at h
 ·
  cases h
 rename_i hc
 rw [if_neg hc, rrun, rfold_full hf hs _ _ fun x hx => ?_]
 ·
  exact h
 ·
  unfold downL at hx
  obtain ⟨j, hj, rfl⟩ := List.mem_map.1 hx
  rw [List.mem_range] at hj
  omega
theorem nameStep_full {f : ByteArray → ByteArray} {ts : List Tbl} (hf : Full f ts) : ∀ (L out r : List Stp), (∀ s ∈ L, (takesR s).2 = true) → nameStep ts L out = .ok r → nameStep ts (L.map (stepF f)) out = .ok r
 | [], _, _, _, h => h
 | s :: L, out, r, hL, h => by
  have hs := hL s List.mem_cons_self
  have hL' : ∀ s ∈ L, (takesR s).2 = true := fun x hx => hL x (List.mem_cons_of_mem _ hx)
  rw [nameStep] at h
  rw [List.map_cons, nameStep]
  by_cases h6 : s.k = 6
  ·
   rw [if_pos h6] at h
   obtain ⟨n, h1, h⟩ := Ex.then_ok h
   have hc : columnR s.s = true := by
    have e : takesR s = (0, s.n == 0 && columnR s.s) := by unfold takesR; simp [h6]
    rw [e] at hs
    simp only [Bool.and_eq_true] at hs
    exact hs.2
   rw [show stepF f s = ⟨s.k, f s.s, s.n⟩ from if_pos h6]
   simp only
   rw [if_pos h6, hf.find _ _ hc h1]
   exact nameStep_full hf L _ r hL' h
  ·
   rw [if_neg h6] at h
   rw [show stepF f s = s from if_neg h6, if_neg h6]
   exact nameStep_full hf L _ r hL' h
theorem sbind_full {f : ByteArray → ByteArray} {ts : List Tbl} (hf : Full f ts) {L : List Stp} {r : List Stp × Int} (hL : rightR L = true) (h : sbindR ts L = .ok r) : sbindR ts (L.map (stepF f)) = .ok r := by
 unfold sbindR at h ⊢
 obtain ⟨o, h1, h⟩ := Ex.then_ok h
 rw [nameStep_full hf L [] o (right_steps hL) h1]
 exact h
theorem group_full {f : ByteArray → ByteArray} {ts : List Tbl} (hf : Full f ts) : ∀ (g : List ByteArray) (out r : List Int), (∀ s ∈ g, columnR s = true) → groupR ts g out = .ok r → groupR ts (g.map f) out = .ok r
 | [], _, _, _, h => h
 | s :: g, out, r, hg, h => by
  rw [groupR] at h
  obtain ⟨n, h1, h⟩ := Ex.then_ok h
  rw [List.map_cons, groupR, hf.find _ _ (hg s List.mem_cons_self) h1]
  simp only [Ex.then]
  split at h
  ·
   cases h
  rename_i hc
  rw [if_neg hc]
  exact group_full hf g _ r (fun x hx => hg x (List.mem_cons_of_mem _ hx)) h
theorem items_full {f : ByteArray → ByteArray} {ts : List Tbl} (hf : Full f ts) {g : List Int} {gr : Bool} : ∀ (l out r : List Itm), (∀ x ∈ l, itemOkR x = true) → itemsB ts g gr l out = .ok r → itemsB ts g gr (l.map fun x => ⟨x.agg, x.e.map (stepF f)⟩) out = .ok r
 | [], _, _, _, h => h
 | x :: l, out, r, hl, h => by
  have hx := hl x List.mem_cons_self
  rw [itemsB] at h
  obtain ⟨e, h1, h⟩ := Ex.then_ok h
  rw [List.map_cons, itemsB]
  unfold itemOkR at hx
  have e1 : (if x.agg = 1 then Ex.ok (x.e.map (stepF f), 0) else sbindR ts (x.e.map (stepF f))) = .ok e := by
   by_cases ha : x.agg = 1
   ·
    rw [if_pos ha] at h1 hx ⊢
    have : x.e = [] := List.length_eq_zero_iff.1 (by simpa using hx)
    rw [this] at h1 ⊢
    exact h1
   ·
    rw [if_neg ha] at h1 hx ⊢
    rw [Bool.and_eq_true] at hx
    exact sbind_full hf hx.2 h1
  simp only
  rw [e1]
  obtain ⟨u, h2, h⟩ := Ex.then_ok h
  simp only [Ex.then]
  rw [h2]
  exact items_full hf l _ r (fun x hx => hl x (List.mem_cons_of_mem _ hx)) h
theorem names_law {q : Qry} {l ts : List Tbl} {b : Bnd} (h : BindIs q l b ts) : bindR (fullQ (fullR q.table q.join l) q) l = .ok b := by
 have hf := full_is h
 generalize fullR q.table q.join l = f at hf
 obtain ⟨hok, hi8, hg8⟩ := checkR_ok h.chk
 have hok' := hok
 unfold okR frontR at hok
 simp only [Bool.and_eq_true, Bool.or_eq_true, List.all_eq_true] at hok
 obtain ⟨⟨⟨⟨ha, hb⟩, hc⟩, hd⟩, he⟩ := hok
 have hgc : ∀ s ∈ q.group, columnR s = true := fun s hs => (he s hs).1
 have e1 : q.items.length = 0 ↔ (fullQ f q).items.length = 0 := by simp [fullQ]
 refine BindIs.is (ts := ts) ⟨?_, h.cat, h.opn, h.table, h.join, ?_, ?_, group_full hf _ _ _ hgc h.group, ?_, fun hz => h.few (e1.2 hz), ?_, h.out⟩
 ·
  unfold checkR
  rw [if_neg]
  rintro (hn | hn | hn)
  ·
   have : okR (fullQ f q) = true := by
    unfold okR frontR
    simp only [Bool.and_eq_true, Bool.or_eq_true, List.all_eq_true]
    refine ⟨⟨⟨⟨ha, ?_⟩, ?_⟩, ?_⟩, ?_⟩
    ·
     cases hj : emptyS q.join with
     | true => exact .inl (by simp [singleR, fullQ, hj, emptyS_iff])
     | false =>
      obtain ⟨j1, j2, j3⟩ := okR_join hok' hj
      rcases hb with hb | hb
      ·
       unfold singleR at hb
       rw [hj] at hb
       cases hb
      ·
       refine .inr ?_
       unfold doubleR at hb ⊢
       simp only [Bool.and_eq_true] at hb ⊢
       exact ⟨⟨hb.1.1, by simp only [fullQ, hj]; exact hf.col _ j2⟩, by simp only [fullQ, hj]; exact hf.col _ j3⟩
    ·
     rcases hc with hc | hc
     ·
      exact .inl (by simpa [fullQ] using hc)
     ·
      exact .inr (right_full hf hc)
    ·
     intro x hx
     obtain ⟨y, hy, rfl⟩ := List.mem_map.1 hx
     have := hd y hy
     unfold itemOkR at this ⊢
     by_cases hag : y.agg = 1
     ·
      rw [if_pos hag] at this ⊢
      simpa using this
     ·
      rw [if_neg hag] at this ⊢
      rw [Bool.and_eq_true] at this ⊢
      exact ⟨this.1, right_full hf this.2⟩
    ·
     intro s hs
     obtain ⟨y, hy, rfl⟩ := List.mem_map.1 hs
     exact ⟨hf.col _ (he y hy).1, by simpa [fullQ] using (he y hy).2⟩
   rw [this] at hn
   cases hn
  ·
   simp [fullQ] at hn; omega
  ·
   simp [fullQ] at hn; omega
 ·
  have hj := h.joined
  unfold joinB' at hj ⊢
  cases he : emptyS q.join with
  | true =>
   rw [if_pos he] at hj
   rw [if_pos (show emptyS (fullQ f q).join = true from he)]
   exact hj
  | false =>
   rw [if_neg (by simp [he])] at hj
   rw [if_neg (by simp [fullQ, he])]
   obtain ⟨_, j2, j3⟩ := okR_join hok' he
   obtain ⟨x, h1, hj⟩ := Ex.then_ok hj
   obtain ⟨y, h2, hj⟩ := Ex.then_ok hj
   rw [show (fullQ f q).left = f q.left by simp [fullQ, he], show (fullQ f q).right = f q.right by simp [fullQ, he], hf.find _ _ j2 h1]
   simp only [Ex.then]
   rw [hf.find _ _ j3 h2]
   exact hj
 ·
  have hw := h.wher
  unfold whereR at hw ⊢
  rw [show (fullQ f q).wher = q.wher.map (stepF f) from rfl, List.length_map]
  by_cases h0 : q.wher.length = 0
  ·
   rw [if_pos h0] at hw ⊢
   exact hw
  ·
   rw [if_neg h0] at hw ⊢
   obtain ⟨e, h1, hw⟩ := Ex.then_ok hw
   rw [sbind_full hf (hc.resolve_left (by simp [h0])) h1]
   exact hw
 ·
  rw [h.grouped, groupedR, groupedR]
  congr 1
  simp [fullQ, List.any_map, Function.comp_def]
 ·
  have hi := h.items
  by_cases h0 : q.items.length = 0
  ·
   rw [if_pos h0] at hi
   rw [if_pos (e1.1 h0)]
   exact hi
  ·
   rw [if_neg h0] at hi
   rw [if_neg (fun hz => h0 (e1.2 hz))]
   exact items_full hf _ _ _ hd hi
end Go.Proofs.YtgjfbbmachoolaaGreatDoor.lx
namespace Go.Proofs.YtgjfbbmachoolaaGreatDoor.lx
open Go.RowKit
set_option linter.unusedVariables false
set_option linter.unusedSimpArgs false

theorem dotIn_at {s : ByteArray} {k : Nat} (hk : k < s.size) (hb : s[k] = 46) : dotIn s = true := by
 unfold dotIn
 rw [List.any_eq_true]
 exact ⟨s[k], List.mem_of_getElem? (at_list s k hk), by rw [hb]; rfl⟩
theorem dotIn_no {s : ByteArray} (h : ∀ j, j < s.size → s.data.toList[j]? ≠ some 46) : dotIn s = false := by
 unfold dotIn
 rw [List.any_eq_false]
 intro x hx he
 obtain ⟨j, hj⟩ := List.getElem?_of_mem hx
 have hlt := (List.getElem?_eq_some_iff.1 hj).1
 have hz := Lib.size_eq s
 have : x = 46 := by simpa using he
 subst this
 exact h j (by rw [hz]; exact hlt) hj
theorem fullC_hit {tb jn s : ByteArray} {t : Tbl} {l : List Tbl} (h1 : t.cols.any (fun c => eqS c.nm s) = true) (h2 : eqS t.nm tb = true ∨ eqS t.nm jn = true) : fullC tb jn (t :: l) s = dotS t.nm s := by rw [fullC, if_pos ⟨h1, h2⟩]
theorem fullC_miss {tb jn s : ByteArray} {t : Tbl} {l : List Tbl} (h : ∀ c ∈ t.cols, eqS c.nm s = true → ¬ (eqS t.nm tb = true ∨ eqS t.nm jn = true)) : fullC tb jn (t :: l) s = fullC tb jn l s := by
 rw [fullC, if_neg]
 intro ⟨h1, h2⟩
 obtain ⟨c, hc, he⟩ := List.any_eq_true.1 h1
 exact h c hc he h2

set_option maxHeartbeats 8000000 in
set_option maxRecDepth 100000 in
theorem full_any {s tb jn lf rt : ByteArray} {io wo go lo : Option Addr} {im ic wm wcp gm gcp lcap : Nat} {L : List Tbl} {w : World} (hL : TblRow lo L w) (hlen : L.length ≤ 1099511627776) (hcl : ∀ t ∈ L, t.cols.length ≤ 1099511627776 ∧ t.nm.size < 4294967281) (hs : s.size ≤ 1099511627776) :
  Calls Tryz.prog 10 #[.string s, .agg #[.slice io im ic, .string tb, .string jn, .string lf, .string rt, .slice wo wm wcp, .slice go gm gcp], .slice lo L.length lcap] w fun e w' => e = .returned (.string (fullR tb jn L s)) ∧ Below w.heap.size w w' := by
 obtain ⟨R, hR⟩ : ∃ R, fullR tb jn L s = R := ⟨_, rfl⟩
 rw [hR]
 have HR := Lib.hid hR
 have HL := Lib.hid hL
 have HCL := Lib.hid hcl
 have hbA := (Below.refl w.heap.size w).alloc (Nat.le_refl _) (.cells #[.slice io im ic, .string tb, .string jn, .string lf, .string rt, .slice wo wm wcp, .slice go gm gcp] 26)
 have hnA := heap_alloc_new w (.cells #[.slice io im ic, .string tb, .string jn, .string lf, .string rt, .slice wo wm wcp, .slice go gm gcp] 26)
 have HB1 := Lib.hid hbA
 clear hR hL hcl hbA
 go_enter Tryz.func10, Tryz.ntmps10
 go_upto_region 1 with fail
 generalize w.alloc (.cells #[.slice io im ic, .string tb, .string jn, .string lf, .string rt, .slice wo wm wcp, .slice go gm gcp] 26) = W1 at *
 have hlQ := (Array.getElem?_eq_some_iff.1 hnA).1
 have HQ := Lib.hid fun (wx : World) (hb : Below W1.heap.size W1 wx) => (hb.block w.heap.size hlQ).trans hnA
 clear hnA
 go_wp2_with fail
 go_loopw [7] (fun i wr => ∃ k : Nat, i = .int .i64 k ∧ k ≤ s.size ∧ Below W1.heap.size W1 wr ∧ Hid (∀ j, j < k → s.data.toList[j]? ≠ some 46)) (fun i _ => s.size - (intOf i).toNat)
 case atStart => exact ⟨0, rfl, Nat.zero_le _, Below.refl _ _, Lib.hid fun j hj => absurd hj (Nat.not_lt_zero _)⟩
 case round =>
  obtain ⟨k, rfl, hk, hb0, HJ⟩ := hrel
  by_cases hlt : k < s.size
  ·
   by_cases hb : s[k] = 46
   ·
    have hRs : R = s := by rw [← HR.out]; unfold fullR; rw [if_pos (dotIn_at hlt hb)]
    subst hRs
    have e46 : ((R[k].toNat : Int) == 46) = true := by rw [hb]; rfl
    have HBF := Lib.hid (below_self HB1.out hb0)
    clear hb HJ
    go_wp2_with fail
    go_ret
    exact ⟨rfl, HBF.out⟩
   ·
    have e46 : ((s[k].toNat : Int) == 46) = false := by
     rw [beq_eq_false_iff_ne]
     intro e
     exact hb (UInt8.toNat_inj.1 (by show s[k].toNat = 46; omega))
    have HJ2 : Hid (∀ j, j < k + 1 → s.data.toList[j]? ≠ some 46) := Lib.hid fun j hj => by
     by_cases e : j = k
     ·
      subst e
      rw [at_list s j hlt]
      intro h
      injection h with h
      exact hb h
     ·
      exact HJ.out j (by omega)
    clear hb
    go_wp2_with fail
    go_roundw
    case rel => exact ⟨k + 1, by go_num, by omega, hb0, HJ2⟩
    case measure => simp [intOf]; omega
  ·
   obtain rfl : k = s.size := by omega
   have HC : Hid (fullC tb jn L s = R) := Lib.hid (by rw [← HR.out]; unfold fullR; rw [if_neg (by rw [dotIn_no HJ.out]; decide)])
   have HB0 := Lib.hid hb0
   clear HJ HR hlt hk hb0
   go_wp2_with fail
   generalize wr = W2 at *
   go_loopw [25] (fun v wx => ∃ k : Nat, v = .int .i64 k ∧ k ≤ L.length ∧ Below W2.heap.size W2 wx ∧ Hid (fullC tb jn (L.drop k) s = R)) (fun v _ => L.length - (intOf v).toNat)
   case atStart => exact ⟨0, rfl, Nat.zero_le _, Below.refl _ _, HC⟩
   case round =>
    obtain ⟨k, rfl, hk, hb2, HT⟩ := hrel
    have HB2 := Lib.hid (below_self HB0.out hb2)
    by_cases hlt : k < L.length
    ·
     have hx : L[k]? = some L[k] := List.getElem?_eq_getElem hlt
     have hT := HT.out
     rw [List.drop_eq_getElem_cons hlt] at hT
     obtain ⟨hcx, hnx⟩ := HCL.out _ (List.getElem_mem hlt)
     obtain ⟨b0, o, rfl, co, cc, ro, rn, rc, c0, c1, c2, hcr, _⟩ := (HL.out.self (below_self HB1.out HB2.out)).at hx
     generalize L[k] = t at *
     have HT1 := Lib.hid hT
     have n1 : ¬ 9223372036854775807 < t.nm.size + 1 := by omega
     have n2 : ¬ 9223372036854775807 < t.nm.size + 1 + s.size := by omega
     clear hx hT HT
     go_upto_region 9 with fail
     have hbA := (Below.refl wr.heap.size wr).alloc (Nat.le_refl _) (.cells #[.string t.nm, .slice co t.cols.length cc, .slice ro rn rc] 53)
     have hnA := heap_alloc_new wr (.cells #[.string t.nm, .slice co t.cols.length cc, .slice ro rn rc] 53)
     have HCR := Lib.hid (hcr.self hbA)
     have HBA := Lib.hid (below_self hb2 hbA)
     generalize wr.alloc (.cells #[.string t.nm, .slice co t.cols.length cc, .slice ro rn rc] 53) = W3 at *
     have hlA := (Array.getElem?_eq_some_iff.1 hnA).1
     have d1 : W3.cell? ⟨wr.heap.size, 1, none⟩ = some (.slice co t.cols.length cc) := by rw [Lib.cell_of_heap hnA]; rfl
     have HNA := Lib.hid hnA
     generalize wr.heap.size = A at *
     clear c0 c1 c2 hcr hbA hnA
     go_wp2_with fail
     clear d1
     go_loopw [32] (fun v wx => ∃ j : Nat, v = .int .i64 j ∧ j ≤ t.cols.length ∧ Below W3.heap.size W3 wx ∧ Hid (∀ c ∈ t.cols.take j, eqS c.nm s = true → ¬ (eqS t.nm tb = true ∨ eqS t.nm jn = true))) (fun v _ => t.cols.length - (intOf v).toNat)
     case atStart => exact ⟨0, rfl, Nat.zero_le _, Below.refl _ _, Lib.hid fun c hc => by simp at hc⟩
     case round =>
      obtain ⟨j, rfl, hj, hb3, HM⟩ := hrel
      have HB3 := Lib.hid (below_self HBA.out hb3)
      by_cases hlj : j < t.cols.length
      ·
       have hx : t.cols[j]? = some t.cols[j] := List.getElem?_eq_getElem hlj
       have hin : t.cols[j] ∈ t.cols := List.getElem_mem hlj
       have htk : t.cols.take (j + 1) = t.cols.take j ++ [t.cols[j]] := List.take_succ_eq_append_getElem hlj
       obtain ⟨pb, pf, rfl, e0, e1⟩ := (HCR.out.self hb3).at hx
       generalize t.cols[j] = x at *
       have HIN := Lib.hid hin
       have HTK := Lib.hid htk
       clear hx hin htk
       have hbB := (Below.refl wr.heap.size wr).alloc (Nat.le_refl _) (.cells #[.string x.nm, .int .u8 x.k] 47)
       have hnB := heap_alloc_new wr (.cells #[.string x.nm, .int .u8 x.k] 47)
       have HBB := Lib.hid (below_self hb3 hbB)
       go_upto_region 12 with fail
       generalize wr.alloc (.cells #[.string x.nm, .int .u8 x.k] 47) = W4 at *
       have x0 : W4.cell? ⟨wr.heap.size, 0, none⟩ = some (.string x.nm) := by rw [Lib.cell_of_heap hnB]; rfl
       have t0 : W4.cell? ⟨A, 0, none⟩ = some (.string t.nm) := by rw [Lib.cell_of_heap ((HBB.out.block A hlA).trans HNA.out)]; rfl
       have hq := HQ.out W4 (below_self HB0.out (below_self HBA.out HBB.out))
       have q1 : W4.cell? ⟨w.heap.size, 1, none⟩ = some (.string tb) := by rw [Lib.cell_of_heap hq]; rfl
       have q2 : W4.cell? ⟨w.heap.size, 2, none⟩ = some (.string jn) := by rw [Lib.cell_of_heap hq]; rfl
       generalize wr.heap.size = D at *
       clear hbB hnB hq e0 e1
       cases f0 : (x.nm.toList == s.toList) with
       | false =>
        have HM2 : Hid (∀ c ∈ t.cols.take (j + 1), eqS c.nm s = true → ¬ (eqS t.nm tb = true ∨ eqS t.nm jn = true)) := Lib.hid (by
         rw [HTK.out]
         intro c hc he
         rcases List.mem_append.1 hc with hc | hc
         ·
          exact HM.out c hc he
         ·
          rw [List.mem_singleton.1 hc] at he
          rw [show eqS x.nm s = false from f0] at he
          cases he)
        go_wp2_with fail
        go_roundw
        case rel => exact ⟨j + 1, by go_num, by omega, HBB.out, HM2⟩
        case measure => simp [intOf]; omega
       | true =>
        cases f1 : (t.nm.toList == tb.toList) with
        | true =>
         have HF : Hid (dotS t.nm s = R) := Lib.hid (by rw [← HT1.out, fullC_hit (List.any_eq_true.2 ⟨x, HIN.out, f0⟩) (.inl f1)])
         have HBF := Lib.hid (below_self HB1.out (below_self HB0.out (below_self HBA.out HBB.out)))
         go_wp2_with fail
         go_ret
         exact ⟨by rw [← HF.out]; rfl, HBF.out⟩
        | false =>
         cases f2 : (t.nm.toList == jn.toList) with
         | true =>
          have HF : Hid (dotS t.nm s = R) := Lib.hid (by rw [← HT1.out, fullC_hit (List.any_eq_true.2 ⟨x, HIN.out, f0⟩) (.inr f2)])
          have HBF := Lib.hid (below_self HB1.out (below_self HB0.out (below_self HBA.out HBB.out)))
          go_wp2_with fail
          go_ret
          exact ⟨by rw [← HF.out]; rfl, HBF.out⟩
         | false =>
          have HM2 : Hid (∀ c ∈ t.cols.take (j + 1), eqS c.nm s = true → ¬ (eqS t.nm tb = true ∨ eqS t.nm jn = true)) := Lib.hid (by
           rw [HTK.out]
           intro c hc he
           rcases List.mem_append.1 hc with hc | hc
           ·
            exact HM.out c hc he
           ·
            rw [show eqS t.nm tb = false from f1, show eqS t.nm jn = false from f2]
            simp)
          go_wp2_with fail
          go_roundw
          case rel => exact ⟨j + 1, by go_num, by omega, HBB.out, HM2⟩
          case measure => simp [intOf]; omega
      ·
       obtain rfl : j = t.cols.length := by omega
       have HT2 : Hid (fullC tb jn (L.drop (k + 1)) s = R) := Lib.hid (by
        have h := HM.out
        rw [List.take_length] at h
        rw [← fullC_miss h]
        exact HT1.out)
       clear HM HT1
       go_wp2_with fail
       go_roundw
       case rel => exact ⟨k + 1, by go_num, by omega, HB3.out, HT2⟩
       case measure => simp [intOf]; omega
    ·
     obtain rfl : k = L.length := by omega
     have hRs : s = R := by have := HT.out; rw [List.drop_length] at this; exact this
     have HBF := Lib.hid (below_self HB1.out HB2.out)
     clear HT HC
     subst hRs
     go_wp2_with fail
     go_ret
     exact ⟨rfl, HBF.out⟩
set_option maxHeartbeats 8000000 in
set_option maxRecDepth 100000 in
theorem steps_any {tb jn lf rt : ByteArray} {ao io wo go lo : Option Addr} {cap im ic wm wcp gm gcp lcap : Nat} {M : List Stp} {L : List Tbl} {w : World} (hM : StpRow ao M w) (hml : M.length ≤ 1099511627776) (hok : StpsOk M) (hL : TblRow lo L w) (hlen : L.length ≤ 1099511627776) (hcl : ∀ t ∈ L, t.cols.length ≤ 1099511627776 ∧ t.nm.size < 4294967281) :
  Calls Tryz.prog 11 #[.slice ao M.length cap, .agg #[.slice io im ic, .string tb, .string jn, .string lf, .string rt, .slice wo wm wcp, .slice go gm gcp], .slice lo L.length lcap] w fun e w' => (∃ v, e = .returned v ∧ w'.ownsRow w.heap.size 50 3 v M.length (stpCells (M.map (stepF (fullR tb jn L))))) ∧ Below w.heap.size w w' := by
 have HM := Lib.hid hM
 have HL := Lib.hid hL
 have HCL := Lib.hid hcl
 have HOK := Lib.hid hok
 have hbA := (Below.refl w.heap.size w).alloc (Nat.le_refl _) (.cells #[.slice io im ic, .string tb, .string jn, .string lf, .string rt, .slice wo wm wcp, .slice go gm gcp] 26)
 have hnA := heap_alloc_new w (.cells #[.slice io im ic, .string tb, .string jn, .string lf, .string rt, .slice wo wm wcp, .slice go gm gcp] 26)
 have HB1 := Lib.hid hbA
 have hs1 := hbA.size
 clear hM hL hcl hbA hok
 obtain ⟨i0, hi0, hz0, hz1, hz2⟩ := info_parts infoS
 have HI := Lib.hid (And.intro hi0 (And.intro hz0 (And.intro hz1 hz2)))
 clear hi0 hz0 hz1 hz2
 go_enter Tryz.func11, Tryz.ntmps11
 go_upto_region 1 with fail
 generalize w.alloc (.cells #[.slice io im ic, .string tb, .string jn, .string lf, .string rt, .slice wo wm wcp, .slice go gm gcp] 26) = W1 at *
 have hlQ := (Array.getElem?_eq_some_iff.1 hnA).1
 have HQ := Lib.hid fun (wx : World) (hb : Below W1.heap.size W1 wx) => (hb.block w.heap.size hlQ).trans hnA
 clear hnA
 go_wp2_with fail
 go_loopw [7, 12] (fun ov v wr => ∃ k : Nat, v = .int .i64 k ∧ k ≤ M.length ∧ Below W1.heap.size W1 wr ∧ Hid (wr.ownsRow W1.heap.size 50 3 ov k (stpCells ((M.take k).map (stepF (fullR tb jn L)))))) (fun _ v _ => M.length - (intOf v).toNat)
 case atStart => exact ⟨0, rfl, Nat.zero_le _, Below.refl _ _, Lib.hid (World.ownsRow_nil _ _ _ _)⟩
 case round =>
  obtain ⟨k, rfl, hk, hb, HO⟩ := hrel
  by_cases hlt : k < M.length
  ·
   have hx : M[k]? = some M[k] := List.getElem?_eq_getElem hlt
   have hxo := HOK.out _ (List.getElem_mem hlt)
   have htk : (M.take (k + 1)).map (stepF (fullR tb jn L)) = (M.take k).map (stepF (fullR tb jn L)) ++ [stepF (fullR tb jn L) M[k]] := by rw [List.take_succ_eq_append_getElem hlt, List.map_append]; rfl
   obtain ⟨b0, o, rfl, d0, d1, d2⟩ := (HM.out.self (below_self HB1.out hb)).at hx
   generalize M[k] = x at *
   obtain ⟨so, scap, rfl⟩ := own_shape HO.out
   have HTK := Lib.hid htk
   have hxs := hxo.1
   clear hx htk hxo
   go_upto_region 5 with fail
   have hbA := (Below.refl wr.heap.size wr).alloc (Nat.le_refl _) (.cells #[.int .u8 x.k, .string x.s, .int .i64 x.n] 50)
   have hnA := heap_alloc_new wr (.cells #[.int .u8 x.k, .string x.s, .int .i64 x.n] 50)
   have HOA := Lib.hid (own_keepA HO.out fun j _ hj => hbA.block j hj)
   have hlo := own_lt HO.out
   have HLO := Lib.hid hlo
   have HBA := Lib.hid (below_self hb hbA)
   have hwr := hb.size
   generalize wr.alloc (.cells #[.int .u8 x.k, .string x.s, .int .i64 x.n] 50) = W3 at *
   have hA3 := (Array.getElem?_eq_some_iff.1 hnA).1
   have HNA := Lib.hid hnA
   have e0 : W3.cell? ⟨wr.heap.size, 0, none⟩ = some (.int .u8 x.k) := by rw [Lib.cell_of_heap hnA]; rfl
   have e1 : W3.cell? ⟨wr.heap.size, 1, none⟩ = some (.string x.s) := by rw [Lib.cell_of_heap hnA]; rfl
   have e2 : W3.cell? ⟨wr.heap.size, 2, none⟩ = some (.int .i64 x.n) := by rw [Lib.cell_of_heap hnA]; rfl
   generalize wr.heap.size = A at *
   clear d0 d1 d2 hbA hnA hb HO hlo
   by_cases h6 : x.k = 6
   ·
    have e6 : (x.k == 6) = true := by simp [h6]
    have hst : stepF (fullR tb jn L) x = ⟨x.k, fullR tb jn L x.s, x.n⟩ := by unfold stepF; rw [if_pos h6]
    rw [hst] at HTK
    have hq := HQ.out W3 HBA.out
    have hcl7 : ∀ (j : Nat) v, (#[.slice io im ic, .string tb, .string jn, .string lf, .string rt, .slice wo wm wcp, .slice go gm gcp] : Array Value)[j]? = some v → W3.cell? ⟨w.heap.size, j, none⟩ = some v := fun j v h => by rw [Lib.cell_of_heap hq]; exact h
    have k0 := hcl7 0 _ rfl
    have k1 := hcl7 1 _ rfl
    have k2 := hcl7 2 _ rfl
    have k3 := hcl7 3 _ rfl
    have k4 := hcl7 4 _ rfl
    have k5 := hcl7 5 _ rfl
    have k6 := hcl7 6 _ rfl
    have HF := Lib.hid (full_any (s := x.s) (tb := tb) (jn := jn) (lf := lf) (rt := rt) (io := io) (im := im) (ic := ic) (wo := wo) (wm := wm) (wcp := wcp) (go := go) (gm := gm) (gcp := gcp) (lcap := lcap) (HL.out.self (below_self HB1.out HBA.out)) hlen HCL.out (by omega))
    clear hcl7 hq hst h6
    go_wp2_with (go_at_call 10; refine HF.out.mono ?_; rintro e w4 ⟨rfl, hb4⟩; refine Hid.out ?_)
    refine Lib.hid ?_
    generalize fullR tb jn L x.s = fs at *
    have hn4 := (hb4.block A hA3).trans HNA.out
    have c1 : w4.cell? ⟨A, 1, none⟩ = some (.string x.s) := by rw [Lib.cell_of_heap hn4]; rfl
    have f4 := Lib.frozen_of_heap hn4 1
    have hn5 : (w4.setCell ⟨A, 1, none⟩ (.string fs)).heap[A]? = some (.cells #[.int .u8 x.k, .string fs, .int .i64 x.n] 50 (0, 0)) := by simp [World.setCell, Array.getElem?_modify, hn4]
    have HO5 := Lib.hid ((own_keepA HOA.out fun j _ hj => hb4.block j hj).kept (setB_gb (b := A) (j := 1) (v := .string fs)) (.inr fun e => by have := HLO.out A e; omega))
    have HB5 := Lib.hid ((below_self HBA.out hb4).setCell (p := ⟨A, 1, none⟩) hwr (.string fs))
    go_upto_region 7 with fail
    clear c1 f4 hb4 hn4 HF e0 e1 e2 k0 k1 k2 k3 k4 k5 k6
    generalize w4.setCell ⟨A, 1, none⟩ (.string fs) = W5 at *
    have z0 : W5.cell? ⟨A, 0, none⟩ = some (.int .u8 x.k) := by rw [Lib.cell_of_heap hn5]; rfl
    have z1 : W5.cell? ⟨A, 1, none⟩ = some (.string fs) := by rw [Lib.cell_of_heap hn5]; rfl
    have z2 : W5.cell? ⟨A, 2, none⟩ = some (.int .i64 x.n) := by rw [Lib.cell_of_heap hn5]; rfl
    have hs5 := HB5.out.size
    clear hn5
    go_wp2_with (at_builtin; refine wpList_append_lying rfl _ _ 23 rfl W1.heap.size 50 i0 _ 3 32 Tryz.underlying23 HI.out.1 HI.out.2.1 HI.out.2.2.1 HI.out.2.2.2 rfl (by decide) (.slice so k scap) k (stpCells ((M.take k).map (stepF (fullR tb jn L)))) rfl (HO5.out.alloc _) (some ⟨W5.heap.size, 0, none⟩) 1 1 [.int .u8 x.k, .string fs, .int .i64 x.n] rfl (lies_three rfl rfl rfl) (by unfold maxLen; omega) (by omega) (by simp; omega) ?_)
    intro v6 w6 hown6 hg6 hat6
    have hbC := (Below.refl W5.heap.size W5).alloc (Nat.le_refl _) (.cells #[.int .u8 x.k, .string fs, .int .i64 x.n] 50)
    have HB6 := Lib.hid (below_ownB (below_self HB5.out hbC) hg6 (own_base HO5.out) (by rw [alloc_sz]; omega))
    have HO6 : Hid (w6.ownsRow W1.heap.size 50 3 v6 (k + 1) (stpCells ((M.take (k + 1)).map (stepF (fullR tb jn L))))) := Lib.hid (by rw [HTK.out, stpCells_app, List.map_take]; exact hown6)
    clear hown6 hg6 hat6 hbC z0 z1 z2
    go_wp2_with fail
    go_roundw
    case rel => exact ⟨k + 1, by go_num, by omega, HB6.out, HO6⟩
    case measure => simp [intOf]; omega
   ·
    have e6 : (x.k == 6) = false := by simp [h6]
    have hst : stepF (fullR tb jn L) x = ⟨x.k, x.s, x.n⟩ := by unfold stepF; rw [if_neg h6]
    rw [hst] at HTK
    have hn5 := HNA.out
    have HO5 := HOA
    have HB5 := HBA
    clear hst h6
    go_upto_region 7 with fail
    clear e0 e1 e2 HOA HBA
    generalize W3 = W5 at *
    have z0 : W5.cell? ⟨A, 0, none⟩ = some (.int .u8 x.k) := by rw [Lib.cell_of_heap hn5]; rfl
    have z1 : W5.cell? ⟨A, 1, none⟩ = some (.string x.s) := by rw [Lib.cell_of_heap hn5]; rfl
    have z2 : W5.cell? ⟨A, 2, none⟩ = some (.int .i64 x.n) := by rw [Lib.cell_of_heap hn5]; rfl
    have hs5 := HB5.out.size
    clear hn5
    go_wp2_with (at_builtin; refine wpList_append_lying rfl _ _ 23 rfl W1.heap.size 50 i0 _ 3 32 Tryz.underlying23 HI.out.1 HI.out.2.1 HI.out.2.2.1 HI.out.2.2.2 rfl (by decide) (.slice so k scap) k (stpCells ((M.take k).map (stepF (fullR tb jn L)))) rfl (HO5.out.alloc _) (some ⟨W5.heap.size, 0, none⟩) 1 1 [.int .u8 x.k, .string x.s, .int .i64 x.n] rfl (lies_three rfl rfl rfl) (by unfold maxLen; omega) (by omega) (by simp; omega) ?_)
    intro v6 w6 hown6 hg6 hat6
    have hbC := (Below.refl W5.heap.size W5).alloc (Nat.le_refl _) (.cells #[.int .u8 x.k, .string x.s, .int .i64 x.n] 50)
    have HB6 := Lib.hid (below_ownB (below_self HB5.out hbC) hg6 (own_base HO5.out) (by rw [alloc_sz]; omega))
    have HO6 : Hid (w6.ownsRow W1.heap.size 50 3 v6 (k + 1) (stpCells ((M.take (k + 1)).map (stepF (fullR tb jn L))))) := Lib.hid (by rw [HTK.out, stpCells_app, List.map_take]; exact hown6)
    clear hown6 hg6 hat6 hbC z0 z1 z2
    go_wp2_with fail
    go_roundw
    case rel => exact ⟨k + 1, by go_num, by omega, HB6.out, HO6⟩
    case measure => simp [intOf]; omega
  ·
   obtain rfl : k = M.length := by omega
   have HB := Lib.hid (below_self HB1.out hb)
   have HO2 := Lib.hid (own_le HO.out hs1)
   go_wp2_with fail
   go_ret
   exact ⟨⟨_, rfl, by have := HO2.out; rw [List.take_length] at this; exact this⟩, HB.out⟩
end Go.Proofs.YtgjfbbmachoolaaGreatDoor.lx
namespace Go.Proofs.YtgjfbbmachoolaaGreatDoor.lx
open Go.RowKit
set_option linter.unusedVariables false
set_option linter.unusedSimpArgs false

theorem bindA_sm2 {q : Qry} {L : List Tbl} {b : Bnd} {ts : List Tbl} (hb : BindIs q L b ts) (hk : BndOk b) : BndSm b := by
 obtain ⟨l1, l2, _, _⟩ := kinds_law hb
 have hi := hk.ilen
 exact ⟨hk.wlen, hk.glen, hk.ilen, by rw [l1]; exact hi, by rw [l2]; exact hi, fun it hit => (hk.items it hit).2.1⟩
/-- the query's copy, as it is turned: behind wS only its block and new ones are written -/
structure QSt (Pb : Nat) (wS : World) (cs : Array Value) (wx : World) : Prop where
 gb : wS.grownBy wx (some Pb)
 at_ : wx.heap[Pb]? = some (.cells cs 26 (0, 0))
theorem QSt.cell {Pb : Nat} {wS wx : World} {cs : Array Value} (h : QSt Pb wS cs wx) (j : Nat) (v : Value) (hv : cs[j]? = some v) : wx.cell? ⟨Pb, j, none⟩ = some v := by rw [Lib.cell_of_heap h.at_]; exact hv
theorem QSt.free {Pb : Nat} {wS wx : World} {cs : Array Value} (h : QSt Pb wS cs wx) : ∀ j, wx.frozen? ⟨Pb, j, none⟩ = false := Lib.frozen_of_heap h.at_
theorem QSt.lt {Pb : Nat} {wS wx : World} {cs : Array Value} (h : QSt Pb wS cs wx) : Pb < wx.heap.size := (Array.getElem?_eq_some_iff.1 h.at_).1
theorem QSt.next {Pb : Nat} {wS wx wy : World} {cs : Array Value} (h : QSt Pb wS cs wx) (hb : Below wx.heap.size wx wy) : QSt Pb wS cs wy := ⟨gbb_below h.gb hb, (hb.block _ h.lt).trans h.at_⟩
theorem QSt.set {Pb : Nat} {wS wx : World} {cs : Array Value} (h : QSt Pb wS cs wx) (j : Nat) (v : Value) : QSt Pb wS (cs.setIfInBounds j v) (wx.setCell ⟨Pb, j, none⟩ v) :=
 ⟨gbb_trans h.gb setB_gb, by simp [World.setCell, Array.getElem?_modify, h.at_]⟩
theorem QSt.eq {Pb : Nat} {wS wx : World} {cs cs' : Array Value} (h : QSt Pb wS cs wx) (he : cs = cs') : QSt Pb wS cs' wx := he ▸ h
theorem QSt.own {Pb : Nat} {wS wx wy : World} {cs : Array Value} {v : Value} (h : QSt Pb wS cs wx) (hg : wx.grownBy wy v.ownBlock) (hv : ∀ k, v.ownBlock = some k → wS.heap.size ≤ k) (hb : Pb < wS.heap.size) : QSt Pb wS cs wy :=
 have hs := h.gb.size
 ⟨⟨hg.os.trans h.gb.os, hg.tape.trans h.gb.tape, hg.output.trans h.gb.output, Nat.le_trans hs hg.size, fun k hk hne => (hg.block k (by omega) (fun e => by have := hv k e.symm; omega)).trans (h.gb.block k hk hne)⟩,
  (hg.block Pb h.lt (fun e => by have := hv Pb e.symm; omega)).trans h.at_⟩

set_option maxHeartbeats 8000000 in
set_option maxRecDepth 100000 in
theorem Names_any {q : Qry} {io wo go lo : Option Addr} {icp wcp gcp lcap : Nat} {L : List Tbl} {w : World} (hG : PGlob w) (hqi : QryIn q io wo go w) (hqo : QryOk q) (hqf : ∀ f, f = fullR q.table q.join L → QryOk (fullQ f q)) (hwl : q.wher.length ≤ 1099511627776) (hxl : ∀ it ∈ q.items, it.e.length ≤ 1099511627776)
  (hL : TblRow lo L w) (hLo : TblsOk L) (hll : L.length ≤ 1099511627776) :
  Calls Tryz.prog 3 #[.agg #[.slice io q.items.length icp, .string q.table, .string q.join, .string q.left, .string q.right, .slice wo q.wher.length wcp, .slice go q.group.length gcp], .slice lo L.length lcap] w fun e w' => e = .returned (.bool true) ∧ Below w.heap.size w w' := by
 have HG := Lib.hid hG
 have HQI := Lib.hid hqi
 have HQO := Lib.hid hqo
 have HQF := Lib.hid hqf
 have HXL := Lib.hid hxl
 have HTR := Lib.hid hL
 have HTO := Lib.hid hLo
 have HCL : Hid (∀ t ∈ L, t.cols.length ≤ 1099511627776 ∧ t.nm.size < 4294967281) := Lib.hid fun t ht => ⟨(hLo t ht).2.2, (hLo t ht).1⟩
 have hnA := heap_alloc_new w (.cells #[.slice io q.items.length icp, .string q.table, .string q.join, .string q.left, .string q.right, .slice wo q.wher.length wcp, .slice go q.group.length gcp] 26)
 have HB1 := Lib.hid ((Below.refl w.heap.size w).alloc (Nat.le_refl _) (.cells #[.slice io q.items.length icp, .string q.table, .string q.join, .string q.left, .string q.right, .slice wo q.wher.length wcp, .slice go q.group.length gcp] 26))
 clear hG hqi hqo hqf hxl hL hLo
 go_enter Tryz.func3, Tryz.ntmps3
 go_upto_region 1 with fail
 generalize w.alloc (.cells #[.slice io q.items.length icp, .string q.table, .string q.join, .string q.left, .string q.right, .slice wo q.wher.length wcp, .slice go q.group.length gcp] 26) = W1 at *
 have hlQ := (Array.getElem?_eq_some_iff.1 hnA).1
 have HQ := Lib.hid fun (wx : World) (hb : Below W1.heap.size W1 wx) => (hb.block w.heap.size hlQ).trans hnA
 clear hnA
 go_wp2_with (go_at_call 8; refine (lives4_any _ (HG.out.self HB1.out)).mono ?_; rintro e w2 ⟨rfl, hb2⟩; refine Hid.out ?_)
 refine Lib.hid ?_
 have HB2 := Lib.hid hb2
 clear hb2
 have hcl : ∀ (j : Nat) v, (#[.slice io q.items.length icp, .string q.table, .string q.join, .string q.left, .string q.right, .slice wo q.wher.length wcp, .slice go q.group.length gcp] : Array Value)[j]? = some v → w2.cell? ⟨w.heap.size, j, none⟩ = some v := fun j v h => by rw [Lib.cell_of_heap (HQ.out w2 HB2.out)]; exact h
 have k0 := hcl 0 _ rfl
 have k1 := hcl 1 _ rfl
 have k2 := hcl 2 _ rfl
 have k3 := hcl 3 _ rfl
 have k4 := hcl 4 _ rfl
 have k5 := hcl 5 _ rfl
 have k6 := hcl 6 _ rfl
 clear hcl
 have hbd := Bind_any (icp := icp) (wcp := wcp) (gcp := gcp) (lcap := lcap) (HG.out.self (below_self HB1.out HB2.out)) (HQI.out.self (below_self HB1.out HB2.out)) HQO.out hwl HXL.out (HTR.out.self (below_self HB1.out HB2.out)) HTO.out hll
 cases hr : bindR q L with
 | no y =>
  have hy := bindR_nz hr
  rw [bindA_no hr] at hbd
  have HBN : Hid (Calls Tryz.prog 9 #[.agg #[.slice io q.items.length icp, .string q.table, .string q.join, .string q.left, .string q.right, .slice wo q.wher.length wcp, .slice go q.group.length gcp], .slice lo L.length lcap] w2 fun e w' => OfN y e ∧ Below w2.heap.size w2 w') := Lib.hid (hbd.mono fun e w' he => by
   obtain ⟨⟨wo, wc, ga, gc, ia, ic, na, nc, ka, kc, he, _⟩, hbel⟩ := he
   exact ⟨⟨_, _, _, _, _, _, _, _, _, _, _, _, _, _, _, _, _, _, _, _, _, he⟩, hbel⟩)
  have hyb : (y == 0) = false := by simpa using hy
  have hyb2 : (y != 0) = true := by simpa using hy
  clear hr hy hbd
  go_wp2_with (go_at_call 9; refine HBN.out.mono ?_; rintro e w4 ⟨⟨s0, s1, z2, z3, z4, p5, n5, c5, p6, n6, c6, p7, n7, c7, g8, p9, n9, c9, p10, n10, c10, rfl⟩, hb4⟩; refine Hid.out ?_)
  refine Lib.hid ?_
  have HB4 := Lib.hid (below_self HB2.out hb4)
  clear hb4 HBN k0 k1 k2 k3 k4 k5 k6
  go_upto_region 4 with fail
  have HB5 := Lib.hid (below_self HB4.out ((Below.refl w4.heap.size w4).alloc (Nat.le_refl _) (.cells #[.string s0, .string s1, .int .i64 z2, .int .i64 z3, .int .i64 z4, .slice p5 n5 c5, .slice p6 n6 c6, .slice p7 n7 c7, .bool g8, .slice p9 n9 c9, .slice p10 n10 c10] 32)))
  generalize w4.alloc (.cells #[.string s0, .string s1, .int .i64 z2, .int .i64 z3, .int .i64 z4, .slice p5 n5 c5, .slice p6 n6 c6, .slice p7 n7 c7, .bool g8, .slice p9 n9 c9, .slice p10 n10 c10] 32) = W5 at *
  go_wp2_with fail
  go_ret
  exact ⟨rfl, below_self HB1.out HB5.out⟩
 | ok b =>
  obtain ⟨ts, hbi⟩ := bindR_ok hr
  have hbk := bindA_bok (L := L) HQO.out hwl HXL.out
  rw [bindA_ok hr] at hbd hbk
  obtain ⟨hc1, hi8, hg8⟩ := checkR_ok hbi.chk
  have hsm := bindA_sm2 hbi hbk
  have hnl := bindA_ok (names_law hbi)
  obtain ⟨f, hf⟩ : ∃ f, fullR q.table q.join L = f := ⟨_, rfl⟩
  have hqf := HQF.out f hf.symm
  rw [hf] at hnl
  have HF := Lib.hid fun (s : ByteArray) (hs : s.size ≤ 1099511627776) (wx : World) (hb : Below W1.heap.size W1 wx) => (show Calls Tryz.prog 10 #[.string s, .agg #[.slice io q.items.length icp, .string q.table, .string q.join, .string q.left, .string q.right, .slice wo q.wher.length wcp, .slice go q.group.length gcp], .slice lo L.length lcap] wx fun e w' => e = .returned (.string (f s)) ∧ Below wx.heap.size wx w' from by
   have h := full_any (s := s) (tb := q.table) (jn := q.join) (lf := q.left) (rt := q.right) (io := io) (im := q.items.length) (ic := icp) (wo := wo) (wm := q.wher.length) (wcp := wcp) (go := go) (gm := q.group.length) (gcp := gcp) (lcap := lcap) (HTR.out.self (below_self HB1.out hb)) hll HCL.out hs
   rw [hf] at h
   exact h)
  have HST := Lib.hid fun (ao : Option Addr) (cap : Nat) (M : List Stp) (wx : World) (hM : StpRow ao M wx) (hml : M.length ≤ 1099511627776) (hok : StpsOk M) (hb : Below W1.heap.size W1 wx) => (show Calls Tryz.prog 11 #[.slice ao M.length cap, .agg #[.slice io q.items.length icp, .string q.table, .string q.join, .string q.left, .string q.right, .slice wo q.wher.length wcp, .slice go q.group.length gcp], .slice lo L.length lcap] wx fun e w' => (∃ v, e = .returned v ∧ w'.ownsRow wx.heap.size 50 3 v M.length (stpCells (M.map (stepF f)))) ∧ Below wx.heap.size wx w' from by
   have h := steps_any (cap := cap) (M := M) (tb := q.table) (jn := q.join) (lf := q.left) (rt := q.right) (io := io) (im := q.items.length) (ic := icp) (wo := wo) (wm := q.wher.length) (wcp := wcp) (go := go) (gm := q.group.length) (gcp := gcp) (lcap := lcap) hM hml hok (HTR.out.self (below_self HB1.out hb)) hll HCL.out
   rw [hf] at h
   exact h)
  have HBD := Lib.hid hbd
  have HNL := Lib.hid hnl
  have HSM := Lib.hid hsm
  have HQF2 := Lib.hid hqf
  clear hbd hnl hsm hqf hbk hr hbi hc1 hf HQF
  go_wp2_with (go_at_call 9; refine HBD.out.mono ?_; rintro e w4 ⟨⟨wo1, wc1, ga1, gc1, ia1, ic1, na1, nc1, ka1, kc1, rfl, hbi1, _⟩, hb4⟩; refine Hid.out ?_)
  refine Lib.hid ?_
  clear k0 k1 k2 k3 k4 k5 k6 HBD
  go_upto_region 4 with fail
  have hbA := (Below.refl w4.heap.size w4).alloc (Nat.le_refl _) (.cells #[.string b.table, .string b.join, .int .i64 b.width, .int .i64 b.left, .int .i64 b.right, .slice wo1 b.wher.length wc1, .slice ga1 b.group.length gc1, .slice ia1 b.items.length ic1, .bool b.grouped, .slice na1 b.names.length nc1, .slice ka1 b.kinds.length kc1] 32)
  have hnA := heap_alloc_new w4 (.cells #[.string b.table, .string b.join, .int .i64 b.width, .int .i64 b.left, .int .i64 b.right, .slice wo1 b.wher.length wc1, .slice ga1 b.group.length gc1, .slice ia1 b.items.length ic1, .bool b.grouped, .slice na1 b.names.length nc1, .slice ka1 b.kinds.length kc1] 32)
  have HB5 := Lib.hid (below_self HB2.out (below_self hb4 hbA))
  have HI1 := Lib.hid (hbi1.self hbA)
  generalize w4.alloc (.cells #[.string b.table, .string b.join, .int .i64 b.width, .int .i64 b.left, .int .i64 b.right, .slice wo1 b.wher.length wc1, .slice ga1 b.group.length gc1, .slice ia1 b.items.length ic1, .bool b.grouped, .slice na1 b.names.length nc1, .slice ka1 b.kinds.length kc1] 32) = W5 at *
  have hl5 := (Array.getElem?_eq_some_iff.1 hnA).1
  obtain ⟨X, hX⟩ : ∃ Q, w4.heap.size = Q := ⟨_, rfl⟩
  rw [hX] at hnA hl5 ⊢
  have HX := Lib.hid fun (wx : World) (hb : Below W5.heap.size W5 wx) => (hb.block X hl5).trans hnA
  clear hbA hnA hb4 hbi1 hX
  have hcl : ∀ (j : Nat) v, (#[.slice io q.items.length icp, .string q.table, .string q.join, .string q.left, .string q.right, .slice wo q.wher.length wcp, .slice go q.group.length gcp] : Array Value)[j]? = some v → W5.cell? ⟨w.heap.size, j, none⟩ = some v := fun j v h => by rw [Lib.cell_of_heap (HQ.out W5 HB5.out)]; exact h
  have k0 := hcl 0 _ rfl
  have k1 := hcl 1 _ rfl
  have k2 := hcl 2 _ rfl
  have k3 := hcl 3 _ rfl
  have k4 := hcl 4 _ rfl
  have k5 := hcl 5 _ rfl
  have k6 := hcl 6 _ rfl
  clear hcl
  go_upto_region 7 with fail
  have hbP := (Below.refl W5.heap.size W5).alloc (Nat.le_refl _) (.cells #[.slice io q.items.length icp, .string q.table, .string q.join, .string q.left, .string q.right, .slice wo q.wher.length wcp, .slice go q.group.length gcp] 26)
  have hnP := heap_alloc_new W5 (.cells #[.slice io q.items.length icp, .string q.table, .string q.join, .string q.left, .string q.right, .slice wo q.wher.length wcp, .slice go q.group.length gcp] 26)
  have HB6 := Lib.hid (below_self HB5.out hbP)
  have HS6 := Lib.hid hbP
  generalize W5.alloc (.cells #[.slice io q.items.length icp, .string q.table, .string q.join, .string q.left, .string q.right, .slice wo q.wher.length wcp, .slice go q.group.length gcp] 26) = W6 at *
  have hP6 := (Array.getElem?_eq_some_iff.1 hnP).1
  have hPX : W5.heap.size ≠ w.heap.size := by have := HB5.out.size; omega
  obtain ⟨Pb, hPb⟩ : ∃ Q, W5.heap.size = Q := ⟨_, rfl⟩
  rw [hPb] at hnP hP6 hPX ⊢
  have HQS : Hid (QSt Pb W6 #[.slice io q.items.length icp, .string q.table, .string q.join, .string q.left, .string q.right, .slice wo q.wher.length wcp, .slice go q.group.length gcp] W6) := Lib.hid ⟨World.grownBy.refl _ _, hnP⟩
  have HPB := Lib.hid hPb
  have hs61 := HB6.out.size
  clear hbP hnP hPb k0 k1 k2 k3 k4 k5 k6
  -- the query's cells, wherever only the copy is written
  have HQ6 := Lib.hid fun (wx : World) (hg : W6.grownBy wx (some Pb)) => (show wx.cell? ⟨w.heap.size, 0, none⟩ = some (.slice io q.items.length icp) ∧ wx.cell? ⟨w.heap.size, 1, none⟩ = some (.string q.table) ∧ wx.cell? ⟨w.heap.size, 2, none⟩ = some (.string q.join) ∧ wx.cell? ⟨w.heap.size, 3, none⟩ = some (.string q.left) ∧ wx.cell? ⟨w.heap.size, 4, none⟩ = some (.string q.right) ∧ wx.cell? ⟨w.heap.size, 5, none⟩ = some (.slice wo q.wher.length wcp) ∧ wx.cell? ⟨w.heap.size, 6, none⟩ = some (.slice go q.group.length gcp) from by
   have h := (hg.block w.heap.size (by omega) (by intro e; injection e; omega)).trans (HQ.out W6 HB6.out)
   refine ⟨?_, ?_, ?_, ?_, ?_, ?_, ?_⟩ <;> (rw [Lib.cell_of_heap h]; rfl))
  have hlf := HQO.out.left
  have hrt := HQO.out.right
  go_cut [] from 25 to 36 (fun wx => Hid (QSt Pb W6 #[.slice io q.items.length icp, .string q.table, .string q.join, .string (f q.left), .string (f q.right), .slice wo q.wher.length wcp, .slice go q.group.length gcp] wx))
  case first =>
   refine wp_region_held_drew (S := (fun wx => wx.cell? ⟨w.heap.size, 0, none⟩ = some (.slice io q.items.length icp) ∧ wx.cell? ⟨w.heap.size, 1, none⟩ = some (.string q.table) ∧ wx.cell? ⟨w.heap.size, 2, none⟩ = some (.string q.join) ∧ wx.cell? ⟨w.heap.size, 3, none⟩ = some (.string q.left) ∧ wx.cell? ⟨w.heap.size, 4, none⟩ = some (.string q.right) ∧ wx.cell? ⟨w.heap.size, 5, none⟩ = some (.slice wo q.wher.length wcp) ∧ wx.cell? ⟨w.heap.size, 6, none⟩ = some (.slice go q.group.length gcp))) (by kernel_rfl) (HQ6.out _ (below_gb ((Below.refl W6.heap.size W6).drew))) (fun hHeld => ?_)
   refine tkH (i := 0) (v := ?_) opAt0 ?_ ?_; rotate_left; intro wq hSw; (try dsimp only at hSw); go_split_ands; go_simp <;> (with_reducible rfl); try simp only [Act.put, List.setIfInBounds_toArray, List.set_cons_zero, List.set_cons_succ]
   refine tkH (i := 1) (v := ?_) opAt1 ?_ ?_; rotate_left; intro wq hSw; (try dsimp only at hSw); go_split_ands; go_simp <;> (with_reducible rfl); try simp only [Act.put, List.setIfInBounds_toArray, List.set_cons_zero, List.set_cons_succ]
   refine tkH (i := 2) (v := ?_) opAt2 ?_ ?_; rotate_left; intro wq hSw; (try dsimp only at hSw); go_split_ands; go_simp <;> (with_reducible rfl); try simp only [Act.put, List.setIfInBounds_toArray, List.set_cons_zero, List.set_cons_succ]
   refine tkH (i := 3) (v := ?_) opAt3 ?_ ?_; rotate_left; intro wq hSw; (try dsimp only at hSw); go_split_ands; go_simp <;> (with_reducible rfl); try simp only [Act.put, List.setIfInBounds_toArray, List.set_cons_zero, List.set_cons_succ]
   refine tkH (i := 5) (v := ?_) opAt5 ?_ ?_; rotate_left; intro wq hSw; (try dsimp only at hSw); go_split_ands; go_simp <;> (with_reducible rfl); try simp only [Act.put, List.setIfInBounds_toArray, List.set_cons_zero, List.set_cons_succ]
   refine tkH (i := 6) (v := ?_) opAt6 ?_ ?_; rotate_left; intro wq hSw; (try dsimp only at hSw); go_split_ands; go_simp <;> (with_reducible rfl); try simp only [Act.put, List.setIfInBounds_toArray, List.set_cons_zero, List.set_cons_succ]
   refine tkH (i := 7) (v := ?_) opAt7 ?_ ?_; rotate_left; intro wq hSw; (try dsimp only at hSw); go_split_ands; go_simp <;> (with_reducible rfl); try simp only [Act.put, List.setIfInBounds_toArray, List.set_cons_zero, List.set_cons_succ]
   refine tkH (i := 8) (v := ?_) opAt8 ?_ ?_; rotate_left; intro wq hSw; (try dsimp only at hSw); go_split_ands; go_simp <;> (with_reducible rfl); try simp only [Act.put, List.setIfInBounds_toArray, List.set_cons_zero, List.set_cons_succ]
   refine wpAnyH_ready (rs := [4]) (by kernel_rfl) (by simp) (AllReadyH.cons opAt4 (fun K hK => ?_) AllReadyH.nil)
   go_simp
   go_at_call 10
   refine (HF.out q.left (by omega) _ (below_self HB6.out ((Below.refl W6.heap.size W6).drew))).mono ?_
   rintro e w7 ⟨rfl, hb7⟩
   have hb67 : Below W6.heap.size W6 w7 := below_self ((Below.refl W6.heap.size W6).drew) hb7
   refine hK.out _ _ (HQ6.out _ (below_gb hb67)) (fun hHeld2 => ?_)
   clear hK K
   try simp only [Act.put, List.setIfInBounds_toArray, List.set_cons_zero, List.set_cons_succ]
   refine tkH (i := 10) (v := ?_) opAt10 ?_ ?_; rotate_left; intro wq hSw; (try dsimp only at hSw); go_split_ands; go_simp <;> (with_reducible rfl); try simp only [Act.put, List.setIfInBounds_toArray, List.set_cons_zero, List.set_cons_succ]
   refine wpAnyH_ready (rs := [9]) (by kernel_rfl) (by simp) (AllReadyH.cons opAt9 (fun K hK => ?_) AllReadyH.nil)
   go_simp
   go_at_call 10
   refine (HF.out q.right (by omega) _ (below_self HB6.out hb67)).mono ?_
   rintro e w8 ⟨rfl, hb8⟩
   have hb68 : Below W6.heap.size W6 w8 := below_self hb67 hb8
   refine hK.out _ _ (HQ6.out _ (below_gb hb68)) (fun hHeld2 => ?_)
   clear hK K
   try simp only [Act.put, List.setIfInBounds_toArray, List.set_cons_zero, List.set_cons_succ]
   have HQ8 := Lib.hid (HQS.out.next hb68)
   have p3 : w8.cell? ⟨Pb, 3, none⟩ = some (.string q.left) := HQ8.out.cell 3 _ rfl
   have p4 : w8.cell? ⟨Pb, 4, none⟩ = some (.string q.right) := HQ8.out.cell 4 _ rfl
   have f8 := HQ8.out.free
   have HQ9 : Hid (QSt Pb W6 #[.slice io q.items.length icp, .string q.table, .string q.join, .string (f q.left), .string q.right, .slice wo q.wher.length wcp, .slice go q.group.length gcp] (w8.setCell ⟨Pb, 3, none⟩ (.string (f q.left)))) := Lib.hid ((HQ8.out.set 3 (.string (f q.left))).eq rfl)
   have HQ10 : Hid (QSt Pb W6 #[.slice io q.items.length icp, .string q.table, .string q.join, .string (f q.left), .string (f q.right), .slice wo q.wher.length wcp, .slice go q.group.length gcp] ((w8.setCell ⟨Pb, 3, none⟩ (.string (f q.left))).setCell ⟨Pb, 4, none⟩ (.string (f q.right)))) := Lib.hid ((HQ9.out.set 4 (.string (f q.right))).eq rfl)
   refine wpAnyH_ready (rs := [11]) (by kernel_rfl) (by simp) (AllReadyH.cons opAt11 (fun K hK => ?_) AllReadyH.nil)
   go_simp
   refine hK.out _ _ (HQ6.out _ HQ9.out.gb) (fun hHeld2 => ?_)
   clear hK K
   try simp only [Act.put, List.setIfInBounds_toArray, List.set_cons_zero, List.set_cons_succ]
   refine tkH (i := 12) (v := ?_) opAt12 ?_ ?_; rotate_left; intro wq hSw; (try dsimp only at hSw); go_split_ands; go_simp <;> (with_reducible rfl); try simp only [Act.put, List.setIfInBounds_toArray, List.set_cons_zero, List.set_cons_succ]
   refine wpAnyH_ready (rs := [13]) (by kernel_rfl) (by simp) (AllReadyH.cons opAt13 (fun K hK => ?_) AllReadyH.nil)
   go_simp
   refine hK.out _ _ (HQ6.out _ HQ10.out.gb) (fun hHeld2 => ?_)
   clear hK K
   try simp only [Act.put, List.setIfInBounds_toArray, List.set_cons_zero, List.set_cons_succ]
   refine wpAnyH_done (by kernel_rfl) ?_ _
   go_wp2_with fail
   go_meet
   exact HQ10
  case rest =>
  have HQc := hcut
  generalize hwx : wc = W7 at *
  clear hwx hcut HQS
  have kj := (HQ6.out W7 HQc.out.gb).2.2.1
  go_upto_if 39 with fail
  clear kj
  go_cut [] (fun wx => ∃ fl fr : ByteArray, Hid ((fullQ f q).left = fl ∧ (fullQ f q).right = fr) ∧ Hid (QSt Pb W6 #[.slice io q.items.length icp, .string q.table, .string q.join, .string fl, .string fr, .slice wo q.wher.length wcp, .slice go q.group.length gcp] wx))
  case first =>
   have k2 := (HQ6.out W7 HQc.out.gb).2.2.1
   cases sj : q.join.toList.isEmpty with
   | true =>
    have p3 : W7.cell? ⟨Pb, 3, none⟩ = some (.string (f q.left)) := HQc.out.cell 3 _ rfl
    have p4 : W7.cell? ⟨Pb, 4, none⟩ = some (.string (f q.right)) := HQc.out.cell 4 _ rfl
    have f8 := HQc.out.free
    have HE : Hid ((fullQ f q).left = ⟨#[]⟩ ∧ (fullQ f q).right = ⟨#[]⟩) := Lib.hid ⟨by show (if emptyS q.join = true then _ else _) = _; rw [if_pos (show emptyS q.join = true from sj)], by show (if emptyS q.join = true then _ else _) = _; rw [if_pos (show emptyS q.join = true from sj)]⟩
    have HZ := Lib.hid (((HQc.out.set 3 (.string ⟨#[]⟩)).set 4 (.string ⟨#[]⟩)).eq (cs' := #[.slice io q.items.length icp, .string q.table, .string q.join, .string ⟨#[]⟩, .string ⟨#[]⟩, .slice wo q.wher.length wcp, .slice go q.group.length gcp]) rfl)
    go_wp2_with fail
    go_meet
    exact ⟨_, _, HE, HZ⟩
   | false =>
    have HE : Hid ((fullQ f q).left = f q.left ∧ (fullQ f q).right = f q.right) := Lib.hid ⟨by show (if emptyS q.join = true then _ else _) = _; rw [if_neg (by unfold emptyS; rw [sj]; decide)], by show (if emptyS q.join = true then _ else _) = _; rw [if_neg (by unfold emptyS; rw [sj]; decide)]⟩
    go_wp2_with fail
    go_meet
    exact ⟨_, _, HE, HQc⟩
  case rest =>
  obtain ⟨fl, fr, HE, HQd⟩ := hcut
  generalize hwx : wc = W8 at *
  clear hwx HQc
  have hb18 : Below W1.heap.size W1 W8 := below_gbB HB6.out HQd.out.gb (by have := HPB.out; have := HB5.out.size; omega) HB6.out.size
  have HST8 := Lib.hid (HST.out wo wcp q.wher W8 (HQI.out.wher.self (below_self HB1.out hb18)) hwl HQO.out.wher hb18)
  obtain ⟨k0, k1, k2, k3, k4, k5, k6⟩ := HQ6.out W8 HQd.out.gb
  clear hb18
  go_wp2_with (go_at_call 11; refine HST8.out.mono ?_; rintro e w9 ⟨⟨v9, rfl, ho9⟩, hb9⟩; refine Hid.out ?_)
  refine Lib.hid ?_
  obtain ⟨pw, pwc, rfl⟩ := own_shape ho9
  clear k0 k1 k2 k3 k4 k5 k6 HST8
  have HQe := Lib.hid (HQd.out.next hb9)
  have p5 : w9.cell? ⟨Pb, 5, none⟩ = some (.slice wo q.wher.length wcp) := HQe.out.cell 5 _ rfl
  have p0 : w9.cell? ⟨Pb, 0, none⟩ = some (.slice io q.items.length icp) := HQe.out.cell 0 _ rfl
  have p6 : w9.cell? ⟨Pb, 6, none⟩ = some (.slice go q.group.length gcp) := HQe.out.cell 6 _ rfl
  have f9 := HQe.out.free
  have HQf := Lib.hid ((((HQe.out.set 5 (.slice pw q.wher.length pwc)).set 0 (.slice none 0 0)).set 6 (.slice none 0 0)).eq (cs' := #[.slice none 0 0, .string q.table, .string q.join, .string fl, .string fr, .slice pw q.wher.length pwc, .slice none 0 0]) rfl)
  have hs86 := HQd.out.gb.size
  have hPW := HQd.out.lt
  have HOW := Lib.hid (own_le (B' := W6.heap.size) (((own_gbb (own_gbb (own_gbb ho9 (setB_gb (b := Pb) (j := 5) (v := .slice pw q.wher.length pwc)) hPW) (setB_gb (b := Pb) (j := 0) (v := .slice none 0 0)) hPW) (setB_gb (b := Pb) (j := 6) (v := .slice none 0 0)) hPW))) hs86)
  go_upto_region 11 with fail
  clear p5 p0 p6 f9 HQe HQd ho9 hb9
  generalize ((w9.setCell ⟨Pb, 5, none⟩ (.slice pw q.wher.length pwc)).setCell ⟨Pb, 0, none⟩ (.slice none 0 0)).setCell ⟨Pb, 6, none⟩ (.slice none 0 0) = W9 at *
  have k0 := (HQ6.out W9 HQf.out.gb).1
  have HQg : Hid (QSt Pb W9 #[.slice none 0 0, .string q.table, .string q.join, .string fl, .string fr, .slice pw q.wher.length pwc, .slice none 0 0] W9) := Lib.hid ⟨World.grownBy.refl _ _, HQf.out.at_⟩
  have HG9 := Lib.hid HQf.out.gb
  have hPb9 := HQg.out.lt
  have hBP : w.heap.size ≤ Pb := by have := HPB.out; have := HB5.out.size; omega
  have HWX := Lib.hid fun (wx : World) (hg : W6.grownBy wx (some Pb)) => below_gbB HB6.out hg (show W1.heap.size ≤ Pb by have := HPB.out; have := HB5.out.size; omega) HB6.out.size
  have HGI : Hid (∃ g : Itm → Itm, (∀ x, g x = ⟨x.agg, x.e.map (stepF f)⟩) ∧ (fullQ f q).items = q.items.map g) := Lib.hid ⟨_, fun _ => rfl, rfl⟩
  obtain ⟨g, hg1, hg2⟩ := HGI.out
  have HGI1 := Lib.hid hg1
  have HGI2 := Lib.hid hg2
  obtain ⟨i0, hi0, hz0, hz1, hz2⟩ := info_parts infoItm
  have HI := Lib.hid (And.intro hi0 (And.intro hz0 (And.intro hz1 hz2)))
  clear hi0 hz0 hz1 hz2 hg1 hg2 HGI
  go_wp2_with fail
  clear k0
  go_loopw [53] (fun v wr => ∃ (k : Nat) (its : List Itm) (ia : Option Addr) (icap : Nat), v = .int .i64 k ∧ k ≤ q.items.length ∧ its.length ≤ k ∧ Hid (its = (q.items.take k).map g) ∧ Hid (QSt Pb W9 #[.slice ia its.length icap, .string q.table, .string q.join, .string fl, .string fr, .slice pw q.wher.length pwc, .slice none 0 0] wr) ∧ Hid (ItB W9.heap.size Pb wr its (.slice ia its.length icap))) (fun v _ => q.items.length - (intOf v).toNat)
  case atStart => exact ⟨0, [], none, 0, rfl, Nat.zero_le _, Nat.le_refl _, Lib.hid rfl, HQg, Lib.hid ItB.nil⟩
  case round =>
   obtain ⟨k, its, ia, icap, rfl, hk, hik, HE2, HQr, HIr⟩ := hrel
   have HGr := Lib.hid (gbb_trans HG9.out HQr.out.gb)
   by_cases hlt : k < q.items.length
   ·
    have hx : q.items[k]? = some q.items[k] := List.getElem?_eq_getElem hlt
    have hxo := HQO.out.items _ (List.getElem_mem hlt)
    have hxl := HXL.out _ (List.getElem_mem hlt)
    have htk : (q.items.take (k + 1)).map g = (q.items.take k).map g ++ [g q.items[k]] := by rw [List.take_succ_eq_append_getElem hlt, List.map_append]; rfl
    obtain ⟨xb, xo, rfl, eo, ec, c0, c1, her⟩ := (HQI.out.items.self (below_self HB1.out (HWX.out wr HGr.out))).at hx
    have hgx := HGI1.out q.items[k]
    generalize q.items[k] = x at *
    have HXO := Lib.hid hxo
    have HTK : Hid (its ++ [Itm.mk x.agg (x.e.map (stepF f))] = (q.items.take (k + 1)).map g) := Lib.hid (by rw [htk, ← HE2.out, hgx])
    have hbA := (Below.refl wr.heap.size wr).alloc (Nat.le_refl _) (.cells #[.int .u8 x.agg, .slice eo x.e.length ec] 40)
    have hnA := heap_alloc_new wr (.cells #[.int .u8 x.agg, .slice eo x.e.length ec] 40)
    have HQA := Lib.hid (HQr.out.next hbA)
    have HIA := Lib.hid (HIr.out.next hbA hPb9)
    have HXR := Lib.hid (her.self hbA)
    have hAP : wr.heap.size ≠ Pb := by have := HQr.out.lt; omega
    have hivA : Hid (∀ g', (Value.slice ia its.length icap).ownBlock = some g' → g' < wr.heap.size) := Lib.hid (by
     obtain ⟨vs, _, hvo, _⟩ := HIr.out
     exact own_lt hvo)
    have hs9r := HQr.out.gb.size
    have hlL : (its.length : Int) ≤ q.items.length := by omega
    have hqil := HQO.out.ilen
    clear hx hxo htk hgx her
    go_upto_region 14 with fail
    generalize wr.alloc (.cells #[.int .u8 x.agg, .slice eo x.e.length ec] 40) = W12 at *
    have hlA := (Array.getElem?_eq_some_iff.1 hnA).1
    have HNA := Lib.hid hnA
    obtain ⟨A, hA⟩ : ∃ Q, wr.heap.size = Q := ⟨_, rfl⟩
    rw [hA] at HNA hlA hAP hivA ⊢
    have hA9 : W9.heap.size ≤ A := by omega
    clear hnA hbA c0 c1 hA HQr HIr HGr
    have HG12 := Lib.hid (gbb_trans HG9.out HQA.out.gb)
    have HKS := Lib.hid fun (wx : World) (hb : Below W12.heap.size W12 wx) => (show wx.cell? ⟨Pb, 0, none⟩ = some (.slice ia its.length icap) ∧ wx.cell? ⟨A, 0, none⟩ = some (.int .u8 x.agg) ∧ wx.cell? ⟨A, 1, none⟩ = some (.slice eo x.e.length ec) ∧ wx.cell? ⟨w.heap.size, 0, none⟩ = some (.slice (some ⟨xb, xo, none⟩) q.items.length icp) ∧ wx.cell? ⟨w.heap.size, 1, none⟩ = some (.string q.table) ∧ wx.cell? ⟨w.heap.size, 2, none⟩ = some (.string q.join) ∧ wx.cell? ⟨w.heap.size, 3, none⟩ = some (.string q.left) ∧ wx.cell? ⟨w.heap.size, 4, none⟩ = some (.string q.right) ∧ wx.cell? ⟨w.heap.size, 5, none⟩ = some (.slice wo q.wher.length wcp) ∧ wx.cell? ⟨w.heap.size, 6, none⟩ = some (.slice go q.group.length gcp) from by
     obtain ⟨j0, j1, j2, j3, j4, j5, j6⟩ := HQ6.out wx (gbb_below HG12.out hb)
     exact ⟨(HQA.out.next hb).cell 0 _ rfl, by rw [Lib.cell_of_heap ((hb.block A hlA).trans HNA.out)]; rfl, by rw [Lib.cell_of_heap ((hb.block A hlA).trans HNA.out)]; rfl, j0, j1, j2, j3, j4, j5, j6⟩)
    refine wp_region_T 11 (S := (fun wx => wx.cell? ⟨Pb, 0, none⟩ = some (.slice ia its.length icap) ∧ wx.cell? ⟨A, 0, none⟩ = some (.int .u8 x.agg) ∧ wx.cell? ⟨A, 1, none⟩ = some (.slice eo x.e.length ec) ∧ wx.cell? ⟨w.heap.size, 0, none⟩ = some (.slice (some ⟨xb, xo, none⟩) q.items.length icp) ∧ wx.cell? ⟨w.heap.size, 1, none⟩ = some (.string q.table) ∧ wx.cell? ⟨w.heap.size, 2, none⟩ = some (.string q.join) ∧ wx.cell? ⟨w.heap.size, 3, none⟩ = some (.string q.left) ∧ wx.cell? ⟨w.heap.size, 4, none⟩ = some (.string q.right) ∧ wx.cell? ⟨w.heap.size, 5, none⟩ = some (.slice wo q.wher.length wcp) ∧ wx.cell? ⟨w.heap.size, 6, none⟩ = some (.slice go q.group.length gcp))) (by kernel_rfl) (HKS.out _ (Below.refl _ _).drew) (fun hHeld => ?_)
    refine wpAnyT_takeY (i := 0) (v := ?_) (by kernel_rfl) (by decide) opAt0 (by kernel_rfl) (by kernel_rfl) (by kernel_rfl) (fun _ _ _ h => h) (Or.inl ⟨by kernel_rfl, ?_⟩) (by assumption) ?_
    rotate_left
    intro wq
    go_simp <;> with_reducible rfl
    try simp only [Act.put, List.setIfInBounds_toArray, List.set_cons_zero, List.set_cons_succ]
    refine wpAnyT_takeY (i := 2) (v := ?_) (by kernel_rfl) (by decide) opAt2 (by kernel_rfl) (by kernel_rfl) (by kernel_rfl) (fun _ _ _ h => h) (Or.inl ⟨by kernel_rfl, ?_⟩) (by assumption) ?_
    rotate_left
    intro wq
    go_simp <;> with_reducible rfl
    try simp only [Act.put, List.setIfInBounds_toArray, List.set_cons_zero, List.set_cons_succ]
    refine wpAnyT_takeY (i := 4) (v := ?_) (by kernel_rfl) (by decide) opAt4 (by kernel_rfl) (by kernel_rfl) (by kernel_rfl) (fun _ _ _ h => h) (Or.inl ⟨by kernel_rfl, ?_⟩) (by assumption) ?_
    rotate_left
    intro wq
    go_simp <;> with_reducible rfl
    try simp only [Act.put, List.setIfInBounds_toArray, List.set_cons_zero, List.set_cons_succ]
    refine wpAnyT_takeY (i := 7) (v := ?_) (by kernel_rfl) (by decide) opAt7 (by kernel_rfl) (by kernel_rfl) (by kernel_rfl) (fun _ _ _ h => h) (Or.inl ⟨by kernel_rfl, ?_⟩) (by assumption) ?_
    rotate_left
    intro wq
    go_simp <;> with_reducible rfl
    try simp only [Act.put, List.setIfInBounds_toArray, List.set_cons_zero, List.set_cons_succ]
    refine wpAnyT_take (i := 1) (v := ?_) [11] (by kernel_rfl) (by kernel_rfl) (by kernel_rfl) opAt1 (by kernel_rfl) (by kernel_rfl) (by kernel_rfl) (fun _ _ _ h => h) (Or.inl ⟨by kernel_rfl, ?_⟩) (by assumption) ?_
    rotate_left
    intro wq hSw
    (try dsimp only at hSw)
    go_split_ands
    go_simp <;> with_reducible rfl
    try simp only [Act.put, List.setIfInBounds_toArray, List.set_cons_zero, List.set_cons_succ]
    refine wpAnyT_take (i := 3) (v := ?_) [9, 10, 11] (by kernel_rfl) (by kernel_rfl) (by kernel_rfl) opAt3 (by kernel_rfl) (by kernel_rfl) (by kernel_rfl) (fun _ _ _ h => h) (Or.inl ⟨by kernel_rfl, ?_⟩) (by assumption) ?_
    rotate_left
    intro wq hSw
    (try dsimp only at hSw)
    go_split_ands
    go_simp <;> with_reducible rfl
    try simp only [Act.put, List.setIfInBounds_toArray, List.set_cons_zero, List.set_cons_succ]
    refine wpAnyT_take (i := 5) (v := ?_) [8, 9, 10, 11] (by kernel_rfl) (by kernel_rfl) (by kernel_rfl) opAt5 (by kernel_rfl) (by kernel_rfl) (by kernel_rfl) (fun _ _ _ h => h) (Or.inl ⟨by kernel_rfl, ?_⟩) (by assumption) ?_
    rotate_left
    intro wq hSw
    (try dsimp only at hSw)
    go_split_ands
    go_simp <;> with_reducible rfl
    try simp only [Act.put, List.setIfInBounds_toArray, List.set_cons_zero, List.set_cons_succ]
    refine wpAnyT_take (i := 6) (v := ?_) [8, 9, 10, 11] (by kernel_rfl) (by kernel_rfl) (by kernel_rfl) opAt6 (by kernel_rfl) (by kernel_rfl) (by kernel_rfl) (fun _ _ _ h => h) (Or.inl ⟨by kernel_rfl, ?_⟩) (by assumption) ?_
    rotate_left
    intro wq hSw
    (try dsimp only at hSw)
    go_split_ands
    go_simp <;> with_reducible rfl
    try simp only [Act.put, List.setIfInBounds_toArray, List.set_cons_zero, List.set_cons_succ]
    have HD := Lib.hid ((Below.refl W12.heap.size W12).drew)
    clear hHeld
    generalize W12.drew = W13 at *
    refine wpAnyT_ready (rs := [8]) (by kernel_rfl) (by simp) (by kernel_rfl) (AllReadyT.cons opAt8 (fun K hK => ?_) AllReadyT.nil)
    go_simp
    go_at_call 11
    refine (HST.out eo ec x.e _ (HXR.out.self HD.out) hxl HXO.out.e (HWX.out _ (gbb_below HG12.out HD.out))).mono ?_
    rintro e w14 ⟨⟨v14, rfl, ho14⟩, hb14⟩
    obtain ⟨so, scap, rfl⟩ := own_shape ho14
    have HD14 := Lib.hid (below_self HD.out hb14)
    have HO14 := Lib.hid ho14
    refine hK.out _ _ (HKS.out _ HD14.out) (fun hHeld => ?_)
    clear hK K
    try simp only [Act.put, List.setIfInBounds_toArray, List.set_cons_zero, List.set_cons_succ]
    refine wpAnyT_takeY (i := 9) (v := ?_) (by kernel_rfl) (by decide) opAt9 (by kernel_rfl) (by kernel_rfl) (by kernel_rfl) (fun _ _ _ h => h) (Or.inl ⟨by kernel_rfl, ?_⟩) (by assumption) ?_
    rotate_left
    intro wq
    go_simp <;> with_reducible rfl
    try simp only [Act.put, List.setIfInBounds_toArray, List.set_cons_zero, List.set_cons_succ]
    clear hHeld
    refine wpAnyT_ready (rs := [10]) (by kernel_rfl) (by simp) (by kernel_rfl) (AllReadyT.cons opAt10 (fun K hK => ?_) AllReadyT.nil)
    go_simp
    have hbC := (Below.refl w14.heap.size w14).alloc (Nat.le_refl _) (.cells #[.int .u8 x.agg, .slice so x.e.length scap] 40)
    have HD15 := Lib.hid (below_self HD14.out hbC)
    refine hK.out _ _ (HKS.out _ HD15.out) (fun hHeld => ?_)
    clear hK K hHeld
    try simp only [Act.put, List.setIfInBounds_toArray, List.set_cons_zero, List.set_cons_succ]
    have HLI := Lib.hid (lies_twoB (w := w14) (a := .int .u8 x.agg) (b := .slice so x.e.length scap) (t := 40) rfl rfl rfl)
    have HO15 := Lib.hid (own_keepA HO14.out fun i _ hi => hbC.block i hi)
    have HQ15 := Lib.hid (HQA.out.next HD15.out)
    have hsz13 := HD.out.size
    have HX15 : Hid (ExP Pb (w14.alloc (.cells #[.int .u8 x.agg, .slice so x.e.length scap] 40)) (.slice ia its.length icap) (Itm.mk x.agg (x.e.map (stepF f))) (.slice so x.e.length scap)) := Lib.hid (by
     have h := ExP.bound (Bb := Pb) (w := w14.alloc (.cells #[.int .u8 x.agg, .slice so x.e.length scap] 40)) (iv := .slice ia its.length icap) (it := Itm.mk x.agg (x.e.map (stepF f))) (eo := so) (ec := scap) (by show World.ownsRow _ _ _ _ (.slice so (x.e.map (stepF f)).length scap) (x.e.map (stepF f)).length (stpCells (x.e.map (stepF f))); rw [List.length_map]; exact HO15.out) (by have := HQA.out.lt; omega) (fun g' hg' => by have := hivA.out g' hg'; omega)
     simpa using h)
    obtain ⟨vs, hvl, hvo, hvx⟩ := HIA.out
    have HVL := Lib.hid hvl
    have HVO := Lib.hid (own_keepA hvo fun i _ hi => HD15.out.block i hi)
    have HVX := Lib.hid fun i it v h1 h2 => (hvx i it v h1 h2).next HD15.out
    have hsz15 := HD15.out.size
    have hx14 : w14.heap.size < (w14.alloc (.cells #[.int .u8 x.agg, .slice so x.e.length scap] 40)).heap.size := by simp
    obtain ⟨Y, hY⟩ : ∃ Q, w14.heap.size = Q := ⟨_, rfl⟩
    rw [hY] at HLI ⊢
    clear hvl hvo hvx hbC hb14 ho14 hY
    generalize w14.alloc (.cells #[.int .u8 x.agg, .slice so x.e.length scap] 40) = W15 at *
    refine wpAnyT_ready (rs := [11]) (by kernel_rfl) (by simp) (by kernel_rfl) (AllReadyT.cons opAt11 (fun K hK => ?_) AllReadyT.nil)
    refine step_append_lying rfl (.tmp 58) (.tmp 67) 22 rfl W9.heap.size 40 i0 _ 2 32 Tryz.underlying22 HI.out.1 HI.out.2.1 HI.out.2.2.1 HI.out.2.2.2 rfl (by decide) (.slice ia its.length icap) its.length (itmCells its vs) (by simp [Act.eval]) HVO.out (some ⟨Y, 0, none⟩) 1 1 [.int .u8 x.agg, .slice so x.e.length scap] (by simp [Act.eval]) HLI.out (by unfold maxLen; omega) (by omega) (by have := HQ15.out.gb.size; omega) ?_
    intro v16 w16 hown16 hg16 hat16
    obtain ⟨so7, cap7, rfl⟩ := own_shape hown16
    have HQ16 := Lib.hid (HQ15.out.own hg16 (own_base HVO.out) hPb9)
    have HI16 := Lib.hid ((ItB.app HVL.out HVX.out HX15.out hown16 hg16 hat16).far (setB_gb (b := Pb) (j := 0) (v := .slice so7 (its.length + 1) cap7)) hPb9)
    have hsA : w16.cell? ⟨A, 0, none⟩ = some (.int .u8 x.agg) ∧ w16.cell? ⟨A, 1, none⟩ = some (.slice eo x.e.length ec) := by
     have h := (hg16.block A (Nat.lt_of_lt_of_le hlA HD15.out.size) (fun e => by have := hivA.out A e.symm; omega)).trans ((HD15.out.block A hlA).trans HNA.out)
     exact ⟨by rw [Lib.cell_of_heap h]; rfl, by rw [Lib.cell_of_heap h]; rfl⟩
    refine hK.out _ _ (by
     obtain ⟨j0, j1, j2, j3, j4, j5, j6⟩ := HQ6.out w16 (gbb_trans HG9.out HQ16.out.gb)
     exact ⟨HQ16.out.cell 0 _ rfl, hsA.1, hsA.2, j0, j1, j2, j3, j4, j5, j6⟩) (fun hHeld => ?_)
    clear hK K hHeld hsA hown16 hg16 hat16
    try simp only [Act.put, List.setIfInBounds_toArray, List.set_cons_zero, List.set_cons_succ]
    refine wpAnyT_out (by kernel_rfl) _ ?_
    have p0 : w16.cell? ⟨Pb, 0, none⟩ = some (.slice ia its.length icap) := HQ16.out.cell 0 _ rfl
    have f16 := HQ16.out.free
    have HQ17 : Hid (QSt Pb W9 #[.slice so7 (its.length + 1) cap7, .string q.table, .string q.join, .string fl, .string fr, .slice pw q.wher.length pwc, .slice none 0 0] (w16.setCell ⟨Pb, 0, none⟩ (.slice so7 (its.length + 1) cap7))) := Lib.hid ((HQ16.out.set 0 (.slice so7 (its.length + 1) cap7)).eq rfl)
    refine tkA (i := 12) (v := ?_) opAt12 ?_ ?_; rotate_left; intro wq; go_simp <;> (with_reducible rfl); try simp only [Act.put, List.setIfInBounds_toArray, List.set_cons_zero, List.set_cons_succ]
    refine wpAny_ready (rs := [13]) (by kernel_rfl) (by simp) (AllReady.cons opAt13 (fun K hK => ?_) AllReady.nil)
    go_simp
    refine hK _ _ ?_
    clear hK K
    try simp only [Act.put, List.setIfInBounds_toArray, List.set_cons_zero, List.set_cons_succ]
    refine wpAny_done (by kernel_rfl) ?_ _
    go_wp2_with fail
    go_roundw
    case rel => exact ⟨k + 1, its ++ [Itm.mk x.agg (x.e.map (stepF f))], so7, cap7, by go_num, by omega, by rw [List.length_append]; simp; omega, HTK, (by rw [List.length_append]; exact HQ17), (by rw [List.length_append]; exact HI16)⟩
    case measure => simp [intOf]; omega
   ·
    obtain rfl : k = q.items.length := by omega
    have HIE : Hid ((fullQ f q).items = its) := Lib.hid (by have h := HE2.out; rw [List.take_length] at h; rw [h, HGI2.out])
    have k6 := (HQ6.out wr HGr.out).2.2.2.2.2.2
    have hwz := HQr.out.gb.size
    have HOWz := Lib.hid (own_gbb HOW.out HQr.out.gb hP6)
    have HQz : Hid (QSt Pb wr #[.slice ia its.length icap, .string q.table, .string q.join, .string fl, .string fr, .slice pw q.wher.length pwc, .slice none 0 0] wr) := Lib.hid ⟨World.grownBy.refl _ _, HQr.out.at_⟩
    have hPz := HQr.out.lt
    clear HE2 HQr hlt hk hik HQg
    go_wp2_with fail
    clear k6
    generalize wr = W10 at *
    go_loopw [74] (fun v wx => ∃ (k : Nat) (gs : List ByteArray) (ga : Option Addr) (gcap : Nat), v = .int .i64 k ∧ k ≤ q.group.length ∧ gs.length ≤ k ∧ Hid (gs = (q.group.take k).map f) ∧ Hid (QSt Pb W10 #[.slice ia its.length icap, .string q.table, .string q.join, .string fl, .string fr, .slice pw q.wher.length pwc, .slice ga gs.length gcap] wx) ∧ Hid (wx.ownsRow W10.heap.size 9 1 (.slice ga gs.length gcap) gs.length (gs.map Value.string))) (fun v _ => q.group.length - (intOf v).toNat)
    case atStart => exact ⟨0, [], none, 0, rfl, Nat.zero_le _, Nat.le_refl _, Lib.hid rfl, HQz, Lib.hid (World.ownsRow_nil _ _ _ _)⟩
    case round =>
     obtain ⟨k, gs, ga, gcap, rfl, hk, hik, HE2, HQr, HOr⟩ := hrel
     have HGs := Lib.hid (gbb_trans HGr.out HQr.out.gb)
     have hgl := HQO.out.glen
     by_cases hlt : k < q.group.length
     ·
      have hx : q.group[k]? = some q.group[k] := List.getElem?_eq_getElem hlt
      have hxs := HQO.out.group _ (List.getElem_mem hlt)
      have htk : (q.group.take (k + 1)).map f = (q.group.take k).map f ++ [f q.group[k]] := by rw [List.take_succ_eq_append_getElem hlt, List.map_append]; rfl
      obtain ⟨nb, nf, rfl, hgc⟩ := (HQI.out.group.self (below_self HB1.out (HWX.out wr HGs.out))).resolve_left (by omega)
      have d0 := hgc k _ hx
      generalize q.group[k] = x at *
      have HTK : Hid (gs ++ [f x] = (q.group.take (k + 1)).map f) := Lib.hid (by rw [htk, ← HE2.out])
      have hlg : (gs.length : Int) ≤ q.group.length := by omega
      clear hx htk hgc
      go_upto_region 19 with fail
      clear d0
      have HKS := Lib.hid fun (wx : World) (hb : Below wr.heap.size wr wx) => (show wx.cell? ⟨Pb, 6, none⟩ = some (.slice ga gs.length gcap) ∧ wx.cell? ⟨w.heap.size, 0, none⟩ = some (.slice io q.items.length icp) ∧ wx.cell? ⟨w.heap.size, 1, none⟩ = some (.string q.table) ∧ wx.cell? ⟨w.heap.size, 2, none⟩ = some (.string q.join) ∧ wx.cell? ⟨w.heap.size, 3, none⟩ = some (.string q.left) ∧ wx.cell? ⟨w.heap.size, 4, none⟩ = some (.string q.right) ∧ wx.cell? ⟨w.heap.size, 5, none⟩ = some (.slice wo q.wher.length wcp) ∧ wx.cell? ⟨w.heap.size, 6, none⟩ = some (.slice (some ⟨nb, nf, none⟩) q.group.length gcp) from by
       obtain ⟨j0, j1, j2, j3, j4, j5, j6⟩ := HQ6.out wx (gbb_below HGs.out hb)
       exact ⟨(HQr.out.next hb).cell 6 _ rfl, j0, j1, j2, j3, j4, j5, j6⟩)
      refine wp_region_T 7 (S := (fun wx => wx.cell? ⟨Pb, 6, none⟩ = some (.slice ga gs.length gcap) ∧ wx.cell? ⟨w.heap.size, 0, none⟩ = some (.slice io q.items.length icp) ∧ wx.cell? ⟨w.heap.size, 1, none⟩ = some (.string q.table) ∧ wx.cell? ⟨w.heap.size, 2, none⟩ = some (.string q.join) ∧ wx.cell? ⟨w.heap.size, 3, none⟩ = some (.string q.left) ∧ wx.cell? ⟨w.heap.size, 4, none⟩ = some (.string q.right) ∧ wx.cell? ⟨w.heap.size, 5, none⟩ = some (.slice wo q.wher.length wcp) ∧ wx.cell? ⟨w.heap.size, 6, none⟩ = some (.slice (some ⟨nb, nf, none⟩) q.group.length gcp))) (by kernel_rfl) (HKS.out _ (Below.refl _ _).drew) (fun hHeld => ?_)
      refine wpAnyT_takeY (i := 0) (v := ?_) (by kernel_rfl) (by decide) opAt0 (by kernel_rfl) (by kernel_rfl) (by kernel_rfl) (fun _ _ _ h => h) (Or.inl ⟨by kernel_rfl, ?_⟩) (by assumption) ?_
      rotate_left
      intro wq
      go_simp <;> with_reducible rfl
      try simp only [Act.put, List.setIfInBounds_toArray, List.set_cons_zero, List.set_cons_succ]
      refine wpAnyT_takeY (i := 2) (v := ?_) (by kernel_rfl) (by decide) opAt2 (by kernel_rfl) (by kernel_rfl) (by kernel_rfl) (fun _ _ _ h => h) (Or.inl ⟨by kernel_rfl, ?_⟩) (by assumption) ?_
      rotate_left
      intro wq
      go_simp <;> with_reducible rfl
      try simp only [Act.put, List.setIfInBounds_toArray, List.set_cons_zero, List.set_cons_succ]
      refine wpAnyT_takeY (i := 4) (v := ?_) (by kernel_rfl) (by decide) opAt4 (by kernel_rfl) (by kernel_rfl) (by kernel_rfl) (fun _ _ _ h => h) (Or.inl ⟨by kernel_rfl, ?_⟩) (by assumption) ?_
      rotate_left
      intro wq
      go_simp <;> with_reducible rfl
      try simp only [Act.put, List.setIfInBounds_toArray, List.set_cons_zero, List.set_cons_succ]
      refine wpAnyT_take (i := 1) (v := ?_) [7] (by kernel_rfl) (by kernel_rfl) (by kernel_rfl) opAt1 (by kernel_rfl) (by kernel_rfl) (by kernel_rfl) (fun _ _ _ h => h) (Or.inl ⟨by kernel_rfl, ?_⟩) (by assumption) ?_
      rotate_left
      intro wq hSw
      (try dsimp only at hSw)
      go_split_ands
      go_simp <;> with_reducible rfl
      try simp only [Act.put, List.setIfInBounds_toArray, List.set_cons_zero, List.set_cons_succ]
      refine wpAnyT_take (i := 3) (v := ?_) [5, 6, 7] (by kernel_rfl) (by kernel_rfl) (by kernel_rfl) opAt3 (by kernel_rfl) (by kernel_rfl) (by kernel_rfl) (fun _ _ _ h => h) (Or.inl ⟨by kernel_rfl, ?_⟩) (by assumption) ?_
      rotate_left
      intro wq hSw
      (try dsimp only at hSw)
      go_split_ands
      go_simp <;> with_reducible rfl
      try simp only [Act.put, List.setIfInBounds_toArray, List.set_cons_zero, List.set_cons_succ]
      have HD := Lib.hid ((Below.refl wr.heap.size wr).drew)
      clear hHeld
      generalize wr.drew = W13 at *
      refine wpAnyT_ready (rs := [5]) (by kernel_rfl) (by simp) (by kernel_rfl) (AllReadyT.cons opAt5 (fun K hK => ?_) AllReadyT.nil)
      go_simp
      go_at_call 10
      refine (HF.out x (by omega) _ (HWX.out _ (gbb_below HGs.out HD.out))).mono ?_
      rintro e w14 ⟨rfl, hb14⟩
      have HD14 := Lib.hid (below_self HD.out hb14)
      refine hK.out _ _ (HKS.out _ HD14.out) (fun hHeld => ?_)
      clear hK K hHeld
      try simp only [Act.put, List.setIfInBounds_toArray, List.set_cons_zero, List.set_cons_succ]
      generalize f x = fx at *
      refine wpAnyT_ready (rs := [6]) (by kernel_rfl) (by simp) (by kernel_rfl) (AllReadyT.cons opAt6 (fun K hK => ?_) AllReadyT.nil)
      go_simp
      have hbC := (Below.refl w14.heap.size w14).alloc (Nat.le_refl _) (.cells #[.string fx] 9)
      have HD15 := Lib.hid (below_self HD14.out hbC)
      refine hK.out _ _ (HKS.out _ HD15.out) (fun hHeld => ?_)
      clear hK K hHeld
      try simp only [Act.put, List.setIfInBounds_toArray, List.set_cons_zero, List.set_cons_succ]
      have HLI := Lib.hid (lies_one (w := w14) (a := .string fx) (t := 9) rfl)
      have HQ15 := Lib.hid (HQr.out.next HD15.out)
      have HVO := Lib.hid (own_keepA HOr.out fun i _ hi => HD15.out.block i hi)
      obtain ⟨Y, hY⟩ : ∃ Q, w14.heap.size = Q := ⟨_, rfl⟩
      rw [hY] at HLI ⊢
      clear hbC hb14 hY
      generalize w14.alloc (.cells #[.string fx] 9) = W15 at *
      obtain ⟨i1, hj0, hy0, hy1, hy2⟩ := info_parts infoStr
      refine wpAnyT_ready (rs := [7]) (by kernel_rfl) (by simp) (by kernel_rfl) (AllReadyT.cons opAt7 (fun K hK => ?_) AllReadyT.nil)
      refine step_append_lying rfl (.tmp 79) (.tmp 84) 24 rfl W10.heap.size 9 i1 _ 1 16 Tryz.underlying24 hj0 hy0 hy1 hy2 rfl (by decide) (.slice ga gs.length gcap) gs.length (gs.map Value.string) (by simp [Act.eval]) HVO.out (some ⟨Y, 0, none⟩) 1 1 [.string fx] (by simp [Act.eval]) HLI.out (by unfold maxLen; omega) (by omega) (by have := HQ15.out.gb.size; omega) ?_
      intro v16 w16 hown16 hg16 hat16
      obtain ⟨so7, cap7, rfl⟩ := own_shape hown16
      have HQ16 := Lib.hid (HQ15.out.own hg16 (own_base HVO.out) hPz)
      have HO16 := Lib.hid (own_gbb hown16 (setB_gb (b := Pb) (j := 6) (v := .slice so7 (gs.length + 1) cap7)) hPz)
      refine hK.out _ _ (by
       obtain ⟨j0, j1, j2, j3, j4, j5, j6⟩ := HQ6.out w16 (gbb_trans HGr.out HQ16.out.gb)
       exact ⟨HQ16.out.cell 6 _ rfl, j0, j1, j2, j3, j4, j5, j6⟩) (fun hHeld => ?_)
      clear hK K hHeld hown16 hg16 hat16 hj0 hy0 hy1 hy2
      try simp only [Act.put, List.setIfInBounds_toArray, List.set_cons_zero, List.set_cons_succ]
      refine wpAnyT_out (by kernel_rfl) _ ?_
      have p0 : w16.cell? ⟨Pb, 6, none⟩ = some (.slice ga gs.length gcap) := HQ16.out.cell 6 _ rfl
      have f16 := HQ16.out.free
      have HQ17 : Hid (QSt Pb W10 #[.slice ia its.length icap, .string q.table, .string q.join, .string fl, .string fr, .slice pw q.wher.length pwc, .slice so7 (gs.length + 1) cap7] (w16.setCell ⟨Pb, 6, none⟩ (.slice so7 (gs.length + 1) cap7))) := Lib.hid ((HQ16.out.set 6 (.slice so7 (gs.length + 1) cap7)).eq rfl)
      refine tkA (i := 8) (v := ?_) opAt8 ?_ ?_; rotate_left; intro wq; go_simp <;> (with_reducible rfl); try simp only [Act.put, List.setIfInBounds_toArray, List.set_cons_zero, List.set_cons_succ]
      refine wpAny_ready (rs := [9]) (by kernel_rfl) (by simp) (AllReady.cons opAt9 (fun K hK => ?_) AllReady.nil)
      go_simp
      refine hK _ _ ?_
      clear hK K
      try simp only [Act.put, List.setIfInBounds_toArray, List.set_cons_zero, List.set_cons_succ]
      refine wpAny_done (by kernel_rfl) ?_ _
      go_wp2_with fail
      go_roundw
      case rel => exact ⟨k + 1, gs ++ [fx], so7, cap7, by go_num, by omega, by rw [List.length_append]; simp; omega, HTK, (by rw [List.length_append]; exact HQ17), (by rw [List.length_append, List.map_append]; exact HO16)⟩
      case measure => simp [intOf]; omega
     ·
      obtain rfl : k = q.group.length := by omega
      have HGE : Hid ((fullQ f q).group = gs) := Lib.hid (by have h := HE2.out; rw [List.take_length] at h; exact h.symm)
      obtain ⟨ia2, ic2, hiv, hirow⟩ := (HIr.out.far HQr.out.gb (by omega)).row
      injection hiv with hi1 _ hi2
      subst hi1 hi2
      obtain ⟨ga2, gc2, hgv, hgrow⟩ := own_txts HOr.out
      injection hgv with hg1 _ hg2
      subst hg1 hg2
      have hwo := own_gbb HOWz.out HQr.out.gb hP6
      have hwo2 : wr.ownsRow W6.heap.size 50 3 (.slice pw (q.wher.map (stepF f)).length pwc) (q.wher.map (stepF f)).length (stpCells (q.wher.map (stepF f))) := by rw [List.length_map]; exact hwo
      obtain ⟨pw2, pwc2, hpv, hprow⟩ := own_stps hwo2
      injection hpv with hp1 _ hp2
      subst hp1 hp2
      have hbw := HWX.out wr HGs.out
      have h5r : Below W5.heap.size W5 wr := below_gbB HS6.out HGs.out (by rw [HPB.out]; exact Nat.le_refl _) HS6.out.size
      have HBD2 : Hid (Calls Tryz.prog 9 #[.agg #[.slice ia its.length icap, .string q.table, .string q.join, .string fl, .string fr, .slice pw q.wher.length pwc, .slice ga gs.length gcap], .slice lo L.length lcap] wr fun e w' => BndAns wr.heap.size (b, 0) e w' ∧ Below wr.heap.size wr w') := Lib.hid (by
       have h := Bind_any (q := fullQ f q) (io := ia) (icp := icap) (wo := pw) (wcp := pwc) (go := ga) (gcp := gcap) (lcap := lcap) (HG.out.self (below_self HB1.out hbw)) ⟨by rw [HIE.out]; exact hirow, hprow, by rw [HGE.out]; exact hgrow⟩ HQF2.out (by show (q.wher.map (stepF f)).length ≤ _; rw [List.length_map]; exact hwl) (fun it hit => by
        rw [HGI2.out] at hit
        obtain ⟨x, hx, rfl⟩ := List.mem_map.1 hit
        rw [HGI1.out]
        show (x.e.map (stepF f)).length ≤ _
        rw [List.length_map]
        exact HXL.out x hx) (HTR.out.self (below_self HB1.out hbw)) HTO.out hll
       have e1 : (fullQ f q).wher.length = q.wher.length := List.length_map ..
       rw [HNL.out, HIE.out, HGE.out, HE.out.1, HE.out.2, e1] at h
       exact h)
      have HQF3 := Lib.hid (HQr.out)
      have HXr := Lib.hid (HX.out wr h5r)
      have HIr1 := Lib.hid (HI1.out.self h5r)
      have HBR := Lib.hid hbw
      have hXr := (Array.getElem?_eq_some_iff.1 HXr.out).1
      have p0 := HQr.out.cell 0 _ rfl
      have p1 := HQr.out.cell 1 _ rfl
      have p2 := HQr.out.cell 2 _ rfl
      have p3 := HQr.out.cell 3 _ rfl
      have p4 := HQr.out.cell 4 _ rfl
      have p5 := HQr.out.cell 5 _ rfl
      have p6 := HQr.out.cell 6 _ rfl
      clear hirow hgrow hwo hwo2 hprow hbw h5r HE2
      go_wp2_with (go_at_call 9; refine HBD2.out.mono ?_; rintro e w18 ⟨⟨wo2, wc2, ga2, gc2, ia2, ic2, na2, nc2, ka2, kc2, rfl, hbi2, _⟩, hb18⟩; refine Hid.out ?_)
      refine Lib.hid ?_
      clear p0 p1 p2 p3 p4 p5 p6 HBD2
      go_upto_region 22 with fail
      have hbA := (Below.refl w18.heap.size w18).alloc (Nat.le_refl _) (.cells #[.string b.table, .string b.join, .int .i64 b.width, .int .i64 b.left, .int .i64 b.right, .slice wo2 b.wher.length wc2, .slice ga2 b.group.length gc2, .slice ia2 b.items.length ic2, .bool b.grouped, .slice na2 b.names.length nc2, .slice ka2 b.kinds.length kc2] 32)
      have hnA := heap_alloc_new w18 (.cells #[.string b.table, .string b.join, .int .i64 b.width, .int .i64 b.left, .int .i64 b.right, .slice wo2 b.wher.length wc2, .slice ga2 b.group.length gc2, .slice ia2 b.items.length ic2, .bool b.grouped, .slice na2 b.names.length nc2, .slice ka2 b.kinds.length kc2] 32)
      have hbr := below_self hb18 hbA
      have HBZ := Lib.hid (below_self HBR.out hbr)
      have HI2 := Lib.hid (hbi2.self hbA)
      have HI3 := Lib.hid (HIr1.out.self hbr)
      have hx3 := (hbr.block X hXr).trans HXr.out
      generalize w18.alloc (.cells #[.string b.table, .string b.join, .int .i64 b.width, .int .i64 b.left, .int .i64 b.right, .slice wo2 b.wher.length wc2, .slice ga2 b.group.length gc2, .slice ia2 b.items.length ic2, .bool b.grouped, .slice na2 b.names.length nc2, .slice ka2 b.kinds.length kc2] 32) = W19 at *
      have hcl : ∀ (j : Nat) v, (#[.string b.table, .string b.join, .int .i64 b.width, .int .i64 b.left, .int .i64 b.right, .slice wo1 b.wher.length wc1, .slice ga1 b.group.length gc1, .slice ia1 b.items.length ic1, .bool b.grouped, .slice na1 b.names.length nc1, .slice ka1 b.kinds.length kc1] : Array Value)[j]? = some v → W19.cell? ⟨X, j, none⟩ = some v := fun j v h => by rw [Lib.cell_of_heap hx3]; exact h
      have hcm : ∀ (j : Nat) v, (#[.string b.table, .string b.join, .int .i64 b.width, .int .i64 b.left, .int .i64 b.right, .slice wo2 b.wher.length wc2, .slice ga2 b.group.length gc2, .slice ia2 b.items.length ic2, .bool b.grouped, .slice na2 b.names.length nc2, .slice ka2 b.kinds.length kc2] : Array Value)[j]? = some v → W19.cell? ⟨w18.heap.size, j, none⟩ = some v := fun j v h => by rw [Lib.cell_of_heap hnA]; exact h
      have x0 := hcl 0 _ rfl
      have x1 := hcl 1 _ rfl
      have x2 := hcl 2 _ rfl
      have x3 := hcl 3 _ rfl
      have x4 := hcl 4 _ rfl
      have x5 := hcl 5 _ rfl
      have x6 := hcl 6 _ rfl
      have x7 := hcl 7 _ rfl
      have x8 := hcl 8 _ rfl
      have x9 := hcl 9 _ rfl
      have x10 := hcl 10 _ rfl
      have y0 := hcm 0 _ rfl
      have y1 := hcm 1 _ rfl
      have y2 := hcm 2 _ rfl
      have y3 := hcm 3 _ rfl
      have y4 := hcm 4 _ rfl
      have y5 := hcm 5 _ rfl
      have y6 := hcm 6 _ rfl
      have y7 := hcm 7 _ rfl
      have y8 := hcm 8 _ rfl
      have y9 := hcm 9 _ rfl
      have y10 := hcm 10 _ rfl
      have HSA := Lib.hid (SameB_any (wcp := wc1) (gc := gc1) (ic := ic1) (nc := nc1) (kc := kc1) (wcp' := wc2) (gc' := gc2) (ic' := ic2) (nc' := nc2) (kc' := kc2) HI3.out HI2.out HSM.out)
      unfold bndB at HSA
      clear hcl hcm hbA hnA hbr hx3 hb18 hbi2
      go_wp2_with (go_at_call 12; refine HSA.out.mono ?_; rintro e w20 ⟨rfl, hb20⟩; refine Hid.out ?_)
      refine Lib.hid ?_
      have HBF := Lib.hid (below_self HB1.out (below_self HBZ.out hb20))
      clear hb20 HSA
      go_wp2_with fail
      go_ret
      exact ⟨rfl, HBF.out⟩
end Go.Proofs.YtgjfbbmachoolaaGreatDoor.lx
namespace Go.Proofs.YtgjfbbmachoolaaGreatDoor.lx
open Go.RowKit

theorem full_size {tb jn s : ByteArray} {L : List Tbl} {b : Nat} (h : ∀ t ∈ L, t.nm.size ≤ b) : (fullR tb jn L s).size ≤ s.size + 1 + b := by
 unfold fullR
 split
 ·
  omega
 ·
  rcases fullC_is tb jn s L with e | ⟨t, ht, _, _, e⟩
  ·
   rw [e]; omega
  ·
   rw [e]
   have := h t ht
   have h1 : (dotS t.nm s).size = t.nm.size + 1 + s.size := by
    unfold dotS
    rw [ByteArray.size_append, ByteArray.size_append]
    rfl
   omega
theorem stepF_ok {f : ByteArray → ByteArray} {M : List Stp} (hf : ∀ t ∈ M, (f t.s).size < 4294967281) (h : StpsOk M) : StpsOk (M.map (stepF f)) := by
 intro t ht
 obtain ⟨x, hx, rfl⟩ := List.mem_map.1 ht
 obtain ⟨h1, h2, h3⟩ := h x hx
 unfold stepF
 split
 ·
  exact ⟨hf x hx, h2, h3⟩
 ·
  exact ⟨h1, h2, h3⟩
theorem Names_arg {b1 b2 cap : Nat} {q : Qry} {v : Value} {L : List Tbl} {ao : Option Addr} {W : World} (hG : PGlob W) (hq : QryArg b1 q v W) (hb1 : b1 ≤ 1048576) (hL : TblRow ao L W) (hl : L.length ≤ b2) (hw : ∀ t ∈ L, TblWf b2 t) (hb2 : b2 ≤ 1048576) :
  Calls Tryz.prog 3 #[v, .slice ao L.length cap] W fun e w' => e = .returned (.bool true) ∧ Below W.heap.size W w' := by
 obtain ⟨h1, h2, h3⟩ := hq.okB (by omega)
 obtain ⟨io, ic, wo, wc, go, gc, rfl, hi, _⟩ := hq.val
 refine Names_any hG hi h1 (fun f hf => ?_) h2 h3 hL (tbls_ok hw (by omega)) (by omega)
 have hfs : ∀ s : ByteArray, s.size ≤ b1 → (f s).size < 4294967281 := fun s hs => by
  have := full_size (tb := q.table) (jn := q.join) (s := s) (L := L) (b := b2) fun t ht => (hw t ht).1
  rw [hf]
  omega
 have hc : ∀ s : ByteArray, s.size ≤ b1 → (if emptyS q.join = true then (⟨#[]⟩ : ByteArray) else f s).size < 4294967281 := fun s hs => by
  split
  ·
   decide
  ·
   exact hfs s hs
 refine ⟨fun it hit => ?_, ?_, stepF_ok (fun t ht => hfs _ (hq.wher t ht).2) h1.wher, ?_, fun s hs => ?_, ?_, h1.table, h1.join, hc _ hq.left, hc _ hq.right⟩
 ·
  obtain ⟨x, hx, rfl⟩ := List.mem_map.1 hit
  have hx1 := h1.items x hx
  exact ⟨stepF_ok (fun t ht => hfs _ ((hq.items x hx).2.2 t ht).2) hx1.e, by show (x.e.map (stepF f)).length ≤ _; rw [List.length_map]; exact hx1.len, hx1.lo, hx1.hi⟩
 ·
  show (q.items.map _).length ≤ _; rw [List.length_map]; exact h1.ilen
 ·
  show (q.wher.map _).length ≤ _; rw [List.length_map]; exact h1.wlen
 ·
  obtain ⟨x, hx, rfl⟩ := List.mem_map.1 hs
  exact hfs _ (hq.group x hx)
 ·
  show (q.group.map _).length ≤ _; rw [List.length_map]; exact h1.glen
end Go.Proofs.YtgjfbbmachoolaaGreatDoor.lx
namespace Go.Proofs.YtgjfbbmachoolaaGreatDoor.lx
open Go.ChangeShapes Go.WideShapes Go.ChangeAt Go.RowKit

namespace bnames
set_option maxRecDepth 100000 in
theorem contract (H : Type) (enc : TypeId × Value → H) (W : World) (base : Nat) (args : Array Value) (ds gs : List (DataW H)) (before : List MemPlace)
  (hval : ∀ (j : Nat) t v, Tryz.f3.params[j]? = some t → args[j]? = some v → Value.okWide Tryz.prog W .any base t v)
  (hW : DataW.Whole enc Tryz.prog Tryz.f3.params.toList Rows.bindNamesSpec.vars false W args.toList ds gs before) (hsz0 : (DataW.weightsEach Tryz.prog (Tryz.f3.params.toList ++ (Rows.OpenSpec.upto Rows.bindNamesSpec).bare.plain.varTypes Tryz.prog) (ds ++ gs)).all (· ≤ reachBytes) = true) (hk : Rows.uptoSmall H (ds ++ gs) = true) (hG : PGlob W) :
  Calls Tryz.prog 3 args W fun e W' => ∃ v, e = .returned v ∧ Rows.bindNamesSpec.post enc Tryz.prog Tryz.f3 false true false false W args v W' := by
 have hW' := hW
 obtain ⟨p, q, hA0, hV, rfl, hfz, hnd⟩ := hW
 have hA : DataW.TrodAll enc Tryz.prog W 0 (fun _ => true) true Tryz.f3.params.toList args.toList ds p := hA0
 rw [Tryz.params3] at hA hval
 obtain ⟨v1, vs1, d1, ds1, p1, q1, hargs, rfl, rfl, h1, r1⟩ := trodAll_cons hA
 obtain ⟨v2, vs2, d2, ds2, p2, q2, hargs2, rfl, rfl, h2, r2⟩ := trodAll_cons r1
 obtain ⟨rfl, rfl, rfl⟩ := trodAll_nil r2
 subst hargs2
 obtain rfl : args = #[v1, v2] := by cases args; simp_all
 obtain ⟨rfl, rfl⟩ := trodVars_none hV
 have hAk := hA
 clear hA0
 have hsz : (DataW.weightsEach Tryz.prog ([26, 27] ++ []) ([d1, d2] ++ [])).all (· ≤ reachBytes) = true := hsz0
 obtain ⟨x1, hx1⟩ := open_qry (hval 0 26 v1 rfl rfl) h1
 obtain ⟨ao2, x2, cap2, rfl, ha2, hl2, hb2⟩ := open_tbls (hval 1 27 v2 rfl rfl) h2
 have hbulk := of_decide_eq_true hk
 simp only [Rows.uptoBulkAll, List.append_nil] at hbulk
 refine (Names_arg hG hx1 (by omega) ha2 hl2 hb2 (by omega)).mono fun e W' ⟨he, hg⟩ => ?_
 subst he
 have hAc := carryAll hg (by kernel_rfl) hAk
 refine ⟨_, rfl, _, _, _, [], _, [], hW', ?_, hAc, ?_, hg.frame _, fun h => by cases h⟩
 ·
  exact trodAll_cons_mk (shut_bool Tryz.underlying4 _) trodAll_mk0
 ·
  rfl

theorem reads (os : Os) {H : Type} (enc : TypeId × Value → H) : ∃ places, DataW.whole enc Tryz.prog ((laidWorld os).forCall (fun _ _ => 0) ⟨#[], #[Value.agg #[.slice none 0 0, .string ⟨#[]⟩, .string ⟨#[]⟩, .string ⟨#[]⟩, .string ⟨#[]⟩, .slice none 0 0, .slice none 0 0], Value.slice none 0 0], []⟩).memory Tryz.f3.params.toList Rows.bindNamesSpec.vars false #[Value.agg #[.slice none 0 0, .string ⟨#[]⟩, .string ⟨#[]⟩, .string ⟨#[]⟩, .string ⟨#[]⟩, .slice none 0 0, .slice none 0 0], Value.slice none 0 0].toList 8 = some ([.agg [.nil, .lit (.string []), .lit (.string []), .lit (.string []), .lit (.string []), .nil, .nil], .nil], [], places) := by
 have hw : (DataW.whole enc Tryz.prog ((laidWorld os).forCall (fun _ _ => 0) ⟨#[], #[Value.agg #[.slice none 0 0, .string ⟨#[]⟩, .string ⟨#[]⟩, .string ⟨#[]⟩, .string ⟨#[]⟩, .slice none 0 0, .slice none 0 0], Value.slice none 0 0], []⟩).memory Tryz.f3.params.toList Rows.bindNamesSpec.vars false #[Value.agg #[.slice none 0 0, .string ⟨#[]⟩, .string ⟨#[]⟩, .string ⟨#[]⟩, .string ⟨#[]⟩, .slice none 0 0, .slice none 0 0], Value.slice none 0 0].toList 8).map (fun x => (x.1, x.2.1)) =
   some ([.agg [.nil, .lit (.string []), .lit (.string []), .lit (.string []), .lit (.string []), .nil, .nil], .nil], []) := by kernel_rfl
 obtain ⟨⟨x1, x2, x3⟩, hx, hx1⟩ := Option.map_eq_some_iff.1 hw
 simp only [Prod.mk.injEq] at hx1
 obtain ⟨rfl, rfl⟩ := hx1
 exact ⟨x3, hx⟩

set_option maxRecDepth 100000 in
theorem lifted (os : Os) (started : os.Started) (H : Type) (enc : TypeId × Value → H) (F : Stop.Interp) :
  ReturnsInHanded {} Tryz.checked os 3 .any ((Rows.OpenSpec.upto Rows.bindNamesSpec).preRow enc Tryz.prog Tryz.f3 Rows.bindNamesUptoRow.domain false Rows.bindNamesUptoRow.laid) (((Rows.OpenSpec.upto Rows.bindNamesSpec).at F).post enc Tryz.prog Tryz.f3 false true false false) := by
 obtain ⟨places, hx⟩ := reads os enc
 refine returnsInHanded_of_row (C := Tryz.checked) (s := Rows.OpenSpec.upto Rows.bindNamesSpec) own started (by kernel_rfl) Tryz.func3
  (witness_row_atRef (enc := enc) (C := Tryz.checked) false (laidWorld os) #[Value.agg #[.slice none 0 0, .string ⟨#[]⟩, .string ⟨#[]⟩, .string ⟨#[]⟩, .string ⟨#[]⟩, .slice none 0 0, .slice none 0 0], Value.slice none 0 0] rfl (by kernel_rfl) (by kernel_rfl) (by kernel_rfl)
   (OpenSpec.preRow_of_cond 8 hx (by kernel_rfl) (fun k hk => by cases hk; kernel_rfl) (by kernel_rfl) (laid_met os _))) ?_
 intro W base args ds gs before hval hW _ hcond hsz hL hS _
 exact contract H enc W base args ds gs before hval hW hsz (hcond _ rfl) (pglob_of hL hS)

theorem said : Rows.BindNamesUptoSaid :=
 OpenClaim.holds_of_cond 3 Tryz.f3 rfl rfl rfl rfl rfl rfl rfl ⟨rfl, rfl, rfl, rfl, rfl⟩ rfl rfl rfl rfl rfl (by kernel_rfl) Tryz.func3 (by kernel_rfl)
  (of_decide_eq_true (by kernel_rfl)) (by unfold Func.isWrapper; first | (rw [if_pos (by decide +kernel)]; kernel_rfl) | (rw [if_neg (by decide +kernel)]; exact ⟨rfl, rfl⟩))
  (fun os started H enc _ F => by rw [OpenClaim.pre_eq_preRow]; exact lifted os started H enc F)

theorem plain (f : FuncId) (fn : Func) (hf : Tryz.pinned.checked.prog.funcNamed "potsherd/potsherdlaw04.BindNames" = some f) (hfn : Tryz.pinned.checked.prog.funcs[f]? = some fn) :
  true = Tryz.pinned.checked.prog.looks [] ∧ ∀ (j : Nat) t, fn.params[j]? = some t → Tryz.pinned.checked.prog.wantsStandIn t = false := by
 obtain rfl : f = 3 := Option.some.inj ((show Tryz.prog.funcNamed "potsherd/potsherdlaw04.BindNames" = some 3 by kernel_rfl).symm.trans hf) |>.symm
 obtain rfl : fn = Tryz.f3 := (Option.some.inj (Tryz.func3.symm.trans hfn)).symm
 refine ⟨by kernel_rfl, fun j t ht => ?_⟩
 rw [Tryz.params3] at ht
 have hall : ([26, 27].all fun t => !Tryz.prog.wantsStandIn t) = true := by kernel_rfl
 have := List.all_eq_true.1 hall t (by simpa using Array.mem_of_getElem? ht)
 rw [Bool.not_eq_true'] at this
 exact this

/-- THE CARD -/
theorem card : Rows.BindNamesUptoCardSaid :=
 Claim7.holds_tied_plain_at .later [] _ _ _ _ said (fun _ h => by cases h) (by kernel_rfl) (fun _ h => by cases h) bindNamesUpto_row_tie rfl ⟨rfl, rfl⟩ (by kernel_rfl) rfl plain (by kernel_rfl)
end bnames
end Go.Proofs.YtgjfbbmachoolaaGreatDoor.lx
