/-
  Kinds of expressions: what one more step makes. Plain Lean. What is bound is right, and of the kinds that are said. Plain Lean. bind's Bind: what it answers; its state on the way. No condition. A region that draws its order of evaluation, in which loads are held by a condition S UP TO an operation 'u' (behind it the cells may be written).
  Derived/OrdersHeld.lean's laws, with a condition that ends.
-/
import Derived.Test.YtgjfbbmachoolaaGreatDoorM10
import Derived.Test.YtgjfbbmachoolaaGreatDoorM15
import Derived.Deep.RegionHeld
namespace Go.Proofs.YtgjfbbmachoolaaGreatDoor.lx
open Go.RowKit

theorem heightR_append : ∀ (a b : List Stp) (h : Int), heightR (a ++ b) h = (heightR a h).bind (heightR b)
 | [], b, h => rfl
 | s :: a, b, h => by
  rw [List.cons_append, heightR, heightR]
  split
  ·
   exact heightR_append a b _
  ·
   rfl
theorem stackR_append (cols : List Clm) : ∀ (a b : List Stp) (st : List Int), stackR cols (a ++ b) st = (stackR cols a st).then (stackR cols b)
 | [], b, st => rfl
 | s :: a, b, st => by
  rw [List.cons_append, stackR, stackR]
  split
  ·
   exact stackR_append cols a b _
  ·
   cases kindR s.k (st.drop (st.length - (takesB s).1.toNat)) with
   | ok k => exact stackR_append cols a b _
   | no y => rfl
theorem takesB_col {t : Stp} (h : t.k = 6) : takesB t = (0, true) := by rw [takesB, if_pos h]
/-- the stack is as high as it is said -/
theorem stackR_length (cols : List Clm) : ∀ (l : List Stp) (st st' : List Int) (h h' : Int), heightR l h = some h' → (st.length : Int) = h → stackR cols l st = .ok st' → (st'.length : Int) = h'
 | [], st, st', h, h', e1, e2, e3 => by injection e1 with e1; injection e3 with e3; subst e1 e3; exact e2
 | s :: l, st, st', h, h', e1, e2, e3 => by
  rw [heightR] at e1
  rw [stackR] at e3
  have ⟨t0, t2⟩ := takesB_range s
  split at e1
  ·
   rename_i hc
   split at e3
   ·
    rename_i h6
    refine stackR_length cols l _ st' _ h' e1 ?_ e3
    rw [takesB_col h6]
    simp
    omega
   ·
    obtain ⟨k, hk, e3⟩ := Ex.then_ok e3
    refine stackR_length cols l _ st' _ h' e1 ?_ e3
    simp only [List.length_append, List.length_take, List.length_cons, List.length_nil]
    omega
  ·
   cases e1
theorem kindOfR_ok {l : List Stp} {cols : List Clm} {k : Int} (h : kindOfR l cols = .ok k) : heightR l 0 = some 1 ∧ l.length ≤ 64 ∧ cols.length ≤ 16 ∧ l.all (inR cols.length) = true ∧ stackR cols l [] = .ok [k] := by
 unfold kindOfR at h
 split at h
 ·
  cases h
 rename_i h1
 split at h
 ·
  cases h
 split at h
 ·
  cases h
 rename_i h3
 obtain ⟨st, h4, h5⟩ := Ex.then_ok h
 injection h5 with h5
 have h1 : ¬ heightR l 0 ≠ some 1 ∧ ¬ 64 < l.length := not_or.1 h1
 have hh : heightR l 0 = some 1 := Classical.not_not.1 h1.1
 have hl := stackR_length cols l [] st 0 1 hh rfl h4
 refine ⟨hh, by omega, by omega, by simpa using h3, ?_⟩
 match st, hl with
 | [x], _ => rw [h4, ← h5]; rfl
 | [], hl => simp at hl
 | _ :: _ :: _, hl => simp at hl; omega
theorem kindOfR_of {l : List Stp} {cols : List Clm} {r : Ex (List Int)} (h1 : heightR l 0 = some 1) (h2 : l.length ≤ 64) (h3 : cols.length ≤ 16) (h4 : l.all (inR cols.length) = true) (h5 : stackR cols l [] = r) : kindOfR l cols = r.then fun st => .ok (st.getD 0 0) := by
 unfold kindOfR
 rw [if_neg (by simp [h1]; omega), if_neg (by omega), if_neg (by simp [h4]), h5]
/-- one more step of those that take one value -/
theorem kindOfR_snoc {l : List Stp} {cols : List Clm} {k : Int} (h : kindOfR l cols = .ok k) (hl : l.length + 1 ≤ 64) (u : Int) (hu : u = 7 ∨ u = 8 ∨ u = 9 ∨ u = 10) : kindOfR (l ++ [⟨u, ⟨#[]⟩, 0⟩]) cols = kindR u [k] := by
 obtain ⟨h1, h2, h3, h4, h5⟩ := kindOfR_ok h
 have ht : takesB ⟨u, ⟨#[]⟩, 0⟩ = (1, true) := by rcases hu with rfl | rfl | rfl | rfl <;> decide +kernel
 have h6 : ¬ u = 6 := by omega
 rw [kindOfR_of (r := (kindR u [k]).then fun x => .ok [x]) (by rw [heightR_append, h1]; simp [heightR, ht]) (by simp; omega) h3 (by rw [List.all_append, h4]; simp [inR, h6]) ?_]
 ·
  cases kindR u [k] <;> rfl
 ·
  rw [stackR_append, h5]
  simp only [Ex.then, stackR, h6, if_false, ht]
  rw [show [k].drop ([k].length - Int.toNat 1) = [k] from rfl, show [k].take ([k].length - Int.toNat 1) = [] from rfl]
  cases kindR u [k] <;> rfl
theorem kindR_one (u k : Int) : kindR u [k] = (match ruleR u with | some r => if k = r.1 ∨ k = 0 then .ok r.2 else .no 5 | none => if u ≠ 9 ∧ ¬ (k = 0 ∨ min k 0 = 0) then .no 5 else .ok 1) := by
 unfold kindR
 cases ruleR u with
 | some r => simp
 | none => simp
/-- the four -/
theorem types_law {l : List Stp} {cols : List Clm} {k : Int} (h : kindOfR l cols = .ok k) (hl : l.length + 2 ≤ 64) :
  kindOfR (l ++ [⟨7, ⟨#[]⟩, 0⟩]) cols = (if k = 2 ∨ k = 0 then .ok 2 else .no 5) ∧ kindOfR (l ++ [⟨8, ⟨#[]⟩, 0⟩]) cols = (if k = 1 ∨ k = 0 then .ok 1 else .no 5) ∧
  kindOfR (l ++ [⟨10, ⟨#[]⟩, 0⟩]) cols = (if k = 3 ∨ k = 0 then .ok 2 else .no 5) ∧ kindOfR (l ++ [⟨9, ⟨#[]⟩, 0⟩]) cols = .ok 1 := by
 refine ⟨?_, ?_, ?_, ?_⟩
 ·
  rw [kindOfR_snoc h (by omega) 7 (by decide), kindR_one]; rfl
 ·
  rw [kindOfR_snoc h (by omega) 8 (by decide), kindR_one]; rfl
 ·
  rw [kindOfR_snoc h (by omega) 10 (by decide), kindR_one]; rfl
 ·
  rw [kindOfR_snoc h (by omega) 9 (by decide), kindR_one]; rfl
end Go.Proofs.YtgjfbbmachoolaaGreatDoor.lx
namespace Go.Proofs.YtgjfbbmachoolaaGreatDoor.lx
open Go.RowKit

abbrev noT : Tbl := ⟨⟨#[]⟩, []⟩
abbrev noC : Clm := ⟨⟨#[]⟩, 0⟩
/-- the parts of what is bound -/
structure BindIs (q : Qry) (l : List Tbl) (b : Bnd) (ts : List Tbl) : Prop where
 chk : checkR q = 0
 cat : catR l = 0
 opn : openR l (namesR q.table q.join) [] = .ok ts
 table : b.table = q.table
 join : b.join = q.join
 joined : joinB' ts q = .ok (b.width, b.left, b.right)
 wher : whereR ts q.wher = .ok b.wher
 group : groupR ts q.group [] = .ok b.group
 grouped : b.grouped = groupedR b.group q.items
 few : q.items.length = 0 → (scopeR ts).length ≤ 8
 items : (if q.items.length = 0 then Ex.ok (allItems (scopeR ts).length) else itemsB ts b.group b.grouped q.items []) = .ok b.items
 out : outB b.group b.grouped (scopeR ts) b.items 0 [] [] = .ok (b.names, b.kinds)
theorem bindR_ok {q : Qry} {l : List Tbl} {b : Bnd} (h : bindR q l = .ok b) : ∃ ts, BindIs q l b ts := by
 unfold bindR at h
 split at h
 ·
  cases h
 rename_i h1
 split at h
 ·
  cases h
 rename_i h2
 obtain ⟨ts, h3, h⟩ := Ex.then_ok h
 obtain ⟨⟨j1, j2, j3⟩, h4, h⟩ := Ex.then_ok h
 obtain ⟨wh, h5, h⟩ := Ex.then_ok h
 obtain ⟨g, h6, h⟩ := Ex.then_ok h
 simp only at h
 split at h
 ·
  cases h
 rename_i h7
 obtain ⟨its, h8, h⟩ := Ex.then_ok h
 obtain ⟨⟨ns, ks⟩, h9, h⟩ := Ex.then_ok h
 injection h with h
 subst h
 exact ⟨ts, by simpa using h1, by simpa using h2, h3, rfl, rfl, h4, h5, h6, rfl, fun e => Nat.le_of_not_lt fun h => h7 ⟨e, h⟩, h8, h9⟩
theorem BindIs.is {q : Qry} {l : List Tbl} {b : Bnd} {ts : List Tbl} (h : BindIs q l b ts) : bindR q l = .ok b := by
 obtain ⟨bt, bj, bw, bl, br, bwh, bg, bi, bgr, bn, bk⟩ := b
 obtain ⟨h1, h2, h3, h4, h5, h6, h7, h8, h9, h10, h11, h12⟩ := h
 simp only at *
 subst h4 h5 h9
 unfold bindR
 rw [if_neg (by simp [h1]), if_neg (by simp [h2]), h3]
 simp only [Ex.then]
 rw [h6]
 simp only
 rw [h7]
 simp only
 rw [h8]
 simp only
 rw [if_neg (by rintro ⟨a, b⟩; have := h10 a; omega), h11]
 simp only
 rw [h12]

/-- what is open -/
theorem openR_ok {l : List Tbl} : ∀ {ns : List ByteArray} {out ts : List Tbl}, openR l ns out = .ok ts → ts = out ++ ns.map (fun n => (l.find? fun t => eqS t.nm n).getD noT) ∧ ∀ n ∈ ns, ∃ t, l.find? (fun t => eqS t.nm n) = some t
 | [], out, ts, h => by injection h with h; subst h; exact ⟨by simp, fun n hn => by cases hn⟩
 | n :: ns, out, ts, h => by
  rw [openR] at h
  cases hf : l.find? (fun t => eqS t.nm n) with
  | none => rw [hf] at h; cases h
  | some t =>
   rw [hf] at h
   obtain ⟨h1, h2⟩ := openR_ok h
   refine ⟨by rw [h1, List.map_cons, hf, List.append_assoc]; rfl, fun m hm => ?_⟩
   rcases List.mem_cons.1 hm with rfl | hm
   ·
    exact ⟨t, hf⟩
   ·
    exact h2 m hm
theorem tblsFrom_ok : ∀ {l : List Tbl} {seen : List ByteArray}, tblsFrom seen l = 0 → ∀ t ∈ l, ctableR t = 0
 | [], _, _, t, h => by cases h
 | x :: l, seen, h, t, ht => by
  rw [tblsFrom] at h
  split at h
  ·
   rename_i hc; exact absurd h hc
  rename_i hc
  split at h
  ·
   cases h
  rcases List.mem_cons.1 ht with rfl | ht
  ·
   simpa using hc
  ·
   exact tblsFrom_ok h t ht
theorem catR_ok {l : List Tbl} (h : catR l = 0) : l.length ≤ 8 ∧ ∀ t ∈ l, ctableR t = 0 := by
 unfold catR at h
 split at h
 ·
  cases h
 ·
  exact ⟨by omega, tblsFrom_ok h⟩
theorem ctableR_ok {t : Tbl} (h : ctableR t = 0) : emptyS t.nm = false ∧ 1 ≤ t.cols.length ∧ t.cols.length ≤ 8 ∧ colsFrom [] t.cols = 0 := by
 unfold ctableR at h
 split at h
 ·
  rename_i hc; exact absurd h hc
 rename_i hc
 unfold ccolsR at h
 split at h
 ·
  cases h
 rename_i hl
 have hl := not_or.1 hl
 refine ⟨?_, by omega, by omega, h⟩
 cases he : emptyS t.nm with
 | false => rfl
 | true => exact absurd (show vnameR t.nm = 4 by rw [vnameR, if_pos (.inl he)]) (by simp at hc; rw [hc]; decide)
theorem colsFrom_ok : ∀ {l seen : List Clm}, colsFrom seen l = 0 → ∀ c ∈ l, 0 < c.k ∧ c.k < 4
 | [], _, _, t, h => by cases h
 | x :: l, seen, h, t, ht => by
  rw [colsFrom] at h
  split at h
  ·
   rename_i hc; exact absurd h hc
  split at h
  ·
   cases h
  split at h
  ·
   cases h
  rename_i hc
  rcases List.mem_cons.1 ht with rfl | ht
  ·
   omega
  ·
   exact colsFrom_ok h t ht
theorem emptyS_iff {s : ByteArray} : emptyS s = true ↔ s = ⟨#[]⟩ := by
 unfold emptyS
 rw [Lib.toList_data]
 obtain ⟨⟨l⟩⟩ := s
 cases l <;> simp
/-- .. of a right query over a right catalog -/
theorem open_two {q : Qry} {l ts : List Tbl} (h : openR l (namesR q.table q.join) [] = .ok ts) :
  ∃ t, t ∈ l ∧ l.find? (fun t => eqS t.nm q.table) = some t ∧ ((emptyS q.join = true ∧ ts = [t]) ∨ (emptyS q.join = false ∧ ∃ u, u ∈ l ∧ l.find? (fun t => eqS t.nm q.join) = some u ∧ ts = [t, u])) := by
 obtain ⟨h1, h2⟩ := openR_ok h
 unfold namesR at h1 h2
 cases he : emptyS q.join with
 | true =>
  rw [if_pos he] at h1 h2
  obtain ⟨t, ht⟩ := h2 _ (List.mem_singleton.2 rfl)
  rw [List.map_singleton, ht] at h1
  exact ⟨t, List.mem_of_find?_eq_some ht, ht, .inl ⟨rfl, h1⟩⟩
 | false =>
  rw [if_neg (by simp [he])] at h1 h2
  obtain ⟨t, ht⟩ := h2 q.table (by simp)
  obtain ⟨u, hu⟩ := h2 q.join (by simp)
  simp only [List.map_cons, List.map_nil, ht, hu] at h1
  exact ⟨t, List.mem_of_find?_eq_some ht, ht, .inr ⟨rfl, u, List.mem_of_find?_eq_some hu, hu, h1⟩⟩

/-- a place that is found lies in the scope -/
theorem placesT_range {c : List UInt8 × List UInt8 × Bool} {tn : ByteArray} : ∀ {l : List Clm} {n : Nat} {x : Int}, x ∈ placesT c tn l n → (n : Int) ≤ x ∧ x < n + l.length
 | [], n, x, h => by cases h
 | y :: l, n, x, h => by
  rw [placesT] at h
  rcases List.mem_append.1 h with h | h
  ·
   split at h
   ·
    obtain rfl := List.mem_singleton.1 h
    simp only [List.length_cons]
    omega
   ·
    cases h
  ·
   have ⟨h1, h2⟩ := placesT_range h
   simp only [List.length_cons]
   omega
theorem placesR_range {c : List UInt8 × List UInt8 × Bool} : ∀ {l : List Tbl} {n : Nat} {x : Int}, x ∈ placesR c l n → (n : Int) ≤ x ∧ x < n + (scopeR l).length
 | [], n, x, h => by cases h
 | t :: l, n, x, h => by
  have e : (scopeR (t :: l)).length = t.cols.length + (scopeR l).length := by simp [scopeR]
  rw [placesR] at h
  rcases List.mem_append.1 h with h | h
  ·
   have ⟨h1, h2⟩ := placesT_range h
   omega
  ·
   have ⟨h1, h2⟩ := placesR_range h
   omega
theorem findR_range {ts : List Tbl} {s : ByteArray} {x : Int} (h : findR ts s = .ok x) : 0 ≤ x ∧ x < (scopeR ts).length := by
 unfold findR at h
 split at h
 ·
  rename_i n hp
  injection h with h
  subst h
  have ⟨h1, h2⟩ := placesR_range (l := ts) (n := 0) (x := n) (by rw [hp]; exact List.mem_singleton.2 rfl)
  omega
 ·
  cases h
theorem groupR_ok {ts : List Tbl} : ∀ {g : List ByteArray} {out b : List Int}, groupR ts g out = .ok b → ∃ r, b = out ++ r ∧ r.length = g.length ∧ groupOkR (scopeR ts).length out r = true
 | [], out, b, h => by injection h with h; subst h; exact ⟨[], by simp, rfl, rfl⟩
 | x :: g, out, b, h => by
  rw [groupR] at h
  obtain ⟨n, h1, h⟩ := Ex.then_ok h
  split at h
  ·
   cases h
  rename_i hn
  obtain ⟨r, h2, h3, h4⟩ := groupR_ok h
  have ⟨a, b⟩ := findR_range h1
  refine ⟨n :: r, by rw [h2]; simp, by simp [h3], ?_⟩
  rw [groupOkR, h4]
  simp [hn, a, b]
/-- two items, the one with its names resolved -/
def Sames (a b : Itm) : Prop := a.agg = b.agg
theorem itemsB_ok {ts : List Tbl} {g : List Int} {gr : Bool} : ∀ {l out its : List Itm}, itemsB ts g gr l out = .ok its → ∃ r, its = out ++ r ∧ r.map Itm.agg = l.map Itm.agg
 | [], out, its, h => by injection h with h; subst h; exact ⟨[], by simp, rfl⟩
 | x :: l, out, its, h => by
  rw [itemsB] at h
  obtain ⟨e, h1, h⟩ := Ex.then_ok h
  obtain ⟨u, h2, h⟩ := Ex.then_ok h
  obtain ⟨r, h3, h4⟩ := itemsB_ok h
  exact ⟨⟨x.agg, e.1⟩ :: r, by rw [h3]; simp, by simp [h4]⟩
theorem any_agg {a b : List Itm} (h : a.map Itm.agg = b.map Itm.agg) : (a.any fun x => x.agg != 0) = b.any fun x => x.agg != 0 := by
 have e : ∀ l : List Itm, (l.any fun x => x.agg != 0) = (l.map Itm.agg).any fun y => y != 0 := fun l => by rw [List.any_map]; rfl
 rw [e, e, h]
/-- what is answered of an item, and what its expression comes to -/
def AnsOf (cols : List Clm) (x : Itm) (k : Int) : Prop := (x.agg = 1 → kindOfR x.e cols = .no 13 ∧ k = 2) ∧ (x.agg ≠ 1 → ∃ k', kindOfR x.e cols = .ok k' ∧ (x.agg ≠ 2 → k' = k))
theorem itemB_ok {g : List Int} {gr : Bool} {x : Itm} {cols : List Clm} {i : Nat} {r : ByteArray × Int} (h : itemB g gr x cols i = .ok r) : AnsOf cols x r.2 := by
 unfold itemB at h
 split at h
 ·
  cases h
 split at h
 ·
  rename_i h1
  split at h
  ·
   rename_i h2
   injection h with h
   subst h
   refine ⟨fun _ => ⟨?_, rfl⟩, fun hn => absurd h1 hn⟩
   rw [List.length_eq_zero_iff.1 h2]
   unfold kindOfR
   rw [if_pos (.inl (by simp [heightR]))]
  ·
   cases h
 rename_i h1
 obtain ⟨k, hk, h⟩ := Ex.then_ok h
 split at h
 ·
  cases h
 split at h
 ·
  cases h
 injection h with h
 subst h
 exact ⟨fun e => absurd e h1, fun _ => ⟨k, hk, fun h2 => by simp [h2]⟩⟩
theorem outB_ok {g : List Int} {gr : Bool} {cols : List Clm} : ∀ {l : List Itm} {i : Nat} {ns : List ByteArray} {ks : List Int} {R : List ByteArray × List Int}, outB g gr cols l i ns ks = .ok R → ns.length = i → ks.length = i →
  ∃ rn rk, R = (ns ++ rn, ks ++ rk) ∧ rn.length = l.length ∧ rk.length = l.length ∧ (∀ n' k', outOkR g gr cols l i (ns ++ rn ++ n') (ks ++ rk ++ k') = true) ∧ ∀ (j : Nat) x, l[j]? = some x → AnsOf cols x (rk.getD j 0)
 | [], i, ns, ks, R, h, _, _ => by injection h with h; subst h; exact ⟨[], [], by simp, rfl, rfl, fun _ _ => rfl, fun j x h => by simp at h⟩
 | x :: l, i, ns, ks, R, h, hn, hk => by
  rw [outB] at h
  obtain ⟨r, h1, h⟩ := Ex.then_ok h
  obtain ⟨rn, rk, h2, h3, h4, h5, h6⟩ := outB_ok h (by simp [hn]) (by simp [hk])
  refine ⟨r.1 :: rn, r.2 :: rk, by rw [h2]; simp, by simp [h3], by simp [h4], fun n' k' => ?_, fun j y hj => ?_⟩
  ·
   rw [outOkR, h1]
   have e1 : (ns ++ r.1 :: rn ++ n').getD i ⟨#[]⟩ = r.1 := by
    rw [← hn]; simp
   have e2 : (ks ++ r.2 :: rk ++ k').getD i 0 = r.2 := by
    rw [← hk]; simp
   simp only [e1, e2, eqS_rfl, decide_true, Bool.true_and]
   have := h5 n' k'
   simpa using this
  ·
   cases j with
   | zero =>
    simp only [List.getElem?_cons_zero, Option.some.injEq] at hj
    subst hj
    exact itemB_ok h1
   | succ j => exact h6 j y (by simpa using hj)
theorem getD_left {α : Type} {a b : List α} {i : Nat} {d : α} (h : i < a.length) : (a ++ b).getD i d = a.getD i d := by
 simp [List.getD_eq_getElem?_getD, List.getElem?_append_left h]
theorem getD_right {α : Type} {a b : List α} {i : Nat} {d : α} (h : a.length ≤ i) : (a ++ b).getD i d = b.getD (i - a.length) d := by
 simp [List.getD_eq_getElem?_getD, List.getElem?_append_right h]
theorem checkR_ok {q : Qry} (h : checkR q = 0) : okR q = true ∧ q.items.length ≤ 8 ∧ q.group.length ≤ 8 := by
 unfold checkR at h
 split at h
 ·
  cases h
 ·
  rename_i hc
  cases ho : okR q with
  | false => exact absurd (.inl ho) hc
  | true => exact ⟨rfl, by omega, by omega⟩
theorem okR_join {q : Qry} (h : okR q = true) (hj : emptyS q.join = false) : eqS q.join q.table = false ∧ columnR q.left = true ∧ columnR q.right = true := by
 unfold okR frontR singleR doubleR at h
 simp only [hj, Bool.false_and, Bool.false_or, Bool.and_eq_true, Bool.not_eq_true'] at h
 exact ⟨h.1.1.1.2.1.1.1, h.1.1.1.2.1.2, h.1.1.1.2.2⟩
theorem whereR_ok {ts : List Tbl} {l r : List Stp} (h : whereR ts l = .ok r) : (l.length = 0 ∧ r = []) ∨ (l.length ≠ 0 ∧ ∃ k, nameStep ts l [] = .ok r ∧ kindOfR r (scopeR ts) = .ok k ∧ k ≤ 1) := by
 unfold whereR at h
 split at h
 ·
  rename_i h1
  injection h with h
  exact .inl ⟨h1, h.symm⟩
 ·
  rename_i h1
  obtain ⟨e, h2, h⟩ := Ex.then_ok h
  split at h
  ·
   rename_i h3
   injection h with h
   subst h
   unfold sbindR at h2
   obtain ⟨o, h4, h2⟩ := Ex.then_ok h2
   obtain ⟨k, h5, h2⟩ := Ex.then_ok h2
   injection h2 with h2
   subst h2
   exact .inr ⟨h1, k, h4, h5, h3⟩
  ·
   cases h
theorem nameStep_length {ts : List Tbl} : ∀ {l out r : List Stp}, nameStep ts l out = .ok r → r.length = out.length + l.length
 | [], out, r, h => by injection h with h; subst h; rfl
 | s :: l, out, r, h => by
  rw [nameStep] at h
  split at h
  ·
   obtain ⟨n, _, h⟩ := Ex.then_ok h
   have := nameStep_length h
   simp at this ⊢
   omega
  ·
   have := nameStep_length h
   simp at this ⊢
   omega
/-- what the parts are -/
theorem BindIs.items_is {q : Qry} {l ts : List Tbl} {b : Bnd} (h : BindIs q l b ts) : 1 ≤ b.items.length ∧ b.items.length ≤ 8 ∧ (q.items.length ≠ 0 → b.items.length = q.items.length) ∧ groupedR b.group b.items = b.grouped := by
 have hi := h.items
 obtain ⟨t, ht, _, hts⟩ := open_two h.opn
 have hs : 1 ≤ (scopeR ts).length := by
  have := (ctableR_ok ((catR_ok h.cat).2 t ht)).2.1
  rcases hts with ⟨_, e⟩ | ⟨_, u, _, _, e⟩ <;> subst e <;> simp [scopeR] <;> omega
 obtain ⟨_, h8, _⟩ := checkR_ok h.chk
 split at hi
 ·
  rename_i h0
  injection hi with hi
  have := h.few h0
  have hlen : b.items.length = (scopeR ts).length := by rw [← hi]; simp [allItems]
  refine ⟨by omega, by omega, fun hn => absurd h0 hn, ?_⟩
  rw [h.grouped, groupedR, groupedR, ← hi, List.length_eq_zero_iff.1 h0]
  simp [allItems]
 ·
  rename_i h0
  obtain ⟨r, h1, h2⟩ := itemsB_ok hi
  rw [List.nil_append] at h1
  subst h1
  have hl : b.items.length = q.items.length := by simpa using congrArg List.length h2
  refine ⟨by omega, by omega, fun _ => hl, ?_⟩
  rw [h.grouped, groupedR, groupedR, any_agg h2]
theorem BindIs.join_is {q : Qry} {l ts : List Tbl} {b : Bnd} (h : BindIs q l b ts) : joinOkR ts b = true := by
 have hj := h.joined
 unfold joinB' at hj
 unfold joinOkR
 rw [h.join]
 obtain ⟨t, _, _, hts⟩ := open_two h.opn
 rcases hts with ⟨he, _⟩ | ⟨he, u, _, _, rfl⟩
 ·
  rw [if_pos he] at hj
  injection hj with hj
  rw [if_pos he]
  have e1 := congrArg Prod.fst hj
  have e2 := congrArg (fun p => p.2.1) hj
  have e3 := congrArg (fun p => p.2.2) hj
  simp only at e1 e2 e3
  rw [← e1, ← e2, ← e3]
  rfl
 ·
  rw [if_neg (by simp [he])] at hj
  obtain ⟨x, hx, hj⟩ := Ex.then_ok hj
  obtain ⟨y, hy, hj⟩ := Ex.then_ok hj
  simp only at hj
  split at hj
  ·
   rename_i hc
   injection hj with hj
   have e1 := congrArg Prod.fst hj
   have e2 := congrArg (fun p => p.2.1) hj
   have e3 := congrArg (fun p => p.2.2) hj
   simp only [List.getD_cons_zero] at e1 e2 e3 hc
   rw [if_neg (by simp [he])]
   have ⟨x0, x1⟩ := findR_range hx
   have ⟨y0, y1⟩ := findR_range hy
   have es : scopeR [t, u] = t.cols ++ u.cols := by simp [scopeR]
   rw [es] at x1 y1 hc
   simp only [List.length_append] at x1 y1
   have g1 : (t.cols ++ u.cols).getD (min x y).toNat noC = t.cols.getD (min x y).toNat noC := getD_left (by omega)
   have g2 : (t.cols ++ u.cols).getD (max x y).toNat noC = u.cols.getD (max x y - t.cols.length).toNat noC := by
    rw [getD_right (by omega)]
    congr 1
    omega
   obtain ⟨c1, c2, c3⟩ := hc
   rw [show (⟨⟨#[]⟩, 0⟩ : Clm) = noC from rfl, g1, g2] at c3
   simp only [List.getD_cons_zero, List.getD_cons_succ, ← e1, ← e2, ← e3, h.table, (okR_join (checkR_ok h.chk).1 he).1, Bool.not_false, Bool.true_and, Bool.and_eq_true, decide_eq_true_eq]
   refine ⟨⟨trivial, by omega, by omega, by omega, by omega⟩, c3⟩
  ·
   cases hj
theorem BindIs.right {q : Qry} {l ts : List Tbl} {b : Bnd} (h : BindIs q l b ts) : rightB b l = true := by
 obtain ⟨i1, i2, i3, i4⟩ := h.items_is
 obtain ⟨r, g1, g2, g3⟩ := groupR_ok h.group
 rw [List.nil_append] at g1
 subst g1
 obtain ⟨rn, rk, o1, o2, o3, o4, _⟩ := outB_ok h.out rfl rfl
 simp only [List.nil_append] at o1 o4
 have en := congrArg Prod.fst o1
 have ek := congrArg Prod.snd o1
 simp only at en ek
 subst en ek
 have o4 := o4 [] []
 simp only [List.append_nil] at o4
 unfold rightB
 rw [h.cat, h.table, h.join, h.opn]
 simp only [h.join_is, decide_true, Bool.true_and]
 have hg := (checkR_ok h.chk).2.2
 have hw : (decide (b.wher.length = 0) || flagK (kindOfR b.wher (scopeR ts))) = true := by
  rcases whereR_ok h.wher with ⟨_, h2⟩ | ⟨_, k, _, h3, h4⟩
  ·
   rw [h2]; rfl
  ·
   rw [h3]; simp [flagK, h4]
 rw [hw, g3, i4, o4]
 simp
 omega

/-- all columns of a bound query -/
def findT (l : List Tbl) (n : ByteArray) : Tbl := (l.find? fun t => eqS t.nm n).getD noT
def colsR (b : Bnd) (l : List Tbl) : List Clm := (findT l b.table).cols ++ (findT l b.join).cols
theorem findT_none {l : List Tbl} (h : catR l = 0) : findT l ⟨#[]⟩ = noT := by
 unfold findT
 rw [List.find?_eq_none.2]
 ·
  rfl
 ·
  intro t ht he
  have := (ctableR_ok ((catR_ok h).2 t ht)).1
  rw [eqS_iff.1 he] at this
  exact absurd this (by decide +kernel)
theorem BindIs.cols {q : Qry} {l ts : List Tbl} {b : Bnd} (h : BindIs q l b ts) : colsR b l = scopeR ts := by
 unfold colsR
 rw [h.table, h.join]
 obtain ⟨t, _, h1, hts⟩ := open_two h.opn
 have e1 : findT l q.table = t := by rw [findT, h1]; rfl
 rcases hts with ⟨he, rfl⟩ | ⟨he, u, _, h2, rfl⟩
 ·
  rw [e1, emptyS_iff.1 he, findT_none h.cat]
  simp [scopeR]
 ·
  have e2 : findT l q.join = u := by rw [findT, h2]; rfl
  rw [e1, e2]
  simp [scopeR]
/-- kinds of columns -/
theorem BindIs.cols_pos {q : Qry} {l ts : List Tbl} {b : Bnd} (h : BindIs q l b ts) : ∀ c ∈ scopeR ts, 0 < c.k ∧ c.k < 4 := by
 intro c hc
 obtain ⟨t, ht, hct⟩ := List.mem_flatMap.1 hc
 have hl : t ∈ l := by
  obtain ⟨t1, m1, _, hts⟩ := open_two h.opn
  rcases hts with ⟨_, rfl⟩ | ⟨_, u, m2, _, rfl⟩
  ·
   obtain rfl := List.mem_singleton.1 ht
   exact m1
  ·
   simp only [List.mem_cons, List.not_mem_nil, or_false] at ht
   rcases ht with rfl | rfl
   ·
    exact m1
   ·
    exact m2
 exact colsFrom_ok (ctableR_ok ((catR_ok h.cat).2 t hl)).2.2.2 c hct
theorem kindR_pos {k : Int} {l : List Int} {r : Int} (h : kindR k l = .ok r) : 0 ≤ r := by
 unfold kindR at h
 split at h
 ·
  rename_i x hx
  split at h
  ·
   injection h with h
   subst h
   unfold ruleR at hx
   repeat' split at hx
   all_goals first | (injection hx with hx; subst hx; decide) | cases hx
  ·
   cases h
 ·
  split at h
  ·
   cases h
  ·
   injection h with h; subst h; decide
theorem stackR_pos {cols : List Clm} (hc : ∀ c ∈ cols, 0 < c.k ∧ c.k < 4) : ∀ (l : List Stp) (st st' : List Int), (∀ x ∈ st, 0 ≤ x) → stackR cols l st = .ok st' → ∀ x ∈ st', 0 ≤ x
 | [], st, st', h0, h => by injection h with h; subst h; exact h0
 | s :: l, st, st', h0, h => by
  rw [stackR] at h
  split at h
  ·
   refine stackR_pos hc l _ st' (fun x hx => ?_) h
   rcases List.mem_append.1 hx with hx | hx
   ·
    exact h0 x hx
   ·
    obtain rfl := List.mem_singleton.1 hx
    rw [List.getD_eq_getElem?_getD]
    cases hg : cols[s.n.toNat]? with
    | none => exact Int.le_refl _
    | some c => exact Int.le_of_lt (hc c (List.mem_of_getElem? hg)).1
  ·
   obtain ⟨k, hk, h⟩ := Ex.then_ok h
   refine stackR_pos hc l _ st' (fun x hx => ?_) h
   rcases List.mem_append.1 hx with hx | hx
   ·
    exact h0 x (List.mem_of_mem_take hx)
   ·
    obtain rfl := List.mem_singleton.1 hx
    exact kindR_pos hk
theorem kindOfR_pos {cols : List Clm} (hc : ∀ c ∈ cols, 0 < c.k ∧ c.k < 4) {l : List Stp} {k : Int} (h : kindOfR l cols = .ok k) : 0 ≤ k :=
 stackR_pos hc l [] [k] (fun x hx => by cases hx) (kindOfR_ok h).2.2.2.2 k (List.mem_singleton.2 rfl)
/-- of the kinds that are said -/
theorem kinds_law {q : Qry} {l ts : List Tbl} {b : Bnd} (h : BindIs q l b ts) :
  b.names.length = b.items.length ∧ b.kinds.length = b.items.length ∧ (∀ (j : Nat) x, b.items[j]? = some x → AnsOf (colsR b l) x (b.kinds.getD j 0)) ∧
  ((b.wher.length = 0 ∧ q.wher.length = 0) ∨ (b.wher.length ≠ 0 ∧ ∃ k, kindOfR b.wher (colsR b l) = .ok k ∧ (k = 1 ∨ k = 0))) := by
 obtain ⟨rn, rk, o1, o2, o3, _, o5⟩ := outB_ok h.out rfl rfl
 simp only [List.nil_append] at o1
 have en := congrArg Prod.fst o1
 have ek := congrArg Prod.snd o1
 simp only at en ek
 subst en ek
 rw [h.cols]
 refine ⟨o2, o3, o5, ?_⟩
 rcases whereR_ok h.wher with ⟨h1, h2⟩ | ⟨h1, k, h2, h3, h4⟩
 ·
  exact .inl ⟨by rw [h2]; rfl, h1⟩
 ·
  have hp := kindOfR_pos h.cols_pos h3
  have := nameStep_length h2
  exact .inr ⟨by simp at this; omega, k, h3, by omega⟩
/-- of no items: all columns -/
theorem outB_all {cols : List Clm} (hc : cols.length ≤ 8) : ∀ (m i : Nat) (ns : List ByteArray) (ks : List Int), i + m = cols.length →
  outB [] false cols ((List.range' i m).map fun (i : Nat) => Itm.mk 0 [Stp.mk 6 ⟨#[]⟩ (i : Int)]) i ns ks = .ok (ns ++ (cols.drop i).map Clm.nm, ks ++ (cols.drop i).map Clm.k)
 | 0, i, ns, ks, h => by
  have : cols.drop i = [] := List.drop_eq_nil_of_le (by omega)
  rw [this]
  simp [outB]
 | m + 1, i, ns, ks, h => by
  have hi : i < cols.length := by omega
  rw [List.range'_succ, List.map_cons, outB]
  have hk : kindOfR [Stp.mk 6 ⟨#[]⟩ (i : Int)] cols = .ok (cols.getD i noC).k := by
   rw [kindOfR_of (r := .ok [(cols.getD i noC).k]) (by simp [heightR, takesB_col]) (by simp) (by omega) (by simp [inR, emptyS_iff]; omega) (by simp [stackR])]
   rfl
  have hit : itemB [] false ⟨0, [Stp.mk 6 ⟨#[]⟩ (i : Int)]⟩ cols i = .ok ((cols.getD i noC).nm, (cols.getD i noC).k) := by
   unfold itemB
   rw [if_neg (by simp), if_neg (by simp), hk]
   simp [Ex.then, columnB]
  rw [hit]
  simp only [Ex.then]
  rw [outB_all hc m (i + 1) _ _ (by omega), List.drop_eq_getElem_cons hi, List.map_cons, List.map_cons]
  simp only [List.getD_eq_getElem?_getD, List.getElem?_eq_getElem hi, Option.getD_some, List.append_assoc, List.cons_append, List.nil_append]
theorem all_law {q : Qry} {l ts : List Tbl} {b : Bnd} (h : BindIs q l b ts) (hi : q.items = []) (hg : q.group = []) :
  b.grouped = false ∧ b.items = allItems (colsR b l).length ∧ b.names = (colsR b l).map Clm.nm ∧ b.kinds = (colsR b l).map Clm.k := by
 have h1 := h.items
 have h2 := h.group
 have h3 := h.grouped
 have h4 := h.out
 have h5 := h.few
 rw [hi] at h1 h3 h5
 rw [hg] at h2
 injection h2 with h2
 rw [← h2] at h3 h4
 have hgr : b.grouped = false := h3.trans (by decide)
 rw [if_pos (show ([] : List Itm).length = 0 from rfl)] at h1
 injection h1 with h1
 rw [hgr, ← h1, allItems, List.range_eq_range', outB_all (h5 rfl) _ 0 [] [] (by omega)] at h4
 injection h4 with h4
 rw [h.cols, h1]
 exact ⟨hgr, rfl, (congrArg Prod.fst h4).symm.trans (by simp), (congrArg Prod.snd h4).symm.trans (by simp)⟩
end Go.Proofs.YtgjfbbmachoolaaGreatDoor.lx
namespace Go.Proofs.YtgjfbbmachoolaaGreatDoor.lx
open Go.RowKit
set_option linter.unusedVariables false
set_option linter.unusedSimpArgs false

/-- a bound query that lies there -/
structure BndIn (b : Bnd) (wo ga ia na ka : Option Addr) (w : World) : Prop where
 wher : StpRow wo b.wher w
 group : IntRow ga b.group w
 items : ItmRow ia b.items w
 names : TxtRow na b.names w
 kinds : KRow ka b.kinds w
theorem BndIn.self {b : Bnd} {wo ga ia na ka : Option Addr} {w w' : World} (h : BndIn b wo ga ia na ka w) (hb : Below w.heap.size w w') : BndIn b wo ga ia na ka w' :=
 ⟨h.wher.self hb, h.group.self hb, h.items.self hb, h.names.self hb, h.kinds.self hb⟩
/-- a query's cells -/
def qryC (q : Qry) (io : Option Addr) (ic : Nat) (wo : Option Addr) (wc : Nat) (go : Option Addr) (gc : Nat) : Array Value := #[.slice io q.items.length ic, .string q.table, .string q.join, .string q.left, .string q.right, .slice wo q.wher.length wc, .slice go q.group.length gc]
/-- what is answered of a bound query, in its block; its groups and names lie in blocks made later -/
def BndR (hi : Nat) (r : Ex Bnd) (Bb : Nat) (y : Int) (w' : World) : Prop := match r with
 | .no z => y = z
 | .ok b => y = 0 ∧ ∃ wo wc ga gc ia ic na nc ka kc, w'.heap[Bb]? = some (.cells (bndC b.table b.join b.width b.left b.right wo b.wher.length wc ga b.group.length gc ia b.items.length ic b.grouped na b.names.length nc ka b.kinds.length kc) 32 (0, 0)) ∧ BndIn b wo ga ia na ka w' ∧
  (∀ g o, ga = some ⟨g, o, none⟩ → hi ≤ g) ∧ (∀ g o, na = some ⟨g, o, none⟩ → hi ≤ g) ∧ b.group.length ≤ gc
theorem ends_no {r : Ex Bnd} {hi Bb : Nat} {y : Int} {w w' : World} (h : Ex.no y = r) (hg : w.grownBy w' (some Bb)) : EndsP (fun y w' => BndR hi r Bb y w' ∧ w.grownBy w' (some Bb)) (.panicked [flE y]) w' := by
 subst h
 exact .inr ⟨y, rfl, rfl, hg⟩
theorem gbb_trans {w w1 w2 : World} {r : Option Nat} (h : w.grownBy w1 r) (k : w1.grownBy w2 r) : w.grownBy w2 r := gb_trans h k
theorem gbb_below {w w1 w2 : World} {b : Nat} (h : w.grownBy w1 (some b)) (k : Below w1.heap.size w1 w2) : w.grownBy w2 (some b) := gb_trans h (below_gb k)
/-- the tables and columns, while the bound query is written -/
theorem Scope.gb {S b : Nat} {ts : List Tbl} {w0 w w' : World} (h : Scope S ts w0 w) (hg : w.grownBy w' (some b)) (hb : w0.heap.size ≤ b) (hS : b < S) : Scope S ts w0 w' := by
 obtain ⟨tv, cv, h⟩ := h
 exact ⟨tv, cv, h.kept (below_gbB h.bel hg hb (by have := h.bel.size; omega)) fun k hk hk2 => hg.block k hk2 (by intro e; injection e; omega)⟩
theorem setB_gb {b j : Nat} {v : Value} {w : World} : w.grownBy (w.setCell ⟨b, j, none⟩ v) (some b) := gb_setB (Below.refl _ _) j v
theorem own_gbb {w w' : World} {B b n : Nat} {e : TypeId} {size : Nat} {v : Value} {xs : List Value} (h : w.ownsRow B e size v n xs) (hg : w.grownBy w' (some b)) (hb : b < B) : w'.ownsRow B e size v n xs :=
 own_keepA h fun k hk hk2 => hg.block k hk2 (by intro e; injection e; omega)
theorem kindR_nz {k : Int} {l : List Int} {y : Int} (h : kindR k l = .no y) : y ≠ 0 := by
 unfold kindR at h
 split at h <;> split at h <;> first | (cases h; decide) | cases h
theorem stackR_nz {cols : List Clm} : ∀ {l : List Stp} {st : List Int} {y : Int}, stackR cols l st = .no y → y ≠ 0
 | [], _, _, h => by cases h
 | s :: l, st, y, h => by
  rw [stackR] at h
  split at h
  ·
   exact stackR_nz h
  ·
   cases hk : kindR s.k (st.drop (st.length - (takesB s).1.toNat)) with
   | no z => rw [hk] at h; cases h; exact kindR_nz hk
   | ok z => rw [hk] at h; exact stackR_nz h
theorem kindOfR_nz {l : List Stp} {cols : List Clm} {y : Int} (h : kindOfR l cols = .no y) : y ≠ 0 := by
 unfold kindOfR at h
 split at h
 ·
  cases h; decide
 ·
  split at h
  ·
   cases h; decide
  ·
   split at h
   ·
    cases h; decide
   ·
    cases hs : stackR cols l [] with
    | no z => rw [hs] at h; cases h; exact stackR_nz hs
    | ok z => rw [hs] at h; cases h
/-- what is still to be bound: behind the groups, behind the condition, behind the join -/
def bindG (ts : List Tbl) (q : Qry) (j : Int × Int × Int) (wh : List Stp) (g : List Int) : Ex Bnd :=
 if q.items.length = 0 ∧ 8 < (scopeR ts).length then .no 3
 else (if q.items.length = 0 then .ok (allItems (scopeR ts).length) else itemsB ts g (groupedR g q.items) q.items []).then fun its => (outB g (groupedR g q.items) (scopeR ts) its 0 [] []).then fun o =>
  .ok ⟨q.table, q.join, j.1, j.2.1, j.2.2, wh, g, its, groupedR g q.items, o.1, o.2⟩
def bindW (ts : List Tbl) (q : Qry) (j : Int × Int × Int) (wh : List Stp) : Ex Bnd := (groupR ts q.group []).then (bindG ts q j wh)
def bindJ (ts : List Tbl) (q : Qry) (j : Int × Int × Int) : Ex Bnd := (whereR ts q.wher).then (bindW ts q j)
/-- the bound query's block on the way, from a world on -/
structure BSt (Bb : Nat) (wS : World) (cs : Array Value) (wx : World) : Prop where
 gb : wS.grownBy wx (some Bb)
 at_ : wx.heap[Bb]? = some (.cells cs 32 (0, 0))
theorem BSt.cell {Bb : Nat} {wS wx : World} {cs : Array Value} (h : BSt Bb wS cs wx) (j : Nat) (v : Value) (hv : cs[j]? = some v) : wx.cell? ⟨Bb, j, none⟩ = some v := by rw [Lib.cell_of_heap h.at_]; exact hv
theorem BSt.free {Bb : Nat} {wS wx : World} {cs : Array Value} (h : BSt Bb wS cs wx) : ∀ j, wx.frozen? ⟨Bb, j, none⟩ = false := Lib.frozen_of_heap h.at_
theorem BSt.lt {Bb : Nat} {wS wx : World} {cs : Array Value} (h : BSt Bb wS cs wx) : Bb < wx.heap.size := (Array.getElem?_eq_some_iff.1 h.at_).1
theorem BSt.next {Bb : Nat} {wS wx wy : World} {cs : Array Value} (h : BSt Bb wS cs wx) (hb : Below wx.heap.size wx wy) : BSt Bb wS cs wy := ⟨gbb_below h.gb hb, (hb.block _ h.lt).trans h.at_⟩
theorem BSt.set {Bb : Nat} {wS wx : World} {cs : Array Value} (h : BSt Bb wS cs wx) (j : Nat) (v : Value) : BSt Bb wS (cs.setIfInBounds j v) (wx.setCell ⟨Bb, j, none⟩ v) :=
 ⟨gbb_trans h.gb setB_gb, by simp [World.setCell, Array.getElem?_modify, h.at_]⟩
theorem BSt.own {Bb : Nat} {wS wx wy : World} {cs : Array Value} {v : Value} (h : BSt Bb wS cs wx) (hg : wx.grownBy wy v.ownBlock) (hv : ∀ k, v.ownBlock = some k → wS.heap.size ≤ k) (hb : Bb < wS.heap.size) : BSt Bb wS cs wy :=
 have hs := h.gb.size
 ⟨⟨hg.os.trans h.gb.os, hg.tape.trans h.gb.tape, hg.output.trans h.gb.output, Nat.le_trans hs hg.size, fun k hk hne => (hg.block k (by omega) (fun e => by have := hv k e.symm; omega)).trans (h.gb.block k hk hne)⟩,
  (hg.block Bb h.lt (fun e => by have := hv Bb e.symm; omega)).trans h.at_⟩
theorem StpRow.far {ao : Option Addr} {L : List Stp} {w w' : World} {row : Option Nat} (h : StpRow ao L w) (hf : ∀ b o, ao = some ⟨b, o, none⟩ → 0 < L.length → b < w.heap.size ∧ row ≠ some b) (hg : w.grownBy w' row) : StpRow ao L w' := by
 rcases h with h | ⟨b, o, h1, h2⟩
 ·
  exact .inl h
 ·
  by_cases h0 : L.length = 0
  ·
   exact .inl h0
  ·
   have ⟨k1, k2⟩ := hf b o h1 (by omega)
   refine .inr ⟨b, o, h1, fun i t ht => ?_⟩
   obtain ⟨c0, c1, c2⟩ := h2 i t ht
   exact ⟨(World.cell?_of_block (a := ⟨b, _, none⟩) (hg.block b k1 (Ne.symm k2))).trans c0, (World.cell?_of_block (a := ⟨b, _, none⟩) (hg.block b k1 (Ne.symm k2))).trans c1, (World.cell?_of_block (a := ⟨b, _, none⟩) (hg.block b k1 (Ne.symm k2))).trans c2⟩
/-- an item's expression, apart from the items' row and from the bound query -/
def ExP (Bb : Nat) (w : World) (iv : Value) (it : Itm) (v : Value) : Prop :=
 ∃ eo ec, v = .slice eo it.e.length ec ∧ StpRow eo it.e w ∧ ∀ g o, eo = some ⟨g, o, none⟩ → 0 < it.e.length → g < w.heap.size ∧ iv.ownBlock ≠ some g ∧ g ≠ Bb
/-- items of the call's own, whose expressions lie anywhere -/
def ItB (E Bb : Nat) (w : World) (its : List Itm) (iv : Value) : Prop :=
 ∃ vs : List Value, vs.length = its.length ∧ w.ownsRow E 40 2 iv its.length (itmCells its vs) ∧ ∀ (i : Nat) it v, its[i]? = some it → vs[i]? = some v → ExP Bb w iv it v
theorem ItB.nil {E Bb : Nat} {w : World} : ItB E Bb w [] (.slice none 0 0) := ⟨[], rfl, World.ownsRow_nil _ _ _ _, fun i it v h => by simp at h⟩
theorem ItB.row {E Bb : Nat} {w : World} {its : List Itm} {iv : Value} (h : ItB E Bb w its iv) : ∃ ao cap, iv = .slice ao its.length cap ∧ ItmRow ao its w := by
 obtain ⟨vs, hl, ho, hx⟩ := h
 obtain ⟨ao, cap, hv, _, h0⟩ := own_cells ho
 refine ⟨ao, cap, hv, ?_⟩
 rcases h0 with h0 | ⟨g, h1, _, _, h2⟩
 ·
  exact .inl h0
 ·
  refine .inr ⟨g, 0, h1, fun i it hi => ?_⟩
  have hil := (List.getElem?_eq_some_iff.1 hi).1
  obtain ⟨v, hvi⟩ : ∃ v, vs[i]? = some v := ⟨_, List.getElem?_eq_getElem (by omega)⟩
  obtain ⟨a, b⟩ := itmCells_at its vs i it v hi hvi
  obtain ⟨eo, ec, he, hr, _⟩ := hx i it v hi hvi
  subst he
  simp only [Nat.zero_add]
  exact ⟨eo, ec, h2 _ _ a, h2 _ _ b, hr⟩
theorem ItB.far {E Bb : Nat} {w w' : World} {its : List Itm} {iv : Value} (h : ItB E Bb w its iv) (hg : w.grownBy w' (some Bb)) (hb : Bb < E) : ItB E Bb w' its iv := by
 obtain ⟨vs, hl, ho, hx⟩ := h
 refine ⟨vs, hl, own_gbb ho hg hb, fun i it v h1 h2 => ?_⟩
 obtain ⟨eo, ec, hv, hr, hs⟩ := hx i it v h1 h2
 exact ⟨eo, ec, hv, hr.far (fun b o h3 h4 => ⟨(hs b o h3 h4).1, fun e => (hs b o h3 h4).2.2 (Option.some.inj e).symm⟩) hg, fun g o h3 h4 => ⟨Nat.lt_of_lt_of_le (hs g o h3 h4).1 hg.size, (hs g o h3 h4).2⟩⟩
theorem ItB.app {E Bb : Nat} {w1 w' : World} {its : List Itm} {it : Itm} {iv v v' : Value} {vs : List Value} (hl : vs.length = its.length) (hx : ∀ (i : Nat) it v, its[i]? = some it → vs[i]? = some v → ExP Bb w1 iv it v) (hi : ExP Bb w1 iv it v)
  (ho : w'.ownsRow E 40 2 v' (its.length + 1) (itmCells its vs ++ [.int .u8 it.agg, v])) (hg : w1.grownBy w' iv.ownBlock) (hat : v'.ownBlock = iv.ownBlock ∨ v'.ownBlock = some w1.heap.size) : ItB E Bb w' (its ++ [it]) v' := by
 have key : ∀ it v, ExP Bb w1 iv it v → ExP Bb w' v' it v := by
  rintro it v ⟨eo, ec, hv, hr, hs⟩
  refine ⟨eo, ec, hv, hr.far (fun b o h3 h4 => ⟨(hs b o h3 h4).1, (hs b o h3 h4).2.1⟩) hg, fun g o h3 h4 => ?_⟩
  obtain ⟨s1, s2, s3⟩ := hs g o h3 h4
  refine ⟨Nat.lt_of_lt_of_le s1 hg.size, ?_, s3⟩
  rcases hat with hat | hat
  ·
   rw [hat]; exact s2
  ·
   rw [hat]; intro e; injection e with e; omega
 refine ⟨vs ++ [v], by simp [hl], ?_, fun i it' v' h1 h2 => ?_⟩
 ·
  rw [itmCells_snoc its vs it v hl, List.length_append]
  exact ho
 ·
  by_cases hil : i < its.length
  ·
   rw [List.getElem?_append_left hil] at h1
   rw [List.getElem?_append_left (by omega)] at h2
   exact key _ _ (hx i it' v' h1 h2)
  ·
   have he : i = its.length := by
    have := (List.getElem?_eq_some_iff.1 h1).1
    simp at this
    omega
   subst he
   rw [List.getElem?_append_right (Nat.le_refl _), Nat.sub_self] at h1
   rw [← hl, List.getElem?_append_right (Nat.le_refl _), Nat.sub_self] at h2
   simp at h1 h2
   subst h1 h2
   exact key _ _ hi
theorem ExP.next {Bb : Nat} {w w' : World} {iv v : Value} {it : Itm} (h : ExP Bb w iv it v) (hb : Below w.heap.size w w') : ExP Bb w' iv it v := by
 obtain ⟨eo, ec, hv, hr, hs⟩ := h
 exact ⟨eo, ec, hv, hr.self hb, fun g o h3 h4 => ⟨Nat.lt_of_lt_of_le (hs g o h3 h4).1 hb.size, (hs g o h3 h4).2⟩⟩
theorem lies_twoB {w : World} {a b : Value} {t : TypeId} {B : Nat} (hB : w.heap.size = B) (ha : a.oneCell' = true) (hb : b.oneCell' = true) : Lies 2 (some ⟨B, 0, none⟩) 1 [a, b] (w.alloc (.cells #[a, b] t)) := by
 subst hB
 refine ⟨rfl, fun u hu => by simp at hu; rcases hu with rfl | rfl <;> assumption, .inr ⟨_, _, rfl, fun j u hj => ?_⟩⟩
 rw [Lib.cell_of_heap (heap_alloc_new w (.cells #[a, b] t)), Nat.zero_add]
 match j, hj with
 | 0, hj => exact hj
 | 1, hj => exact hj
 | (j + 2), hj => simp at hj
theorem allItems_succ (n : Nat) : allItems (n + 1) = allItems n ++ [Itm.mk 0 [Stp.mk 6 ⟨#[]⟩ (n : Int)]] := by
 unfold allItems
 rw [List.range_succ, List.map_append]
 rfl
/-- an item that is one column, made now -/
theorem ExP.made {Bb : Nat} {w w' : World} {iv : Value} {k : Int} (hb : Bb < w.heap.size) (hv : ∀ g, iv.ownBlock = some g → g < w.heap.size) (hw : Below (w.heap.size + 1) (w.alloc (.cells #[.int .u8 6, .string ⟨#[]⟩, .int .i64 k] 50)) w') :
  ExP Bb w' iv (Itm.mk 0 [Stp.mk 6 ⟨#[]⟩ k]) (.slice (some ⟨w.heap.size, 0, none⟩) 1 1) := by
 have hn := (hw.block w.heap.size (by omega)).trans (heap_alloc_new w (.cells #[.int .u8 6, .string ⟨#[]⟩, .int .i64 k] 50))
 refine ⟨some ⟨w.heap.size, 0, none⟩, 1, rfl, .inr ⟨w.heap.size, 0, rfl, fun i t ht => ?_⟩, fun g o hg _ => ?_⟩
 ·
  match i, ht with
  | 0, ht =>
   simp at ht
   subst ht
   refine ⟨?_, ?_, ?_⟩ <;> (rw [Lib.cell_of_heap hn]; rfl)
  | (i + 1), ht => simp at ht
 ·
  injection hg with hg
  injection hg with hg1 hg2
  subst hg1
  exact ⟨(Array.getElem?_eq_some_iff.1 hn).1, fun e => by have := hv _ e; omega, by omega⟩
theorem nameStep_okB {ts : List Tbl} : ∀ {l out el : List Stp}, nameStep ts l out = .ok el → StpsOk l → StpsOk out → StpsOk el ∧ el.length = out.length + l.length
 | [], out, el, h, _, ho => by
  cases h
  exact ⟨ho, rfl⟩
 | s :: l, out, el, h, hl, ho => by
  rw [nameStep] at h
  have hl2 : StpsOk l := fun t ht => hl t (List.mem_cons_of_mem _ ht)
  split at h
  ·
   obtain ⟨n, _, h2⟩ := Ex.then_ok h
   obtain ⟨a, b⟩ := nameStep_okB h2 hl2 (fun t ht => by
    rcases List.mem_append.1 ht with ht | ht
    ·
     exact ho t ht
    ·
     rw [List.mem_singleton.1 ht]
     exact ⟨(by show (0 : Nat) < _; decide), (by show (0 : Int) ≤ 6; decide), (by show (6 : Int) ≤ 255; decide)⟩)
   refine ⟨a, ?_⟩
   rw [b, List.length_append, List.length_cons]
   simp
   omega
  ·
   obtain ⟨a, b⟩ := nameStep_okB h hl2 (fun t ht => by
    rcases List.mem_append.1 ht with ht | ht
    ·
     exact ho t ht
    ·
     rw [List.mem_singleton.1 ht]
     exact hl s (List.mem_cons_self ..))
   refine ⟨a, ?_⟩
   rw [b, List.length_append, List.length_cons]
   simp
   omega
theorem sbindR_okB {ts : List Tbl} {l el : List Stp} {k : Int} (h : sbindR ts l = .ok (el, k)) (hl : StpsOk l) : StpsOk el ∧ el.length = l.length := by
 unfold sbindR at h
 obtain ⟨o, h1, h2⟩ := Ex.then_ok h
 obtain ⟨k', _, h3⟩ := Ex.then_ok h2
 cases h3
 obtain ⟨a, b⟩ := nameStep_okB h1 hl (fun t ht => by cases ht)
 exact ⟨a, by simpa using b⟩
theorem itemsB_step (ts : List Tbl) (g : List Int) (gr : Bool) (x : Itm) (l its : List Itm) : itemsB ts g gr (x :: l) its = (if x.agg = 1 then .ok (x.e, 0) else sbindR ts x.e).then fun e => (itemB g gr ⟨x.agg, e.1⟩ (scopeR ts) 0).then fun _ => itemsB ts g gr l (its ++ [⟨x.agg, e.1⟩]) := rfl
/-- an expression that came in, apart -/
theorem ExP.came {Bb : Nat} {w00 w : World} {iv : Value} {it : Itm} {eo : Option Addr} {ec : Nat} (h : StpRow eo it.e w00) (hb : Below w00.heap.size w00 w) (hB : w00.heap.size ≤ Bb) (hv : ∀ g, iv.ownBlock = some g → w00.heap.size ≤ g) : ExP Bb w iv it (.slice eo it.e.length ec) := by
 refine ⟨eo, ec, rfl, h.self hb, fun g o hg h0 => ?_⟩
 have := h.lt g o hg h0
 have := hb.size
 exact ⟨by omega, fun e => by have := hv g e; omega, by omega⟩
/-- an expression that is the call's own, apart -/
theorem ExP.bound {Bb B : Nat} {w : World} {iv : Value} {it : Itm} {eo : Option Addr} {ec : Nat} (h : w.ownsRow B 50 3 (.slice eo it.e.length ec) it.e.length (stpCells it.e)) (hB : Bb < B) (hv : ∀ g, iv.ownBlock = some g → g < B) : ExP Bb w iv it (.slice eo it.e.length ec) := by
 obtain ⟨ao, cp, hv2, hr⟩ := own_stps h
 injection hv2 with h1 _ h3
 subst h1 h3
 refine ⟨eo, ec, rfl, hr, fun g o hg h0 => ?_⟩
 have hl := own_lt h g (by rw [hg]; rfl)
 have hb := own_base h g (by rw [hg]; rfl)
 exact ⟨hl, fun e => by have := hv g e; omega, by omega⟩
/-- what is still to be bound, behind the items -/
def bindO (ts : List Tbl) (q : Qry) (j : Int × Int × Int) (wh : List Stp) (g : List Int) (gr : Bool) (its : List Itm) : Ex Bnd :=
 (outB g gr (scopeR ts) its 0 [] []).then fun o => .ok ⟨q.table, q.join, j.1, j.2.1, j.2.2, wh, g, its, gr, o.1, o.2⟩
theorem ItB.next {E Bb : Nat} {w w' : World} {its : List Itm} {iv : Value} (h : ItB E Bb w its iv) (hb : Below w.heap.size w w') (hE : Bb < E) : ItB E Bb w' its iv := h.far (below_gb hb) hE
/-- items whose texts are a model's -/
def ItsOk (its : List Itm) : Prop := ∀ it ∈ its, StpsOk it.e ∧ it.e.length ≤ 1099511627776 ∧ 0 ≤ it.agg
theorem ItsOk.snoc {its : List Itm} {it : Itm} (h : ItsOk its) (hi : StpsOk it.e ∧ it.e.length ≤ 1099511627776 ∧ 0 ≤ it.agg) : ItsOk (its ++ [it]) := fun x hx => by
 rcases List.mem_append.1 hx with hx | hx
 ·
  exact h x hx
 ·
  rw [List.mem_singleton.1 hx]; exact hi
theorem itsOk_col (k : Int) : StpsOk (Itm.mk 0 [Stp.mk 6 ⟨#[]⟩ k]).e ∧ (Itm.mk 0 [Stp.mk 6 ⟨#[]⟩ k]).e.length ≤ 1099511627776 ∧ 0 ≤ (Itm.mk 0 [Stp.mk 6 ⟨#[]⟩ k]).agg :=
 ⟨fun t ht => by
  rw [List.mem_singleton.1 ht]
  exact ⟨(by show (0 : Nat) < _; decide), (by show (0 : Int) ≤ 6; decide), (by show (6 : Int) ≤ 255; decide)⟩, (by show 1 ≤ 1099511627776; decide), (by show (0 : Int) ≤ 0; decide)⟩
/-- names and kinds of the call's own, apart -/
structure NK (E : Nat) (w : World) (ns : List ByteArray) (ks : List Int) (nv kv : Value) : Prop where
 n : w.ownsRow E 9 1 nv ns.length (ns.map Value.string)
 k : w.ownsRow E 45 1 kv ks.length (kCells ks)
 sep : ∀ b, nv.ownBlock = some b → kv.ownBlock = some b → False
theorem NK.nil {E : Nat} {w : World} : NK E w [] [] (.slice none 0 0) (.slice none 0 0) := ⟨World.ownsRow_nil _ _ _ _, World.ownsRow_nil _ _ _ _, fun b h => by cases h⟩
theorem NK.next {E : Nat} {w w' : World} {ns : List ByteArray} {ks : List Int} {nv kv : Value} (h : NK E w ns ks nv kv) (hb : Below w.heap.size w w') : NK E w' ns ks nv kv :=
 ⟨own_keepA h.n fun k _ hk => hb.block k hk, own_keepA h.k fun k _ hk => hb.block k hk, h.sep⟩
theorem NK.gb {E b : Nat} {w w' : World} {ns : List ByteArray} {ks : List Int} {nv kv : Value} (h : NK E w ns ks nv kv) (hg : w.grownBy w' (some b)) (hb : b < E) : NK E w' ns ks nv kv :=
 ⟨own_gbb h.n hg hb, own_gbb h.k hg hb, h.sep⟩
theorem NK.putN {E : Nat} {w w' : World} {ns : List ByteArray} {ks : List Int} {nv kv v' : Value} {s : ByteArray} (h : NK E w ns ks nv kv) (ho : w'.ownsRow E 9 1 v' (ns.length + 1) (ns.map Value.string ++ [.string s])) (hg : w.grownBy w' nv.ownBlock) (hat : v'.ownBlock = nv.ownBlock ∨ v'.ownBlock = some w.heap.size) : NK E w' (ns ++ [s]) ks v' kv :=
 ⟨by rw [List.length_append, List.map_append]; exact ho, own_apart h.k hg h.sep, fun b h1 h2 => by
  rcases hat with e | e
  ·
   exact h.sep b (e ▸ h1) h2
  ·
   have := own_lt h.k b h2
   rw [e] at h1
   injection h1 with h1
   omega⟩
theorem NK.putK {E : Nat} {w w' : World} {ns : List ByteArray} {ks : List Int} {nv kv v' : Value} {k : Int} (h : NK E w ns ks nv kv) (ho : w'.ownsRow E 45 1 v' (ks.length + 1) (kCells ks ++ [.int .u8 k])) (hg : w.grownBy w' kv.ownBlock) (hat : v'.ownBlock = kv.ownBlock ∨ v'.ownBlock = some w.heap.size) : NK E w' ns (ks ++ [k]) nv v' :=
 ⟨own_apart h.n hg (fun b h1 h2 => h.sep b h2 h1), by rw [List.length_append]; unfold kCells at ho ⊢; rw [List.map_append]; exact ho, fun b h1 h2 => by
  rcases hat with e | e
  ·
   exact h.sep b h1 (e ▸ h2)
  ·
   have := own_lt h.n b h1
   rw [e] at h2
   injection h2 with h2
   omega⟩
/-- what is still to be bound, behind some names and kinds -/
def bindE (ts : List Tbl) (q : Qry) (j : Int × Int × Int) (wh : List Stp) (g : List Int) (gr : Bool) (its l : List Itm) (i : Nat) (ns : List ByteArray) (ks : List Int) : Ex Bnd :=
 (outB g gr (scopeR ts) l i ns ks).then fun o => .ok ⟨q.table, q.join, j.1, j.2.1, j.2.2, wh, g, its, gr, o.1, o.2⟩
theorem bindE_step (ts : List Tbl) (q : Qry) (j : Int × Int × Int) (wh : List Stp) (g : List Int) (gr : Bool) (its : List Itm) (x : Itm) (l : List Itm) (i : Nat) (ns : List ByteArray) (ks : List Int) :
  bindE ts q j wh g gr its (x :: l) i ns ks = (itemB g gr x (scopeR ts) i).then fun r => bindE ts q j wh g gr its l (i + 1) (ns ++ [r.1]) (ks ++ [r.2]) := by
 unfold bindE
 rw [outB]
 cases itemB g gr x (scopeR ts) i <;> rfl
theorem Lies.self {size m : Nat} {ao : Option Addr} {news : List Value} {w w' : World} (h : Lies size ao m news w) (hb : Below w.heap.size w w') : Lies size ao m news w' := by
 obtain ⟨h1, h2, h3⟩ := h
 refine ⟨h1, h2, ?_⟩
 rcases h3 with h3 | ⟨b, o, h4, h5⟩
 ·
  exact .inl h3
 ·
  exact .inr ⟨b, o, h4, fun j u hj => keep_cellP hb (h5 j u hj)⟩
theorem Lies.far {size m B : Nat} {news : List Value} {w w' : World} {row : Option Nat} (h : Lies size (some ⟨B, 0, none⟩) m news w) (hg : w.grownBy w' row) (hB : B < w.heap.size) (hr : row ≠ some B) : Lies size (some ⟨B, 0, none⟩) m news w' := by
 obtain ⟨h1, h2, h3⟩ := h
 refine ⟨h1, h2, ?_⟩
 rcases h3 with h3 | ⟨b, o, h4, h5⟩
 ·
  exact .inl h3
 ·
  injection h4 with h4
  injection h4 with h6 h7
  subst h6 h7
  exact .inr ⟨B, 0, rfl, fun j u hj => (World.cell?_of_block (a := ⟨B, 0 + j, none⟩) (hg.block B hB (Ne.symm hr))).trans (h5 j u hj)⟩
theorem citem_bad {n : Nat} {args : Array Value} {w : World} {y : Int} {r : Ex (ByteArray × Int)} (hR : r = .no y) (h : Calls Tryz.prog n args w fun e w' => CItemP r e ∧ Below w.heap.size w w') : Calls Tryz.prog n args w fun e w' => e = .panicked [flE y] ∧ Below w.heap.size w w' := by
 subst hR
 exact h
theorem citem_ok {n : Nat} {args : Array Value} {w : World} {s : ByteArray} {k : Int} {r : Ex (ByteArray × Int)} (hR : r = .ok (s, k)) (h : Calls Tryz.prog n args w fun e w' => CItemP r e ∧ Below w.heap.size w w') : Calls Tryz.prog n args w fun e w' => e = .returned (.tuple #[.string s, .int .u8 k]) ∧ Below w.heap.size w w' := by
 subst hR
 exact h
theorem BSt.eq {Bb : Nat} {wS wx : World} {cs cs' : Array Value} (h : BSt Bb wS cs wx) (he : cs = cs') : BSt Bb wS cs' wx := he ▸ h
theorem findR_14 {ts : List Tbl} {s : ByteArray} {y : Int} (h : findR ts s = .no y) : y = 14 := by
 rw [findR_eq] at h
 unfold oneR at h
 split at h
 ·
  cases h
 ·
  cases h; rfl
theorem openR_len {l : List Tbl} {ns : List ByteArray} {ts : List Tbl} (h : openR l ns [] = .ok ts) : ts.length = ns.length := by
 rw [(openR_ok h).1]
 simp
theorem openR_mem {l : List Tbl} {ns : List ByteArray} {ts : List Tbl} (h : openR l ns [] = .ok ts) : ∀ t ∈ ts, t ∈ l := by
 obtain ⟨e, hm⟩ := openR_ok h
 intro t ht
 rw [e, List.nil_append] at ht
 obtain ⟨n, hn, rfl⟩ := List.mem_map.1 ht
 obtain ⟨u, hu⟩ := hm n hn
 rw [hu]
 exact List.mem_of_find?_eq_some hu
theorem scope_len {ts : List Tbl} (h : ∀ t ∈ ts, t.cols.length ≤ 1099511627776) : (scopeR ts).length ≤ ts.length * 1099511627776 := by
 induction ts with
 | nil => simp [scopeR]
 | cons t ts ih =>
  have h1 := h t (List.mem_cons_self ..)
  have h2 := ih fun u hu => h u (List.mem_cons_of_mem _ hu)
  rw [show scopeR (t :: ts) = t.cols ++ scopeR ts from by simp [scopeR], List.length_append, List.length_cons]
  omega
/-! an error's number is none of a success -/
theorem Ex.then_no {α β : Type} {r : Ex α} {f : α → Ex β} {y : Int} (h : r.then f = .no y) : r = .no y ∨ ∃ x, r = .ok x ∧ f x = .no y := by
 cases r with
 | ok x => exact .inr ⟨x, rfl, h⟩
 | no z => cases h; exact .inl rfl
theorem findR_nz {ts : List Tbl} {s : ByteArray} {y : Int} (h : findR ts s = .no y) : y ≠ 0 := by rw [findR_14 h]; decide
theorem nameStep_nz {ts : List Tbl} : ∀ {l o : List Stp} {y : Int}, nameStep ts l o = .no y → y ≠ 0
 | [], _, _, h => by cases h
 | s :: l, o, y, h => by
  rw [nameStep] at h
  split at h
  ·
   rcases Ex.then_no h with h | ⟨_, _, h⟩
   ·
    exact findR_nz h
   ·
    exact nameStep_nz h
  ·
   exact nameStep_nz h
theorem sbindR_nz {ts : List Tbl} {l : List Stp} {y : Int} (h : sbindR ts l = .no y) : y ≠ 0 := by
 unfold sbindR at h
 rcases Ex.then_no h with h | ⟨_, _, h⟩
 ·
  exact nameStep_nz h
 ·
  rcases Ex.then_no h with h | ⟨_, _, h⟩
  ·
   exact kindOfR_nz h
  ·
   cases h
theorem itemB_nz {g : List Int} {gr : Bool} {x : Itm} {C : List Clm} {i : Nat} {y : Int} (h : itemB g gr x C i = .no y) : y ≠ 0 := by
 unfold itemB at h
 split at h
 ·
  cases h; decide
 ·
  split at h
  ·
   split at h
   ·
    cases h
   ·
    cases h; decide
  ·
   rcases Ex.then_no h with h | ⟨_, _, h⟩
   ·
    exact kindOfR_nz h
   ·
    split at h
    ·
     cases h; decide
    ·
     split at h
     ·
      cases h; decide
     ·
      cases h
theorem openR_nz {l : List Tbl} : ∀ {ns : List ByteArray} {o : List Tbl} {y : Int}, openR l ns o = .no y → y ≠ 0
 | [], _, _, h => by cases h
 | n :: ns, o, y, h => by
  rw [openR] at h
  split at h
  ·
   exact openR_nz h
  ·
   cases h; decide
theorem groupR_nz {ts : List Tbl} : ∀ {l : List ByteArray} {o : List Int} {y : Int}, groupR ts l o = .no y → y ≠ 0
 | [], _, _, h => by cases h
 | g :: l, o, y, h => by
  rw [groupR] at h
  rcases Ex.then_no h with h | ⟨_, _, h⟩
  ·
   exact findR_nz h
  ·
   split at h
   ·
    cases h; decide
   ·
    exact groupR_nz h
theorem joinB_nz {ts : List Tbl} {q : Qry} {y : Int} (h : joinB' ts q = .no y) : y ≠ 0 := by
 unfold joinB' at h
 split at h
 ·
  cases h
 ·
  rcases Ex.then_no h with h | ⟨_, _, h⟩
  ·
   exact findR_nz h
  ·
   rcases Ex.then_no h with h | ⟨_, _, h⟩
   ·
    exact findR_nz h
   ·
    simp only at h
    split at h
    ·
     cases h
    ·
     cases h; decide
theorem whereR_nz {ts : List Tbl} {l : List Stp} {y : Int} (h : whereR ts l = .no y) : y ≠ 0 := by
 unfold whereR at h
 split at h
 ·
  cases h
 ·
  rcases Ex.then_no h with h | ⟨_, _, h⟩
  ·
   exact sbindR_nz h
  ·
   split at h
   ·
    cases h
   ·
    cases h; decide
theorem itemsB_nz {ts : List Tbl} {g : List Int} {gr : Bool} : ∀ {l o : List Itm} {y : Int}, itemsB ts g gr l o = .no y → y ≠ 0
 | [], _, _, h => by cases h
 | x :: l, o, y, h => by
  rw [itemsB_step] at h
  rcases Ex.then_no h with h | ⟨_, _, h⟩
  ·
   split at h
   ·
    cases h
   ·
    exact sbindR_nz h
  ·
   rcases Ex.then_no h with h | ⟨_, _, h⟩
   ·
    exact itemB_nz h
   ·
    exact itemsB_nz h
theorem outB_nz {g : List Int} {gr : Bool} {C : List Clm} : ∀ {l : List Itm} {i : Nat} {ns : List ByteArray} {ks : List Int} {y : Int}, outB g gr C l i ns ks = .no y → y ≠ 0
 | [], _, _, _, _, h => by cases h
 | x :: l, i, ns, ks, y, h => by
  rw [outB] at h
  rcases Ex.then_no h with h | ⟨_, _, h⟩
  ·
   exact itemB_nz h
  ·
   exact outB_nz h
theorem bindR_nz {q : Qry} {l : List Tbl} {y : Int} (h : bindR q l = .no y) : y ≠ 0 := by
 unfold bindR at h
 split at h
 ·
  rename_i hc; cases h; exact hc
 ·
  split at h
  ·
   rename_i hc; cases h; exact hc
  ·
   rcases Ex.then_no h with h | ⟨_, _, h⟩
   ·
    exact openR_nz h
   rcases Ex.then_no h with h | ⟨_, _, h⟩
   ·
    exact joinB_nz h
   rcases Ex.then_no h with h | ⟨_, _, h⟩
   ·
    exact whereR_nz h
   rcases Ex.then_no h with h | ⟨_, _, h⟩
   ·
    exact groupR_nz h
   simp only at h
   split at h
   ·
    cases h; decide
   rcases Ex.then_no h with h | ⟨_, _, h⟩
   ·
    split at h
    ·
     cases h
    ·
     exact itemsB_nz h
   rcases Ex.then_no h with h | ⟨_, _, h⟩
   ·
    exact outB_nz h
   cases h
end Go.Proofs.YtgjfbbmachoolaaGreatDoor.lx
namespace Go.Proofs.YtgjfbbmachoolaaGreatDoor.lx
open Go
section
variable {P : Program} {ops : Array Oper} {Q : Exit → Act → World → Prop} {md : Region.Mode} {S : World → Prop} {u : Nat}

/-- whatever order is picked from here on; S holds behind every operation up to number u, which is the last to be held -/
def wpAnyT (P : Program) (md : Region.Mode) (ops : Array Oper) (Q : Exit → Act → World → Prop) (S : World → Prop) (u : Nat) : Nat → Array Bool → Act → World → Prop
 | 0, listed, a, w => wpAny P md ops Q 0 listed a w
 | fuel + 1, listed, a, w => if listed.getD u false = true then wpAny P md ops Q (fuel + 1) listed a w else
  (Region.ready md ops listed = [] → Q .normal a w) ∧
  ∀ i ∈ Region.ready md ops listed, wpOp P ops Q i (fun a' w' => S w' ∧ wpAnyT P md ops Q S u fuel (listed.setIfInBounds i true) a' w') a w

theorem wpAnyT_any : ∀ (fuel : Nat) (listed : Array Bool) (a : Act) (w : World), wpAnyT P md ops Q S u fuel listed a w → wpAny P md ops Q fuel listed a w
 | 0, _, _, _, h => h
 | fuel + 1, _, _, _, h => by
  unfold wpAnyT at h
  split at h
  ·
   exact h
  ·
   exact ⟨h.1, fun i hi => wpOp_mono (fun a' w' h' => wpAnyT_any fuel _ a' w' h'.2) (h.2 i hi)⟩

theorem getD_flip {l : Array Bool} {j : Nat} (h : l.getD j true = false) : ¬ l.getD j false = true := by
 intro h2
 rcases Nat.lt_or_ge j l.size with h' | h'
 ·
  simp [h'] at h h2
  rw [h] at h2
  cases h2
 ·
  simp [Array.getElem?_eq_none h'] at h

/-- the operations D wait for number i, each by itself or by one of D -/
def waits (md : Region.Mode) (ops : Array Oper) (i : Nat) (D : List Nat) : Bool :=
 D.all fun j => j != i && match ops[j]? with | some o => o.after.any (fun e => Region.binds md e && (e.on == i || D.contains e.on)) | none => false

theorem waits_spec {i j : Nat} {D : List Nat} (h : waits md ops i D = true) (hj : j ∈ D) : j ≠ i ∧ ∃ o, ops[j]? = some o ∧ ∃ e ∈ o.after, Region.binds md e = true ∧ (e.on = i ∨ e.on ∈ D) := by
 unfold waits at h
 rw [List.all_eq_true] at h
 have h1 := h j hj
 rw [Bool.and_eq_true] at h1
 obtain ⟨h2, h3⟩ := h1
 refine ⟨by simpa using h2, ?_⟩
 cases ho : ops[j]? with
 | none => rw [ho] at h3; cases h3
 | some o =>
  rw [ho] at h3
  refine ⟨o, rfl, ?_⟩
  obtain ⟨e, he, hb⟩ := Array.any_eq_true'.1 h3
  simp only [Bool.and_eq_true, Bool.or_eq_true, beq_iff_eq] at hb
  exact ⟨e, he, hb.1, hb.2.imp id (by simp)⟩

theorem wpAnyT_first {i : Nat} {oi : Oper} {v : Value} {D : List Nat} (hu : u ∈ D) (hD : waits md ops i D = true) (hi : ops[i]? = some oi) (hsel : ∀ (j : Nat) (o : Oper) cs b, ops[j]? = some o → o.op ≠ .select cs b)
  (hQ : ∀ c a w, Q (.panic c) (a.put oi.dst v) w → Q (.panic c) a w) :
  ∀ (fuel : Nat) (listed : Array Bool) (a : Act) (w : World), (∀ j ∈ D, listed.getD j true = false) →
   (∀ j oj, ops[j]? = some oj → j ≠ i → listed.getD j true = false → (∀ e ∈ oj.after, Region.binds md e = true → e.on ≠ i) → oi.apart ops oj = true) →
   i ∈ Region.ready md ops listed → YieldsIf P ops S oi v a → S w →
   wpAnyT P md ops Q S u fuel (listed.setIfInBounds i true) (a.put oi.dst v) w → wpAnyT P md ops Q S u (fuel + 1) listed a w := by
 intro fuel
 induction fuel with
 | zero =>
  intro listed a w hun _ hr hy hS H
  unfold wpAnyT
  rw [if_neg (getD_flip (hun u hu))]
  refine ⟨fun h => (by rw [h] at hr; cases hr), fun j hj => ?_⟩
  by_cases hji : j = i
  ·
   subst hji; exact hy.wpOp hi hS ⟨hS, H⟩
  ·
   have := ready_mono hj hji
   unfold wpAnyT wpAny at H
   rw [H.1] at this
   cases this
 | succ fuel ih =>
  intro listed a w hun hfree hr hy hS H
  have H0 := H
  unfold wpAnyT at H
  rw [getD_set_ne false (Ne.symm (waits_spec hD hu).1), if_neg (getD_flip (hun u hu))] at H
  unfold wpAnyT
  rw [if_neg (getD_flip (hun u hu))]
  refine ⟨fun h => (by rw [h] at hr; cases hr), fun j hj => ?_⟩
  by_cases hji : j = i
  ·
   subst hji; exact hy.wpOp hi hS ⟨hS, H0⟩
  ·
   have h1 := H.2 j (ready_mono hj hji)
   obtain ⟨hjun, oj, hoj, hall⟩ := mem_ready.1 hj
   have hiun := (mem_ready.1 hr).1
   have hjD : j ∉ D := fun hjd => by
    obtain ⟨_, o, ho, e, he, hb, hor⟩ := waits_spec hD hjd
    rw [hoj] at ho
    cases ho
    have h5 := hall e he hb
    rcases hor with h6 | h6
    ·
     rw [h6] at h5; exact getD_flip hiun h5
    ·
     exact getD_flip (hun _ h6) h5
   have hnot : ∀ e ∈ oj.after, Region.binds md e = true → e.on ≠ i := fun e he hb heq => by
    have h1 := hall e he hb
    rw [heq] at h1
    exact getD_flip hiun h1
   have h2 := wpOp_putIf hoj (hfree j oj hoj hji hjun hnot) (fun cs b => hsel i oi cs b hi) (fun cs b => hsel j oj cs b hoj) hQ hy h1
   have hfree' : ∀ k ok, ops[k]? = some ok → k ≠ i → (listed.setIfInBounds j true).getD k true = false →
     (∀ e ∈ ok.after, Region.binds md e = true → e.on ≠ i) → oi.apart ops ok = true := fun k ok hk hki hun hno => by
    refine hfree k ok hk hki ?_ hno
    by_cases hjk : j = k
    ·
     subst hjk; exact hjun
    ·
     rw [getD_set_ne true hjk] at hun; exact hun
   have hun' : ∀ k ∈ D, (listed.setIfInBounds j true).getD k true = false := fun k hk => by
    rw [getD_set_ne true (fun (e : j = k) => hjD (by rw [e]; exact hk))]
    exact hun k hk
   refine wpOp_mono (fun a' w' h3 => ⟨h3.2.1, ih (listed.setIfInBounds j true) a' w' hun' hfree' (ready_mono hr (Ne.symm hji)) h3.1 h3.2.1 ?_⟩) h2
   rw [Array.setIfInBounds_comm _ _ hji]
   exact h3.2.2

theorem wpAnyT_take {i : Nat} {oi : Oper} {v : Value} {fuel : Nat} {listed : Array Bool} {a : Act} {w : World} (D : List Nat) (hu : D.contains u = true) (hD : waits md ops i D = true) (hun : (D.all fun j => !listed.getD j true) = true) (hi : ops[i]? = some oi)
  (hs : Region.noSelect ops = true) (hf : Region.free md ops listed i = true) (hr : (Region.ready md ops listed).contains i = true)
  (hQ : ∀ c a w, Q (.panic c) (a.put oi.dst v) w → Q (.panic c) a w) (hy : YieldsIf P ops S oi v a) (hS : S w)
  (h : wpAnyT P md ops Q S u fuel (listed.setIfInBounds i true) (a.put oi.dst v) w) : wpAnyT P md ops Q S u (fuel + 1) listed a w :=
 wpAnyT_first (by simpa using hu) hD hi (Region.noSelect_spec hs) hQ fuel listed a w (fun j hj => by have := List.all_eq_true.1 hun j hj; simpa using this) (Region.free_spec hi hf) (by simpa using hr) hy hS h

theorem wpAnyT_firstY {i : Nat} {oi : Oper} {v : Value} (hi : ops[i]? = some oi) (hsel : ∀ (j : Nat) (o : Oper) cs b, ops[j]? = some o → o.op ≠ .select cs b)
  (hQ : ∀ c a w, Q (.panic c) (a.put oi.dst v) w → Q (.panic c) a w) :
  ∀ (fuel : Nat) (listed : Array Bool) (a : Act) (w : World), listed.getD u true = false → u ≠ i →
   (∀ j oj, ops[j]? = some oj → j ≠ i → listed.getD j true = false → (∀ e ∈ oj.after, Region.binds md e = true → e.on ≠ i) → oi.apart ops oj = true) →
   i ∈ Region.ready md ops listed → Yields P ops oi v a → S w →
   wpAnyT P md ops Q S u fuel (listed.setIfInBounds i true) (a.put oi.dst v) w → wpAnyT P md ops Q S u (fuel + 1) listed a w := by
 intro fuel
 induction fuel with
 | zero =>
  intro listed a w hun hui _ hr hy hS H
  unfold wpAnyT
  rw [if_neg (getD_flip hun)]
  refine ⟨fun h => (by rw [h] at hr; cases hr), fun j hj => ?_⟩
  by_cases hji : j = i
  ·
   subst hji; exact hy.wpOp hi ⟨hS, H⟩
  ·
   have := ready_mono hj hji
   unfold wpAnyT wpAny at H
   rw [H.1] at this
   cases this
 | succ fuel ih =>
  intro listed a w hun hui hfree hr hy hS H
  have H0 := H
  unfold wpAnyT at H
  rw [getD_set_ne false (Ne.symm hui), if_neg (getD_flip hun)] at H
  unfold wpAnyT
  rw [if_neg (getD_flip hun)]
  refine ⟨fun h => (by rw [h] at hr; cases hr), fun j hj => ?_⟩
  by_cases hji : j = i
  ·
   subst hji; exact hy.wpOp hi ⟨hS, H0⟩
  ·
   have h1 := H.2 j (ready_mono hj hji)
   obtain ⟨hjun, oj, hoj, hall⟩ := mem_ready.1 hj
   have hiun := (mem_ready.1 hr).1
   have hnot : ∀ e ∈ oj.after, Region.binds md e = true → e.on ≠ i := fun e he hb heq => by
    have h1 := hall e he hb
    rw [heq] at h1
    exact getD_flip hiun h1
   have h2 := wpOp_put hoj (hfree j oj hoj hji hjun hnot) (fun cs b => hsel i oi cs b hi) (fun cs b => hsel j oj cs b hoj) hQ hy h1
   have hfree' : ∀ k ok, ops[k]? = some ok → k ≠ i → (listed.setIfInBounds j true).getD k true = false →
     (∀ e ∈ ok.after, Region.binds md e = true → e.on ≠ i) → oi.apart ops ok = true := fun k ok hk hki hun hno => by
    refine hfree k ok hk hki ?_ hno
    by_cases hjk : j = k
    ·
     subst hjk; exact hjun
    ·
     rw [getD_set_ne true hjk] at hun; exact hun
   refine wpOp_mono (fun a' w' h3 => ⟨h3.2.1, ?_⟩) h2
   obtain ⟨hy3, hS3, H3⟩ := h3
   rw [Array.setIfInBounds_comm _ _ (Ne.symm hji)] at H3
   by_cases hju : j = u
   ·
    have hl : (listed.setIfInBounds j true).getD u false = true := by
     subst hju
     have hlt : j < listed.size := by
      rcases Nat.lt_or_ge j listed.size with h' | h'
      ·
       exact h'
      ·
       simp [Array.getElem?_eq_none h'] at hun
     simp [hlt]
    unfold wpAnyT
    rw [if_pos hl]
    exact wpAny_first hi hsel hQ fuel _ _ _ hfree' (ready_mono hr (Ne.symm hji)) hy3 (wpAnyT_any _ _ _ _ H3)
   ·
    exact ih (listed.setIfInBounds j true) a' w' (by rw [getD_set_ne true hju]; exact hun) hui hfree' (ready_mono hr (Ne.symm hji)) hy3 hS3 H3

theorem wpAnyT_takeY {i : Nat} {oi : Oper} {v : Value} {fuel : Nat} {listed : Array Bool} {a : Act} {w : World} (hun : listed.getD u true = false) (hui : u ≠ i) (hi : ops[i]? = some oi)
  (hs : Region.noSelect ops = true) (hf : Region.free md ops listed i = true) (hr : (Region.ready md ops listed).contains i = true)
  (hQ : ∀ c a w, Q (.panic c) (a.put oi.dst v) w → Q (.panic c) a w) (hy : Yields P ops oi v a) (hS : S w)
  (h : wpAnyT P md ops Q S u fuel (listed.setIfInBounds i true) (a.put oi.dst v) w) : wpAnyT P md ops Q S u (fuel + 1) listed a w :=
 wpAnyT_firstY hi (Region.noSelect_spec hs) hQ fuel listed a w hun hui (Region.free_spec hi hf) (by simpa using hr) hy hS h

/-- the kit's own way to say that one of some operations comes up, with S shown anew -/
def AllReadyT (P : Program) (md : Region.Mode) (ops : Array Oper) (Q : Exit → Act → World → Prop) (S : World → Prop) (u fuel : Nat) (listed : Array Bool) (a : Act) (w : World) (rs : List Nat) : Prop :=
 ∀ i ∈ rs, wpOp P ops Q i (fun a' w' => S w' ∧ wpAnyT P md ops Q S u fuel (listed.setIfInBounds i true) a' w') a w
theorem AllReadyT.nil {fuel : Nat} {listed : Array Bool} {a : Act} {w : World} : AllReadyT P md ops Q S u fuel listed a w [] := fun _ h => by cases h
theorem AllReadyT.cons {fuel : Nat} {listed : Array Bool} {a : Act} {w : World} {i : Nat} {o : Oper} {rs : List Nat} (ho : ops[i]? = some o)
  (h : ∀ K' : Act → World → Prop, Shut (∀ a w, S w → (S w → wpAnyT P md ops Q S u fuel (listed.setIfInBounds i true) a w) → K' a w) → if Region.wanted o (yielded ops a.tmps) = true then Oper.wp P o a w K' Q else K' (a.put o.dst undef) w)
  (hs : AllReadyT P md ops Q S u fuel listed a w rs) : AllReadyT P md ops Q S u fuel listed a w (i :: rs) := fun j hj => by
 rcases List.mem_cons.1 hj with rfl | hj
 ·
  exact wpOp_step ho (fun K' hK => h K' (fun a w hS hW => hK a w ⟨hS, hW hS⟩))
 ·
  exact hs j hj
theorem wpAnyT_ready {rs : List Nat} {fuel : Nat} {listed : Array Bool} {a : Act} {w : World} (hr : Region.ready md ops listed = rs) (hne : rs ≠ []) (hun : listed.getD u true = false)
  (h : AllReadyT P md ops Q S u fuel listed a w rs) : wpAnyT P md ops Q S u (fuel + 1) listed a w := by
 unfold wpAnyT
 rw [if_neg (getD_flip hun)]
 exact ⟨fun h0 => absurd (hr ▸ h0) hne, hr ▸ h⟩
/-- behind number u the rest goes as in any region -/
theorem wpAnyT_out {listed : Array Bool} {a : Act} {w : World} (hl : listed.getD u false = true) : ∀ fuel, wpAny P md ops Q fuel listed a w → wpAnyT P md ops Q S u fuel listed a w
 | 0, h => h
 | _ + 1, h => by
  unfold wpAnyT
  rw [if_pos hl]
  exact h
theorem wp_region_T (u : Nat) {id : Nat} {a : Act} {w : World} (hm : P.follows .mixedOrders = true) (hS : S w.drew)
  (h : S w.drew → wpAnyT P .any ops Q S u ops.size (Array.replicate ops.size false) a w.drew) : (Code.region id ops true).wp P Q a w :=
 wp_region_any hm (wpAnyT_any _ _ _ _ (h hS))
end
end Go.Proofs.YtgjfbbmachoolaaGreatDoor.lx
