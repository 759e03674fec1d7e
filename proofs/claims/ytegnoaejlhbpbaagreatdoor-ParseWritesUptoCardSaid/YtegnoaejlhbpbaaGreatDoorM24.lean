/-
  A query's text: its tokens, and what they are read as. Plain law; no condition. Columns that are read are no longer than an atom may be. Plain law; no condition. (Printed by wip/mknarrow.py out of PGood.) A right query's text, read: the query, or nested too deep. Plain law; no condition. Where a text is none stands within it; why is no zero. Plain law; no condition. What is printed of a right query is read as that query, or nested too deep, or too long; clauses in another order are none; where a text is none stands within it. Plain law; no condition. ParseOnce, for every text. Conditions: the package-level variables are laid.
-/
import Derived.Test.YtegnoaejlhbpbaaGreatDoorM21
import Derived.Test.YtegnoaejlhbpbaaGreatDoorM15
import Derived.Test.YtegnoaejlhbpbaaGreatDoorM17
import Derived.Test.YtegnoaejlhbpbaaGreatDoorM23
namespace Go.Proofs.YtegnoaejlhbpbaaGreatDoor.lx
open Go.RowKit

theorem isOp_mem {s : ByteArray} (h : isOp s = true) : s ∈ opsL := (Lib.containsS_iff _ _).1 h
set_option maxRecDepth 100000 in
theorem op_word {s : ByteArray} (h : isOp s = true) : Lib.idxOfS wordsL s < 1 := by
  have hm := isOp_mem h
  simp only [opsL, List.mem_cons, List.not_mem_nil, or_false] at hm
  rcases hm with rfl | rfl | rfl | rfl | rfl | rfl | rfl | rfl | rfl | rfl | rfl | rfl | rfl | rfl | rfl <;> exact of_decide_eq_true (by kernel_rfl)
theorem headR_flat (l : List Tok) : headR (flat l) = headR l := by
  cases l with
  | nil => rfl
  | cons t l =>
    cases l with
    | nil => rfl
    | cons u l => rfl
theorem idx_empty : Lib.idxOfS wordsL ⟨#[]⟩ = 0 := by kernel_rfl
theorem Hd.head {T R : List Tok} (h : Hd T) : Lib.idxOfS wordsL (headR (T ++ R)) < 1 := by
  obtain ⟨t, T', rfl, _, h1⟩ := h
  by_cases hk : t.k = 1
  · obtain ⟨u, T'', rfl, hu, ho⟩ := h1 hk
    show Lib.idxOfS wordsL (if t.k = 1 ∧ u.k = 3 then u.s else ⟨#[]⟩) < 1
    rw [if_pos ⟨hk, hu⟩]
    exact op_word ho
  · have e : headR (t :: T' ++ R) = ⟨#[]⟩ := by
      show headR (t :: (T' ++ R)) = _
      cases T' ++ R with
      | nil => rfl
      | cons u X => show (if t.k = 1 ∧ u.k = 3 then u.s else ⟨#[]⟩) = _; rw [if_neg (fun h => hk h.1)]
    rw [e, idx_empty]
    decide
/-- tokens that are read as one of something -/
structure OneP {α : Type} (one : Int → List Tok → Int → Res (List Tok × Int × α)) (T : List Tok) (x : α) : Prop where
  hd : ∃ t T', T = t :: T' ∧ t.k ≠ 2
  run : ∀ (fin : Int) (l : List Tok) (op : Int) (rest : List Tok), flat l = T ++ rest → Deep (one fin l op) (l.drop T.length, op, x)
theorem Prs.whole {T : List Tok} {S : List Stp} (h : Prs T S) (h64 : S.length ≤ 64) (fin : Int) (l : List Tok) (op : Int) (rest : List Tok) (hl : flat l = T ++ rest) : Deep (wholeR fin l op) (l.drop T.length, op, S) := by
  have := h.run fin (l.length + 1) l op [] rest hl (Nat.lt_succ_self _) (by simpa using h64)
  exact this
theorem takeD_atom {fin : Int} {y : Tok} {ys : List Tok} {op : Int} (hk : y.k = 3) : takeR fin 3 (fun _ => true) (y :: ys) op = .ok (ys, op) := take_any hk rfl (by decide)
theorem takeD_close {fin : Int} {y : Tok} {ys : List Tok} {op : Int} (hk : y.k = 2) : takeR fin 2 (fun _ => true) (y :: ys) op = .ok (ys, op - 1) := take_any hk rfl (by decide)
theorem item_plain {T : List Tok} {S : List Stp} (h : Prs T S) (h64 : S.length ≤ 64) : OneP itemR T ⟨0, S⟩ := by
  obtain ⟨t, T', hT, h2, _⟩ := h.hd
  refine ⟨⟨t, T', hT, h2⟩, fun fin l op rest hl => ?_⟩
  unfold itemR
  have hh : Lib.idxOfS wordsL (headR l) < 1 := by rw [← headR_flat, hl]; exact h.hd.head
  rw [if_pos hh]
  exact (h.whole h64 fin l op rest hl).then .ok
theorem idx_word (n : Nat) (h : n < 4) : Lib.idxOfS wordsL (wordT (1 + n)) = 1 + n := by
  have hall : ∀ m : Fin 4, Lib.idxOfS wordsL (wordT (1 + m.val)) = 1 + m.val := by decide +kernel
  exact hall ⟨n, h⟩
theorem idx_wordT {k : Int} (h : 1 ≤ k) (h4 : k ≤ 4) : Lib.idxOfS wordsL (wordT k) = k := by
  have := idx_word (k - 1).toNat (by omega)
  have e : (1 : Int) + ((k - 1).toNat : Int) = k := by omega
  rw [e] at this
  exact this
theorem item_count : OneP itemR [tokO0, ⟨3, countB, 0, 0⟩, tokC0] ⟨1, []⟩ := by
  refine ⟨⟨_, _, rfl, show (1 : Int) ≠ 2 by decide⟩, fun fin l op rest hl => ?_⟩
  obtain ⟨y, l1, rfl, hy, hl1⟩ := flat_cons hl
  obtain ⟨z, l2, rfl, hz, hl2⟩ := flat_cons hl1
  obtain ⟨c, l3, rfl, hc, hl3⟩ := flat_cons hl2
  have hw : headR (y :: z :: c :: l3) = countB := by
    show (if y.k = 1 ∧ z.k = 3 then z.s else ⟨#[]⟩) = countB
    rw [if_pos ⟨(at_k hy).1, (at_k hz).1⟩]
    exact (at_k hz).2.1
  have hi : Lib.idxOfS wordsL countB = 1 := by kernel_rfl
  unfold itemR
  rw [hw, hi, if_neg (by decide)]
  refine (takeD_open (at_k hy).1).then ?_
  rw [takeD_atom (at_k hz).1, then_ok, if_pos rfl, then_ok, takeD_close (at_k hc).1, then_ok]
  refine .inl ?_
  congr 2
  · simp
theorem item_agg {T : List Tok} {S : List Stp} {k : Int} (h : Prs T S) (h64 : S.length ≤ 64) (h2 : 2 ≤ k) (h4 : k ≤ 4) : OneP itemR (tokO0 :: ⟨3, wordT k, 0, 0⟩ :: (T ++ [tokC0])) ⟨k, S⟩ := by
  refine ⟨⟨_, _, rfl, show (1 : Int) ≠ 2 by decide⟩, fun fin l op rest hl => ?_⟩
  obtain ⟨y, l1, rfl, hy, hl1⟩ := flat_cons hl
  obtain ⟨z, l2, rfl, hz, hl2⟩ := flat_cons hl1
  have hl2 : flat l2 = T ++ (tokC0 :: rest) := by rw [hl2]; show (T ++ [tokC0]) ++ rest = _; simp
  have hw : headR (y :: z :: l2) = wordT k := by
    show (if y.k = 1 ∧ z.k = 3 then z.s else ⟨#[]⟩) = wordT k
    rw [if_pos ⟨(at_k hy).1, (at_k hz).1⟩]
    exact (at_k hz).2.1
  have hd : flat (l2.drop T.length) = tokC0 :: rest := by rw [flat_drop, hl2, List.drop_left]
  obtain ⟨c, m, hm, hc, hmr⟩ := flat_cons hd
  unfold itemR
  rw [hw, idx_wordT (by omega) h4, if_neg (by omega)]
  refine (takeD_open (at_k hy).1).then ?_
  simp only
  rw [takeD_atom (at_k hz).1, then_ok, if_neg (by omega)]
  refine (h.whole h64 fin l2 (op + 1) _ hl2).then ?_
  simp only
  rw [hm, takeD_close (at_k hc).1, then_ok, drop_next hm]
  refine .inl ?_
  congr 2
  · simp
  · congr 1
    omega
theorem atom_one {p : ByteArray → Bool} {s : ByteArray} (h : p s = true) : OneP (atomR p) [⟨3, s, 0, 0⟩] s := by
  refine ⟨⟨_, _, rfl, show (3 : Int) ≠ 2 by decide⟩, fun fin l op rest hl => ?_⟩
  obtain ⟨y, l1, rfl, hy, hl1⟩ := flat_cons hl
  unfold atomR
  rw [take_any (at_k hy).1 (by rw [(at_k hy).2.1]; exact h) (by decide), then_ok, tokAt_cons, (at_k hy).2.1, if_neg (by decide)]
  exact .ok
theorem closes_flat {l : List Tok} {t : Tok} {R : List Tok} {fin : Int} (h : flat l = t :: R) : closesR l fin = (t.k == 2) := by
  obtain ⟨y, l1, rfl, hy, _⟩ := flat_cons h
  unfold closesR
  rw [tokAt_cons, ← hy]
  rfl
/-- several, up to a closing bracket -/
theorem some_toks {α : Type} {one : Int → List Tok → Int → Res (List Tok × Int × α)} (fin : Int) : ∀ (P : List (List Tok × α)) (m : Nat) (out : List α) (l : List Tok) (op : Int) (rest : List Tok),
    (∀ x ∈ P, OneP one x.1 x.2) → flat l = P.flatMap (·.1) ++ tokC0 :: rest → P.length < m → out.length + P.length ≤ 8 → (out.length = 0 → P ≠ []) →
    Deep (someR (one fin) fin m out l op) (l.drop (P.flatMap (·.1)).length, op, out ++ P.map (·.2))
  | [], m, out, l, op, rest, _, hl, hm, _, h0 => by
    cases m with
    | zero => exact absurd hm (Nat.not_lt_zero _)
    | succ m =>
      have hc : closesR l fin = true := closes_flat hl
      rw [someR, if_neg (by rw [hc]; rintro (h | h); exact h0 h rfl; cases h)]
      simp only [List.map_nil, List.append_nil]
      exact .ok
  | x :: P, m, out, l, op, rest, hP, hl, hm, h8, _ => by
    cases m with
    | zero => exact absurd hm (Nat.not_lt_zero _)
    | succ m =>
      simp only [List.length_cons] at hm h8
      have hx := hP x List.mem_cons_self
      have hl' : flat l = x.1 ++ (P.flatMap (·.1) ++ tokC0 :: rest) := by rw [hl, List.flatMap_cons, List.append_assoc]
      obtain ⟨t, T', hT, hk⟩ := hx.hd
      have hc : closesR l fin = false := by
        have : flat l = t :: (T' ++ (P.flatMap (·.1) ++ tokC0 :: rest)) := by rw [hl', hT]; rfl
        rw [closes_flat this]
        simpa using hk
      rw [someR, if_pos (.inr hc), if_pos (by omega)]
      refine (hx.run fin l op _ hl').then ?_
      have ih := some_toks fin P m (out ++ [x.2]) (l.drop x.1.length) op rest (fun y hy => hP y (List.mem_cons_of_mem _ hy)) (by rw [flat_drop, hl', List.drop_left]) (by omega) (by rw [List.length_append]; simp only [List.length_cons, List.length_nil]; omega) (fun e => by rw [List.length_append] at e; simp at e)
      rw [List.drop_drop] at ih
      rw [List.flatMap_cons, List.length_append, List.map_cons]
      rw [List.append_assoc] at ih
      exact ih
/-- a clause's tokens, and what they make of a query -/
structure ClauseP (i : Nat) (w : ByteArray) (T : List Tok) (f : Qry → Qry) : Prop where
  hd : ∃ T', T = tokO0 :: ⟨3, w, 0, 0⟩ :: T'
  run : ∀ (fin : Int) (l : List Tok) (op : Int) (q : Qry) (rest : List Tok), flat l = T ++ rest → Deep (clauseR i w fin (l, op, q)) (l.drop T.length, op, f q)
theorem clause_of {i : Nat} {w : ByteArray} {X : List Tok} {f : Qry → Qry} (h : ∀ (fin : Int) (l : List Tok) (op : Int) (q : Qry) (rest : List Tok), flat l = X ++ tokC0 :: rest → Deep (readR i fin (l, op, q)) (l.drop X.length, op, f q)) :
    ClauseP i w (tokO0 :: ⟨3, w, 0, 0⟩ :: (X ++ [tokC0])) f := by
  refine ⟨⟨_, rfl⟩, fun fin l op q rest hl => ?_⟩
  obtain ⟨y, l1, rfl, hy, hl1⟩ := flat_cons hl
  obtain ⟨z, l2, rfl, hz, hl2⟩ := flat_cons hl1
  have hl2 : flat l2 = X ++ (tokC0 :: rest) := by rw [hl2]; show (X ++ [tokC0]) ++ rest = _; simp
  have hw : headR (y :: z :: l2) = w := by
    show (if y.k = 1 ∧ z.k = 3 then z.s else ⟨#[]⟩) = w
    rw [if_pos ⟨(at_k hy).1, (at_k hz).1⟩]
    exact (at_k hz).2.1
  have hd : flat (l2.drop X.length) = tokC0 :: rest := by rw [flat_drop, hl2, List.drop_left]
  obtain ⟨c, m, hm, hc, hmr⟩ := flat_cons hd
  unfold clauseR
  simp only
  rw [if_pos hw]
  refine (takeD_open (at_k hy).1).then ?_
  simp only
  rw [takeD_atom (at_k hz).1, then_ok]
  refine (h fin l2 (op + 1) q _ hl2).then ?_
  simp only
  rw [hm, takeD_close (at_k hc).1, then_ok, drop_next hm]
  refine .inl ?_
  congr 2
  · simp
  · congr 1
    omega
theorem one_then {α β : Type} {one : Int → List Tok → Int → Res (List Tok × Int × α)} {T : List Tok} {x : α} (h : OneP one T x) {fin : Int} {l : List Tok} {op : Int} {rest : List Tok} (hl : flat l = T ++ rest) {f : List Tok × Int × α → Res β} {y : β}
    (k : ∀ l2, flat l2 = rest → l2 = l.drop T.length → Deep (f (l2, op, x)) y) : Deep ((one fin l op).then f) y :=
  (h.run fin l op rest hl).then (k _ (by rw [flat_drop, hl, List.drop_left]) rfl)
theorem join_clause {j a b : ByteArray} (hj : nameR j = true) (ha : columnR a = true) (hb : columnR b = true) :
    ClauseP 0 joinB (tokO0 :: ⟨3, joinB, 0, 0⟩ :: ([⟨3, j, 0, 0⟩, ⟨3, a, 0, 0⟩, ⟨3, b, 0, 0⟩] ++ [tokC0])) (fun q => { q with join := j, left := a, right := b }) := clause_of fun fin l op q rest hl => by
  unfold readR
  simp only
  refine one_then (atom_one (p := nameR) hj) (rest := ⟨3, a, 0, 0⟩ :: ⟨3, b, 0, 0⟩ :: tokC0 :: rest) hl fun l2 hl2 e2 => ?_
  refine one_then (atom_one (p := columnR) ha) (rest := ⟨3, b, 0, 0⟩ :: tokC0 :: rest) hl2 fun l3 hl3 e3 => ?_
  refine one_then (atom_one (p := columnR) hb) (rest := tokC0 :: rest) hl3 fun l4 _ e4 => ?_
  rw [e4, e3, e2, List.drop_drop, List.drop_drop]
  exact .ok
theorem where_clause {T : List Tok} {S : List Stp} (h : Prs T S) (h64 : S.length ≤ 64) : ClauseP 1 whereB (tokO0 :: ⟨3, whereB, 0, 0⟩ :: (T ++ [tokC0])) (fun q => { q with wher := S }) := clause_of fun fin l op q rest hl => by
  unfold readR
  simp only
  exact (h.whole h64 fin l op _ hl).then .ok
theorem flat_len (l : List Tok) : (flat l).length = l.length := by simp
theorem pieces_len {α : Type} {one : Int → List Tok → Int → Res (List Tok × Int × α)} : ∀ P : List (List Tok × α), (∀ x ∈ P, OneP one x.1 x.2) → P.length ≤ (P.flatMap (·.1)).length
  | [], _ => Nat.zero_le _
  | x :: P, h => by
    have := pieces_len P fun y hy => h y (List.mem_cons_of_mem _ hy)
    obtain ⟨t, T', hT, _⟩ := (h x List.mem_cons_self).hd
    rw [List.flatMap_cons, List.length_append, hT]
    simp only [List.length_cons]
    omega
theorem group_clause {P : List (List Tok × ByteArray)} (h : ∀ x ∈ P, OneP (atomR columnR) x.1 x.2) (h0 : P ≠ []) (h8 : P.length ≤ 8) :
    ClauseP 2 groupB (tokO0 :: ⟨3, groupB, 0, 0⟩ :: (P.flatMap (·.1) ++ [tokC0])) (fun q => { q with group := P.map (·.2) }) := clause_of fun fin l op q rest hl => by
  have hlen : P.length < l.length + 2 := by
    have h1 := pieces_len P h
    have h2 : (flat l).length = l.length := flat_len l
    rw [hl, List.length_append] at h2
    omega
  unfold readR
  simp only
  exact (some_toks fin P (l.length + 2) [] l op rest h hl hlen (by simpa using h8) (fun _ => h0)).then .ok
theorem get_clause {P : List (List Tok × Itm)} (h : ∀ x ∈ P, OneP itemR x.1 x.2) (h0 : P ≠ []) (h8 : P.length ≤ 8) :
    ClauseP 3 getB (tokO0 :: ⟨3, getB, 0, 0⟩ :: (P.flatMap (·.1) ++ [tokC0])) (fun q => { q with items := P.map (·.2) }) := clause_of fun fin l op q rest hl => by
  have hlen : P.length < l.length + 2 := by
    have h1 := pieces_len P h
    have h2 : (flat l).length = l.length := flat_len l
    rw [hl, List.length_append] at h2
    omega
  unfold readR
  simp only
  exact (some_toks fin P (l.length + 2) [] l op rest h hl hlen (by simpa using h8) (fun _ => h0)).then .ok
/-- a clause, or nothing -/
def OptC (i : Nat) (w : ByteArray) (T : List Tok) (f : Qry → Qry) : Prop := (T = [] ∧ f = id) ∨ ClauseP i w T f
theorem OptC.head {i : Nat} {w : ByteArray} {T : List Tok} {f : Qry → Qry} (h : OptC i w T f) (R : List Tok) : headR (T ++ R) = w ∨ headR (T ++ R) = headR R := by
  rcases h with ⟨rfl, _⟩ | h
  · exact .inr rfl
  · obtain ⟨T', rfl⟩ := h.hd
    exact .inl rfl
theorem clauses_opt {i : Nat} {w : ByteArray} {ws : List ByteArray} {T R : List Tok} {f : Qry → Qry} (h : OptC i w T f) {fin : Int} {l : List Tok} {op : Int} {q : Qry} (hl : flat l = T ++ R) (hR : headR R ≠ w) {X : QS}
    (k : ∀ l2, flat l2 = R → l2 = l.drop T.length → Deep (clausesR fin (i + 1) ws (l2, op, f q)) X) : Deep (clausesR fin i (w :: ws) (l, op, q)) X := by
  have hd : flat (l.drop T.length) = R := by rw [flat_drop, hl, List.drop_left]
  rw [clausesR]
  rcases h with ⟨rfl, rfl⟩ | h
  · have e : clauseR i w fin (l, op, q) = .ok (l, op, q) := by
      unfold clauseR
      rw [if_neg]
      rw [← headR_flat, hl]
      exact hR
    rw [e, then_ok]
    exact k l hl rfl
  · exact (h.run fin l op q R hl).then (k _ hd rfl)
end Go.Proofs.YtegnoaejlhbpbaaGreatDoor.lx
namespace Go.Proofs.YtegnoaejlhbpbaaGreatDoor.lx
open Go.RowKit
set_option linter.unusedVariables false

def ThinT (t : Tok) : Prop := t.k = 3 → t.s.size ≤ 64
def Thin (l : List Tok) : Prop := ∀ t ∈ l, ThinT t
def Nar (t : Stp) : Prop := t.k = 6 → t.s.size ≤ 64
theorem Thin.suf {l l' : List Tok} (h : Thin l) (hs : l' <:+ l) : Thin l' := fun t ht => h t (hs.subset ht)
theorem Thin.thin {l : List Tok} (h : Thin l) (fin : Int) : ThinT (tokAt l fin) := by
  cases l with
  | nil => exact fun e => absurd e (show ¬ (0 : Int) = 3 by decide)
  | cons t r => exact h t List.mem_cons_self
theorem nar_app {a b : List Stp} (ha : ∀ t ∈ a, Nar t) (hb : ∀ t ∈ b, Nar t) : ∀ t ∈ a ++ b, Nar t := fun t ht => (List.mem_append.1 ht).elim (ha t) (hb t)
theorem leafS_nar {t : Tok} {x : Stp} (h : leafS t = some x) (hT : ThinT t) : Nar x := by
  unfold leafS at h
  intro h6
  split at h
  · injection h with h; subst h; exact absurd h6 (show ¬ (4 : Int) = 6 by decide)
  split at h
  · injection h with h; subst h; exact absurd h6 (show ¬ (5 : Int) = 6 by decide)
  split at h
  · rename_i h3
    split at h
    · injection h with h; subst h; exact absurd h6 (by decide)
    split at h
    · injection h with h; subst h; exact absurd h6 (by decide)
    split at h
    · injection h with h; subst h; exact absurd h6 (by decide)
    split at h
    · injection h with h; subst h; exact hT h3
    · cases h
  · cases h
theorem leafR_nar {fin : Int} {l : List Tok} {op : Int} {st : List Stp} {s : PS} (h : leafR fin l op st = .ok s) (hl : Thin l) (hst : ∀ t ∈ st, Nar t) : ∀ t ∈ s.2.2, Nar t := by
  unfold leafR at h
  cases hx : leafS (tokAt l fin) with
  | none => rw [hx] at h; cases h
  | some x =>
    rw [hx] at h
    simp only at h
    cases hp : putR fin l st [x] with
    | bad y p => rw [hp] at h; cases h
    | ok st' =>
      rw [hp] at h
      injection h with h
      subst h
      rw [putR_eq hp]
      exact nar_app hst fun t ht => by rw [List.mem_singleton.1 ht]; exact leafS_nar hx (hl.thin fin)
theorem partsR_nar {f : List Tok → Int → List Stp → Res PS} {fin k : Int} (hok : ∀ l op st s, f l op st = .ok s → Leaves' l op s) (hf : ∀ l op st s, f l op st = .ok s → Thin l → (∀ t ∈ st, Nar t) → ∀ t ∈ s.2.2, Nar t) :
    ∀ (m parts : Nat) (l : List Tok) (op : Int) (st : List Stp) (z : Nat × PS), partsR f fin k m parts l op st = .ok z → Thin l → (∀ t ∈ st, Nar t) → ∀ t ∈ z.2.2.2, Nar t := by
  intro m
  induction m with
  | zero => intro parts l op st z h; cases h
  | succ m ih =>
    intro parts l op st z h hl hst
    unfold partsR at h
    split at h
    · cases hfl : f l op st with
      | bad y p => rw [hfl] at h; cases h
      | ok s =>
        rw [hfl] at h
        exact ih _ _ _ _ _ h (hl.suf (hok _ _ _ _ hfl).1) (hf _ _ _ _ hfl hl hst)
    · injection h with h
      subst h
      exact hst
theorem endR_nar {fin k : Int} {parts : Nat} {l : List Tok} {op : Int} {st : List Stp} {s : PS} (h : endR' fin k parts l op st = .ok s) (hst : ∀ t ∈ st, Nar t) : ∀ t ∈ s.2.2, Nar t := by
  unfold endR' at h
  split at h
  · cases h
  · cases hp : putR fin l st (List.replicate (if 20 ≤ k then parts - 1 else 1) ⟨k, ⟨#[]⟩, 0⟩) with
    | bad y p => rw [hp] at h; cases h
    | ok st' =>
      rw [hp] at h
      simp only [Res.then] at h
      cases ht : takeR fin 2 (fun _ => true) l op with
      | bad y p => rw [ht] at h; cases h
      | ok x =>
        rw [ht] at h
        injection h with h
        subst h
        rw [putR_eq hp]
        exact nar_app hst fun t ht => by rw [(List.mem_replicate.1 ht).2]; exact fun _ => Nat.zero_le _
theorem exprR_nar (fin : Int) : ∀ (n : Nat) (l : List Tok) (op : Int) (st : List Stp) (s : PS), exprR fin n l op st = .ok s → Thin l → (∀ t ∈ st, Nar t) → ∀ t ∈ s.2.2, Nar t := by
  intro n
  induction n with
  | zero => intro l op st s h; cases h
  | succ n ih =>
    intro l op st s h hl hst
    unfold exprR at h
    split at h
    · exact leafR_nar h hl hst
    · cases h1 : takeR fin 1 (fun _ => true) l op with
      | bad y p => rw [h1] at h; cases h
      | ok x =>
        rw [h1] at h
        simp only [Res.then] at h
        cases h2 : takeR fin 3 isOp x.1 x.2 with
        | bad y p => rw [h2] at h; cases h
        | ok y =>
          rw [h2] at h
          simp only at h
          cases h3 : partsR (exprR fin n) fin (opK (tokAt x.1 fin).s) (y.1.length + 2) 0 y.1 y.2 st with
          | bad q p => rw [h3] at h; cases h
          | ok z =>
            rw [h3] at h
            simp only at h
            exact endR_nar h (partsR_nar (exprR_ok fin n) ih _ _ _ _ _ _ h3 ((hl.suf (take_suf h1 (by decide)).1).suf (take_suf h2 (by decide)).1) hst)
theorem wholeR_nar {fin : Int} {l : List Tok} {op : Int} {s : PS} (h : wholeR fin l op = .ok s) (hl : Thin l) : ∀ t ∈ s.2.2, Nar t := exprR_nar fin _ _ _ _ _ h hl fun t ht => by cases ht
structure NarI (it : Itm) : Prop where
  e : ∀ t ∈ it.e, Nar t
theorem itemR_nar {fin : Int} {l : List Tok} {op : Int} {s : List Tok × Int × Itm} (h : itemR fin l op = .ok s) (hl : Thin l) : NarI s.2.2 := by
  refine ⟨?_⟩
  unfold itemR at h
  by_cases hi : Lib.idxOfS wordsL (headR l) < 1
  · rw [if_pos hi] at h
    cases hw : wholeR fin l op with
    | bad y q => rw [hw] at h; cases h
    | ok x =>
      rw [hw] at h
      injection h with h
      subst h
      exact wholeR_nar hw hl
  rw [if_neg hi] at h
  cases h1 : takeR fin 1 (fun _ => true) l op with
  | bad y q => rw [h1] at h; cases h
  | ok x =>
    obtain ⟨l1, op1⟩ := x
    rw [h1] at h
    simp only [Res.then] at h
    cases h2 : takeR fin 3 (fun _ => true) l1 op1 with
    | bad y q => rw [h2] at h; cases h
    | ok x =>
      obtain ⟨l2, op2⟩ := x
      rw [h2] at h
      simp only at h
      have hs2 := (hl.suf (take_suf h1 (by decide)).1).suf (take_suf h2 (by decide)).1
      by_cases hX1 : Lib.idxOfS wordsL (headR l) = 1
      · rw [if_pos hX1] at h
        simp only at h
        cases h4 : takeR fin 2 (fun _ => true) l2 op2 with
        | bad y q => rw [h4] at h; cases h
        | ok x =>
          rw [h4] at h
          injection h with h
          subst h
          exact fun t ht => by cases ht
      · rw [if_neg hX1] at h
        cases h3 : wholeR fin l2 op2 with
        | bad y q => rw [h3] at h; cases h
        | ok x =>
          rw [h3] at h
          simp only at h
          cases h4 : takeR fin 2 (fun _ => true) x.1 x.2.1 with
          | bad y q => rw [h4] at h; cases h
          | ok x' =>
            rw [h4] at h
            injection h with h
            subst h
            exact wholeR_nar h3 hs2
theorem someR_allT {α : Type} {P : α → Prop} {one : List Tok → Int → Res (List Tok × Int × α)} {fin : Int} (hone : ∀ l op s, one l op = .ok s → Thin l → s.1 <:+ l ∧ P s.2.2) :
    ∀ (m : Nat) (out : List α) (l : List Tok) (op : Int) (s : List Tok × Int × List α), someR one fin m out l op = .ok s → Thin l → (∀ x ∈ out, P x) → out.length ≤ 8 → (∀ x ∈ s.2.2, P x) ∧ s.2.2.length ≤ 8
  | 0, _, _, _, _, h, _, _, _ => by cases h
  | m + 1, out, l, op, s, h, hl, ho, h8 => by
    rw [someR] at h
    split at h
    · split at h
      · cases ho1 : one l op with
        | bad y q => rw [ho1] at h; cases h
        | ok x =>
          rw [ho1] at h
          obtain ⟨a, b⟩ := hone _ _ _ ho1 hl
          exact someR_allT hone m _ _ _ s h (hl.suf a) (fun y hy => (List.mem_append.1 hy).elim (ho y) (fun h => by rw [List.mem_singleton.1 h]; exact b)) (by rw [List.length_append]; simp only [List.length_cons, List.length_nil]; omega)
      · cases h
    · injection h with h
      subst h
      exact ⟨ho, h8⟩
/-- a query whose columns are narrow -/
structure NarQ (q : Qry) : Prop where
  items : ∀ it ∈ q.items, NarI it
  wher : ∀ t ∈ q.wher, Nar t
  group : ∀ s ∈ q.group, s.size ≤ 64
  left : q.left.size ≤ 64
  right : q.right.size ≤ 64
theorem atomR_nar {fin : Int} {p : ByteArray → Bool} {l : List Tok} {op : Int} {s : List Tok × Int × ByteArray} (h : atomR p fin l op = .ok s) (hl : Thin l) : s.2.2.size ≤ 64 := by
  rw [atomR_val h]
  unfold atomR at h
  cases ht : takeR fin 3 p l op with
  | bad y q => rw [ht] at h; cases h
  | ok x => exact hl.thin fin (takeR_ok (l' := x.1) (op' := x.2) ht (by decide)).2.1
theorem readR_nar {k : Nat} (hk : k < 4) {fin : Int} {l : List Tok} {op : Int} {q : Qry} {s : QS} (h : readR k fin (l, op, q) = .ok s) (hl : Thin l) (hq : NarQ q) : NarQ s.2.2 := by
  match k, hk with
  | 0, _ =>
    unfold readR at h
    simp only at h
    cases ha : atomR nameR fin l op with
    | bad y p => rw [ha] at h; cases h
    | ok a =>
      rw [ha] at h
      simp only [Res.then] at h
      have hl1 := hl.suf (atomR_ok ha).1
      cases hb : atomR columnR fin a.1 a.2.1 with
      | bad y p => rw [hb] at h; cases h
      | ok b =>
        rw [hb] at h
        simp only at h
        have hl2 := hl1.suf (atomR_ok hb).1
        cases hc : atomR columnR fin b.1 b.2.1 with
        | bad y p => rw [hc] at h; cases h
        | ok c =>
          rw [hc] at h
          injection h with h
          subst h
          exact { hq with left := atomR_nar hb hl1, right := atomR_nar hc hl2 }
  | 1, _ =>
    unfold readR at h
    simp only at h
    cases ha : wholeR fin l op with
    | bad y p => rw [ha] at h; cases h
    | ok a =>
      rw [ha] at h
      injection h with h
      subst h
      exact { hq with wher := wholeR_nar ha hl }
  | 2, _ =>
    unfold readR at h
    simp only at h
    cases ha : someR (atomR columnR fin) fin (l.length + 2) [] l op with
    | bad y p => rw [ha] at h; cases h
    | ok a =>
      rw [ha] at h
      injection h with h
      subst h
      obtain ⟨h1, _⟩ := someR_allT (P := fun s : ByteArray => s.size ≤ 64) (fun l op s h hl => ⟨(atomR_ok h).1, atomR_nar h hl⟩) _ _ _ _ _ ha hl (fun x hx => by cases hx) (Nat.zero_le _)
      exact { hq with group := h1 }
  | 3, _ =>
    unfold readR at h
    simp only at h
    cases ha : someR (itemR fin) fin (l.length + 2) [] l op with
    | bad y p => rw [ha] at h; cases h
    | ok a =>
      rw [ha] at h
      injection h with h
      subst h
      obtain ⟨h1, _⟩ := someR_allT (P := NarI) (fun l op s h hl => ⟨(itemR_ok h).1, itemR_nar h hl⟩) _ _ _ _ _ ha hl (fun x hx => by cases hx) (Nat.zero_le _)
      exact { hq with items := h1 }
theorem clauseR_nar {k : Nat} (hk : k < 4) {w : ByteArray} {fin : Int} {s s' : QS} (h : clauseR k w fin s = .ok s') (hl : Thin s.1) (hq : NarQ s.2.2) : Thin s'.1 ∧ NarQ s'.2.2 := by
  obtain ⟨l, op, q⟩ := s
  unfold clauseR at h
  split at h
  · simp only at h
    cases h1 : takeR fin 1 (fun _ => true) l op with
    | bad y q => rw [h1] at h; cases h
    | ok x =>
      rw [h1] at h
      simp only [Res.then] at h
      cases h2 : takeR fin 3 (fun _ => true) x.1 x.2 with
      | bad y q => rw [h2] at h; cases h
      | ok y =>
        rw [h2] at h
        simp only at h
        have hs2 := (hl.suf (take_suf h1 (by decide)).1).suf (take_suf h2 (by decide)).1
        cases h3 : readR k fin (y.1, y.2, q) with
        | bad y q => rw [h3] at h; cases h
        | ok z =>
          rw [h3] at h
          simp only at h
          have hs3 := hs2.suf (readR_ok hk h3).1
          cases h4 : takeR fin 2 (fun _ => true) z.1 z.2.1 with
          | bad y q => rw [h4] at h; cases h
          | ok u =>
            rw [h4] at h
            injection h with h
            subst h
            exact ⟨hs3.suf (take_suf h4 (by decide)).1, readR_nar (fin := fin) (op := y.2) (s := z) hk h3 hs2 hq⟩
  · injection h with h
    subst h
    exact ⟨hl, hq⟩
theorem clausesR_nar {fin : Int} : ∀ (ws : List ByteArray) (k : Nat) (s s' : QS), k + ws.length ≤ 4 → clausesR fin k ws s = .ok s' → Thin s.1 → NarQ s.2.2 → Thin s'.1 ∧ NarQ s'.2.2
  | [], _, s, s', _, h, hl, hq => by injection h with h; subst h; exact ⟨hl, hq⟩
  | w :: ws, k, s, s', hk, h, hl, hq => by
    rw [clausesR] at h
    simp only [List.length_cons] at hk
    cases h1 : clauseR k w fin s with
    | bad y q => rw [h1] at h; cases h
    | ok s1 =>
      rw [h1] at h
      obtain ⟨a, b⟩ := clauseR_nar (by omega) h1 hl hq
      exact clausesR_nar ws (k + 1) s1 s' (by omega) h a b
theorem NarQ.none : NarQ Qry.none where
  items := fun _ h => by cases h
  wher := fun _ h => by cases h
  group := fun _ h => by cases h
  left := Nat.zero_le _
  right := Nat.zero_le _
theorem queryR_nar {fin : Int} {l : List Tok} {q : Qry} (h : queryR fin l = .ok q) (hl : Thin l) : NarQ q := by
  unfold queryR at h
  cases h1 : takeR fin 1 (fun _ => true) l 0 with
  | bad y q => rw [h1] at h; cases h
  | ok x =>
    rw [h1] at h
    simp only [Res.then] at h
    cases h2 : takeR fin 3 (fun s => decide (s = fromB)) x.1 x.2 with
    | bad y q => rw [h2] at h; cases h
    | ok y =>
      rw [h2] at h
      simp only at h
      have hs2 := (hl.suf (take_suf h1 (by decide)).1).suf (take_suf h2 (by decide)).1
      cases h3 : atomR nameR fin y.1 y.2 with
      | bad y q => rw [h3] at h; cases h
      | ok n =>
        rw [h3] at h
        simp only at h
        cases h4 : clausesR fin 0 clausesL (n.1, n.2.1, { Qry.none with table := n.2.2 }) with
        | bad y q => rw [h4] at h; cases h
        | ok s =>
          rw [h4] at h
          simp only at h
          obtain ⟨_, hg⟩ := clausesR_nar _ _ _ _ (by decide) h4 (hs2.suf (atomR_ok h3).1) { NarQ.none with }
          cases h5 : takeR fin 2 (fun _ => true) s.1 s.2.1 with
          | bad y q => rw [h5] at h; cases h
          | ok u =>
            rw [h5] at h
            simp only at h
            split at h
            · injection h with h; subst h; exact hg
            · cases h
theorem wordTok_thin (fine : Bool) (s : ByteArray) : ThinT (wordTok fine s).1 := by
  have hno : ThinT Tok.no := fun e => absurd e (show ¬ (0 : Int) = 3 by decide)
  unfold wordTok
  split
  · exact hno
  · split
    · unfold numTok
      split
      · split
        · exact fun e => absurd e (show ¬ (4 : Int) = 3 by decide)
        · exact hno
      · exact hno
    · split
      · exact hno
      · exact fun _ => by show s.size ≤ 64; omega
theorem textF_thin (n : Nat) : ∀ (fine : Bool) (acc : List UInt8) (l : ByteArray) (p : Nat), l.size = n → ThinT (textF fine acc l p).1.1 := by
  have hno : ThinT Tok.no := fun e => absurd e (show ¬ (0 : Int) = 3 by decide)
  induction n using Nat.strongRecOn with
  | _ n ih =>
    intro fine acc l p hl
    by_cases h0 : l.size = 0
    · rw [textF_end h0]; exact hno
    · have hlt := adv_lt l h0
      by_cases h34 : dr l = 34
      · rw [textF_close h0 h34]
        by_cases hf : fine = false
        · rw [if_pos hf]; exact hno
        · rw [if_neg hf]
          by_cases h256 : 256 < acc.length
          · rw [if_pos h256]; exact hno
          · rw [if_neg h256]
            exact fun e => absurd e (show ¬ (5 : Int) = 3 by decide)
      · by_cases h92 : dr l = 92
        · have hes := escF_size (adv l) (p + 1)
          cases he : (escF (adv l) (p + 1)).1.isSome with
          | true => rw [textF_esc h0 h92 he]; exact ih _ (by omega) _ _ _ _ rfl
          | false => rw [textF_bad h0 h92 he]; exact hno
        · rw [textF_rune h0 h34 h92]
          exact ih _ (by omega) _ _ _ _ rfl
theorem tokF_thin (l : ByteArray) (p : Nat) : ThinT (tokF l p).1.1 := by
  unfold tokF
  split
  · exact fun e => absurd e (show ¬ (1 : Int) = 3 by decide)
  · split
    · exact fun e => absurd e (show ¬ (2 : Int) = 3 by decide)
    · split
      · exact textF_thin _ _ _ _ _ rfl
      · exact wordTok_thin _ _
theorem lexF_thin (n : Nat) : ∀ (out : List Tok) (l : ByteArray) (p : Nat), l.size = n → Thin out → Thin (lexF out l p).1 := by
  induction n using Nat.strongRecOn with
  | _ n ih =>
    intro out l p hl ho
    rw [lexF]
    split
    · exact ho
    · split
      · exact fun t ht => by (cases ht)
      · split
        · rename_i hlt
          exact ih _ (by rw [← hl]; exact hlt) (out ++ [(tokF l p).1.1.at p]) _ (skipF false (tokF l p).2.1 (tokF l p).2.2).2 rfl (by
            intro t ht
            rcases List.mem_append.1 ht with h | h
            · exact ho t h
            · rw [List.mem_singleton.1 h]
              exact tokF_thin l p)
        · exact fun t ht => by (cases ht)
theorem lexR_thin (s : ByteArray) : Thin (lexR s).1 := by
  unfold lexR
  split
  · exact fun t ht => by (cases ht)
  · exact lexF_thin _ [] (skipF false s 0).1 (skipF false s 0).2 rfl (fun t ht => by (cases ht))
end Go.Proofs.YtegnoaejlhbpbaaGreatDoor.lx
namespace Go.Proofs.YtegnoaejlhbpbaaGreatDoor.lx
open Go.RowKit

theorem optT_append : ∀ a b : List TO, optT (a ++ b) = andO (optT a) (optT b)
  | [], b => (nil_andO _).symm
  | x :: a, b => by
    show andO x (optT (a ++ b)) = andO (andO x (optT a)) (optT b)
    rw [optT_append a b, andO_assoc]
theorem andO_some {a b : TO} {T : List Tok} (h : andO a b = some T) : ∃ A C, a = some A ∧ b = some C ∧ T = A ++ C := by
  cases a with
  | none => cases h
  | some A =>
    cases b with
    | none => cases h
    | some C => injection h with h; exact ⟨A, C, rfl, rfl, h.symm⟩
theorem andO_ne {a b : TO} (ha : a ≠ none) (hb : b ≠ none) : andO a b ≠ none := by
  cases a with
  | none => exact absurd rfl ha
  | some A =>
    cases b with
    | none => exact absurd rfl hb
    | some C => exact fun h => by cases h
theorem brO_some' {o : TO} {T : List Tok} (h : brO o = some T) : ∃ A, o = some A ∧ T = tokO0 :: (A ++ [tokC0]) := by
  cases o with
  | none => cases h
  | some A => injection h with h; exact ⟨A, rfl, h.symm⟩
theorem brO_ne {o : TO} (h : o ≠ none) : brO o ≠ none := by
  cases o with
  | none => exact absurd rfl h
  | some A => exact fun h => by cases h
/-- the tokens of a lexer's step bear no place -/
theorem lexK_at0 (n : Nat) : ∀ gs : List G, gs.length = n → ∀ x ∈ (lexK gs).1, x.1.at 0 = x.1 := by
  induction n using Nat.strongRecOn with
  | _ n ih =>
    intro gs hn
    cases gs with
    | nil => rw [lexK_nil]; exact fun _ h => by cases h
    | cons g gs =>
      by_cases h : (tokG (g :: gs)).1.2 = 0
      · by_cases hlt : (skipG false (tokG (g :: gs)).2).length < (g :: gs).length
        · rw [lexK_go h hlt]
          intro x hx
          rcases List.mem_cons.1 hx with rfl | hx
          · exact tokG_a g gs
          · exact ih _ (by omega) _ rfl x hx
        · rw [lexK, if_neg (by simp [h]), dif_neg hlt]
          exact fun _ h => by cases h
      · rw [lexK_bad h]
        exact fun _ h => by cases h
/-- a bracket's text that is told whole -/
theorem lx_whole {P : List Pc} {s : ByteArray} (h0 : P ≠ []) (h : ∀ x ∈ P, LexV (B x.1) x.2) (e : s = bracketT (P.map (·.1))) (hs : s.size ≤ 2048) :
    match optT (P.map (·.2)) with
    | some T => (lexR s).2.1 = 0 ∧ flat (lexR s).1 = tokO0 :: (T ++ [tokC0])
    | none => (lexR s).2.1 ≠ 0 := by
  have h1 := LexV.join P h0 h
  have hB : B s = 40 :: (joinT (P.map (·.1)) ++ [41]) := by rw [e, B_bracket]
  have h2 := lx_done h1 hB hs
  cases ho : optT (P.map (·.2)) with
  | none => rw [ho] at h2; exact h2
  | some T =>
    rw [ho] at h2
    obtain ⟨a, b⟩ := h2
    refine ⟨a, ?_⟩
    have h3 : Lx (B s) [] (brO (some T)) := by
      rw [hB, ← ho]
      exact (lx_open _).trans ((h1 41 [] (.inr rfl)).trans (lx_close _))
    obtain ⟨h4, _⟩ := h3
    have e0 : toksB [] = [] := by unfold toksB; rw [gl_nil, show skipG false [] = [] from rfl, lexK_nil]; rfl
    rw [e0, List.append_nil] at h4
    have h5 : ∀ t ∈ toksB (B s), t.at 0 = t := fun t ht => by
      obtain ⟨x, hx, rfl⟩ := List.mem_map.1 ht
      exact lexK_at0 _ _ rfl x hx
    show flat (lexR s).1 = _
    rw [show flat (lexR s).1 = (lexR s).1.map (·.at 0) from rfl, b]
    have h6 : toksB (B s) = tokO0 :: (T ++ [tokC0]) := h4
    rw [← h6]
    conv => rhs; rw [← List.map_id (toksB (B s))]
    exact List.map_congr_left h5
/-- pieces that are each one of something -/
theorem pieces_of {α : Type} {one : Int → List Tok → Int → Res (List Tok × Int × α)} {txt : α → ByteArray} {ok nar : α → Prop}
    (h1 : ∀ a, ok a → ∃ o, LexV (B (txt a)) o ∧ (∀ T, o = some T → OneP one T a) ∧ (nar a → o ≠ none)) : ∀ L : List α, (∀ a ∈ L, ok a) →
    ∃ P : List Pc, P.map (·.1) = L.map txt ∧ (∀ x ∈ P, LexV (B x.1) x.2) ∧ (∀ T, optT (P.map (·.2)) = some T → ∃ R : List (List Tok × α), R.flatMap (·.1) = T ∧ R.map (·.2) = L ∧ ∀ x ∈ R, OneP one x.1 x.2) ∧ ((∀ a ∈ L, nar a) → optT (P.map (·.2)) ≠ none)
  | [], _ => ⟨[], rfl, (fun _ h => by cases h), (fun T hT => ⟨[], by injection hT, rfl, (fun _ h => by cases h)⟩), (fun _ h => by cases h)⟩
  | a :: L, h => by
    obtain ⟨o, a1, a2, a3⟩ := h1 a (h a List.mem_cons_self)
    obtain ⟨P, p1, p2, p3, p4⟩ := pieces_of h1 L fun b hb => h b (List.mem_cons_of_mem _ hb)
    refine ⟨(txt a, o) :: P, by rw [List.map_cons, p1]; rfl, fun x hx => ?_, fun T hT => ?_, fun hn => ?_⟩
    · rcases List.mem_cons.1 hx with rfl | hx
      · exact a1
      · exact p2 x hx
    · obtain ⟨A, C, hA, hC, rfl⟩ := andO_some (show andO o (optT (P.map (·.2))) = some T from hT)
      obtain ⟨R, r1, r2, r3⟩ := p3 C hC
      refine ⟨(A, a) :: R, by rw [List.flatMap_cons, r1], by rw [List.map_cons, r2], fun x hx => ?_⟩
      rcases List.mem_cons.1 hx with rfl | hx
      · exact a2 A hA
      · exact r3 x hx
    · exact andO_ne (a3 (hn a List.mem_cons_self)) (p4 fun b hb => hn b (List.mem_cons_of_mem _ hb))
/-- an expression's piece -/
theorem expr_piece {L : List Stp} (hr : rightR L = true) (hn : NumOk L) (hok : StpsOk L) : ∃ o, LexV (B (showR L).1) o ∧ (∀ T, o = some T → Prs T L) ∧ (NarrowS L → o ≠ none) := by
  obtain ⟨o, h1, h2, h3⟩ := shw_prs hn hok (right_shw hr)
  rw [List.take_length, List.drop_zero] at h2
  refine ⟨o, ?_, h2, h3⟩
  unfold showR
  rw [if_pos hr]
  exact h1
theorem right_len {L : List Stp} (h : rightR L = true) : L.length ≤ 64 := by
  obtain ⟨_, h64, _⟩ := right_m h
  exact h64
set_option maxRecDepth 100000 in
theorem atoms_lex : LexV (B fromB) (atomO fromB) ∧ LexV (B joinB) (atomO joinB) ∧ LexV (B whereB) (atomO whereB) ∧ LexV (B groupB) (atomO groupB) ∧ LexV (B getB) (atomO getB) ∧ LexV (B countB) (atomO countB) := by
  refine ⟨LexV.shown (t := ⟨3, fromB, 0, 0⟩) ⟨?_, ?_⟩, LexV.shown (t := ⟨3, joinB, 0, 0⟩) ⟨?_, ?_⟩, LexV.shown (t := ⟨3, whereB, 0, 0⟩) ⟨?_, ?_⟩, LexV.shown (t := ⟨3, groupB, 0, 0⟩) ⟨?_, ?_⟩, LexV.shown (t := ⟨3, getB, 0, 0⟩) ⟨?_, ?_⟩, LexV.shown (t := ⟨3, countB, 0, 0⟩) ⟨?_, ?_⟩⟩ <;> kernel_rfl
set_option maxRecDepth 100000 in
theorem words_lex {k : Int} (h : 2 ≤ k) (h4 : k ≤ 4) : LexV (B (wordT k)) (atomO (wordT k)) := by
  have e : k = 2 ∨ k = 3 ∨ k = 4 := by omega
  rcases e with rfl | rfl | rfl
  · exact LexV.shown (t := ⟨3, wordT 2, 0, 0⟩) ⟨by kernel_rfl, by kernel_rfl⟩
  · exact LexV.shown (t := ⟨3, wordT 3, 0, 0⟩) ⟨by kernel_rfl, by kernel_rfl⟩
  · exact LexV.shown (t := ⟨3, wordT 4, 0, 0⟩) ⟨by kernel_rfl, by kernel_rfl⟩
/-- an item's piece -/
theorem item_piece {it : Itm} (h : itemOkR it = true) (hok : ItmOk it) (hn : NumOk it.e) : ∃ o, LexV (B (itemT it)) o ∧ (∀ T, o = some T → OneP itemR T it) ∧ (NarrowS it.e → o ≠ none) := by
  obtain ⟨k, L⟩ := it
  unfold itemOkR at h
  unfold itemT
  simp only at h hn ⊢
  have hlo := hok.lo
  simp only at hlo
  by_cases h1 : k = 1
  · subst h1
    rw [if_pos rfl] at h
    have hL : L = [] := List.eq_nil_of_length_eq_zero (of_decide_eq_true h)
    subst hL
    rw [if_neg (by decide), if_pos rfl]
    have := LexV.bracket (P := [(countB, atomO countB)]) (List.cons_ne_nil _ _) (fun x hx => by rw [List.mem_singleton.1 hx]; exact atoms_lex.2.2.2.2.2)
    refine ⟨_, this, fun T hT => ?_, fun _ h => by cases h⟩
    injection hT with hT
    rw [← hT]
    exact item_count
  · rw [if_neg h1, Bool.and_eq_true, decide_eq_true_eq] at h
    obtain ⟨h5, hr⟩ := h
    obtain ⟨o, e1, e2, e3⟩ := expr_piece hr hn hok.e
    by_cases h0 : k = 0
    · subst h0
      rw [if_pos rfl]
      exact ⟨o, e1, fun T hT => item_plain (e2 T hT) (right_len hr), e3⟩
    · rw [if_neg h0, if_neg h1]
      have := LexV.bracket (P := [(wordT k, atomO (wordT k)), ((showR L).1, o)]) (List.cons_ne_nil _ _) (by
        intro x hx
        simp only [List.mem_cons, List.not_mem_nil, or_false] at hx
        rcases hx with rfl | rfl
        · exact words_lex (by omega) (by omega)
        · exact e1)
      refine ⟨_, this, fun T hT => ?_, fun hN => ?_⟩
      · obtain ⟨A, hA, rfl⟩ := brO_some' hT
        obtain ⟨C, D, hC, hD, rfl⟩ := andO_some (show andO (atomO (wordT k)) (andO o (some [])) = some A from hA)
        rw [andO_nil] at hD
        injection hC with hC
        rw [← hC]
        have := item_agg (e2 D hD) (right_len hr) (k := k) (by omega) (by omega)
        exact this
      · exact brO_ne (andO_ne (fun h => by cases h) (andO_ne (e3 hN) (fun h => by cases h)))
theorem empty_of {x : ByteArray} (h : emptyS x = true) : x = ⟨#[]⟩ := by
  unfold emptyS at h
  rw [Lib.toList_data] at h
  apply ByteArray.ext
  exact Array.toList_inj.1 (List.isEmpty_iff.1 h)
/-- a part of a query: its texts, its tokens, what they make of a query -/
def PartP (i : Nat) (w : ByteArray) (L : List ByteArray) (good : (Qry → Qry) → Prop) (nar : Prop) : Prop :=
  ∃ P : List Pc, P.map (·.1) = L ∧ (∀ x ∈ P, LexV (B x.1) x.2) ∧ (∀ T, optT (P.map (·.2)) = some T → ∃ f, OptC i w T f ∧ good f) ∧ (nar → optT (P.map (·.2)) ≠ none) ∧ (L ≠ [] → ∀ T, optT (P.map (·.2)) = some T → ∃ f, ClauseP i w T f)
theorem part_none {i : Nat} {w : ByteArray} {good : (Qry → Qry) → Prop} {nar : Prop} (h : good id) : PartP i w [] good nar :=
  ⟨[], rfl, (fun _ h => by cases h), (fun T hT => ⟨id, .inl ⟨by injection hT with hT; exact hT.symm, rfl⟩, h⟩), (fun _ h => by cases h), (fun h => absurd rfl h)⟩
theorem part_one {i : Nat} {w x : ByteArray} {o : TO} {good : (Qry → Qry) → Prop} {nar : Prop} (h1 : LexV (B x) o) (h2 : ∀ T, o = some T → ∃ f, ClauseP i w T f ∧ good f) (h3 : nar → o ≠ none) : PartP i w [x] good nar :=
  ⟨[(x, o)], rfl, fun y hy => by rw [List.mem_singleton.1 hy]; exact h1, fun T hT => by
    have e : o = some T := by rw [← andO_nil o]; exact hT
    obtain ⟨f, a, b⟩ := h2 T e
    exact ⟨f, .inr a, b⟩, fun hn => by show andO o (some []) ≠ none; rw [andO_nil]; exact h3 hn, fun _ T hT => by
    have e : o = some T := by rw [← andO_nil o]; exact hT
    obtain ⟨f, a, _⟩ := h2 T e
    exact ⟨f, a⟩⟩
def joinL (q : Qry) : List ByteArray := if emptyS q.join then [] else [bracketT [joinB, q.join, q.left, q.right]]
def whereL (q : Qry) : List ByteArray := if 0 < q.wher.length then [bracketT [whereB, (showR q.wher).1]] else []
def groupL (q : Qry) : List ByteArray := if 0 < q.group.length then [bracketT (groupB :: q.group)] else []
def getL (q : Qry) : List ByteArray := if 0 < q.items.length then [bracketT (getB :: q.items.map itemT)] else []
theorem join_part {q : Qry} (h : CheckOk q) : PartP 0 joinB (joinL q) (fun f => ∀ q0 : Qry, q0.join = ⟨#[]⟩ → q0.left = ⟨#[]⟩ → q0.right = ⟨#[]⟩ → f q0 = { q0 with join := q.join, left := q.left, right := q.right }) (q.left.size ≤ 64 ∧ q.right.size ≤ 64) := by
  unfold joinL
  rcases h.joins with ⟨a, b, c⟩ | ⟨_, a, b, c⟩
  · rw [if_pos a]
    refine part_none fun q0 h1 h2 h3 => ?_
    rw [empty_of a, empty_of b, empty_of c]
    obtain ⟨_, _, _, _, _, _, _⟩ := q0
    simp only at h1 h2 h3
    subst h1 h2 h3
    rfl
  · have hne : emptyS q.join ≠ true := fun e => (name_size a).1 (by rw [empty_of e]; rfl)
    rw [if_neg hne]
    have := LexV.bracket (P := [(joinB, atomO joinB), (q.join, atomO q.join), (q.left, wordO q.left), (q.right, wordO q.right)]) (List.cons_ne_nil _ _) (by
      intro x hx
      simp only [List.mem_cons, List.not_mem_nil, or_false] at hx
      rcases hx with rfl | rfl | rfl | rfl
      · exact atoms_lex.2.1
      · exact name_lex a
      · exact column_lex b
      · exact column_lex c)
    refine part_one this (fun T hT => ?_) (fun hN => ?_)
    · obtain ⟨A, hA, rfl⟩ := brO_some' hT
      obtain ⟨_, A2, hC, hA2, rfl⟩ := andO_some (show andO (atomO joinB) (andO (atomO q.join) (andO (wordO q.left) (andO (wordO q.right) (some [])))) = some A from hA)
      obtain ⟨_, A3, hC2, hA3, rfl⟩ := andO_some hA2
      obtain ⟨_, A4, hC3, hA4, rfl⟩ := andO_some hA3
      rw [andO_nil] at hA4
      injection hC with hC
      injection hC2 with hC2
      unfold wordO at hC3 hA4
      split at hC3
      · split at hA4
        · injection hC3 with hC3
          injection hA4 with hA4
          subst hC hC2 hC3 hA4
          exact ⟨_, join_clause a b c, fun q0 _ _ _ => rfl⟩
        · cases hA4
      · cases hC3
    · refine brO_ne (andO_ne (fun h => by cases h) (andO_ne (fun h => by cases h) (andO_ne ?_ (andO_ne ?_ (fun h => by cases h)))))
      · unfold wordO; rw [if_pos hN.1]; exact fun h => by cases h
      · unfold wordO; rw [if_pos hN.2]; exact fun h => by cases h
theorem where_part {q : Qry} (h : CheckOk q) (hok : QryOk q) (hn : QryNum q) : PartP 1 whereB (whereL q) (fun f => ∀ q0 : Qry, q0.wher = [] → f q0 = { q0 with wher := q.wher }) (NarrowS q.wher) := by
  unfold whereL
  by_cases h0 : 0 < q.wher.length
  · rw [if_pos h0]
    have hr : rightR q.wher = true := h.wher.resolve_left (by omega)
    obtain ⟨o, e1, e2, e3⟩ := expr_piece hr hn.wher hok.wher
    have := LexV.bracket (P := [(whereB, atomO whereB), ((showR q.wher).1, o)]) (List.cons_ne_nil _ _) (by
      intro x hx
      simp only [List.mem_cons, List.not_mem_nil, or_false] at hx
      rcases hx with rfl | rfl
      · exact atoms_lex.2.2.1
      · exact e1)
    refine part_one this (fun T hT => ?_) (fun hN => ?_)
    · obtain ⟨A, hA, rfl⟩ := brO_some' hT
      obtain ⟨C, D, hC, hD, rfl⟩ := andO_some (show andO (atomO whereB) (andO o (some [])) = some A from hA)
      rw [andO_nil] at hD
      injection hC with hC
      subst hC
      exact ⟨_, where_clause (e2 D hD) (right_len hr), fun q0 _ => rfl⟩
    · exact brO_ne (andO_ne (fun h => by cases h) (andO_ne (e3 hN) (fun h => by cases h)))
  · rw [if_neg h0]
    refine part_none fun q0 h1 => ?_
    rw [List.eq_nil_of_length_eq_zero (show q.wher.length = 0 by omega)]
    obtain ⟨_, _, _, _, _, _, _⟩ := q0
    simp only at h1
    subst h1
    rfl
theorem column_piece (g : ByteArray) (hg : columnR g = true) : ∃ o, LexV (B (id g)) o ∧ (∀ T, o = some T → OneP (atomR columnR) T g) ∧ (g.size ≤ 64 → o ≠ none) := by
  refine ⟨wordO g, column_lex hg, fun T hT => ?_, fun hN => ?_⟩
  · unfold wordO at hT
    split at hT
    · injection hT with hT
      rw [← hT]
      exact atom_one (p := columnR) hg
    · cases hT
  · unfold wordO
    rw [if_pos hN]
    exact fun h => by cases h
theorem group_part {q : Qry} (h : CheckOk q) : PartP 2 groupB (groupL q) (fun f => ∀ q0 : Qry, q0.group = [] → f q0 = { q0 with group := q.group }) (∀ g ∈ q.group, g.size ≤ 64) := by
  unfold groupL
  by_cases h0 : 0 < q.group.length
  · rw [if_pos h0]
    obtain ⟨P, p1, p2, p3, p4⟩ := pieces_of (one := atomR columnR) (txt := id) (ok := fun g => columnR g = true) (nar := fun g => g.size ≤ 64) column_piece q.group (fun g hg => (h.group g hg).1)
    rw [List.map_id] at p1
    have := LexV.bracket (P := (groupB, atomO groupB) :: P) (List.cons_ne_nil _ _) (by
      intro x hx
      rcases List.mem_cons.1 hx with rfl | hx
      · exact atoms_lex.2.2.2.1
      · exact p2 x hx)
    rw [List.map_cons, p1] at this
    refine part_one this (fun T hT => ?_) (fun hN => ?_)
    · obtain ⟨A, hA, rfl⟩ := brO_some' hT
      obtain ⟨C, D, hC, hD, rfl⟩ := andO_some (show andO (atomO groupB) (optT (P.map (·.2))) = some A from hA)
      injection hC with hC
      subst hC
      obtain ⟨R, rfl, r2, r3⟩ := p3 D hD
      have hl : R.length = q.group.length := by rw [← r2, List.length_map]
      refine ⟨_, group_clause r3 (fun e => by rw [e] at hl; simp at hl; omega) (by have := h.glen; omega), fun q0 _ => by rw [r2]⟩
    · exact brO_ne (andO_ne (fun h => by cases h) (p4 hN))
  · rw [if_neg h0]
    refine part_none fun q0 h1 => ?_
    rw [List.eq_nil_of_length_eq_zero (show q.group.length = 0 by omega)]
    obtain ⟨_, _, _, _, _, _, _⟩ := q0
    simp only at h1
    subst h1
    rfl
theorem get_part {q : Qry} (h : CheckOk q) (hok : QryOk q) (hn : QryNum q) : PartP 3 getB (getL q) (fun f => ∀ q0 : Qry, q0.items = [] → f q0 = { q0 with items := q.items }) (∀ it ∈ q.items, NarrowS it.e) := by
  unfold getL
  by_cases h0 : 0 < q.items.length
  · rw [if_pos h0]
    obtain ⟨P, p1, p2, p3, p4⟩ := pieces_of (one := itemR) (txt := itemT) (ok := fun it => itemOkR it = true ∧ ItmOk it ∧ NumOk it.e) (nar := fun it => NarrowS it.e) (fun it hi => item_piece hi.1 hi.2.1 hi.2.2) q.items (fun it hi => ⟨h.items it hi, hok.items it hi, hn.items it hi⟩)
    have := LexV.bracket (P := (getB, atomO getB) :: P) (List.cons_ne_nil _ _) (by
      intro x hx
      rcases List.mem_cons.1 hx with rfl | hx
      · exact atoms_lex.2.2.2.2.1
      · exact p2 x hx)
    rw [List.map_cons, p1] at this
    refine part_one this (fun T hT => ?_) (fun hN => ?_)
    · obtain ⟨A, hA, rfl⟩ := brO_some' hT
      obtain ⟨C, D, hC, hD, rfl⟩ := andO_some (show andO (atomO getB) (optT (P.map (·.2))) = some A from hA)
      injection hC with hC
      subst hC
      obtain ⟨R, rfl, r2, r3⟩ := p3 D hD
      have hl : R.length = q.items.length := by rw [← r2, List.length_map]
      refine ⟨_, get_clause r3 (fun e => by rw [e] at hl; simp at hl; omega) (by have := h.ilen; omega), fun q0 _ => by rw [r2]⟩
    · exact brO_ne (andO_ne (fun h => by cases h) (p4 hN))
  · rw [if_neg h0]
    refine part_none fun q0 h1 => ?_
    rw [List.eq_nil_of_length_eq_zero (show q.items.length = 0 by omega)]
    obtain ⟨_, _, _, _, _, _, _⟩ := q0
    simp only at h1
    subst h1
    rfl
end Go.Proofs.YtegnoaejlhbpbaaGreatDoor.lx
namespace Go.Proofs.YtegnoaejlhbpbaaGreatDoor.lx
open Go.RowKit

def InL (F : Int) (l : List Tok) : Prop := ∀ t ∈ l, 0 ≤ t.a ∧ t.a ≤ F
def PosR {α : Type} (F : Int) (r : Res α) : Prop := ∀ y p, r = .bad y p → y ≠ 0 ∧ 0 ≤ p ∧ p ≤ F
theorem PosR.ok {α : Type} {F : Int} {x : α} : PosR F (.ok x) := fun y p h => by cases h
theorem PosR.bad {α : Type} {F y p : Int} (hy : y ≠ 0) (h : 0 ≤ p ∧ p ≤ F) : PosR F (.bad y p : Res α) := fun y' p' e => by injection e with e1 e2; subst e1 e2; exact ⟨hy, h⟩
theorem PosR.then {α β : Type} {F : Int} {r : Res α} {f : α → Res β} (h : PosR F r) (k : ∀ x, r = .ok x → PosR F (f x)) : PosR F (r.then f) := by
  cases r with
  | ok x => exact k x rfl
  | bad y p => exact fun y' p' e => by injection e with e1 e2; subst e1 e2; exact h _ _ rfl
theorem InL.suf {F : Int} {l l' : List Tok} (h : InL F l) (hs : l' <:+ l) : InL F l' := fun t ht => h t (hs.subset ht)
theorem InL.at {F : Int} {l : List Tok} (h : InL F l) (hF : 0 ≤ F) : 0 ≤ (tokAt l F).a ∧ (tokAt l F).a ≤ F := by
  cases l with
  | nil => exact ⟨hF, Int.le_refl _⟩
  | cons t r => exact h t List.mem_cons_self
theorem take_pos {F k : Int} {p : ByteArray → Bool} {l : List Tok} {op : Int} (h : InL F l) (hF : 0 ≤ F) : PosR F (takeR F k p l op) := by
  unfold takeR
  split
  · exact .bad (by decide) (h.at hF)
  split
  · exact .bad (by decide) (h.at hF)
  split
  · exact .bad (by decide) (h.at hF)
  · exact .ok
theorem put_pos {F : Int} {l : List Tok} {st new : List Stp} (h : InL F l) (hF : 0 ≤ F) : PosR F (putR F l st new) := by
  unfold putR
  split
  · exact .ok
  · exact .bad (by decide) (h.at hF)
theorem leaf_pos {F : Int} {l : List Tok} {op : Int} {st : List Stp} (h : InL F l) (hF : 0 ≤ F) : PosR F (leafR F l op st) := by
  unfold leafR
  split
  · exact .bad (by decide) (h.at hF)
  · exact (put_pos h hF).then fun x _ => .ok
theorem parts_pos {F k : Int} (hF : 0 ≤ F) {f : List Tok → Int → List Stp → Res PS} (hok : ∀ l op st s, f l op st = .ok s → Leaves' l op s) : ∀ (m parts : Nat) (l : List Tok) (op : Int) (st : List Stp),
    (∀ l' op st, l'.length ≤ l.length → InL F l' → PosR F (f l' op st)) → l.length < m → InL F l → PosR F (partsR f F k m parts l op st)
  | 0, _, _, _, _, _, hm, _ => absurd hm (Nat.not_lt_zero _)
  | m + 1, parts, l, op, st, hf, hm, h => by
    rw [partsR]
    split
    · refine (hf l op st (Nat.le_refl _) h).then fun x hx => ?_
      obtain ⟨a, b, _⟩ := hok _ _ _ _ hx
      exact parts_pos hF hok m _ _ _ _ (fun l' op st hl => hf l' op st (by omega)) (by omega) (h.suf a)
    · exact .ok
theorem parts_sufP {F k : Int} {f : List Tok → Int → List Stp → Res PS} (hok : ∀ l op st s, f l op st = .ok s → Leaves' l op s) : ∀ (m parts : Nat) (l : List Tok) (op : Int) (st : List Stp) (z : Nat × PS), partsR f F k m parts l op st = .ok z → z.2.1 <:+ l
  | 0, _, _, _, _, _, h => by cases h
  | m + 1, parts, l, op, st, z, h => by
    rw [partsR] at h
    split at h
    · cases h1 : f l op st with
      | bad y p => rw [h1] at h; cases h
      | ok s =>
        rw [h1, then_ok] at h
        exact (parts_sufP hok m _ _ _ _ z h).trans (hok _ _ _ _ h1).1
    · injection h with h
      subst h
      exact List.suffix_refl _
theorem end_pos {F k : Int} {parts : Nat} {l : List Tok} {op : Int} {st : List Stp} (h : InL F l) (hF : 0 ≤ F) : PosR F (endR' F k parts l op st) := by
  unfold endR'
  split
  · refine .bad ?_ (h.at hF)
    split <;> decide
  · exact (put_pos h hF).then fun x _ => (take_pos h hF).then fun y _ => .ok
theorem expr_pos {F : Int} (hF : 0 ≤ F) : ∀ (n : Nat) (l : List Tok) (op : Int) (st : List Stp), l.length < n → InL F l → PosR F (exprR F n l op st)
  | 0, _, _, _, hn, _ => absurd hn (Nat.not_lt_zero _)
  | n + 1, l, op, st, hn, h => by
    rw [exprR]
    split
    · exact leaf_pos h hF
    · refine (take_pos h hF).then fun x hx => ?_
      obtain ⟨a1, a2⟩ := take_suf (l' := x.1) (op' := x.2) hx (by decide)
      refine (take_pos (h.suf a1) hF).then fun y hy => ?_
      obtain ⟨b1, b2⟩ := take_suf (l' := y.1) (op' := y.2) hy (by decide)
      have hy' := (h.suf a1).suf b1
      refine (parts_pos hF (exprR_ok F n) _ _ _ _ _ (fun l' op st hl => expr_pos hF n l' op st (by omega)) (by omega) hy').then fun z hz => ?_
      exact end_pos (hy'.suf (parts_sufP (exprR_ok F n) _ _ _ _ _ _ hz)) hF
theorem whole_pos {F : Int} (hF : 0 ≤ F) {l : List Tok} {op : Int} (h : InL F l) : PosR F (wholeR F l op) := expr_pos hF _ l op [] (Nat.lt_succ_self _) h
theorem whole_suf {F : Int} {l : List Tok} {op : Int} {s : PS} (h : wholeR F l op = .ok s) : s.1 <:+ l := (exprR_ok F _ _ _ _ _ h).1
theorem item_pos {F : Int} (hF : 0 ≤ F) {l : List Tok} {op : Int} (h : InL F l) : PosR F (itemR F l op) := by
  unfold itemR
  split
  · exact (whole_pos hF h).then fun x _ => .ok
  · refine (take_pos h hF).then fun x hx => ?_
    obtain ⟨a1, _⟩ := take_suf (l' := x.1) (op' := x.2) hx (by decide)
    refine (take_pos (h.suf a1) hF).then fun y hy => ?_
    obtain ⟨b1, _⟩ := take_suf (l' := y.1) (op' := y.2) hy (by decide)
    have hy' := (h.suf a1).suf b1
    refine PosR.then ?_ fun z hz => ?_
    · split
      · exact .ok
      · exact whole_pos hF hy'
    · have hzs : z.1 <:+ y.1 := by
        split at hz
        · injection hz with hz; subst hz; exact List.suffix_refl _
        · exact whole_suf hz
      exact (take_pos (hy'.suf hzs) hF).then fun u _ => .ok
theorem atom_pos {F : Int} (hF : 0 ≤ F) {p : ByteArray → Bool} {l : List Tok} {op : Int} (h : InL F l) : PosR F (atomR p F l op) := by
  unfold atomR
  exact (take_pos h hF).then fun x _ => .ok
theorem some_pos {α : Type} {F : Int} (hF : 0 ≤ F) {one : List Tok → Int → Res (List Tok × Int × α)} (hok : ∀ l op s, one l op = .ok s → s.1 <:+ l ∧ s.1.length < l.length) (hone : ∀ l op, InL F l → PosR F (one l op)) :
    ∀ (m : Nat) (out : List α) (l : List Tok) (op : Int), l.length < m → InL F l → PosR F (someR one F m out l op)
  | 0, _, _, _, hm, _ => absurd hm (Nat.not_lt_zero _)
  | m + 1, out, l, op, hm, h => by
    rw [someR]
    split
    · split
      · refine (hone l op h).then fun x hx => ?_
        obtain ⟨a, b⟩ := hok _ _ _ hx
        exact some_pos hF hok hone m _ _ _ (by omega) (h.suf a)
      · exact .bad (by decide) (h.at hF)
    · exact .ok
theorem read_pos {F : Int} (hF : 0 ≤ F) (i : Nat) {s : QS} (h : InL F s.1) : PosR F (readR i F s) := by
  unfold readR
  split
  · refine (atom_pos hF h).then fun a ha => ?_
    have h1 := h.suf (atomR_ok ha).1
    refine (atom_pos hF h1).then fun b hb => ?_
    have h2 := h1.suf (atomR_ok hb).1
    exact (atom_pos hF h2).then fun c _ => .ok
  · exact (whole_pos hF h).then fun a _ => .ok
  · exact (some_pos hF (fun l op s e => ⟨(atomR_ok e).1, (atomR_ok e).2.1⟩) (fun l op h => atom_pos hF h) _ _ _ _ (by omega) h).then fun a _ => .ok
  · exact (some_pos hF (fun l op s e => ⟨(itemR_ok e).1, (itemR_ok e).2.1⟩) (fun l op h => item_pos hF h) _ _ _ _ (by omega) h).then fun a _ => .ok
theorem clause_pos {F : Int} (hF : 0 ≤ F) {i : Nat} (hi : i < 4) {w : ByteArray} {s : QS} (h : InL F s.1) : PosR F (clauseR i w F s) := by
  unfold clauseR
  split
  · refine (take_pos h hF).then fun x hx => ?_
    obtain ⟨a1, _⟩ := take_suf (l' := x.1) (op' := x.2) hx (by decide)
    refine (take_pos (h.suf a1) hF).then fun y hy => ?_
    obtain ⟨b1, _⟩ := take_suf (l' := y.1) (op' := y.2) hy (by decide)
    have hy' := (h.suf a1).suf b1
    refine (read_pos hF i hy').then fun z hz => ?_
    exact (take_pos (hy'.suf (readR_ok hi hz).1) hF).then fun u _ => .ok
  · exact .ok
theorem clause_suf {F : Int} {i : Nat} (hi : i < 4) {w : ByteArray} {s s' : QS} (h : clauseR i w F s = .ok s') : s'.1 <:+ s.1 := by
  unfold clauseR at h
  split at h
  · cases h1 : takeR F 1 (fun _ => true) s.1 s.2.1 with
    | bad y q => rw [h1] at h; cases h
    | ok x =>
      rw [h1, then_ok] at h
      obtain ⟨a1, _⟩ := take_suf (l' := x.1) (op' := x.2) h1 (by decide)
      cases h2 : takeR F 3 (fun _ => true) x.1 x.2 with
      | bad y q => rw [h2] at h; cases h
      | ok y =>
        rw [h2, then_ok] at h
        obtain ⟨b1, _⟩ := take_suf (l' := y.1) (op' := y.2) h2 (by decide)
        cases h3 : readR i F (y.1, y.2, s.2.2) with
        | bad y q => rw [h3] at h; cases h
        | ok z =>
          rw [h3, then_ok] at h
          have c1 := (readR_ok hi h3).1
          cases h4 : takeR F 2 (fun _ => true) z.1 z.2.1 with
          | bad y q => rw [h4] at h; cases h
          | ok u =>
            rw [h4, then_ok] at h
            obtain ⟨d1, _⟩ := take_suf (l' := u.1) (op' := u.2) h4 (by decide)
            injection h with h
            subst h
            exact ((d1.trans c1).trans b1).trans a1
  · injection h with h
    subst h
    exact List.suffix_refl _
theorem clauses_pos {F : Int} (hF : 0 ≤ F) : ∀ (ws : List ByteArray) (i : Nat) (s : QS), i + ws.length ≤ 4 → InL F s.1 → PosR F (clausesR F i ws s)
  | [], _, _, _, _ => .ok
  | w :: ws, i, s, hi, h => by
    simp only [List.length_cons] at hi
    rw [clausesR]
    refine (clause_pos hF (by omega) h).then fun s' hs => ?_
    exact clauses_pos hF ws (i + 1) s' (by omega) (h.suf (clause_suf (by omega) hs))
theorem clauses_suf {F : Int} : ∀ (ws : List ByteArray) (i : Nat) (s s' : QS), i + ws.length ≤ 4 → clausesR F i ws s = .ok s' → s'.1 <:+ s.1
  | [], _, s, s', _, h => by injection h with h; subst h; exact List.suffix_refl _
  | w :: ws, i, s, s', hi, h => by
    simp only [List.length_cons] at hi
    rw [clausesR] at h
    cases h1 : clauseR i w F s with
    | bad y q => rw [h1] at h; cases h
    | ok s1 =>
      rw [h1, then_ok] at h
      exact (clauses_suf ws (i + 1) s1 s' (by omega) h).trans (clause_suf (by omega) h1)
theorem query_pos {F : Int} (hF : 0 ≤ F) {l : List Tok} (h : InL F l) : PosR F (queryR F l) := by
  unfold queryR
  refine (take_pos h hF).then fun x hx => ?_
  obtain ⟨a1, _⟩ := take_suf (l' := x.1) (op' := x.2) hx (by decide)
  refine (take_pos (h.suf a1) hF).then fun y hy => ?_
  obtain ⟨b1, _⟩ := take_suf (l' := y.1) (op' := y.2) hy (by decide)
  have hy' := (h.suf a1).suf b1
  refine (atom_pos hF hy').then fun n hn => ?_
  have hn' := hy'.suf (atomR_ok hn).1
  refine (clauses_pos hF _ _ _ (by decide) hn').then fun s hs => ?_
  have hs' := hn'.suf (clauses_suf _ _ _ _ (by decide) hs)
  refine (take_pos hs' hF).then fun u hu => ?_
  obtain ⟨c1, _⟩ := take_suf (l' := u.1) (op' := u.2) hu (by decide)
  split
  · exact .ok
  · exact .bad (by decide) ((hs'.suf c1).at hF)
theorem gl_size (n : Nat) : ∀ l : List UInt8, l.length = n → (gl l).length ≤ l.length := by
  induction n using Nat.strongRecOn with
  | _ n ih =>
    intro l hl
    by_cases h0 : l = []
    · subst h0; rw [gl_nil]; exact Nat.le_refl _
    · have hw := dec_width l
      have hp : 0 < l.length := List.length_pos_iff.2 h0
      rw [gl_cons h0, List.length_cons]
      have := ih _ (by rw [List.length_drop]; omega) (l.drop (Lib.decodeL l).2) rfl
      rw [List.length_drop] at this
      omega
theorem lexR_in (s : ByteArray) : InL (gl (B s)).length (lexR s).1 ∧ (0 ≤ (lexR s).2.2 ∧ (lexR s).2.2 ≤ (gl (B s)).length) := by
  by_cases hs : 2048 < s.size
  · rw [lexR_long hs]
    exact ⟨(fun _ h => by cases h), Int.le_refl _, Int.natCast_nonneg _⟩
  · rw [lexR_gl s (by omega), lexG]
    split
    · refine ⟨fun t ht => ?_, Int.le_refl _, Int.natCast_nonneg _⟩
      obtain ⟨x, _, rfl⟩ := List.mem_map.1 ht
      show 0 ≤ (((gl (B s)).length - x.2 : Nat) : Int) ∧ (((gl (B s)).length - x.2 : Nat) : Int) ≤ _
      omega
    · refine ⟨(fun _ h => by cases h), ?_⟩
      show 0 ≤ (((gl (B s)).length - _ : Nat) : Int) ∧ (((gl (B s)).length - _ : Nat) : Int) ≤ _
      omega
/-- a text that is none: why is no zero, the query is none, the place is within -/
theorem parse_bad (s : ByteArray) (h : (parseR s).2.1 ≠ 0) : (parseR s).1 = Qry.none ∧ 0 ≤ (parseR s).2.2 ∧ (parseR s).2.2 ≤ s.size := by
  obtain ⟨h1, h2⟩ := lexR_in s
  have hg := gl_size _ (B s) rfl
  rw [B_length] at hg
  unfold parseR at h ⊢
  split at h
  · rename_i hl
    rw [if_pos hl]
    exact ⟨rfl, h2.1, by show (lexR s).2.2 ≤ _; omega⟩
  · rename_i hl
    rw [if_neg hl]
    cases hq : queryR ((gl (B s)).length : Int) (lexR s).1 with
    | bad y p =>
      obtain ⟨_, h3, h4⟩ := query_pos (Int.natCast_nonneg _) h1 y p hq
      exact ⟨rfl, h3, by show p ≤ _; omega⟩
    | ok q =>
      simp only
      rw [hq] at h
      simp only at h
      split
      · exact ⟨rfl, Int.le_refl _, Int.natCast_nonneg _⟩
      · rename_i hc
        rw [if_neg hc] at h
        exact absurd rfl h
theorem parse_why {s : ByteArray} {y p : Int} (h : queryR ((gl (B s)).length : Int) (lexR s).1 = .bad y p) : y ≠ 0 := (query_pos (Int.natCast_nonneg _) (lexR_in s).1 y p h).1
end Go.Proofs.YtegnoaejlhbpbaaGreatDoor.lx
namespace Go.Proofs.YtegnoaejlhbpbaaGreatDoor.lx
open Go.RowKit

theorem words_apart : headR [tokC0] = ⟨#[]⟩ := rfl
theorem query_run {nm : ByteArray} (hnm : nameR nm = true) {TJ TW TG TI : List Tok} {fJ fW fG fI : Qry → Qry} (hJ : OptC 0 joinB TJ fJ) (hW : OptC 1 whereB TW fW) (hG : OptC 2 groupB TG fG) (hI : OptC 3 getB TI fI) {fin : Int} {l : List Tok}
    (hl : flat l = tokO0 :: (([⟨3, fromB, 0, 0⟩, ⟨3, nm, 0, 0⟩] ++ (TJ ++ (TW ++ (TG ++ TI)))) ++ [tokC0])) : Deep (queryR fin l) (fI (fG (fW (fJ { Qry.none with table := nm })))) := by
  obtain ⟨y, l1, rfl, hy, hl1⟩ := flat_cons hl
  obtain ⟨z, l2, rfl, hz, hl2⟩ := flat_cons hl1
  have hl2 : flat l2 = [⟨3, nm, 0, 0⟩] ++ (TJ ++ (TW ++ (TG ++ (TI ++ [tokC0])))) := by rw [hl2]; show _ :: ((TJ ++ (TW ++ (TG ++ TI))) ++ [tokC0]) = _; simp
  have b : ∀ {i : Nat} {w : ByteArray} {T : List Tok} {f : Qry → Qry} {R : List Tok} {x : ByteArray}, OptC i w T f → w ≠ x → headR R ≠ x → headR (T ++ R) ≠ x := by
    intro i w T f R x h h1 h2
    rcases h.head R with e | e
    · rw [e]; exact h1
    · rw [e]; exact h2
  have c : ∀ x, x ∈ clausesL → headR [tokC0] ≠ x := by
    intro x hx
    rw [words_apart]
    simp only [clausesL, List.mem_cons, List.not_mem_nil, or_false] at hx
    rcases hx with rfl | rfl | rfl | rfl <;> decide
  have w1 : whereB ≠ joinB ∧ groupB ≠ joinB ∧ getB ≠ joinB ∧ groupB ≠ whereB ∧ getB ≠ whereB ∧ getB ≠ groupB := by decide
  have hcl : clausesL = [joinB, whereB, groupB, getB] := rfl
  unfold queryR
  refine (takeD_open (at_k hy).1).then ?_
  simp only
  rw [take_any (at_k hz).1 (by rw [(at_k hz).2.1]; exact decide_eq_true rfl) (by decide), then_ok, if_neg (by decide)]
  refine one_then (atom_one (p := nameR) hnm) hl2 fun l3 hl3 e3 => ?_
  simp only
  refine Deep.then (x := (l3.drop (TJ.length + TW.length + TG.length + TI.length), 0 + 1, fI (fG (fW (fJ { Qry.none with table := nm }))))) ?_ ?_
  · rw [hcl]
    refine clauses_opt hJ hl3 (b hW w1.1 (b hG w1.2.1 (b hI w1.2.2.1 (c _ (by simp [hcl]))))) fun l4 hl4 e4 => ?_
    refine clauses_opt hW hl4 (b hG w1.2.2.2.1 (b hI w1.2.2.2.2.1 (c _ (by simp [hcl])))) fun l5 hl5 e5 => ?_
    refine clauses_opt hG hl5 (b hI w1.2.2.2.2.2 (c _ (by simp [hcl]))) fun l6 hl6 e6 => ?_
    refine clauses_opt hI hl6 (c _ (by simp [hcl])) fun l7 hl7 e7 => ?_
    rw [clausesR, e7, e6, e5, e4, List.drop_drop, List.drop_drop, List.drop_drop, show TJ.length + (TW.length + (TG.length + TI.length)) = TJ.length + TW.length + TG.length + TI.length by omega]
    exact .ok
  · have hd : flat (l3.drop (TJ.length + TW.length + TG.length + TI.length)) = [tokC0] := by
      rw [flat_drop, hl3, ← List.drop_drop, ← List.drop_drop, ← List.drop_drop, List.drop_left, List.drop_left, List.drop_left, List.drop_left]
    obtain ⟨d, m, hm, hd', hm0⟩ := flat_cons hd
    simp only
    rw [hm, takeD_close (at_k hd').1, then_ok]
    have hm0 : m = [] := by cases m with | nil => rfl | cons _ _ => cases hm0
    subst hm0
    exact .ok
theorem printR_ok {q : Qry} (h : checkR q = 0) : printR q = (bracketT ([fromB, q.table] ++ (joinL q ++ (whereL q ++ (groupL q ++ getL q)))), 0) := by
  unfold printR
  rw [if_neg (by simp [h])]
  congr 2
  unfold parts4 parts3 parts2 parts1 parts0 joinL whereL groupL getL
  simp only [List.append_assoc]
theorem NarQ.narrow {q : Qry} (h : NarQ q) : NarrowS q.wher ∧ ∀ it ∈ q.items, NarrowS it.e := ⟨h.wher, fun it hi => (h.items it hi).e⟩
/-- what is printed of a right query is read as it -/
theorem once_law {q : Qry} (hc : checkR q = 0) (hok : QryOk q) (hn : QryNum q) (hN : NarQ q) :
    (2048 < (printR q).1.size ∧ (parseR (printR q).1).2.1 = 4) ∨ parseR (printR q).1 = (q, 0, 0) ∨ (parseR (printR q).1).2.1 = 10 := by
  have hC := check_ok hc
  have hp := congrArg Prod.fst (printR_ok hc)
  simp only at hp
  rw [hp]
  obtain ⟨PJ, j1, j2, j3, j4, _⟩ := join_part hC
  obtain ⟨PW, w1, w2, w3, w4, _⟩ := where_part hC hok hn
  obtain ⟨PG, g1, g2, g3, g4, _⟩ := group_part hC
  obtain ⟨PI, i1, i2, i3, i4, _⟩ := get_part hC hok hn
  generalize ht : bracketT ([fromB, q.table] ++ (joinL q ++ (whereL q ++ (groupL q ++ getL q)))) = t
  by_cases hs : 2048 < t.size
  · refine .inl ⟨hs, ?_⟩
    unfold parseR
    rw [lexR_long hs, if_pos (by decide)]
  refine .inr ?_
  have hx := lx_whole (P := [(fromB, atomO fromB), (q.table, atomO q.table)] ++ (PJ ++ (PW ++ (PG ++ PI)))) (s := t) (by simp) (by
    intro x hx
    rcases List.mem_append.1 hx with hx | hx
    · simp only [List.mem_cons, List.not_mem_nil, or_false] at hx
      rcases hx with rfl | rfl
      · exact atoms_lex.1
      · exact name_lex hC.table
    rcases List.mem_append.1 hx with hx | hx
    · exact j2 x hx
    rcases List.mem_append.1 hx with hx | hx
    · exact w2 x hx
    rcases List.mem_append.1 hx with hx | hx
    · exact g2 x hx
    · exact i2 x hx) (by rw [← ht]; simp only [List.map_append, j1, w1, g1, i1, List.map_cons, List.map_nil]) (by omega)
  have e0 : optT (([(fromB, atomO fromB), (q.table, atomO q.table)] ++ (PJ ++ (PW ++ (PG ++ PI))) : List Pc).map (·.2)) = andO (some [⟨3, fromB, 0, 0⟩, ⟨3, q.table, 0, 0⟩]) (andO (optT (PJ.map (·.2))) (andO (optT (PW.map (·.2))) (andO (optT (PG.map (·.2))) (optT (PI.map (·.2)))))) := by
    simp only [List.map_append, optT_append]
    rfl
  rw [e0] at hx
  have hj := j4 ⟨hN.left, hN.right⟩
  have hw := w4 hN.narrow.1
  have hg := g4 hN.group
  have hi := i4 hN.narrow.2
  cases eJ : optT (PJ.map (·.2)) with
  | none => exact absurd eJ hj
  | some TJ =>
  cases eW : optT (PW.map (·.2)) with
  | none => exact absurd eW hw
  | some TW =>
  cases eG : optT (PG.map (·.2)) with
  | none => exact absurd eG hg
  | some TG =>
  cases eI : optT (PI.map (·.2)) with
  | none => exact absurd eI hi
  | some TI =>
  rw [eJ, eW, eG, eI] at hx
  obtain ⟨x1, x2⟩ := hx
  obtain ⟨fJ, oJ, sJ⟩ := j3 TJ eJ
  obtain ⟨fW, oW, sW⟩ := w3 TW eW
  obtain ⟨fG, oG, sG⟩ := g3 TG eG
  obtain ⟨fI, oI, sI⟩ := i3 TI eI
  have hq := query_run (fin := (gl (B t)).length) hC.table oJ oW oG oI x2
  rw [sJ _ rfl rfl rfl, sW _ rfl, sG _ rfl, sI _ rfl] at hq
  have hq' : Deep (queryR ((gl (B t)).length : Int) (lexR t).1) q := hq
  unfold parseR
  rw [if_neg (fun e => e x1)]
  rcases hq' with h | ⟨p, h⟩
  · left
    rw [h]
    simp only
    rw [if_neg (fun e => e hc)]
  · right
    rw [h]
/-! ### clauses in another order -/
def NotOk {α : Type} (r : Res α) : Prop := ∀ x, r ≠ .ok x
theorem Deep.notok {α β : Type} {r : Res α} {x : α} {f : α → Res β} (h : Deep r x) (k : NotOk (f x)) : NotOk (r.then f) := by
  rcases h with rfl | ⟨p, rfl⟩
  · exact k
  · exact fun x h => by cases h
theorem clauses_skip (fin : Int) : ∀ (ws : List ByteArray) (i : Nat) (l : List Tok) (op : Int) (q : Qry), (∀ w ∈ ws, headR l ≠ w) → clausesR fin i ws (l, op, q) = .ok (l, op, q)
  | [], _, _, _, _, _ => rfl
  | w :: ws, i, l, op, q, h => by
    rw [clausesR]
    have e : clauseR i w fin (l, op, q) = .ok (l, op, q) := by
      unfold clauseR
      rw [if_neg (h w List.mem_cons_self)]
    rw [e, then_ok]
    exact clauses_skip fin ws (i + 1) l op q fun v hv => h v (List.mem_cons_of_mem _ hv)
theorem clauses_one (fin : Int) {w : ByteArray} {T R : List Tok} {f : Qry → Qry} {ws2 : List ByteArray} {l : List Tok} {op : Int} {q : Qry} (hl : flat l = T ++ R) (hR : ∀ v ∈ ws2, headR R ≠ v) :
    ∀ (ws1 : List ByteArray) (i : Nat), ClauseP (i + ws1.length) w T f → (∀ v ∈ ws1, w ≠ v) → Deep (clausesR fin i (ws1 ++ w :: ws2) (l, op, q)) (l.drop T.length, op, f q)
  | [], i, h, _ => by
    show Deep (clausesR fin i (w :: ws2) (l, op, q)) _
    rw [clausesR]
    refine (h.run fin l op q R hl).then ?_
    rw [clauses_skip]
    · exact .ok
    · intro v hv
      rw [← headR_flat, flat_drop, hl, List.drop_left]
      exact hR v hv
  | v :: ws1, i, h, hv => by
    show Deep (clausesR fin i (v :: (ws1 ++ w :: ws2)) (l, op, q)) _
    rw [clausesR]
    have e : clauseR i v fin (l, op, q) = .ok (l, op, q) := by
      unfold clauseR
      rw [if_neg]
      rw [← headR_flat, hl]
      obtain ⟨T', rfl⟩ := h.hd
      exact hv v List.mem_cons_self
    rw [e, then_ok]
    refine clauses_one fin hl hR ws1 (i + 1) ?_ fun x hx => hv x (List.mem_cons_of_mem _ hx)
    have e2 : i + 1 + ws1.length = i + (v :: ws1).length := by simp only [List.length_cons]; omega
    rw [e2]
    exact h
theorem query_bad {nm : ByteArray} (hnm : nameR nm = true) {TA TB : List Tok} {f g : Qry → Qry} {i j : Nat} {w v : ByteArray} (hA : ClauseP i w TA f) (hB : ClauseP j v TB g) {ws1 ws2 : List ByteArray} (hws : clausesL = ws1 ++ w :: ws2) (hi : ws1.length = i)
    (h1 : ∀ x ∈ ws1, w ≠ x) (h2 : ∀ x ∈ ws2, v ≠ x) {fin : Int} {l : List Tok} (hl : flat l = tokO0 :: (([⟨3, fromB, 0, 0⟩, ⟨3, nm, 0, 0⟩] ++ (TA ++ TB)) ++ [tokC0])) : NotOk (queryR fin l) := by
  obtain ⟨y, l1, rfl, hy, hl1⟩ := flat_cons hl
  obtain ⟨z, l2, rfl, hz, hl2⟩ := flat_cons hl1
  have hl2 : flat l2 = [⟨3, nm, 0, 0⟩] ++ (TA ++ (TB ++ [tokC0])) := by rw [hl2]; show _ :: ((TA ++ TB) ++ [tokC0]) = _; simp
  unfold queryR
  refine (takeD_open (at_k hy).1).notok ?_
  simp only
  rw [take_any (at_k hz).1 (by rw [(at_k hz).2.1]; exact decide_eq_true rfl) (by decide), then_ok, if_neg (by decide)]
  refine ((atom_one (p := nameR) hnm).run fin l2 _ _ hl2).notok ?_
  simp only
  have hl3 : flat (l2.drop ([⟨3, nm, 0, 0⟩] : List Tok).length) = TA ++ (TB ++ [tokC0]) := by rw [flat_drop, hl2, List.drop_left]
  obtain ⟨T', hT⟩ := hB.hd
  rw [hws]
  refine (clauses_one fin hl3 (f := f) (w := w) (fun x hx => by rw [hT]; exact h2 x hx) ws1 0 (by rw [Nat.zero_add, hi]; exact hA) h1).notok ?_
  simp only
  have hd : flat ((l2.drop ([⟨3, nm, 0, 0⟩] : List Tok).length).drop TA.length) = tokO0 :: ((⟨3, v, 0, 0⟩ :: T') ++ [tokC0]) := by rw [flat_drop, hl3, List.drop_left, hT]; rfl
  obtain ⟨d, m, hm, hdk, _⟩ := flat_cons hd
  rw [hm]
  have hk : d.k = 1 := (at_k hdk).1
  intro x hx
  unfold takeR at hx
  rw [tokAt_cons, hk] at hx
  split at hx
  · cases hx
  · rw [if_pos (by decide)] at hx
    cases hx
/-- a query's text with two clauses in a wrong order is none -/
theorem order_bad {q : Qry} (hC : CheckOk q) {i j : Nat} {w v : ByteArray} {LA LB : List ByteArray} {gA gB : (Qry → Qry) → Prop} {nA nB : Prop} (hA : PartP i w LA gA nA) (hB : PartP j v LB gB nB) (h0 : LA ≠ []) (h0' : LB ≠ [])
    {ws1 ws2 : List ByteArray} (hws : clausesL = ws1 ++ w :: ws2) (hi : ws1.length = i) (h1 : ∀ x ∈ ws1, w ≠ x) (h2 : ∀ x ∈ ws2, v ≠ x) : (parseR (bracketT ([fromB, q.table] ++ (LA ++ LB)))).2.1 ≠ 0 := by
  obtain ⟨PA, a1, a2, _, _, a5⟩ := hA
  obtain ⟨PB, b1, b2, _, _, b5⟩ := hB
  generalize ht : bracketT ([fromB, q.table] ++ (LA ++ LB)) = t
  by_cases hs : 2048 < t.size
  · unfold parseR
    rw [lexR_long hs, if_pos (by decide)]
    decide
  have hx := lx_whole (P := [(fromB, atomO fromB), (q.table, atomO q.table)] ++ (PA ++ PB)) (s := t) (by simp) (by
    intro x hx
    rcases List.mem_append.1 hx with hx | hx
    · simp only [List.mem_cons, List.not_mem_nil, or_false] at hx
      rcases hx with rfl | rfl
      · exact atoms_lex.1
      · exact name_lex hC.table
    rcases List.mem_append.1 hx with hx | hx
    · exact a2 x hx
    · exact b2 x hx) (by rw [← ht]; simp only [List.map_append, a1, b1, List.map_cons, List.map_nil]) (by omega)
  have e0 : optT (([(fromB, atomO fromB), (q.table, atomO q.table)] ++ (PA ++ PB) : List Pc).map (·.2)) = andO (some [⟨3, fromB, 0, 0⟩, ⟨3, q.table, 0, 0⟩]) (andO (optT (PA.map (·.2))) (optT (PB.map (·.2)))) := by
    simp only [List.map_append, optT_append]
    rfl
  rw [e0] at hx
  unfold parseR
  cases eA : optT (PA.map (·.2)) with
  | none =>
    rw [eA] at hx
    have hx' : (lexR t).2.1 ≠ 0 := hx
    rw [if_pos hx']
    exact hx'
  | some TA =>
    cases eB : optT (PB.map (·.2)) with
    | none =>
      rw [eA, eB] at hx
      have hx' : (lexR t).2.1 ≠ 0 := hx
      rw [if_pos hx']
      exact hx'
    | some TB =>
      rw [eA, eB] at hx
      obtain ⟨x1, x2⟩ := hx
      obtain ⟨f, cA⟩ := a5 h0 TA eA
      obtain ⟨g, cB⟩ := b5 h0' TB eB
      have hq := query_bad (fin := (gl (B t)).length) hC.table cA cB hws hi h1 h2 x2
      rw [if_neg (fun e => e x1)]
      cases hr : queryR ((gl (B t)).length : Int) (lexR t).1 with
      | ok x => exact absurd hr (hq x)
      | bad y p =>
        exact parse_why hr
end Go.Proofs.YtegnoaejlhbpbaaGreatDoor.lx
namespace Go.Proofs.YtegnoaejlhbpbaaGreatDoor.lx
open Go.RowKit
set_option linter.unusedVariables false
set_option linter.unusedSimpArgs false

theorem QryV.read2 {B : Nat} {q : Qry} {v : Value} {w : World} (h : QryV B q v w) : ∃ io ic wo wc go gc, v = .agg #[.slice io q.items.length ic, .string q.table, .string q.join, .string q.left, .string q.right, .slice wo q.wher.length wc, .slice go q.group.length gc] ∧ QryIn q io wo go w ∧ q.group.length ≤ gc := by
  obtain ⟨iv, wv, gv, h1, h2, h3, h4⟩ := h
  obtain ⟨io, ic, rfl, hi⟩ := h2.row
  obtain ⟨wo, wc, rfl, hw⟩ := own_stps h3
  obtain ⟨_, cap, e, hcap, _⟩ := own_cells h4
  obtain ⟨go, gc, rfl, hg⟩ := own_txts h4
  injection e with _ _ e3
  exact ⟨io, ic, wo, wc, go, gc, h1, ⟨hi, hw, hg⟩, by rw [e3]; exact hcap⟩
theorem good_num {q : Qry} (h : GoodQ q) : QryNum q := ⟨fun t ht => (h.wher t ht).2.2, fun it hi t ht => ((h.items it hi).e t ht).2.2⟩
theorem parse_ok {s : ByteArray} (h : (parseR s).2.1 = 0) : checkR (parseR s).1 = 0 ∧ NarQ (parseR s).1 := by
  unfold parseR at h ⊢
  split at h
  · rename_i hl; exact absurd h hl
  · rename_i hl
    rw [if_neg hl]
    cases hq : queryR ((gl (B s)).length : Int) (lexR s).1 with
    | bad y p =>
      rw [hq] at h
      exact absurd h (parse_why hq)
    | ok q =>
      rw [hq] at h
      simp only at h ⊢
      split at h
      · exact absurd h (by decide)
      · rename_i hc
        rw [if_neg hc]
        have hc0 : checkR q = 0 := Classical.byContradiction hc
        exact ⟨hc0, queryR_nar hq (lexR_thin s)⟩
theorem print_size {q : Qry} (h : checkR q = 0) (hn : QryNum q) : (printR q).1.size ≤ 9223372036854775807 := by
  unfold printR
  rw [if_neg (by simp [h])]
  have h1 := bracketT_le (parts_le (check_ok h) hn)
  have h2 := (parts_len q).2.2.2.2
  have : (parts4 q).length * (1048576 + 1) ≤ 6 * 1048577 := Nat.mul_le_mul_right _ h2
  show (bracketT (parts4 q)).size ≤ _
  omega
theorem none_in (w : World) : QryIn Qry.none none none none w := ⟨.inl rfl, .inl rfl, .inl rfl⟩

set_option maxHeartbeats 4000000 in
set_option maxRecDepth 100000 in
theorem Once_any (s : ByteArray) (w : World) (hG : PGlob w) (hs : s.size ≤ 9223372036854775807) :
    Calls Tryz.prog 4 #[.string s] w fun e w' => e = .returned (.bool true) ∧ Below w.heap.size w w' := by
  have hGQ := parse_good s
  have hbad := parse_bad s
  have hgood := parse_ok (s := s)
  have HP := Lib.hid fun w (hG : PGlob w) => Parse_any s w hG hs
  obtain ⟨⟨q, y, p⟩, hR⟩ : ∃ R, parseR s = R := ⟨_, rfl⟩
  rw [hR] at hGQ HP hbad hgood
  simp only at hGQ hbad hgood
  have HG := Lib.hid hG
  clear hR hG
  by_cases hy : y = 0
  · subst hy
    obtain ⟨hc, hN⟩ := hgood rfl
    clear hgood hbad
    have hn := good_num hGQ
    have hpz := print_size hc hn
    have HPT := Lib.hid fun w (hG : PGlob w) => Parse_any (printR q).1 w hG hpz
    have hlaw := once_law hc hGQ.ok hn hN
    have hp2 := congrArg Prod.snd (printR_ok hc)
    simp only at hp2
    have HPR := Lib.hid fun (io wo go : Option Addr) (ic wc gc : Nat) (w : World) (hG : PGlob w) (hR : QryIn q io wo go w) (hcap : q.group.length ≤ gc) => print_any (icap := ic) (wcap := wc) hG hR hGQ.ok hn hcap
    have HCK := Lib.hid fun (io wo go : Option Addr) (ic wc gc : Nat) (w : World) (hG : PGlob w) (hR : QryIn q io wo go w) => check_any (icap := ic) (wcap := wc) (gcap := gc) hG hR hGQ.ok
    rw [hp2] at HPR
    rw [hc] at HCK
    have HGQ := Lib.hid hGQ
    generalize (printR q).1 = t at HPT hlaw HPR hpz
    generalize parseR t = R2 at HPT hlaw
    obtain ⟨q2, y2, p2⟩ := R2
    have HPZ := Lib.hid hpz
    clear hGQ hc hN hn hp2 hpz
    simp only at hlaw
    have HL := Lib.hid hlaw
    clear hlaw
    go_enter Tryz.func4, Tryz.ntmps4
    go_wp2_with (go_at_call 13; refine (lives3_any _ HG.out).mono ?_; rintro e w1 ⟨rfl, hb1⟩; refine Hid.out ?_)
    refine Lib.hid ?_
    have HG1 := Lib.hid (HG.out.self hb1)
    have HB1 := Lib.hid hb1
    clear hb1
    go_wp2_with (go_at_call 18; refine (HP.out _ HG1.out).mono ?_; rintro e w2 ⟨v, rfl, hv, hb2⟩; refine Hid.out ?_)
    refine Lib.hid ?_
    obtain ⟨io, ic, wo, wc, go, gc, rfl, hq, hcap⟩ := hv.read2
    have HQ := Lib.hid hq
    have HCAP := Lib.hid hcap
    have HG2 := Lib.hid (HG1.out.self hb2)
    have HB2 := Lib.hid (below_self HB1.out hb2)
    clear hv hq hb2 hcap HG1 HB1
    go_upto_region 4 with fail
    have hn := heap_alloc_new w2 (.cells (qryV q io wo go ic wc gc) 26)
    have hbA := (Below.refl w2.heap.size w2).alloc (Nat.le_refl _) (.cells (qryV q io wo go ic wc gc) 26)
    have HG3 := Lib.hid (HG2.out.self hbA)
    have HB3 := Lib.hid (below_self HB2.out hbA)
    have HQ3 := Lib.hid (HQ.out.self hbA)
    unfold qryV at hn hbA HG3 HB3 HQ3
    have hl3 := (Array.getElem?_eq_some_iff.1 hn).1
    generalize w2.alloc (.cells #[.slice io q.items.length ic, .string q.table, .string q.join, .string q.left, .string q.right, .slice wo q.wher.length wc, .slice go q.group.length gc] 26) = W3 at *
    have HN := Lib.hid hn
    have hcl : ∀ (j : Nat) v, (#[.slice io q.items.length ic, .string q.table, .string q.join, .string q.left, .string q.right, .slice wo q.wher.length wc, .slice go q.group.length gc] : Array Value)[j]? = some v → W3.cell? ⟨w2.heap.size, j, none⟩ = some v := fun j v h => by rw [Lib.cell_of_heap hn]; exact h
    have k0 := hcl 0 _ rfl
    have k1 := hcl 1 _ rfl
    have k2 := hcl 2 _ rfl
    have k3 := hcl 3 _ rfl
    have k4 := hcl 4 _ rfl
    have k5 := hcl 5 _ rfl
    have k6 := hcl 6 _ rfl
    clear hcl hn hbA HG2 HB2 HQ
    go_wp2_with (go_at_call 7; refine (HPR.out _ _ _ _ _ _ _ HG3.out HQ3.out HCAP.out).mono ?_; rintro e w4 ⟨rfl, hb4⟩; refine Hid.out ?_)
    refine Lib.hid ?_
    have HG4 := Lib.hid (HG3.out.self hb4)
    have HB4 := Lib.hid (below_self HB3.out hb4)
    have HQ4 := Lib.hid (HQ3.out.self hb4)
    have HN4 := Lib.hid ((hb4.block _ hl3).trans HN.out)
    have hl4 := Nat.lt_of_lt_of_le hl3 hb4.size
    clear hb4 HG3 HB3 HQ3 HN k0 k1 k2 k3 k4 k5 k6
    go_wp2_with (go_at_call 18; refine (HPT.out _ HG4.out).mono ?_; rintro e w5 ⟨v5, rfl, hv5, hb5⟩; refine Hid.out ?_)
    refine Lib.hid ?_
    obtain ⟨io5, ic5, wo5, wc5, go5, gc5, rfl, hq5, _⟩ := hv5.read2
    have HQ5 := Lib.hid hq5
    have HG5 := Lib.hid (HG4.out.self hb5)
    have HB5 := Lib.hid (below_self HB4.out hb5)
    have HQA := Lib.hid (HQ4.out.self hb5)
    have HN5 := Lib.hid ((hb5.block _ hl4).trans HN4.out)
    have hl5 := Nat.lt_of_lt_of_le hl4 hb5.size
    clear hv5 hq5 hb5 HG4 HB4 HQ4 HN4
    go_upto_region 8 with fail
    have hn6 := heap_alloc_new w5 (.cells #[.slice io5 q2.items.length ic5, .string q2.table, .string q2.join, .string q2.left, .string q2.right, .slice wo5 q2.wher.length wc5, .slice go5 q2.group.length gc5] 26)
    have hb6 := (Below.refl w5.heap.size w5).alloc (Nat.le_refl _) (.cells #[.slice io5 q2.items.length ic5, .string q2.table, .string q2.join, .string q2.left, .string q2.right, .slice wo5 q2.wher.length wc5, .slice go5 q2.group.length gc5] 26)
    have HG6 := Lib.hid (HG5.out.self hb6)
    have HB6 := Lib.hid (below_self HB5.out hb6)
    have HQ6 := Lib.hid (HQA.out.self hb6)
    have HQB := Lib.hid (HQ5.out.self hb6)
    have hnq := (hb6.block _ hl5).trans HN5.out
    have hl6 := (Array.getElem?_eq_some_iff.1 hn6).1
    generalize w5.alloc (.cells #[.slice io5 q2.items.length ic5, .string q2.table, .string q2.join, .string q2.left, .string q2.right, .slice wo5 q2.wher.length wc5, .slice go5 q2.group.length gc5] 26) = W6 at *
    have HN6 := Lib.hid hn6
    have HNQ := Lib.hid hnq
    have hcl : ∀ (j : Nat) v, (#[.slice io q.items.length ic, .string q.table, .string q.join, .string q.left, .string q.right, .slice wo q.wher.length wc, .slice go q.group.length gc] : Array Value)[j]? = some v → W6.cell? ⟨w2.heap.size, j, none⟩ = some v := fun j v h => by rw [Lib.cell_of_heap hnq]; exact h
    have k0 := hcl 0 _ rfl
    have k1 := hcl 1 _ rfl
    have k2 := hcl 2 _ rfl
    have k3 := hcl 3 _ rfl
    have k4 := hcl 4 _ rfl
    have k5 := hcl 5 _ rfl
    have k6 := hcl 6 _ rfl
    clear hcl hn6 hnq hb6 HG5 HB5 HQA HQ5 HN5
    go_wp2_with (go_at_call 14; refine (HCK.out _ _ _ _ _ _ _ HG6.out HQ6.out).mono ?_; rintro e w7 ⟨rfl, hb7⟩; refine Hid.out ?_)
    refine Lib.hid ?_
    have HB7 := Lib.hid (below_self HB6.out hb7)
    have HQ7 := Lib.hid (HQ6.out.self hb7)
    have HQ8 := Lib.hid (HQB.out.self hb7)
    have hn7 := (hb7.block _ hl6).trans HN6.out
    have hl2 := (Array.getElem?_eq_some_iff.1 HNQ.out).1
    have hnq7 := (hb7.block _ hl2).trans HNQ.out
    clear hb7 HB6 HQ6 HQB HN6 HNQ k0 k1 k2 k3 k4 k5 k6
    rcases HL.out with ⟨ht, hy2⟩ | hy2 | hy2
    · subst hy2
      clear HL hn7 hnq7
      go_wp2_with fail
      go_ret
      exact ⟨by show Ending.returned (.bool (decide (2048 < (t.size : Int)))) = _; rw [decide_eq_true (by omega)], HB7.out⟩
    · injection hy2 with e1 e2
      injection e2 with e2 e3
      subst e1 e2 e3
      clear HL
      have hcl : ∀ (j : Nat) v, (#[.slice io q2.items.length ic, .string q2.table, .string q2.join, .string q2.left, .string q2.right, .slice wo q2.wher.length wc, .slice go q2.group.length gc] : Array Value)[j]? = some v → w7.cell? ⟨w2.heap.size, j, none⟩ = some v := fun j v h => by rw [Lib.cell_of_heap hnq7]; exact h
      have hcm : ∀ (j : Nat) v, (#[.slice io5 q2.items.length ic5, .string q2.table, .string q2.join, .string q2.left, .string q2.right, .slice wo5 q2.wher.length wc5, .slice go5 q2.group.length gc5] : Array Value)[j]? = some v → w7.cell? ⟨w5.heap.size, j, none⟩ = some v := fun j v h => by rw [Lib.cell_of_heap hn7]; exact h
      have k0 := hcl 0 _ rfl
      have k1 := hcl 1 _ rfl
      have k2 := hcl 2 _ rfl
      have k3 := hcl 3 _ rfl
      have k4 := hcl 4 _ rfl
      have k5 := hcl 5 _ rfl
      have k6 := hcl 6 _ rfl
      have m0 := hcm 0 _ rfl
      have m1 := hcm 1 _ rfl
      have m2 := hcm 2 _ rfl
      have m3 := hcm 3 _ rfl
      have m4 := hcm 4 _ rfl
      have m5 := hcm 5 _ rfl
      have m6 := hcm 6 _ rfl
      have HS := Lib.hid (SameQ_any (ic := ic5) (wc := wc5) (gc := gc5) (ic' := ic) (wc' := wc) (gc' := gc) HQ8.out HQ7.out (by have := HGQ.out.ilen; omega) (by have := HGQ.out.wlen; omega) (by have := HGQ.out.glen; omega) (fun it hit => by have := (HGQ.out.items it hit).len; omega))
      unfold qryV at HS
      clear hcl hcm hn7 hnq7
      go_wp2_with (go_at_call 19; refine HS.out.mono ?_; rintro e w8 ⟨rfl, hb8⟩; refine Hid.out ?_)
      refine Lib.hid ?_
      have HB8 := Lib.hid (below_self HB7.out hb8)
      clear hb8 k0 k1 k2 k3 k4 k5 k6 m0 m1 m2 m3 m4 m5 m6
      go_wp2_with fail
      go_ret
      exact ⟨rfl, HB8.out⟩
    · subst hy2
      clear HL hn7 hnq7
      go_wp2_with fail
      go_ret
      exact ⟨rfl, HB7.out⟩
  · obtain ⟨rfl, hp0, hp1⟩ := hbad hy
    clear hgood hbad hGQ
    have hyb : (y == 0) = false := by simpa using hy
    have hyb2 : (y != 0) = true := by simpa using hy
    clear hy
    go_enter Tryz.func4, Tryz.ntmps4
    go_wp2_with (go_at_call 13; refine (lives3_any _ HG.out).mono ?_; rintro e w1 ⟨rfl, hb1⟩; refine Hid.out ?_)
    refine Lib.hid ?_
    have HG1 := Lib.hid (HG.out.self hb1)
    have HB1 := Lib.hid hb1
    clear hb1
    go_wp2_with (go_at_call 18; refine (HP.out _ HG1.out).mono ?_; rintro e w2 ⟨v, rfl, hv, hb2⟩; refine Hid.out ?_)
    refine Lib.hid ?_
    obtain ⟨io, ic, wo, wc, go, gc, rfl, hq, hcap⟩ := hv.read2
    have HQ := Lib.hid hq
    have HB2 := Lib.hid (below_self HB1.out hb2)
    clear hv hq hb2 hcap HG1 HB1
    go_upto_region 5 with fail
    have hn := heap_alloc_new w2 (.cells (qryV Qry.none io wo go ic wc gc) 26)
    have hbA := (Below.refl w2.heap.size w2).alloc (Nat.le_refl _) (.cells (qryV Qry.none io wo go ic wc gc) 26)
    have HB3 := Lib.hid (below_self HB2.out hbA)
    have HQ3 := Lib.hid (HQ.out.self hbA)
    unfold qryV at hn hbA HB3 HQ3
    generalize w2.alloc (.cells #[.slice io Qry.none.items.length ic, .string Qry.none.table, .string Qry.none.join, .string Qry.none.left, .string Qry.none.right, .slice wo Qry.none.wher.length wc, .slice go Qry.none.group.length gc] 26) = W3 at *
    have hcl : ∀ (j : Nat) v, (#[.slice io 0 ic, .string ⟨#[]⟩, .string ⟨#[]⟩, .string ⟨#[]⟩, .string ⟨#[]⟩, .slice wo 0 wc, .slice go 0 gc] : Array Value)[j]? = some v → W3.cell? ⟨w2.heap.size, j, none⟩ = some v := fun j v h => by rw [Lib.cell_of_heap hn]; exact h
    have k0 := hcl 0 _ rfl
    have k1 := hcl 1 _ rfl
    have k2 := hcl 2 _ rfl
    have k3 := hcl 3 _ rfl
    have k4 := hcl 4 _ rfl
    have k5 := hcl 5 _ rfl
    have k6 := hcl 6 _ rfl
    have HS : Hid (Calls Tryz.prog 19 #[.agg #[.slice io 0 ic, .string ⟨#[]⟩, .string ⟨#[]⟩, .string ⟨#[]⟩, .string ⟨#[]⟩, .slice wo 0 wc, .slice go 0 gc], .agg #[.slice none 0 0, .string ⟨#[]⟩, .string ⟨#[]⟩, .string ⟨#[]⟩, .string ⟨#[]⟩, .slice none 0 0, .slice none 0 0]] W3 fun e w' => e = .returned (.bool true) ∧ Below W3.heap.size W3 w') :=
      Lib.hid (SameQ_any (q := Qry.none) (ic := ic) (wc := wc) (gc := gc) (ic' := 0) (wc' := 0) (gc' := 0) HQ3.out (none_in W3) (Nat.zero_le _) (Nat.zero_le _) (Nat.zero_le _) (fun it hit => by cases hit))
    clear hcl hn hbA HB2 HQ
    go_wp2_with (go_at_call 19; refine HS.out.mono ?_; rintro e w8 ⟨rfl, hb8⟩; refine Hid.out ?_)
    refine Lib.hid ?_
    have HB8 := Lib.hid (below_self HB3.out hb8)
    clear hb8 k0 k1 k2 k3 k4 k5 k6
    go_wp2_with fail
    go_ret
    exact ⟨rfl, HB8.out⟩
end Go.Proofs.YtegnoaejlhbpbaaGreatDoor.lx
