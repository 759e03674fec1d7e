/-
  LexPlaces: the plain laws. No program in sight. Rows of tokens in later worlds. No condition. Tokens are small: their texts, and how many there are. Plain law; no condition. What is read is small: its texts, its kinds, how much there is. Plain law; no condition. What a call owns can be read. No condition. A row of kinds of the call's own, cut in two. No condition. value's name, CheckCols. Conditions: the package-level variables are laid; the columns lie there. potsherdref03.SameSteps, Texts: whether two rows are one. No condition but that the rows lie there. bind's names, column. No condition. bind's grouped. Conditions: the items lie there.
-/
import Derived.Test.YtgjfbbmachoolaaGreatDoorM11
import Derived.Lib.ParseIntBTie
import Derived.WalkSpells
import Derived.WalkLawsBesides
import Derived.Test.YtgjfbbmachoolaaGreatDoorM01
import Derived.Test.YtgjfbbmachoolaaGreatDoorM10
namespace Go.Proofs.YtgjfbbmachoolaaGreatDoor.lx
open Go.RowKit

abbrev KL := List (Tok × Nat)
/-- where the range loop stands: tokens seen, runes seen, the byte -/
def PInv (s : ByteArray) (K : KL) (nx pl pos : Nat) : Prop :=
 nx ≤ K.length ∧ pl + (gl ((B s).drop pos)).length = (gl (B s)).length ∧
  ∃ X, X <:+ gl ((B s).drop pos) ∧ firm X ∧ (lexK X).1 = K.drop nx ∧ (lexK X).2.1 = 0

end Go.Proofs.YtgjfbbmachoolaaGreatDoor.lx
namespace Go.Proofs.YtgjfbbmachoolaaGreatDoor.lx
open Go.RowKit

theorem tokCells_at : ∀ (ts : List Tok) (i : Nat) (t : Tok) (j : Nat), ts[i]? = some t → j < 4 → (tokCells ts)[i * 4 + j]? = t.cells[j]?
 | [], i, t, j, h, _ => by simp at h
 | x :: ts, 0, t, j, h, hj => by
  simp at h
  subst h
  rw [tokCells, List.flatMap_cons, List.getElem?_append_left (by simp [Tok.cells]; omega)]
  simp
 | x :: ts, i + 1, t, j, h, hj => by
  have := tokCells_at ts i t j (by simpa using h) hj
  rw [tokCells, List.flatMap_cons, List.getElem?_append_right (by simp [Tok.cells]; omega)]
  have e : (i + 1) * 4 + j - x.cells.length = i * 4 + j := by simp [Tok.cells]; omega
  rw [e]
  exact this

/-- the row of tokens that Lex gave, in a later world -/
def Row (ao : Option Addr) (L : List Tok) (w : World) : Prop := L.length = 0 ∨ ∃ g, ao = some ⟨g, 0, none⟩ ∧ ∀ (j : Nat) u, (tokCells L)[j]? = some u → w.cell? ⟨g, j, none⟩ = some u
theorem Row.below {ao : Option Addr} {L : List Tok} {w w' : World} (h : Row ao L w) (hb : Below w.heap.size w w') : Row ao L w' := by
 rcases h with h | ⟨g, h1, h2⟩
 ·
  exact .inl h
 ·
  refine .inr ⟨g, h1, fun j u hu => ?_⟩
  have hc := h2 j u hu
  exact (World.cell?_of_block (a := ⟨g, j, none⟩) (hb.block g (World.block_lt_of_cell? w _ hc))).trans hc
theorem Row.at {ao : Option Addr} {L : List Tok} {w : World} (h : Row ao L w) {i : Nat} {t : Tok} (ht : L[i]? = some t) :
  ∃ g, ao = some ⟨g, 0, none⟩ ∧ w.cell? ⟨g, i * 4, none⟩ = some (.int .u8 t.k) ∧ w.cell? ⟨g, i * 4 + 1, none⟩ = some (.string t.s) ∧ w.cell? ⟨g, i * 4 + 2, none⟩ = some (.int .i64 t.n) ∧ w.cell? ⟨g, i * 4 + 3, none⟩ = some (.int .i64 t.a) := by
 have hlt := (List.getElem?_eq_some_iff.1 ht).1
 obtain ⟨g, h1, h2⟩ := h.resolve_left (by omega)
 exact ⟨g, h1, h2 _ _ (tokCells_at L i t 0 ht (by omega)), h2 _ _ (tokCells_at L i t 1 ht (by omega)), h2 _ _ (tokCells_at L i t 2 ht (by omega)), h2 _ _ (tokCells_at L i t 3 ht (by omega))⟩
theorem own_row {w : World} {B : Nat} {v : Value} {ts : List Tok} (h : w.ownsRow B 144 4 v ts.length (tokCells ts)) : ∃ ao cap, v = .slice ao ts.length cap ∧ Row ao ts w := by
 obtain ⟨ao, cap, h1, h2⟩ := own_slice h
 refine ⟨ao, cap, h1, ?_⟩
 rcases h2 with h2 | ⟨g, h3, _, _, h4⟩
 ·
  exact .inl h2
 ·
  exact .inr ⟨g, h3, h4⟩

end Go.Proofs.YtgjfbbmachoolaaGreatDoor.lx
namespace Go.Proofs.YtgjfbbmachoolaaGreatDoor.lx
open Go.RowKit

/-- a token that is small -/
def Tiny (t : Tok) : Prop := t.s.size ≤ 256 ∧ -9223372036854775808 ≤ t.n ∧ t.n ≤ 9223372036854775807
theorem tiny_zero {k a : Int} {s : ByteArray} (h : s.size ≤ 256) : Tiny ⟨k, s, 0, a⟩ := ⟨h, (by decide : (-9223372036854775808 : Int) ≤ 0), (by decide : (0 : Int) ≤ 9223372036854775807)⟩
theorem tiny_no : Tiny Tok.no := tiny_zero (Nat.zero_le _)
theorem textF_small (n : Nat) : ∀ (fine : Bool) (acc : List UInt8) (l : ByteArray) (p : Nat), l.size = n → Tiny (textF fine acc l p).1.1 := by
 induction n using Nat.strongRecOn with
 | _ n ih =>
  intro fine acc l p hl
  by_cases h0 : l.size = 0
  ·
   rw [textF_end h0]; exact tiny_no
  ·
   have hlt := adv_lt l h0
   by_cases h34 : dr l = 34
   ·
    rw [textF_close h0 h34]
    by_cases hf : fine = false
    ·
     rw [if_pos hf]; exact tiny_no
    ·
     rw [if_neg hf]
     by_cases h256 : 256 < acc.length
     ·
      rw [if_pos h256]; exact tiny_no
     ·
      rw [if_neg h256]
      refine tiny_zero ?_
      rw [show (ByteArray.mk acc.toArray).size = acc.length from by simp [ByteArray.size]]
      omega
   ·
    by_cases h92 : dr l = 92
    ·
     have hes := escF_size (adv l) (p + 1)
     cases he : (escF (adv l) (p + 1)).1.isSome with
     | true => rw [textF_esc h0 h92 he]; exact ih _ (by omega) _ _ _ _ rfl
     | false => rw [textF_bad h0 h92 he]; exact tiny_no
    ·
     rw [textF_rune h0 h34 h92]
     exact ih _ (by omega) _ _ _ _ rfl
theorem numTok_small (s : ByteArray) : Tiny (numTok s).1 := by
 unfold numTok
 split
 ·
  rename_i n hn
  have hb := Lib.parseIntB_bounds hn
  split
  ·
   exact ⟨Nat.zero_le _, by simp at hb; exact hb.1, by simp at hb; show n ≤ _; omega⟩
  ·
   exact tiny_no
 ·
  exact tiny_no
theorem wordTok_small (fine : Bool) (s : ByteArray) : Tiny (wordTok fine s).1 := by
 unfold wordTok
 split
 ·
  exact tiny_no
 ·
  split
  ·
   exact numTok_small s
  ·
   split
   ·
    exact tiny_no
   ·
    exact tiny_zero (by omega)
theorem tokF_small (l : ByteArray) (p : Nat) : Tiny (tokF l p).1.1 := by
 unfold tokF
 split
 ·
  exact tiny_zero (Nat.zero_le _)
 ·
  split
  ·
   exact tiny_zero (Nat.zero_le _)
  ·
   split
   ·
    exact textF_small _ _ _ _ _ rfl
   ·
    exact wordTok_small _ _
theorem lexF_small (n : Nat) : ∀ (out : List Tok) (l : ByteArray) (p : Nat), l.size = n → (∀ t ∈ out, Tiny t) → (∀ t ∈ (lexF out l p).1, Tiny t) ∧ (lexF out l p).1.length ≤ out.length + l.size := by
 induction n using Nat.strongRecOn with
 | _ n ih =>
  intro out l p hl ho
  rw [lexF]
  split
  ·
   exact ⟨ho, Nat.le_add_right _ _⟩
  ·
   split
   ·
    exact ⟨fun t ht => by (cases ht), Nat.zero_le _⟩
   ·
    split
    ·
     rename_i hlt
     obtain ⟨h1, h2⟩ := ih _ (by rw [← hl]; exact hlt) (out ++ [(tokF l p).1.1.at p]) _ (skipF false (tokF l p).2.1 (tokF l p).2.2).2 rfl (by
      intro t ht
      rcases List.mem_append.1 ht with h | h
      ·
       exact ho t h
      ·
       rw [List.mem_singleton.1 h]
       exact tokF_small l p)
     refine ⟨h1, ?_⟩
     rw [List.length_append] at h2
     simp only [List.length_cons, List.length_nil] at h2
     omega
    ·
     exact ⟨fun t ht => by (cases ht), Nat.zero_le _⟩
theorem skipF_le (n : Nat) : ∀ (note : Bool) (l : ByteArray) (p : Nat), l.size = n → (skipF note l p).1.size ≤ l.size := by
 induction n using Nat.strongRecOn with
 | _ n ih =>
  intro note l p hl
  by_cases h0 : l.size = 0
  ·
   rw [skipF_end h0]; exact Nat.le_refl _
  ·
   have hlt := adv_lt l h0
   cases hr : (noted note (dr l) || blankR (dr l)) with
   | true => rw [skipF_go h0 hr]; exact Nat.le_trans (ih _ (by omega) _ _ _ rfl) (by omega)
   | false => rw [skipF_stop h0 hr]; exact Nat.le_refl _
theorem lexR_small (s : ByteArray) : (∀ t ∈ (lexR s).1, Tiny t) ∧ (lexR s).1.length ≤ 2048 := by
 unfold lexR
 split
 ·
  exact ⟨fun t ht => by (cases ht), Nat.zero_le _⟩
 ·
  obtain ⟨h1, h2⟩ := lexF_small _ [] (skipF false s 0).1 (skipF false s 0).2 rfl (fun t ht => by (cases ht))
  have := skipF_le _ false s 0 rfl
  simp only [List.length_nil] at h2
  exact ⟨h1, by omega⟩
theorem trow_of {A : Nat} {ao : Option Addr} {L : List Tok} {w : World} (h : Row ao L w) (hA : w.heap.size ≤ A) : TRow A ao L w := by
 rcases h with h | ⟨g, h1, h2⟩
 ·
  exact .inl h
 ·
  by_cases h0 : L.length = 0
  ·
   exact .inl h0
  refine .inr ⟨g, 0, h1, ?_, fun i t ht => ?_⟩
  ·
   obtain ⟨t, ht⟩ : ∃ t, L[0]? = some t := ⟨_, List.getElem?_eq_getElem (by omega)⟩
   have := World.block_lt_of_cell? w _ (h2 0 _ (tokCells_at L 0 t 0 ht (by omega)))
   have : g < w.heap.size := this
   omega
  ·
   have := fun j (hj : j < 4) u (hu : t.cells[j]? = some u) => h2 _ u ((tokCells_at L i t j ht hj).trans hu)
   simp only [Nat.zero_add]
   exact ⟨this 0 (by omega) _ rfl, this 1 (by omega) _ rfl, this 2 (by omega) _ rfl, this 3 (by omega) _ rfl⟩
end Go.Proofs.YtgjfbbmachoolaaGreatDoor.lx
namespace Go.Proofs.YtgjfbbmachoolaaGreatDoor.lx
open Go.RowKit

def Good (t : Stp) : Prop := t.s.size ≤ 256 ∧ (0 ≤ t.k ∧ t.k ≤ 255) ∧ -9223372036854775808 ≤ t.n ∧ t.n ≤ 9223372036854775807
def Small (l : List Tok) : Prop := ∀ t ∈ l, Tiny t
theorem Small.suf {l l' : List Tok} (h : Small l) (hs : l' <:+ l) : Small l' := fun t ht => h t (hs.subset ht)
theorem Small.tiny {l : List Tok} (h : Small l) (fin : Int) : Tiny (tokAt l fin) := by
 cases l with
 | nil => exact tiny_zero (Nat.zero_le _)
 | cons t r => exact h t List.mem_cons_self
theorem Small.at {l : List Tok} (h : Small l) (fin : Int) : (tokAt l fin).s.size ≤ 256 := (h.tiny fin).1
theorem putR_eq {fin : Int} {l : List Tok} {st new st' : List Stp} (h : putR fin l st new = .ok st') : st' = st ++ new := by
 unfold putR at h
 split at h
 ·
  injection h with h; exact h.symm
 ·
  cases h
theorem good_app {a b : List Stp} (ha : ∀ t ∈ a, Good t) (hb : ∀ t ∈ b, Good t) : ∀ t ∈ a ++ b, Good t := fun t ht => (List.mem_append.1 ht).elim (ha t) (hb t)
theorem leafS_good {t : Tok} {x : Stp} (h : leafS t = some x) (hT : Tiny t) : Good x := by
 obtain ⟨ht, hn0, hn1⟩ := hT
 have z : (-9223372036854775808 : Int) ≤ 0 ∧ (0 : Int) ≤ 9223372036854775807 := by decide
 unfold leafS at h
 have e : (⟨#[]⟩ : ByteArray).size ≤ 256 := Nat.zero_le _
 repeat' split at h
 all_goals first
  | (injection h with h; subst h; exact ⟨ht, (by decide : (0 : Int) ≤ 6 ∧ (6 : Int) ≤ 255), z⟩)
  | (injection h with h; subst h; exact ⟨ht, (by decide : (0 : Int) ≤ 5 ∧ (5 : Int) ≤ 255), z⟩)
  | (injection h with h; subst h; exact ⟨e, (by decide : (0 : Int) ≤ 4 ∧ (4 : Int) ≤ 255), hn0, hn1⟩)
  | (injection h with h; subst h; exact ⟨e, (by decide : (0 : Int) ≤ 3 ∧ (3 : Int) ≤ 255), z⟩)
  | (injection h with h; subst h; exact ⟨e, (by decide : (0 : Int) ≤ 2 ∧ (2 : Int) ≤ 255), z⟩)
  | (injection h with h; subst h; exact ⟨e, (by decide : (0 : Int) ≤ 1 ∧ (1 : Int) ≤ 255), z⟩)
  | cases h
theorem leafR_good {fin : Int} {l : List Tok} {op : Int} {st : List Stp} {s : PS} (h : leafR fin l op st = .ok s) (hl : Small l) (hst : ∀ t ∈ st, Good t) : ∀ t ∈ s.2.2, Good t := by
 unfold leafR at h
 cases hx : leafS (tokAt l fin) with
 | none => rw [hx] at h; cases h
 | some x =>
  rw [hx] at h
  simp only at h
  cases hp : putR fin l st [x] with
  | bad y p => rw [hp] at h; cases h
  | ok st' =>
   rw [hp] at h
   injection h with h
   subst h
   rw [putR_eq hp]
   exact good_app hst fun t ht => by rw [List.mem_singleton.1 ht]; exact leafS_good hx (hl.tiny fin)
theorem partsR_good {f : List Tok → Int → List Stp → Res PS} {fin k : Int} (hok : ∀ l op st s, f l op st = .ok s → Leaves' l op s) (hf : ∀ l op st s, f l op st = .ok s → Small l → (∀ t ∈ st, Good t) → ∀ t ∈ s.2.2, Good t) :
  ∀ (m parts : Nat) (l : List Tok) (op : Int) (st : List Stp) (z : Nat × PS), partsR f fin k m parts l op st = .ok z → Small l → (∀ t ∈ st, Good t) → ∀ t ∈ z.2.2.2, Good t := by
 intro m
 induction m with
 | zero => intro parts l op st z h; cases h
 | succ m ih =>
  intro parts l op st z h hl hst
  unfold partsR at h
  split at h
  ·
   cases hfl : f l op st with
   | bad y p => rw [hfl] at h; cases h
   | ok s =>
    rw [hfl] at h
    exact ih _ _ _ _ _ h (hl.suf (hok _ _ _ _ hfl).1) (hf _ _ _ _ hfl hl hst)
  ·
   injection h with h
   subst h
   exact hst
theorem endR_good {fin k : Int} {parts : Nat} {l : List Tok} {op : Int} {st : List Stp} {s : PS} (h : endR' fin k parts l op st = .ok s) (hk : 0 ≤ k ∧ k ≤ 255) (hst : ∀ t ∈ st, Good t) : ∀ t ∈ s.2.2, Good t := by
 unfold endR' at h
 split at h
 ·
  cases h
 ·
  cases hp : putR fin l st (List.replicate (if 20 ≤ k then parts - 1 else 1) ⟨k, ⟨#[]⟩, 0⟩) with
  | bad y p => rw [hp] at h; cases h
  | ok st' =>
   rw [hp] at h
   simp only [Res.then] at h
   cases ht : takeR fin 2 (fun _ => true) l op with
   | bad y p => rw [ht] at h; cases h
   | ok x =>
    rw [ht] at h
    injection h with h
    subst h
    rw [putR_eq hp]
    exact good_app hst fun t ht => by rw [(List.mem_replicate.1 ht).2]; exact ⟨Nat.zero_le _, hk, (by decide : (-9223372036854775808 : Int) ≤ 0), (by decide : (0 : Int) ≤ 9223372036854775807)⟩
theorem exprR_good (fin : Int) : ∀ (n : Nat) (l : List Tok) (op : Int) (st : List Stp) (s : PS), exprR fin n l op st = .ok s → Small l → (∀ t ∈ st, Good t) → ∀ t ∈ s.2.2, Good t := by
 intro n
 induction n with
 | zero => intro l op st s h; cases h
 | succ n ih =>
  intro l op st s h hl hst
  unfold exprR at h
  split at h
  ·
   exact leafR_good h hl hst
  ·
   cases h1 : takeR fin 1 (fun _ => true) l op with
   | bad y p => rw [h1] at h; cases h
   | ok x =>
    rw [h1] at h
    simp only [Res.then] at h
    cases h2 : takeR fin 3 isOp x.1 x.2 with
    | bad y p => rw [h2] at h; cases h
    | ok y =>
     rw [h2] at h
     simp only at h
     cases h3 : partsR (exprR fin n) fin (opK (tokAt x.1 fin).s) (y.1.length + 2) 0 y.1 y.2 st with
     | bad q p => rw [h3] at h; cases h
     | ok z =>
      rw [h3] at h
      simp only at h
      obtain ⟨_, _, c, _⟩ := takeR_ok h2 (by decide)
      have hk := opK_range c
      exact endR_good h ⟨by omega, by omega⟩ (partsR_good (exprR_ok fin n) ih _ _ _ _ _ _ h3 ((hl.suf (take_suf h1 (by decide)).1).suf (take_suf h2 (by decide)).1) hst)
theorem wholeR_good {fin : Int} {l : List Tok} {op : Int} {s : PS} (h : wholeR fin l op = .ok s) (hl : Small l) : ∀ t ∈ s.2.2, Good t := exprR_good fin _ _ _ _ _ h hl fun t ht => by cases ht
structure GoodI (it : Itm) : Prop where
 e : ∀ t ∈ it.e, Good t
 len : it.e.length ≤ 64
 lo : 0 ≤ it.agg
 hi : it.agg ≤ 4
theorem itemR_good {fin : Int} {l : List Tok} {op : Int} {s : List Tok × Int × Itm} (h : itemR fin l op = .ok s) (hl : Small l) : GoodI s.2.2 := by
 obtain ⟨_, _, hk1, _, hk2, hk3⟩ := itemR_ok h
 refine ⟨?_, hk1, hk2, hk3⟩
 clear hk1 hk2 hk3
 unfold itemR at h
 by_cases hi : Lib.idxOfS wordsL (headR l) < 1
 ·
  rw [if_pos hi] at h
  cases hw : wholeR fin l op with
  | bad y q => rw [hw] at h; cases h
  | ok x =>
   rw [hw] at h
   injection h with h
   subst h
   exact wholeR_good hw hl
 rw [if_neg hi] at h
 cases h1 : takeR fin 1 (fun _ => true) l op with
 | bad y q => rw [h1] at h; cases h
 | ok x =>
  obtain ⟨l1, op1⟩ := x
  rw [h1] at h
  simp only [Res.then] at h
  cases h2 : takeR fin 3 (fun _ => true) l1 op1 with
  | bad y q => rw [h2] at h; cases h
  | ok x =>
   obtain ⟨l2, op2⟩ := x
   rw [h2] at h
   simp only at h
   have hs2 := (hl.suf (take_suf h1 (by decide)).1).suf (take_suf h2 (by decide)).1
   by_cases hX1 : Lib.idxOfS wordsL (headR l) = 1
   ·
    rw [if_pos hX1] at h
    simp only at h
    cases h4 : takeR fin 2 (fun _ => true) l2 op2 with
    | bad y q => rw [h4] at h; cases h
    | ok x =>
     rw [h4] at h
     injection h with h
     subst h
     exact fun t ht => by cases ht
   ·
    rw [if_neg hX1] at h
    cases h3 : wholeR fin l2 op2 with
    | bad y q => rw [h3] at h; cases h
    | ok x =>
     rw [h3] at h
     simp only at h
     cases h4 : takeR fin 2 (fun _ => true) x.1 x.2.1 with
     | bad y q => rw [h4] at h; cases h
     | ok x' =>
      rw [h4] at h
      injection h with h
      subst h
      exact wholeR_good h3 hs2
theorem someR_all {α : Type} {P : α → Prop} {one : List Tok → Int → Res (List Tok × Int × α)} {fin : Int} (hone : ∀ l op s, one l op = .ok s → Small l → s.1 <:+ l ∧ P s.2.2) :
  ∀ (m : Nat) (out : List α) (l : List Tok) (op : Int) (s : List Tok × Int × List α), someR one fin m out l op = .ok s → Small l → (∀ x ∈ out, P x) → out.length ≤ 8 → (∀ x ∈ s.2.2, P x) ∧ s.2.2.length ≤ 8
 | 0, _, _, _, _, h, _, _, _ => by cases h
 | m + 1, out, l, op, s, h, hl, ho, h8 => by
  rw [someR] at h
  split at h
  ·
   split at h
   ·
    cases ho1 : one l op with
    | bad y q => rw [ho1] at h; cases h
    | ok x =>
     rw [ho1] at h
     obtain ⟨a, b⟩ := hone _ _ _ ho1 hl
     exact someR_all hone m _ _ _ s h (hl.suf a) (fun y hy => (List.mem_append.1 hy).elim (ho y) (fun h => by rw [List.mem_singleton.1 h]; exact b)) (by rw [List.length_append]; simp only [List.length_cons, List.length_nil]; omega)
   ·
    cases h
  ·
   injection h with h
   subst h
   exact ⟨ho, h8⟩
/-- a query whose parts are small -/
structure GoodQ (q : Qry) : Prop where
 items : ∀ it ∈ q.items, GoodI it
 ilen : q.items.length ≤ 8
 wher : ∀ t ∈ q.wher, Good t
 wlen : q.wher.length ≤ 64
 group : ∀ s ∈ q.group, s.size ≤ 256
 glen : q.group.length ≤ 8
 table : q.table.size ≤ 256
 join : q.join.size ≤ 256
 left : q.left.size ≤ 256
 right : q.right.size ≤ 256
theorem atomR_val {fin : Int} {p : ByteArray → Bool} {l : List Tok} {op : Int} {s : List Tok × Int × ByteArray} (h : atomR p fin l op = .ok s) : s.2.2 = (tokAt l fin).s := by
 unfold atomR at h
 cases ht : takeR fin 3 p l op with
 | bad y q => rw [ht] at h; cases h
 | ok x => rw [ht] at h; injection h with h; subst h; rfl
theorem readR_good {k : Nat} (hk : k < 4) {fin : Int} {l : List Tok} {op : Int} {q : Qry} {s : QS} (h : readR k fin (l, op, q) = .ok s) (hl : Small l) (hq : GoodQ q) : GoodQ s.2.2 := by
 match k, hk with
 | 0, _ =>
  unfold readR at h
  simp only at h
  cases ha : atomR nameR fin l op with
  | bad y p => rw [ha] at h; cases h
  | ok a =>
   rw [ha] at h
   simp only [Res.then] at h
   have hl1 := hl.suf (atomR_ok ha).1
   cases hb : atomR columnR fin a.1 a.2.1 with
   | bad y p => rw [hb] at h; cases h
   | ok b =>
    rw [hb] at h
    simp only at h
    have hl2 := hl1.suf (atomR_ok hb).1
    cases hc : atomR columnR fin b.1 b.2.1 with
    | bad y p => rw [hc] at h; cases h
    | ok c =>
     rw [hc] at h
     injection h with h
     subst h
     exact { hq with join := by rw [atomR_val ha]; exact hl.at fin, left := by rw [atomR_val hb]; exact hl1.at fin, right := by rw [atomR_val hc]; exact hl2.at fin }
 | 1, _ =>
  unfold readR at h
  simp only at h
  cases ha : wholeR fin l op with
  | bad y p => rw [ha] at h; cases h
  | ok a =>
   rw [ha] at h
   injection h with h
   subst h
   exact { hq with wher := wholeR_good ha hl, wlen := (exprR_ok fin _ _ _ _ _ ha).2.2.1 }
 | 2, _ =>
  unfold readR at h
  simp only at h
  cases ha : someR (atomR columnR fin) fin (l.length + 2) [] l op with
  | bad y p => rw [ha] at h; cases h
  | ok a =>
   rw [ha] at h
   injection h with h
   subst h
   obtain ⟨h1, h2⟩ := someR_all (P := fun s : ByteArray => s.size ≤ 256) (fun l op s h hl => ⟨(atomR_ok h).1, by rw [atomR_val h]; exact hl.at fin⟩) _ _ _ _ _ ha hl (fun x hx => by cases hx) (Nat.zero_le _)
   exact { hq with group := h1, glen := h2 }
 | 3, _ =>
  unfold readR at h
  simp only at h
  cases ha : someR (itemR fin) fin (l.length + 2) [] l op with
  | bad y p => rw [ha] at h; cases h
  | ok a =>
   rw [ha] at h
   injection h with h
   subst h
   obtain ⟨h1, h2⟩ := someR_all (P := GoodI) (fun l op s h hl => ⟨(itemR_ok h).1, itemR_good h hl⟩) _ _ _ _ _ ha hl (fun x hx => by cases hx) (Nat.zero_le _)
   exact { hq with items := h1, ilen := h2 }
theorem clauseR_good {k : Nat} (hk : k < 4) {w : ByteArray} {fin : Int} {s s' : QS} (h : clauseR k w fin s = .ok s') (hl : Small s.1) (hq : GoodQ s.2.2) : Small s'.1 ∧ GoodQ s'.2.2 := by
 obtain ⟨l, op, q⟩ := s
 unfold clauseR at h
 split at h
 ·
  simp only at h
  cases h1 : takeR fin 1 (fun _ => true) l op with
  | bad y q => rw [h1] at h; cases h
  | ok x =>
   rw [h1] at h
   simp only [Res.then] at h
   cases h2 : takeR fin 3 (fun _ => true) x.1 x.2 with
   | bad y q => rw [h2] at h; cases h
   | ok y =>
    rw [h2] at h
    simp only at h
    have hs2 := (hl.suf (take_suf h1 (by decide)).1).suf (take_suf h2 (by decide)).1
    cases h3 : readR k fin (y.1, y.2, q) with
    | bad y q => rw [h3] at h; cases h
    | ok z =>
     rw [h3] at h
     simp only at h
     have hs3 := hs2.suf (readR_ok hk h3).1
     cases h4 : takeR fin 2 (fun _ => true) z.1 z.2.1 with
     | bad y q => rw [h4] at h; cases h
     | ok u =>
      rw [h4] at h
      injection h with h
      subst h
      exact ⟨hs3.suf (take_suf h4 (by decide)).1, readR_good (fin := fin) (op := y.2) (s := z) hk h3 hs2 hq⟩
 ·
  injection h with h
  subst h
  exact ⟨hl, hq⟩
theorem clausesR_good {fin : Int} : ∀ (ws : List ByteArray) (k : Nat) (s s' : QS), k + ws.length ≤ 4 → clausesR fin k ws s = .ok s' → Small s.1 → GoodQ s.2.2 → Small s'.1 ∧ GoodQ s'.2.2
 | [], _, s, s', _, h, hl, hq => by injection h with h; subst h; exact ⟨hl, hq⟩
 | w :: ws, k, s, s', hk, h, hl, hq => by
  rw [clausesR] at h
  simp only [List.length_cons] at hk
  cases h1 : clauseR k w fin s with
  | bad y q => rw [h1] at h; cases h
  | ok s1 =>
   rw [h1] at h
   obtain ⟨a, b⟩ := clauseR_good (by omega) h1 hl hq
   exact clausesR_good ws (k + 1) s1 s' (by omega) h a b
theorem GoodQ.none : GoodQ Qry.none where
 items := fun _ h => by cases h
 ilen := Nat.zero_le _
 wher := fun _ h => by cases h
 wlen := Nat.zero_le _
 group := fun _ h => by cases h
 glen := Nat.zero_le _
 table := Nat.zero_le _
 join := Nat.zero_le _
 left := Nat.zero_le _
 right := Nat.zero_le _
theorem queryR_good {fin : Int} {l : List Tok} {q : Qry} (h : queryR fin l = .ok q) (hl : Small l) : GoodQ q := by
 unfold queryR at h
 cases h1 : takeR fin 1 (fun _ => true) l 0 with
 | bad y q => rw [h1] at h; cases h
 | ok x =>
  rw [h1] at h
  simp only [Res.then] at h
  cases h2 : takeR fin 3 (fun s => decide (s = fromB)) x.1 x.2 with
  | bad y q => rw [h2] at h; cases h
  | ok y =>
   rw [h2] at h
   simp only at h
   have hs2 := (hl.suf (take_suf h1 (by decide)).1).suf (take_suf h2 (by decide)).1
   cases h3 : atomR nameR fin y.1 y.2 with
   | bad y q => rw [h3] at h; cases h
   | ok n =>
    rw [h3] at h
    simp only at h
    cases h4 : clausesR fin 0 clausesL (n.1, n.2.1, { Qry.none with table := n.2.2 }) with
    | bad y q => rw [h4] at h; cases h
    | ok s =>
     rw [h4] at h
     simp only at h
     obtain ⟨_, hg⟩ := clausesR_good _ _ _ _ (by decide) h4 (hs2.suf (atomR_ok h3).1) { GoodQ.none with table := by rw [atomR_val h3]; exact hs2.at fin }
     cases h5 : takeR fin 2 (fun _ => true) s.1 s.2.1 with
     | bad y q => rw [h5] at h; cases h
     | ok u =>
      rw [h5] at h
      simp only at h
      split at h
      ·
       injection h with h; subst h; exact hg
      ·
       cases h
theorem Good.ok {L : List Stp} (h : ∀ t ∈ L, Good t) : StpsOk L := fun t ht => ⟨Nat.lt_of_le_of_lt (h t ht).1 (by decide), (h t ht).2.1⟩
theorem GoodI.ok {it : Itm} (h : GoodI it) : ItmOk it := ⟨Good.ok h.e, by have := h.len; omega, h.lo, by have := h.hi; omega⟩
theorem GoodQ.ok {q : Qry} (h : GoodQ q) : QryOk q :=
 ⟨fun it hi => (h.items it hi).ok, by have := h.ilen; omega, Good.ok h.wher, by have := h.wlen; omega, fun s hs => Nat.lt_of_le_of_lt (h.group s hs) (by decide), by have := h.glen; omega, Nat.lt_of_le_of_lt h.table (by decide), Nat.lt_of_le_of_lt h.join (by decide), Nat.lt_of_le_of_lt h.left (by decide), Nat.lt_of_le_of_lt h.right (by decide)⟩
end Go.Proofs.YtgjfbbmachoolaaGreatDoor.lx
namespace Go.Proofs.YtgjfbbmachoolaaGreatDoor.lx
open Go.RowKit

theorem own_cells {w : World} {B n : Nat} {e : TypeId} {size : Nat} {v : Value} {xs : List Value} (h : w.ownsRow B e size v n xs) :
  ∃ ao cap, v = .slice ao n cap ∧ n ≤ cap ∧ (n = 0 ∨ ∃ g, ao = some ⟨g, 0, none⟩ ∧ B ≤ g ∧ g < w.heap.size ∧ ∀ (j : Nat) u, xs[j]? = some u → w.cell? ⟨g, j, none⟩ = some u) := by
 rcases h.2 with ⟨hv, h0⟩ | ⟨g, cap, cur, hv, hb, hg, h1, h2, h3, h4⟩
 ·
  exact ⟨none, 0, by rw [hv, h0], by omega, .inl h0⟩
 ·
  refine ⟨_, cap, hv, h1, .inr ⟨g, rfl, hb, (Array.getElem?_eq_some_iff.1 hg).1, fun j u hu => ?_⟩⟩
  rw [Lib.cell_of_heap hg]
  rw [← h4] at hu
  have hj : j < n * size := by
   by_cases hj : j < n * size
   ·
    exact hj
   ·
    rw [List.getElem?_eq_none (by rw [List.length_take]; omega)] at hu; cases hu
  rw [List.getElem?_take_of_lt hj] at hu
  simpa using hu
theorem stpCells_at : ∀ (ts : List Stp) (i : Nat) (t : Stp) (j : Nat), ts[i]? = some t → j < 3 → (stpCells ts)[i * 3 + j]? = t.cells[j]?
 | [], i, t, j, h, _ => by simp at h
 | x :: ts, 0, t, j, h, hj => by
  simp at h
  subst h
  rw [stpCells, List.flatMap_cons, List.getElem?_append_left (by simp [Stp.cells]; omega)]
  simp
 | x :: ts, i + 1, t, j, h, hj => by
  have := stpCells_at ts i t j (by simpa using h) hj
  rw [stpCells, List.flatMap_cons, List.getElem?_append_right (by simp [Stp.cells]; omega)]
  have e : (i + 1) * 3 + j - x.cells.length = i * 3 + j := by simp [Stp.cells]; omega
  rw [e]
  exact this
theorem itmCells_at : ∀ (its : List Itm) (vs : List Value) (i : Nat) (it : Itm) (v : Value), its[i]? = some it → vs[i]? = some v → (itmCells its vs)[i * 2]? = some (.int .u8 it.agg) ∧ (itmCells its vs)[i * 2 + 1]? = some v
 | [], _, i, _, _, h, _ => by simp at h
 | _ :: _, [], i, _, _, _, h => by simp at h
 | x :: its, y :: vs, 0, it, v, h, k => by
  simp at h k
  subst h
  subst k
  exact ⟨rfl, rfl⟩
 | x :: its, y :: vs, i + 1, it, v, h, k => by
  obtain ⟨a, b⟩ := itmCells_at its vs i it v (by simpa using h) (by simpa using k)
  have e1 : (i + 1) * 2 = i * 2 + 2 := by omega
  have e2 : (i + 1) * 2 + 1 = i * 2 + 1 + 2 := by omega
  rw [e2, e1]
  exact ⟨a, b⟩
theorem own_stps {w : World} {B : Nat} {v : Value} {L : List Stp} (h : w.ownsRow B 50 3 v L.length (stpCells L)) : ∃ ao cap, v = .slice ao L.length cap ∧ StpRow ao L w := by
 obtain ⟨ao, cap, hv, _, h0⟩ := own_cells h
 refine ⟨ao, cap, hv, ?_⟩
 rcases h0 with h0 | ⟨g, h1, _, _, h2⟩
 ·
  exact .inl h0
 ·
  refine .inr ⟨g, 0, h1, fun i t ht => ?_⟩
  have := fun j (hj : j < 3) u (hu : t.cells[j]? = some u) => h2 _ u ((stpCells_at L i t j ht hj).trans hu)
  simp only [Nat.zero_add]
  exact ⟨this 0 (by omega) _ rfl, this 1 (by omega) _ rfl, this 2 (by omega) _ rfl⟩
theorem own_txts {w : World} {B : Nat} {v : Value} {L : List ByteArray} (h : w.ownsRow B 9 1 v L.length (L.map Value.string)) : ∃ ao cap, v = .slice ao L.length cap ∧ TxtRow ao L w := by
 obtain ⟨ao, cap, hv, _, h0⟩ := own_cells h
 refine ⟨ao, cap, hv, ?_⟩
 rcases h0 with h0 | ⟨g, h1, _, _, h2⟩
 ·
  exact .inl h0
 ·
  refine .inr ⟨g, 0, h1, fun i s hs => ?_⟩
  rw [Nat.zero_add]
  exact h2 i _ (by rw [List.getElem?_map, hs]; rfl)
theorem IO.row {B : Nat} {w : World} {its : List Itm} {iv : Value} (h : IO B w its iv) : ∃ ao cap, iv = .slice ao its.length cap ∧ ItmRow ao its w := by
 obtain ⟨vs, hl, ho, hx⟩ := h
 obtain ⟨ao, cap, hv, _, h0⟩ := own_cells ho
 refine ⟨ao, cap, hv, ?_⟩
 rcases h0 with h0 | ⟨g, h1, _, _, h2⟩
 ·
  exact .inl h0
 ·
  refine .inr ⟨g, 0, h1, fun i it hi => ?_⟩
  have hil := (List.getElem?_eq_some_iff.1 hi).1
  obtain ⟨v, hvi⟩ : ∃ v, vs[i]? = some v := ⟨_, List.getElem?_eq_getElem (by omega)⟩
  obtain ⟨a, b⟩ := itmCells_at its vs i it v hi hvi
  obtain ⟨eo, ec, he, hr⟩ := own_stps (hx i it v hi hvi).1
  subst he
  simp only [Nat.zero_add]
  exact ⟨eo, ec, h2 _ _ a, h2 _ _ b, hr⟩
theorem QryV.read {B : Nat} {q : Qry} {v : Value} {w : World} (h : QryV B q v w) : ∃ io ic wo wc go gc, v = .agg #[.slice io q.items.length ic, .string q.table, .string q.join, .string q.left, .string q.right, .slice wo q.wher.length wc, .slice go q.group.length gc] ∧ QryIn q io wo go w := by
 obtain ⟨iv, wv, gv, h1, h2, h3, h4⟩ := h
 obtain ⟨io, ic, rfl, hi⟩ := h2.row
 obtain ⟨wo, wc, rfl, hw⟩ := own_stps h3
 obtain ⟨go, gc, rfl, hg⟩ := own_txts h4
 exact ⟨io, ic, wo, wc, go, gc, h1, hi, hw, hg⟩
end Go.Proofs.YtgjfbbmachoolaaGreatDoor.lx
namespace Go.Proofs.YtgjfbbmachoolaaGreatDoor.lx
open Go.RowKit

/-- a cut, as an operation -/
theorem exec_slice {P : Program} {ρ : Operand → Value} {o : Oper} {t : TypeId} {x : Operand} {lo hi mx : Option Operand} (ho : o.op = .slice t x lo hi mx) {xv : Value} {lov hiv mxv : Option Value} (hx : ρ x = xv) (hlo : lo.map ρ = lov) (hhi : hi.map ρ = hiv) (hmx : mx.map ρ = mxv) {v : Value} {w : World}
  (h : (Instr.sliceAt t xv lov hiv mxv).run P w = .ok v w) : (execOp ρ o).run P w = .ok (.value v) w := by
 subst hx hlo hhi hmx
 unfold execOp
 rw [ho]
 simp only [Sem.run_bind, h, Result.andThen]
 rfl
/-- a stack of kinds -/
def kCells (st : List Int) : List Value := st.map (Value.int .u8)
theorem kCells_at {st : List Int} {j : Nat} {u : Value} (h : (kCells st)[j]? = some u) : ∃ x, st[j]? = some x ∧ u = .int .u8 x := by
 unfold kCells at h
 rw [List.getElem?_map] at h
 cases hx : st[j]? with
 | none => rw [hx] at h; cases h
 | some x => rw [hx] at h; injection h with h; exact ⟨x, rfl, h.symm⟩
set_option maxRecDepth 100000 in
theorem slice_parts {so : Option Addr} {n scap a kn : Nat} (ha : n = a + kn) (hc : n ≤ scap) (hz : so = none → scap = 0) (hz0 : ∀ b, so = some b → ∃ g, b = ⟨g, 0, none⟩) :
  ∃ s1 s2 c2, (∀ w, (Instr.sliceAt 30 (.slice so n scap) none (some (.int .i64 a)) (some (.int .i64 a))).run Tryz.prog w = .ok (.slice s1 a a) w) ∧
   (∀ w, (Instr.sliceAt 30 (.slice so n scap) (some (.int .i64 a)) none none).run Tryz.prog w = .ok (.slice s2 kn c2) w) ∧
   ∀ (B : Nat) (st : List Int) (w : World), w.ownsRow B 45 1 (.slice so n scap) n (kCells st) → ((s1 = none → a = 0) ∧ (∀ b, s1 = some b → ∀ j u, (kCells (st.take a))[j]? = some u → w.cell? (b.add j) = some u) ∧ KRow s2 (st.drop a) w) := by
 have hsz : ∀ w, (sizeOf (Tryz.prog.elem 30)).run Tryz.prog w = .ok 1 w := fun w => by kernel_rfl
 have hu : Tryz.prog.underlying 30 = some (.slice (Tryz.prog.elem 30)) := by kernel_rfl
 refine ⟨if a = 0 then so else so.map (·.add (0 * 1)), if scap = a then so else so.map (·.add (a * 1)), scap - a, fun w => ?_, fun w => ?_, ?_⟩
 ·
  rw [run_sliceAt_slice _ _ _ _ _ _ hu, run_slice_hm _ _ _ _ _ hu .i64 .i64 a a (by omega) (by omega) (by omega), hsz]
  simp only [Result.andThen, sliced, Int.toNat_natCast, Nat.sub_zero]
 ·
  rw [run_sliceAt_slice _ _ _ _ _ _ hu, run_slice_l _ _ _ _ _ hu .i64 a (by omega) (by omega), hsz]
  simp only [Result.andThen, sliced, Int.toNat_natCast]
  rw [show n - a = kn by omega]
 ·
  clear hsz hu
  intro B st w hown
  cases so with
  | none =>
   have h0 := hz rfl
   refine ⟨fun _ => by omega, fun b hb => ?_, ?_⟩
   ·
    exfalso
    split at hb <;> simp at hb
   ·
    have hl := hown.1
    refine .inl ?_
    simp only [kCells, List.length_map] at hl
    rw [List.length_drop]
    omega
  | some b =>
   obtain ⟨g, rfl⟩ := hz0 b rfl
   have hcell : ∀ (j : Nat) x, st[j]? = some x → w.cell? ⟨g, j, none⟩ = some (.int .u8 x) := by
    intro j x hx
    obtain ⟨ao, cap, hv, _, h0⟩ := own_cells hown
    injection hv with h1 _ h3
    have hl := hown.1
    simp only [kCells, List.length_map] at hl
    have hjl : j < st.length := (List.getElem?_eq_some_iff.1 hx).1
    rcases h0 with h0 | ⟨g', h1', _, _, h2⟩
    ·
     omega
    ·
     rw [h1'] at h1
     injection h1 with h1
     injection h1 with h1
     subst h1
     exact h2 j _ (by unfold kCells; rw [List.getElem?_map, hx]; rfl)
   refine ⟨fun hb => ?_, fun b hb j u hj => ?_, ?_⟩
   ·
    split at hb <;> simp at hb
   ·
    obtain ⟨x, hx, rfl⟩ := kCells_at hj
    have hb : b = ⟨g, 0, none⟩ := by
     split at hb
     ·
      injection hb with hb; exact hb.symm
     ·
      simp [Addr.add] at hb; exact hb.symm
    subst hb
    rw [show (⟨g, 0, none⟩ : Addr).add j = ⟨g, 0 + j, none⟩ by unfold Addr.add; split <;> simp_all, Nat.zero_add]
    rw [List.getElem?_take] at hx
    split at hx
    ·
     exact hcell j x hx
    ·
     cases hx
   ·
    by_cases hk : st.length ≤ a
    ·
     exact .inl (by rw [List.length_drop]; omega)
    ·
     have hl := hown.1
     simp only [kCells, List.length_map] at hl
     refine .inr ⟨g, a, ?_, fun i x hx => hcell _ x (by rw [List.getElem?_drop] at hx; exact hx)⟩
     rw [if_neg (by omega)]
     simp only [Option.map_some, Addr.add, Nat.mul_one]
     split <;> simp_all
/-- what a row of the call's own is written as -/
theorem own_two {w : World} {B n : Nat} {e : TypeId} {size : Nat} {so : Option Addr} {scap : Nat} {xs : List Value} (h : w.ownsRow B e size (.slice so n scap) n xs) : n ≤ scap ∧ scap ≤ 9223372036854775807 ∧ (so = none → scap = 0) ∧ (∀ b, so = some b → ∃ g, b = ⟨g, 0, none⟩) := by
 rcases h.2 with ⟨hv, h0⟩ | ⟨g, c, cur, hv, _, _, h1, h2, _⟩
 ·
  injection hv with a b c
  subst a b c
  exact ⟨Nat.le_refl _, by decide, fun _ => rfl, fun b hb => by cases hb⟩
 ·
  injection hv with a _ c
  subst a c
  exact ⟨h1, h2, (by intro h; cases h), fun b hb => ⟨g, by injection hb with hb; exact hb.symm⟩⟩
theorem own_mono {w : World} {B C n : Nat} {e : TypeId} {size : Nat} {v : Value} {xs : List Value} (h : w.ownsRow B e size v n xs) (hC : C ≤ B) : w.ownsRow C e size v n xs := by
 refine ⟨h.1, ?_⟩
 rcases h.2 with h0 | ⟨g, c, cur, hv, hb, r⟩
 ·
  exact .inl h0
 ·
  exact .inr ⟨g, c, cur, hv, Nat.le_trans hC hb, r⟩
theorem below_none {B : Nat} {w w1 w2 : World} (h : Below B w w1) (hg : w1.grownBy w2 none) (hB : B ≤ w1.heap.size) : Below B w w2 :=
 h.trans ⟨hg.os, hg.tape, hg.output, hg.size, fun k hk => hg.block k (by omega) (by simp)⟩
end Go.Proofs.YtgjfbbmachoolaaGreatDoor.lx
namespace Go.Proofs.YtgjfbbmachoolaaGreatDoor.lx
open Go.RowKit

/-- columns that lie there -/
def ColRow (ao : Option Addr) (L : List Clm) (w : World) : Prop := L.length = 0 ∨ ∃ b o, ao = some ⟨b, o, none⟩ ∧ ∀ (i : Nat) t, L[i]? = some t → w.cell? ⟨b, o + i * 2, none⟩ = some (.string t.nm) ∧ w.cell? ⟨b, o + i * 2 + 1, none⟩ = some (.int .u8 t.k)
theorem ColRow.at {ao : Option Addr} {L : List Clm} {w : World} (h : ColRow ao L w) {k : Nat} {x : Clm} (hx : L[k]? = some x) : ∃ b o, ao = some ⟨b, o, none⟩ ∧ w.cell? ⟨b, o + k * 2, none⟩ = some (.string x.nm) ∧ w.cell? ⟨b, o + k * 2 + 1, none⟩ = some (.int .u8 x.k) := by
 rcases h with h | ⟨b, o, h1, h2⟩
 ·
  rw [List.getElem?_eq_none (by omega)] at hx; cases hx
 ·
  exact ⟨b, o, h1, h2 k x hx⟩
theorem ColRow.self {ao : Option Addr} {L : List Clm} {w w' : World} (h : ColRow ao L w) (hb : Below w.heap.size w w') : ColRow ao L w' := by
 rcases h with h | ⟨b, o, h1, h2⟩
 ·
  exact .inl h
 ·
  exact .inr ⟨b, o, h1, fun i t ht => ⟨keep_cellP hb (h2 i t ht).1, keep_cellP hb (h2 i t ht).2⟩⟩
theorem ColRow.take {ao : Option Addr} {L : List Clm} {w : World} (h : ColRow ao L w) (k : Nat) : ColRow ao (L.take k) w := by
 rcases h with h | ⟨b, o, h1, h2⟩
 ·
  exact .inl (by rw [List.length_take]; omega)
 ·
  refine .inr ⟨b, o, h1, fun i t ht => h2 i t ?_⟩
  rw [List.getElem?_take] at ht
  split at ht
  ·
   exact ht
  ·
   cases ht
/-- columns whose texts and kinds are a model's -/
def ColsOk (L : List Clm) : Prop := ∀ c ∈ L, c.nm.size < 4294967281 ∧ 0 ≤ c.k ∧ c.k ≤ 255

set_option maxHeartbeats 4000000 in
set_option maxRecDepth 100000 in
theorem vname_any (s : ByteArray) (w : World) (hG : Glob w) (hs : s.size ≤ 9223372036854775807) :
  Calls Tryz.prog 54 #[.string s] w fun e w' => e = .returned (.int .i64 (vnameR s)) ∧ Below w.heap.size w w' := by
 have hv := Tryz.utf8_ValidString_laid s w hs hG.utf
 obtain ⟨R, hR⟩ : ∃ R, vnameR s = R := ⟨_, rfl⟩
 rw [hR]
 unfold vnameR at hR
 cases he : emptyS s with
 | true =>
  rw [if_pos (.inl he)] at hR
  subst hR
  have se : s.toList.isEmpty = true := he
  go_enter Tryz.func54, Tryz.ntmps54
  go_wp2_with fail
  go_ret
  exact ⟨rfl, Below.refl _ _⟩
 | false =>
  have se : s.toList.isEmpty = false := he
  by_cases h64 : 64 < s.size
  ·
   rw [if_pos (.inr h64)] at hR
   subst hR
   have hi : (64 : Int) < s.size := by omega
   go_enter Tryz.func54, Tryz.ntmps54
   go_wp2_with fail
   go_ret
   exact ⟨rfl, Below.refl _ _⟩
  ·
   rw [if_neg (by simp [he]; omega)] at hR
   have hi : ¬ (64 : Int) < s.size := by omega
   unfold validS at hR
   generalize Lib.validD s.data.toList = vd at *
   cases vd with
   | true =>
    simp at hR
    subst hR
    go_enter Tryz.func54, Tryz.ntmps54
    go_wp2_with (go_at_call 63; refine hv.mono ?_; rintro e w2 ⟨rfl, hb2⟩; refine Hid.out ?_)
    refine Lib.hid ?_
    go_wp2_with fail
    go_ret
    exact ⟨rfl, hb2⟩
   | false =>
    simp at hR
    subst hR
    go_enter Tryz.func54, Tryz.ntmps54
    go_wp2_with (go_at_call 63; refine hv.mono ?_; rintro e w2 ⟨rfl, hb2⟩; refine Hid.out ?_)
    refine Lib.hid ?_
    go_wp2_with fail
    go_ret
    exact ⟨rfl, hb2⟩

set_option maxHeartbeats 4000000 in
set_option maxRecDepth 100000 in
theorem colfn1_any (x : Clm) (n : ByteArray) (B : Nat) (w : World) (hB : w.cell? ⟨B, 0, none⟩ = some (.string n)) :
  Calls Tryz.prog 74 #[.agg #[.string x.nm, .int .u8 x.k], .pointer (some ⟨B, 0, none⟩)] w fun e w' => e = .returned (.bool (eqS x.nm n)) ∧ Below w.heap.size w w' := by
 have hb := (Below.refl w.heap.size w).alloc (Nat.le_refl _) (.cells #[.string x.nm, .int .u8 x.k] 47)
 have hB1 := keep_cellP hb hB
 go_enter Tryz.func74, Tryz.ntmps74
 go_wp2_with fail
 go_ret
 exact ⟨rfl, hb⟩

set_option maxHeartbeats 4000000 in
set_option maxRecDepth 100000 in
theorem indexCol_any {ao : Option Addr} {cap : Nat} {L : List Clm} (n : ByteArray) (B : Nat) (w : World) (hL : ColRow ao L w) (hB : w.cell? ⟨B, 0, none⟩ = some (.string n)) (hlen : L.length ≤ 1099511627776) :
  Calls Tryz.prog 100 #[.slice ao L.length cap, .func (.func 74) #[] #[.pointer (some ⟨B, 0, none⟩)]] w fun e w' =>
   ∃ i : Int, e = .returned (.int .i64 i) ∧ decide (0 ≤ i) = (L.any fun x => eqS x.nm n) ∧ Below w.heap.size w w' := by
 go_enter Tryz.func100, Tryz.ntmps100
 go_wp2_with fail
 go_loopw [8] (fun v wr => ∃ k : Nat, v = .int .i64 k ∧ k ≤ L.length ∧ Below w.heap.size w wr ∧ Hid ((L.take k).any (fun x => eqS x.nm n) = false)) (fun v _ => L.length - (intOf v).toNat)
 case atStart => exact ⟨0, rfl, Nat.zero_le _, Below.refl _ _, Lib.hid rfl⟩
 case round =>
  obtain ⟨k, rfl, hk, hb, HT⟩ := hrel
  by_cases hlt : k < L.length
  ·
   obtain ⟨x, hx⟩ : ∃ x, L[k]? = some x := ⟨_, List.getElem?_eq_getElem hlt⟩
   obtain ⟨b, o, rfl, c0, c1⟩ := (hL.self hb).at hx
   have hcf := colfn1_any x n B wr (keep_cellP hb hB)
   cases hnx : eqS x.nm n with
   | true =>
    rw [hnx] at hcf
    have HF : Hid ((L.any fun x => eqS x.nm n) = true) := Lib.hid (List.any_eq_true.2 ⟨x, List.mem_of_getElem? hx, hnx⟩)
    clear hx hnx HT
    go_wp2_with (go_at_call 74; refine hcf.mono ?_; rintro e w2 ⟨rfl, hb2⟩; refine Hid.out ?_)
    refine Lib.hid ?_
    go_wp2_with fail
    go_ret
    exact ⟨_, rfl, by rw [HF.out]; simp, below_self hb hb2⟩
   | false =>
    rw [hnx] at hcf
    have HN : Hid ((L.take (k + 1)).any (fun x => eqS x.nm n) = false) := Lib.hid (by rw [List.take_add_one, hx, List.any_append, HT.out]; simp [hnx])
    clear hx hnx HT
    go_wp2_with (go_at_call 74; refine hcf.mono ?_; rintro e w2 ⟨rfl, hb2⟩; refine Hid.out ?_)
    refine Lib.hid ?_
    have hbz := below_self hb hb2
    go_wp2_with fail
    exact ⟨⟨k + 1, by go_num, by omega, hbz, HN⟩, by simp [intOf]; omega⟩
  ·
   have HF : Hid ((L.any fun x => eqS x.nm n) = false) := Lib.hid (by
    have := HT.out
    rw [List.take_of_length_le (by omega)] at this
    exact this)
   clear HT
   go_wp2_with fail
   go_ret
   exact ⟨_, rfl, by rw [HF.out]; rfl, hb⟩

set_option maxHeartbeats 4000000 in
set_option maxRecDepth 100000 in
theorem containsCol_any {ao : Option Addr} {cap : Nat} {L : List Clm} (n : ByteArray) (B : Nat) (w : World) (hL : ColRow ao L w) (hB : w.cell? ⟨B, 0, none⟩ = some (.string n)) (hlen : L.length ≤ 1099511627776) :
  Calls Tryz.prog 73 #[.slice ao L.length cap, .func (.func 74) #[] #[.pointer (some ⟨B, 0, none⟩)]] w fun e w' => e = .returned (.bool (L.any fun x => eqS x.nm n)) ∧ Below w.heap.size w w' := by
 have hi := indexCol_any (cap := cap) n B w hL hB hlen
 go_enter Tryz.func73, Tryz.ntmps73
 go_wp2_with (go_at_call 100; refine hi.mono ?_; rintro e w2 ⟨i, rfl, hd, hb2⟩; refine Hid.out ?_)
 refine Lib.hid ?_
 have HD := Lib.hid hd
 clear hd hi
 go_wp2_with fail
 go_ret
 exact ⟨ret_bool HD.out, hb2⟩
end Go.Proofs.YtgjfbbmachoolaaGreatDoor.lx
namespace Go.Proofs.YtgjfbbmachoolaaGreatDoor.lx
open Go.RowKit
instance : DecidableEq Stp := fun a b =>
 if h : a.k = b.k ∧ a.s = b.s ∧ a.n = b.n then isTrue (by cases a; cases b; simp only at h; obtain ⟨rfl, rfl, rfl⟩ := h; rfl)
 else isFalse (by intro e; subst e; exact h ⟨rfl, rfl, rfl⟩)
theorem stp_eqIn (x y : Stp) (w : World) : (Op.equalIn 10000 50 x.v y.v).run Tryz.prog w = .ok (decide (x = y)) w := by
 obtain ⟨k, s, n⟩ := x
 obtain ⟨k', s', n'⟩ := y
 unfold Stp.v
 have hs : (s.toList = s'.toList) ↔ s = s' := ⟨fun h => ByteArray.ext (Array.toList_inj.1 (by simpa [Lib.toList_data] using h)), fun h => by rw [h]⟩
 simp [go_sem, hs]
 by_cases h1 : k = k' <;> by_cases h2 : s = s' <;> by_cases h3 : n = n' <;> simp [h1, h2, h3]
theorem stp_neq (x y : Stp) (w : World) : (binOp .neq 50 x.v y.v).run Tryz.prog w = .ok (.bool (decide (x ≠ y))) w := by
 rw [Stp.v, Stp.v, run_neq_struct, ← Stp.v, ← Stp.v, stp_eqIn]
 by_cases h : x = y <;> simp [Result.andThen, h]
theorem take_stepL {α : Type} {A C : List α} {k : Nat} {x : α} (h : A.take k = C.take k) (hx : A[k]? = some x) (hy : C[k]? = some x) : A.take (k + 1) = C.take (k + 1) := by
 rw [List.take_add_one, List.take_add_one, h, hx, hy]
theorem StpRow.at {ao : Option Addr} {L : List Stp} {w : World} (h : StpRow ao L w) {k : Nat} {x : Stp} (hx : L[k]? = some x) : ∃ b o, ao = some ⟨b, o, none⟩ ∧ w.cell? ⟨b, o + k * 3, none⟩ = some (.int .u8 x.k) ∧ w.cell? ⟨b, o + k * 3 + 1, none⟩ = some (.string x.s) ∧ w.cell? ⟨b, o + k * 3 + 2, none⟩ = some (.int .i64 x.n) := by
 rcases h with h | ⟨b, o, h1, h2⟩
 ·
  rw [List.getElem?_eq_none (by omega)] at hx; cases hx
 ·
  exact ⟨b, o, h1, h2 k x hx⟩

set_option maxHeartbeats 4000000 in
set_option maxRecDepth 100000 in
theorem SameSteps_any (A C : List Stp) (ao co : Option Addr) (ca cc : Nat) (w : World) (hA : StpRow ao A w) (hC : StpRow co C w) (h1 : A.length ≤ 1099511627776) :
  Calls Tryz.prog 31 #[.slice ao A.length ca, .slice co C.length cc] w fun e w' => e = .returned (.bool (decide (A = C))) ∧ ∃ n, w' = w.drewN n := by
 by_cases hl : A.length = C.length
 ·
  have hlb : ((A.length : Int) != (C.length : Int)) = false := by simp [hl]
  have hl1 : A.length ≤ C.length := by omega
  have hl2 : C.length ≤ A.length := by omega
  clear hl
  go_enter Tryz.func31, Tryz.ntmps31
  go_wp2_with fail
  go_loopw [13] (fun v wr => ∃ k n : Nat, v = .int .i64 k ∧ k ≤ A.length ∧ wr = w.drewN n ∧ Hid (A.take k = C.take k)) (fun v _ => A.length - (intOf v).toNat)
  case atStart => exact ⟨0, 0, rfl, Nat.zero_le _, rfl, Lib.hid rfl⟩
  case round =>
   obtain ⟨k, n, rfl, hk, rfl, HT⟩ := hrel
   by_cases hlt : k < A.length
   ·
    obtain ⟨x, hx⟩ : ∃ x, A[k]? = some x := ⟨_, List.getElem?_eq_getElem hlt⟩
    obtain ⟨y, hy⟩ : ∃ y, C[k]? = some y := ⟨_, List.getElem?_eq_getElem (by omega)⟩
    obtain ⟨b, o, rfl, a0, a1, a2⟩ := hA.at hx
    obtain ⟨b', o', rfl, b0, b1, b2⟩ := hC.at hy
    have hlt2 : k < C.length := by omega
    by_cases hxy : x = y
    ·
     subst hxy
     have hcmp : ∀ W, (binOp .neq 50 (.agg #[.int .u8 x.k, .string x.s, .int .i64 x.n]) (.agg #[.int .u8 x.k, .string x.s, .int .i64 x.n])).run Tryz.prog W = .ok (.bool false) W := fun W => by
      have := stp_neq x x W
      simpa [Stp.v] using this
     have HN := Lib.hid (take_stepL HT.out hx hy)
     clear hx hy
     go_wp2_with fail
     go_quiet (fail)
     go_wp2_with fail
     go_roundw
     case rel => exact ⟨k + 1, _, by go_num, by omega, rfl, HN⟩
     case measure => simp [intOf]; omega
    ·
     have hcmp : ∀ W, (binOp .neq 50 (.agg #[.int .u8 x.k, .string x.s, .int .i64 x.n]) (.agg #[.int .u8 y.k, .string y.s, .int .i64 y.n])).run Tryz.prog W = .ok (.bool true) W := fun W => by
      have := stp_neq x y W
      simpa [Stp.v, hxy] using this
     have hne : decide (A = C) = false := by
      rw [decide_eq_false_iff_not]
      intro e
      rw [e, hy] at hx
      exact hxy (Option.some.inj hx).symm
     have HNE := Lib.hid hne
     clear hx hy hne hxy
     go_wp2_with fail
     go_quiet (fail)
     go_wp2_with fail
     go_ret
     exact ⟨ret_bool HNE.out.symm, _, World.drewN_drewN _ _ _⟩
   ·
    have he : decide (A = C) = true := by
     rw [decide_eq_true_iff]
     have := HT.out
     rwa [List.take_of_length_le (by omega), List.take_of_length_le (by omega)] at this
    have HE := Lib.hid he
    clear he
    go_wp2_with fail
    go_ret
    exact ⟨ret_bool HE.out.symm, n, rfl⟩
 ·
  have hlb : ((A.length : Int) != (C.length : Int)) = true := by simp; omega
  have hne : decide (A = C) = false := by
   rw [decide_eq_false_iff_not]
   intro e
   exact hl (congrArg List.length e)
  have HNE := Lib.hid hne
  clear hne hl
  go_enter Tryz.func31, Tryz.ntmps31
  go_wp2_with fail
  go_ret
  exact ⟨ret_bool HNE.out.symm, 0, rfl⟩
end Go.Proofs.YtgjfbbmachoolaaGreatDoor.lx
namespace Go.Proofs.YtgjfbbmachoolaaGreatDoor.lx
open Go.RowKit
set_option linter.unusedVariables false
set_option linter.unusedSimpArgs false

set_option maxHeartbeats 4000000 in
set_option maxRecDepth 100000 in
theorem names_any (t j : ByteArray) (w : World) :
  Calls Tryz.prog 24 #[.string t, .string j] w fun e w' => (∃ ao cap, e = .returned (.slice ao (namesR t j).length cap) ∧ TxtRow ao (namesR t j) w') ∧ Below w.heap.size w w' := by
 unfold namesR emptyS
 cases se : j.toList.isEmpty with
 | true =>
  rw [if_pos rfl]
  go_enter Tryz.func24, Tryz.ntmps24
  go_wp2_with fail
  go_ret
  refine ⟨⟨_, _, rfl, .inr ⟨_, _, rfl, fun i s hs => ?_⟩⟩, (Below.refl _ _).alloc (Nat.le_refl _) _⟩
  rw [Lib.cell_of_heap (heap_alloc_new _ _)]
  match i, hs with
  | 0, hs => simp at hs; subst hs; rfl
 | false =>
  rw [if_neg (by decide)]
  go_enter Tryz.func24, Tryz.ntmps24
  go_wp2_with fail
  go_ret
  refine ⟨⟨_, _, rfl, .inr ⟨_, _, rfl, fun i s hs => ?_⟩⟩, (Below.refl _ _).alloc (Nat.le_refl _) _⟩
  rw [Lib.cell_of_heap (heap_alloc_new _ _)]
  match i, hs with
  | 0, hs => simp at hs; subst hs; rfl
  | 1, hs => simp at hs; subst hs; rfl
set_option maxHeartbeats 4000000 in
set_option maxRecDepth 100000 in
theorem column_anyB {x : Itm} {eo : Option Addr} {ec : Nat} {w : World} (hR : StpRow eo x.e w) (hlen : x.e.length ≤ 1099511627776) :
  Calls Tryz.prog 52 #[.agg #[.int .u8 x.agg, .slice eo x.e.length ec]] w fun e w' => e = .returned (.tuple #[.int .i64 (columnB x).1, .bool (columnB x).2]) ∧ Below w.heap.size w w' := by
 obtain ⟨ag, E⟩ := x
 simp only at hR hlen ⊢
 have hb0 := (Below.refl w.heap.size w).alloc (Nat.le_refl _) (.cells #[.int .u8 ag, .slice eo E.length ec] 40)
 have hR0 := hR.self hb0
 have HB := Lib.hid hb0
 clear hb0
 by_cases hag : ag = 0
 ·
  subst hag
  by_cases h1 : E.length = 1
  ·
   obtain ⟨s, rfl⟩ := List.length_eq_one_iff.1 h1
   obtain ⟨b, o, rfl, c0, c1, c2⟩ := hR0.at (k := 0) rfl
   simp only [Nat.zero_mul, Nat.add_zero] at c0 c2
   clear hR hR0 h1 c1
   by_cases h6 : s.k = 6
   ·
    rw [show columnB ⟨0, [s]⟩ = (s.n, true) by unfold columnB; simp [h6]]
    rw [h6] at c0
    simp only [List.length_cons, List.length_nil, Nat.zero_add] at HB c0 c2 ⊢
    go_enter Tryz.func52, Tryz.ntmps52
    go_upto_region 1 with fail
    have k0 : (w.alloc (.cells #[.int .u8 0, .slice (some ⟨b, o, none⟩) 1 ec] 40)).cell? ⟨w.heap.size, 0, none⟩ = some (.int .u8 0) := by rw [Lib.cell_of_heap (heap_alloc_new w _)]; rfl
    have k1 : (w.alloc (.cells #[.int .u8 0, .slice (some ⟨b, o, none⟩) 1 ec] 40)).cell? ⟨w.heap.size, 1, none⟩ = some (.slice (some ⟨b, o, none⟩) 1 ec) := by rw [Lib.cell_of_heap (heap_alloc_new w _)]; rfl
    have HB2 := Lib.hid HB.out
    clear HB
    generalize w.alloc (.cells #[.int .u8 0, .slice (some ⟨b, o, none⟩) 1 ec] 40) = W at *
    have HB := HB2
    go_wp2_with fail
    go_ret2
    exact ⟨rfl, HB.out⟩
   ·
    rw [show columnB ⟨0, [s]⟩ = (0, false) by unfold columnB; simp [h6]]
    have e6 : (s.k != 6) = true := by simp [h6]
    simp only [List.length_cons, List.length_nil, Nat.zero_add] at HB c0 c2 ⊢
    go_enter Tryz.func52, Tryz.ntmps52
    go_upto_region 1 with fail
    have k0 : (w.alloc (.cells #[.int .u8 0, .slice (some ⟨b, o, none⟩) 1 ec] 40)).cell? ⟨w.heap.size, 0, none⟩ = some (.int .u8 0) := by rw [Lib.cell_of_heap (heap_alloc_new w _)]; rfl
    have k1 : (w.alloc (.cells #[.int .u8 0, .slice (some ⟨b, o, none⟩) 1 ec] 40)).cell? ⟨w.heap.size, 1, none⟩ = some (.slice (some ⟨b, o, none⟩) 1 ec) := by rw [Lib.cell_of_heap (heap_alloc_new w _)]; rfl
    have HB2 := Lib.hid HB.out
    clear HB
    generalize w.alloc (.cells #[.int .u8 0, .slice (some ⟨b, o, none⟩) 1 ec] 40) = W at *
    have HB := HB2
    go_wp2_with fail
    go_ret2
    exact ⟨rfl, HB.out⟩
  ·
   have hc : columnB ⟨0, E⟩ = (0, false) := by
    unfold columnB
    split
    ·
     rename_i s he; simp only at he; rw [he] at h1; exact absurd rfl h1
    ·
     rfl
   rw [hc]
   have e1 : ((E.length : Int) != 1) = true := by
    simp only [bne_iff_ne, ne_eq]
    omega
   clear hR hR0 hc
   generalize E.length = n at *
   go_enter Tryz.func52, Tryz.ntmps52
   go_wp2_with fail
   go_ret2
   exact ⟨rfl, HB.out⟩
 ·
  have hc : columnB ⟨ag, E⟩ = (0, false) := by
   unfold columnB
   split
   ·
    rw [if_pos (.inl hag)]
   ·
    rfl
  rw [hc]
  have e0 : (ag != 0) = true := by simp [hag]
  clear hR hR0 hc
  generalize E.length = n at *
  go_enter Tryz.func52, Tryz.ntmps52
  go_wp2_with fail
  go_ret2
  exact ⟨rfl, HB.out⟩
end Go.Proofs.YtgjfbbmachoolaaGreatDoor.lx
namespace Go.Proofs.YtgjfbbmachoolaaGreatDoor.lx
open Go.RowKit
set_option linter.unusedVariables false
set_option linter.unusedSimpArgs false

theorem ItmRow.at {ao : Option Addr} {L : List Itm} {w : World} (h : ItmRow ao L w) {k : Nat} {x : Itm} (hx : L[k]? = some x) : ∃ b o, ao = some ⟨b, o, none⟩ ∧ ∃ eo ec, w.cell? ⟨b, o + k * 2, none⟩ = some (.int .u8 x.agg) ∧ w.cell? ⟨b, o + k * 2 + 1, none⟩ = some (.slice eo x.e.length ec) ∧ StpRow eo x.e w := by
 rcases h with h | ⟨b, o, h1, h2⟩
 ·
  rw [List.getElem?_eq_none (by omega)] at hx; cases hx
 ·
  exact ⟨b, o, h1, h2 k x hx⟩
set_option maxHeartbeats 4000000 in
set_option maxRecDepth 100000 in
theorem groupfn_any {ag : Int} {eo : Option Addr} {en ec : Nat} {w : World} :
  Calls Tryz.prog 50 #[.agg #[.int .u8 ag, .slice eo en ec]] w fun e w' => e = .returned (.bool (ag != 0)) ∧ Below w.heap.size w w' := by
 have k0 : (w.alloc (.cells #[.int .u8 ag, .slice eo en ec] 40)).cell? ⟨w.heap.size, 0, none⟩ = some (.int .u8 ag) := by rw [Lib.cell_of_heap (heap_alloc_new w _)]; rfl
 have HB := Lib.hid ((Below.refl w.heap.size w).alloc (Nat.le_refl _) (.cells #[.int .u8 ag, .slice eo en ec] 40))
 go_enter Tryz.func50, Tryz.ntmps50
 go_upto_region 1 with fail
 generalize w.alloc (.cells #[.int .u8 ag, .slice eo en ec] 40) = W at *
 go_wp2_with fail
 go_ret
 exact ⟨rfl, HB.out⟩
set_option maxHeartbeats 4000000 in
set_option maxRecDepth 100000 in
theorem indexItm_any {ao : Option Addr} {cap : Nat} {L : List Itm} {w : World} (hL : ItmRow ao L w) (hlen : L.length ≤ 1099511627776) :
  Calls Tryz.prog 71 #[.slice ao L.length cap, .func (.func 50) #[] #[]] w fun e w' => (∃ i : Int, e = .returned (.int .i64 i) ∧ decide (0 ≤ i) = L.any (fun x => x.agg != 0)) ∧ Below w.heap.size w w' := by
 have HL := Lib.hid hL
 clear hL
 go_enter Tryz.func71, Tryz.ntmps71
 go_wp2_with fail
 go_loopw [8] (fun v wr => ∃ k : Nat, v = .int .i64 k ∧ k ≤ L.length ∧ Below w.heap.size w wr ∧ Hid ((L.take k).any (fun x => x.agg != 0) = false)) (fun v _ => L.length - (intOf v).toNat)
 case atStart => exact ⟨0, rfl, Nat.zero_le _, Below.refl _ _, Lib.hid rfl⟩
 case round =>
  obtain ⟨k, rfl, hk, hb, HT⟩ := hrel
  by_cases hlt : k < L.length
  ·
   have hx : L[k]? = some L[k] := List.getElem?_eq_getElem hlt
   have hsn : (L.take (k + 1)).any (fun x => x.agg != 0) = (L[k].agg != 0) := by rw [List.take_succ_eq_append_getElem hlt, List.any_append, HT.out]; simp
   have hyes : (L[k].agg != 0) = true → L.any (fun x => x.agg != 0) = true := fun h => List.any_eq_true.2 ⟨_, List.getElem_mem hlt, h⟩
   obtain ⟨b, o, rfl, eo, ec, c0, c1, _⟩ := (HL.out.self hb).at hx
   generalize L[k] = x at *
   have HF := Lib.hid (groupfn_any (ag := x.agg) (eo := eo) (en := x.e.length) (ec := ec) (w := wr))
   have HS := Lib.hid hsn
   have HY := Lib.hid hyes
   clear hx hsn hyes HT
   cases he : (x.agg != 0) with
   | true =>
    rw [he] at HF
    have HY2 := Lib.hid (HY.out he)
    clear he
    go_wp2_with (go_at_call 50; refine HF.out.mono ?_; rintro e w2 ⟨rfl, hb2⟩; refine Hid.out ?_)
    refine Lib.hid ?_
    go_wp2_with fail
    go_ret
    exact ⟨⟨_, rfl, by rw [HY2.out]; exact decide_eq_true (by omega)⟩, below_self hb hb2⟩
   | false =>
    rw [he] at HF
    have HS2 := Lib.hid (HS.out.trans he)
    clear he
    go_wp2_with (go_at_call 50; refine HF.out.mono ?_; rintro e w2 ⟨rfl, hb2⟩; refine Hid.out ?_)
    refine Lib.hid ?_
    have HB2 := Lib.hid (below_self hb hb2)
    go_wp2_with fail
    exact ⟨⟨k + 1, by go_num, by omega, HB2.out, HS2⟩, by simp [intOf]; omega⟩
  ·
   have hd : L.take k = L := List.take_of_length_le (by omega)
   have HY : Hid (L.any (fun x => x.agg != 0) = false) := Lib.hid (by have := HT.out; rwa [hd] at this)
   clear HT hd
   go_wp2_with fail
   go_ret
   exact ⟨⟨_, rfl, by rw [HY.out]; rfl⟩, hb⟩
set_option maxHeartbeats 4000000 in
set_option maxRecDepth 100000 in
theorem grouped_any {ga ia : Option Addr} {gc ic : Nat} {G : List Int} {L : List Itm} {w : World} (hL : ItmRow ia L w) (hlen : L.length ≤ 1099511627776) :
  Calls Tryz.prog 29 #[.slice ga G.length gc, .slice ia L.length ic] w fun e w' => e = .returned (.bool (groupedR G L)) ∧ Below w.heap.size w w' := by
 unfold groupedR
 have HI := Lib.hid (indexItm_any (cap := ic) hL hlen)
 have HC : Hid (Calls Tryz.prog 49 #[.slice ia L.length ic, .func (.func 50) #[] #[]] w fun e w' => e = .returned (.bool (L.any fun x => x.agg != 0)) ∧ Below w.heap.size w w') := Lib.hid (by
  generalize (L.any fun x => x.agg != 0) = A at *
  clear hL
  go_enter Tryz.func49, Tryz.ntmps49
  go_wp2_with (go_at_call 71; refine HI.out.mono ?_; rintro e w2 ⟨⟨i, rfl, hd⟩, hb2⟩; refine Hid.out ?_)
  refine Lib.hid ?_
  have HD := Lib.hid hd
  clear hd
  go_wp2_with fail
  go_ret
  exact ⟨by rw [← HD.out]; rfl, hb2⟩)
 clear hL HI
 generalize (L.any fun x => x.agg != 0) = A at *
 by_cases h0 : (0 : Int) < G.length
 ·
  rw [decide_eq_true (by omega : 0 < G.length)]
  have h0N : 0 < G.length := by omega
  generalize G.length = n at *
  go_enter Tryz.func29, Tryz.ntmps29
  go_wp2_with fail
  go_ret
  exact ⟨rfl, Below.refl _ _⟩
 ·
  rw [decide_eq_false (by omega : ¬ 0 < G.length)]
  have h0N : ¬ 0 < G.length := by omega
  generalize G.length = n at *
  go_enter Tryz.func29, Tryz.ntmps29
  go_wp2_with (go_at_call 49; refine HC.out.mono ?_; rintro e w2 ⟨rfl, hb2⟩; refine Hid.out ?_)
  refine Lib.hid ?_
  go_wp2_with fail
  go_ret
  exact ⟨rfl, hb2⟩
end Go.Proofs.YtgjfbbmachoolaaGreatDoor.lx
