/-
  Texts as lists of glyphs (a rune, and whether it stands there well): plain laws of the decoder, no program in sight. What the parser computes, as a law on tokens: plain Lean, no program in sight. The parser's take. Conditions: the walk lies there; how many brackets are open is no great number. The parser's take, where it takes. Conditions: the walk lies there; how many brackets are open is no great number. strconv.FormatInt at base 16, for a number of at most two digits. Conditions: the package-level variables are laid.
-/
import Derived.Test.YtegnoaejlhbpbaaGreatDoorM03
import Derived.Lib.MapLaws
import Derived.Test.YtegnoaejlhbpbaaGreatDoorM02
import Derived.Lib.ValidU
import Derived.Lib.ValidLaws
import Derived.Deep.Cut
import Derived.Test.YtegnoaejlhbpbaaGreatDoorM01
namespace Go.Proofs.YtegnoaejlhbpbaaGreatDoor.lx
open Go.RowKit

abbrev G := Int × Bool
/-- a text's bytes -/
abbrev B (l : ByteArray) : List UInt8 := l.data.toList

theorem dec_width (l : List UInt8) : 1 ≤ (Lib.decodeL l).2 := Lib.decodeL_width l

/-- a text's glyphs -/
def gl (l : List UInt8) : List G :=
  if _h : l = [] then [] else ((Lib.decodeL l).1, !decide ((Lib.decodeL l).1 = 65533 ∧ (Lib.decodeL l).2 = 1)) :: gl (l.drop (Lib.decodeL l).2)
termination_by l.length
decreasing_by
  have := dec_width l
  have : 0 < l.length := List.length_pos_iff.2 _h
  simp; omega

theorem gl_nil : gl [] = [] := by rw [gl, dif_pos rfl]
theorem gl_cons {l : List UInt8} (h : l ≠ []) : gl l = (((Lib.decodeL l).1 : Int), !decide ((Lib.decodeL l).1 = 65533 ∧ (Lib.decodeL l).2 = 1)) :: gl (l.drop (Lib.decodeL l).2) := by rw [gl, dif_neg h]

theorem B_nil {l : ByteArray} (h : l.size = 0) : B l = [] := List.eq_nil_of_length_eq_zero (by rw [← Lib.size_eq]; exact h)
theorem B_ne {l : ByteArray} (h : l.size ≠ 0) : B l ≠ [] := fun e => h (by rw [Lib.size_eq, show l.data.toList = [] from e]; rfl)
theorem B_length (l : ByteArray) : (B l).length = l.size := (Lib.size_eq l).symm
theorem dec_B (l : ByteArray) (h : l.size ≠ 0) : Lib.decodeL (B l) = Lib.decodeGo l := by
  unfold Lib.decodeGo
  rw [if_neg h, ← Lib.decodeL_drop]
  simp
theorem B_drop (l : ByteArray) (k : Nat) : B (l.extract k l.size) = (B l).drop k := by
  show (l.extract k l.size).data.toList = _
  rw [ByteArray.data_extract, Array.toList_extract, List.extract_eq_take_drop]
  exact List.take_of_length_le (by rw [List.length_drop, B_length]; exact Nat.le_refl _)
theorem B_adv (l : ByteArray) : B (adv l) = (B l).drop (dn l) := B_drop l _

theorem glB_nil {l : ByteArray} (h : l.size = 0) : gl (B l) = [] := by rw [B_nil h, gl_nil]
theorem glB_cons {l : ByteArray} (h : l.size ≠ 0) : gl (B l) = (dr l, stepOk l) :: gl (B (adv l)) := by
  have hb := dn_bounds l h
  rw [gl_cons (B_ne h), B_adv, dec_B l h]
  have e : stepOk l = !decide ((Lib.decodeGo l).1 = 65533 ∧ (Lib.decodeGo l).2 = 1) := by
    unfold stepOk dr
    unfold dn at *
    by_cases h1 : (Lib.decodeGo l).2 = 1
    · by_cases h2 : (Lib.decodeGo l).1 = 65533 <;> simp [h1, h2]
      exact fun hh => h2 (by omega)
    · simp [h1]; omega
  rw [e]
  rfl

/-! ### skip -/
def skipG : Bool → List G → List G
  | _, [] => []
  | note, g :: gs => if noted note g.1 || blankR g.1 then skipG (noted note g.1) gs else g :: gs

theorem skipF_gl (n : Nat) : ∀ (note : Bool) (l : ByteArray) (p : Nat), l.size = n →
    gl (B (skipF note l p).1) = skipG note (gl (B l)) ∧ (skipF note l p).2 + (gl (B (skipF note l p).1)).length = p + (gl (B l)).length := by
  induction n using Nat.strongRecOn with
  | _ n ih =>
    intro note l p hn
    by_cases h0 : l.size = 0
    · rw [skipF_end h0, glB_nil h0]; exact ⟨rfl, rfl⟩
    · cases hc : (noted note (dr l) || blankR (dr l)) with
      | true =>
        rw [skipF_go h0 hc, glB_cons h0]
        obtain ⟨a, b⟩ := ih (adv l).size (by have := adv_lt l h0; omega) (noted note (dr l)) (adv l) (p + 1) rfl
        rw [a] at b ⊢
        refine ⟨by rw [skipG, if_pos hc], by rw [b]; simp; omega⟩
      | false =>
        rw [skipF_stop h0 hc, glB_cons h0]
        exact ⟨by rw [skipG, if_neg (by simp [hc])], rfl⟩

/-! ### a bare word -/
def bareG (gs : List G) : List G := gs.takeWhile fun g => !endR g.1
def bareR (gs : List G) : List G := gs.dropWhile fun g => !endR g.1
def runeB (gs : List G) : List UInt8 := gs.flatMap fun g => Lib.encodeRune g.1

theorem endF_gl {l : ByteArray} : endF l = match gl (B l) with | [] => true | g :: _ => endR g.1 := by
  by_cases h0 : l.size = 0
  · rw [glB_nil h0]; simp [endF, h0]
  · rw [glB_cons h0]; simp [endF, h0]

theorem enc_step {l : ByteArray} (h : l.size ≠ 0) (hok : stepOk l = true) : (B l).take (dn l) = Lib.encodeRune (dr l) := by
  have hd := dec_B l h
  have := Lib.encode_decode (B l) (B_ne h) (by
    rw [hd]
    unfold stepOk dr at hok
    unfold dn at hok
    intro hh
    simp [hh.1, hh.2] at hok)
  rw [hd] at this
  exact this.symm

theorem bareF_gl (n : Nat) : ∀ (fine : Bool) (l : ByteArray) (p : Nat), l.size = n →
    (bareF fine l p).1 = (fine && (bareG (gl (B l))).all (·.2)) ∧ gl (B (bareF fine l p).2.1) = bareR (gl (B l)) ∧
      (bareF fine l p).2.2 + (gl (B (bareF fine l p).2.1)).length = p + (gl (B l)).length ∧
      (bareF fine l p).2.1.size ≤ l.size ∧
      ((bareF fine l p).1 = true → (B l).take (l.size - (bareF fine l p).2.1.size) = runeB (bareG (gl (B l)))) := by
  induction n using Nat.strongRecOn with
  | _ n ih =>
    intro fine l p hn
    cases he : endF l with
    | true =>
      rw [bareF_end he]
      rw [endF_gl] at he
      revert he
      cases gl (B l) with
      | nil => intro _; simp [bareG, bareR, runeB]
      | cons g gs => intro he; simp at he; simp [bareG, bareR, runeB, he]
    | false =>
      have h0 : l.size ≠ 0 := by intro h0; simp [endF, h0] at he
      have her : endR (dr l) = false := by simp [endF, h0] at he; exact he
      rw [bareF_go he, glB_cons h0]
      have hlt := adv_lt l h0
      obtain ⟨a, b, c, d, e⟩ := ih (adv l).size (by omega) (stepOk l && fine) (adv l) (p + 1) rfl
      refine ⟨?_, ?_, ?_, by omega, ?_⟩
      · rw [a]; simp [bareG, her, Bool.and_comm, Bool.and_assoc]
      · rw [b]; simp [bareR, her]
      · rw [c]; simp; omega
      · intro hf
        have hfine := hf
        rw [a] at hfine
        simp only [Bool.and_eq_true] at hfine
        have hh := e hf
        have hsz := adv_size l
        have hdn := dn_le l
        have hk : l.size - (bareF (stepOk l && fine) (adv l) (p + 1)).2.1.size = dn l + ((adv l).size - (bareF (stepOk l && fine) (adv l) (p + 1)).2.1.size) := by omega
        rw [hk, List.take_add, enc_step h0 hfine.1.1, ← B_adv, hh]
        simp [bareG, her, runeB]

end Go.Proofs.YtegnoaejlhbpbaaGreatDoor.lx
namespace Go.Proofs.YtegnoaejlhbpbaaGreatDoor.lx
open Go.RowKit

/-- a step -/
structure Stp where
  k : Int
  s : ByteArray
  n : Int
def Stp.v (t : Stp) : Value := .agg #[.int .u8 t.k, .string t.s, .int .i64 t.n]
def Stp.cells (t : Stp) : List Value := [.int .u8 t.k, .string t.s, .int .i64 t.n]
def stpCells (ts : List Stp) : List Value := ts.flatMap Stp.cells
theorem stpCells_length (ts : List Stp) : (stpCells ts).length = ts.length * 3 := by
  induction ts with
  | nil => rfl
  | cons t ts ih => simp [stpCells] at ih ⊢; rw [ih]; simp [Stp.cells]; omega
theorem stpCells_append (ts us : List Stp) : stpCells (ts ++ us) = stpCells ts ++ stpCells us := by simp [stpCells]

/-- why a text is none, and where -/
abbrev Er := Int × Int
/-- what may go wrong -/
inductive Res (α : Type) where
  | ok (x : α)
  | bad (why at_ : Int)
def Res.then {α β : Type} (r : Res α) (f : α → Res β) : Res β := match r with | .ok x => f x | .bad y p => .bad y p

def takeR (fin k : Int) (p : ByteArray → Bool) (l : List Tok) (op : Int) : Res (List Tok × Int) :=
  if (tokAt l fin).k = 1 ∧ ¬ op < 8 then .bad 10 (tokAt l fin).a
  else if (tokAt l fin).k ≠ k then .bad 13 (tokAt l fin).a
  else if p (tokAt l fin).s = false then .bad 13 (tokAt l fin).a
  else .ok (l.tail, if k = 1 then op + 1 else if k = 2 then op - 1 else op)
def putR (fin : Int) (l : List Tok) (st new : List Stp) : Res (List Stp) :=
  if st.length + new.length ≤ 64 then .ok (st ++ new) else .bad 3 (tokAt l fin).a
def closesR (l : List Tok) (fin : Int) : Bool := (tokAt l fin).k == 2
def headR (l : List Tok) : ByteArray := match l with | t :: u :: _ => if t.k = 1 ∧ u.k = 3 then u.s else ⟨#[]⟩ | _ => ⟨#[]⟩

def bs (l : List UInt8) : ByteArray := ⟨l.toArray⟩
def nullB : ByteArray := ⟨#[110, 117, 108, 108]⟩
def trueB : ByteArray := ⟨#[116, 114, 117, 101]⟩
def falseB : ByteArray := ⟨#[102, 97, 108, 115, 101]⟩
/-- the atoms of steps -/
def opsL : List ByteArray := [⟨#[110, 101, 103]⟩, ⟨#[110, 111, 116]⟩, ⟨#[110, 117, 108, 108, 63]⟩, ⟨#[108, 101, 110, 103, 116, 104]⟩, ⟨#[43]⟩, ⟨#[45]⟩, ⟨#[42]⟩, ⟨#[61]⟩, ⟨#[60, 62]⟩, ⟨#[60]⟩, ⟨#[60, 61]⟩, ⟨#[62]⟩, ⟨#[62, 61]⟩, ⟨#[97, 110, 100]⟩, ⟨#[111, 114]⟩]
def isOp (s : ByteArray) : Bool := Lib.containsS opsL s
def opK (s : ByteArray) : Int := 7 + Lib.idxOfS opsL s
def wordsL : List ByteArray := [⟨#[]⟩, ⟨#[99, 111, 117, 110, 116]⟩, ⟨#[115, 117, 109]⟩, ⟨#[109, 105, 110]⟩, ⟨#[109, 97, 120]⟩]

/-- whether a text is a name: its runes -/
def nameG (first : Bool) : List G → Bool
  | [] => true
  | g :: gs => ((97 ≤ g.1 && g.1 ≤ 122) || (65 ≤ g.1 && g.1 ≤ 90) || g.1 == 95 || 128 ≤ g.1 || (!first && 48 ≤ g.1 && g.1 ≤ 57)) && nameG false gs
def nameR (s : ByteArray) : Bool := decide (s.size ≠ 0) && decide (s.size ≤ 64) && Lib.validD s.data.toList && !(Lib.containsS [nullB, trueB, falseB] s) && nameG true (gl (B s))
/-- a column's parts -/
def cutD (s : ByteArray) : List ByteArray := Lib.splitB ⟨#[46]⟩ 0 (min 2 (s.size + 1) - 1) s
def columnR (s : ByteArray) : Bool := !(cutD s).any fun x => !nameR x

/-- the step of a leaf; none: it is no leaf -/
def leafS (t : Tok) : Option Stp :=
  if t.k = 4 then some ⟨4, ⟨#[]⟩, t.n⟩ else if t.k = 5 then some ⟨5, t.s, 0⟩
  else if t.k = 3 then
    if t.s = nullB then some ⟨1, ⟨#[]⟩, 0⟩ else if t.s = trueB then some ⟨2, ⟨#[]⟩, 0⟩ else if t.s = falseB then some ⟨3, ⟨#[]⟩, 0⟩
    else if columnR t.s then some ⟨6, t.s, 0⟩ else none
  else none
def leafR (fin : Int) (l : List Tok) (op : Int) (st : List Stp) : Res (List Tok × Int × List Stp) :=
  match leafS (tokAt l fin) with
  | none => .bad 13 (tokAt l fin).a
  | some x => (putR fin l st [x]).then fun st' => .ok (l.tail, op, st')

abbrev PS := List Tok × Int × List Stp
def partsR (f : List Tok → Int → List Stp → Res PS) (fin k : Int) : Nat → Nat → List Tok → Int → List Stp → Res (Nat × PS)
  | 0, _, _, _, _ => .bad 0 0
  | m + 1, parts, l, op, st =>
    if parts < 1 ∨ (parts < 2 ∧ 10 < k) ∨ (20 ≤ k ∧ closesR l fin = false) then (f l op st).then fun s => partsR f fin k m (parts + 1) s.1 s.2.1 s.2.2
    else .ok (parts, l, op, st)
def endR' (fin k : Int) (parts : Nat) (l : List Tok) (op : Int) (st : List Stp) : Res PS :=
  if closesR l fin = false then .bad (if (tokAt l fin).k = 1 ∧ ¬ op < 8 then 10 else 13) (tokAt l fin).a
  else (putR fin l st (List.replicate (if 20 ≤ k then parts - 1 else 1) ⟨k, ⟨#[]⟩, 0⟩)).then fun st' => (takeR fin 2 (fun _ => true) l op).then fun x => .ok (x.1, x.2, st')
def exprR (fin : Int) : Nat → List Tok → Int → List Stp → Res PS
  | 0, _, _, _ => .bad 0 0
  | n + 1, l, op, st =>
    if (tokAt l fin).k ≠ 1 then leafR fin l op st
    else (takeR fin 1 (fun _ => true) l op).then fun x => (takeR fin 3 isOp x.1 x.2).then fun y =>
      (partsR (exprR fin n) fin (opK (tokAt x.1 fin).s) (y.1.length + 2) 0 y.1 y.2 st).then fun z => endR' fin (opK (tokAt x.1 fin).s) z.1 z.2.1 z.2.2.1 z.2.2.2
/-- an expression alone -/
def wholeR (fin : Int) (l : List Tok) (op : Int) : Res PS := exprR fin (l.length + 1) l op []

/-- an item: its aggregate's number, its expression -/
structure Itm where
  agg : Int
  e : List Stp
def itemR (fin : Int) (l : List Tok) (op : Int) : Res (List Tok × Int × Itm) :=
  if Lib.idxOfS wordsL (headR l) < 1 then (wholeR fin l op).then fun s => .ok (s.1, s.2.1, ⟨0, s.2.2⟩)
  else (takeR fin 1 (fun _ => true) l op).then fun x => (takeR fin 3 (fun _ => true) x.1 x.2).then fun y =>
    (if Lib.idxOfS wordsL (headR l) = 1 then .ok (y.1, y.2, []) else wholeR fin y.1 y.2).then fun s =>
      (takeR fin 2 (fun _ => true) s.1 s.2.1).then fun z => .ok (z.1, z.2, ⟨Lib.idxOfS wordsL (headR l), s.2.2⟩)
/-- one or more of something, up to a closing bracket -/
def someR {α : Type} (one : List Tok → Int → Res (List Tok × Int × α)) (fin : Int) : Nat → List α → List Tok → Int → Res (List Tok × Int × List α)
  | 0, _, _, _ => .bad 0 0
  | m + 1, out, l, op =>
    if out.length = 0 ∨ closesR l fin = false then
      if out.length < 8 then (one l op).then fun s => someR one fin m (out ++ [s.2.2]) s.1 s.2.1 else .bad 3 (tokAt l fin).a
    else .ok (l, op, out)
def atomR (p : ByteArray → Bool) (fin : Int) (l : List Tok) (op : Int) : Res (List Tok × Int × ByteArray) := (takeR fin 3 p l op).then fun x => .ok (x.1, x.2, (tokAt l fin).s)

/-- a query -/
structure Qry where
  items : List Itm
  table : ByteArray
  join : ByteArray
  left : ByteArray
  right : ByteArray
  wher : List Stp
  group : List ByteArray
def Qry.none : Qry := ⟨[], ⟨#[]⟩, ⟨#[]⟩, ⟨#[]⟩, ⟨#[]⟩, [], []⟩
def joinB : ByteArray := ⟨#[106, 111, 105, 110]⟩
def whereB : ByteArray := ⟨#[119, 104, 101, 114, 101]⟩
def groupB : ByteArray := ⟨#[103, 114, 111, 117, 112]⟩
def getB : ByteArray := ⟨#[103, 101, 116]⟩
def fromB : ByteArray := ⟨#[102, 114, 111, 109]⟩
abbrev QS := List Tok × Int × Qry
def readR (i : Nat) (fin : Int) (s : QS) : Res QS :=
  match i with
  | 0 => (atomR nameR fin s.1 s.2.1).then fun a => (atomR columnR fin a.1 a.2.1).then fun b => (atomR columnR fin b.1 b.2.1).then fun c => .ok (c.1, c.2.1, { s.2.2 with join := a.2.2, left := b.2.2, right := c.2.2 })
  | 1 => (wholeR fin s.1 s.2.1).then fun a => .ok (a.1, a.2.1, { s.2.2 with wher := a.2.2 })
  | 2 => (someR (atomR columnR fin) fin (s.1.length + 2) [] s.1 s.2.1).then fun a => .ok (a.1, a.2.1, { s.2.2 with group := a.2.2 })
  | _ => (someR (itemR fin) fin (s.1.length + 2) [] s.1 s.2.1).then fun a => .ok (a.1, a.2.1, { s.2.2 with items := a.2.2 })
def clauseR (i : Nat) (word : ByteArray) (fin : Int) (s : QS) : Res QS :=
  if headR s.1 = word then (takeR fin 1 (fun _ => true) s.1 s.2.1).then fun x => (takeR fin 3 (fun _ => true) x.1 x.2).then fun y =>
    (readR i fin (y.1, y.2, s.2.2)).then fun z => (takeR fin 2 (fun _ => true) z.1 z.2.1).then fun u => .ok (u.1, u.2, z.2.2)
  else .ok s
def clausesL : List ByteArray := [joinB, whereB, groupB, getB]
def clausesR (fin : Int) : Nat → List ByteArray → QS → Res QS
  | _, [], s => .ok s
  | i, w :: ws, s => (clauseR i w fin s).then fun s' => clausesR fin (i + 1) ws s'
def queryR (fin : Int) (l : List Tok) : Res Qry :=
  (takeR fin 1 (fun _ => true) l 0).then fun x => (takeR fin 3 (fun s => decide (s = fromB)) x.1 x.2).then fun y => (atomR nameR fin y.1 y.2).then fun n =>
    (clausesR fin 0 clausesL (n.1, n.2.1, { Qry.none with table := n.2.2 })).then fun s => (takeR fin 2 (fun _ => true) s.1 s.2.1).then fun u =>
      if u.1.length = 0 then .ok s.2.2 else .bad 13 (tokAt u.1 fin).a
end Go.Proofs.YtegnoaejlhbpbaaGreatDoor.lx
namespace Go.Proofs.YtegnoaejlhbpbaaGreatDoor.lx
open Go.RowKit

def flt (y p : Int) : PanicEntry := { v := .iface 65 (.agg #[.int .i64 y, .int .i64 p]), recovered := false }
/-- what take comes to -/
def TakeP (A : Nat) (fin : Int) (sv : Value) (t : Tok) (w : World) (R : Res (List Tok × Int)) (e : Ending) (w' : World) : Prop :=
  match R with
  | .ok x => e = .returned t.v ∧ AtW A x.1 fin x.2 sv w' ∧ w.grownBy w' (some A)
  | .bad y p => e = .panicked [flt y p] ∧ w.grownBy w' (some A)
theorem TakeP.ok {A : Nat} {fin : Int} {sv : Value} {t : Tok} {w : World} {x : List Tok × Int} {e : Ending} {w' : World} (h : TakeP A fin sv t w (.ok x) e w') : e = .returned t.v ∧ AtW A x.1 fin x.2 sv w' ∧ w.grownBy w' (some A) := h
theorem TakeP.bad {A : Nat} {fin : Int} {sv : Value} {t : Tok} {w : World} {y p : Int} {e : Ending} {w' : World} (h : TakeP A fin sv t w (.bad y p) e w') : e = .panicked [flt y p] ∧ w.grownBy w' (some A) := h

theorem below_gb {w w' : World} {A : Nat} (h : Below w.heap.size w w') : w.grownBy w' (some A) := gb_of_below h _
theorem set_gb {w w' : World} {A : Nat} (h : w.grownBy w' (some A)) (j : Nat) (v : Value) : w.grownBy (w'.setCell ⟨A, j, none⟩ v) (some A) := gb_set h j v
theorem put4_gbw {w w' : World} {A R : Nat} (h : w.grownBy w' (some A)) (hR : w.heap.size ≤ R) (t : Tok) : w.grownBy (put4 R t w') (some A) :=
  ⟨h.os, h.tape, h.output, by simpa [put4, World.setCell] using h.size, fun k hk hne => (put4_other R t w' k (by omega)).trans (h.block k hk hne)⟩
theorem atw_left {w : World} {A : Nat} {fin op : Value} {sv x y : Value} {ty : TypeId} (h : w.heap[A]? = some (.cells #[x, fin, op, sv] ty (0, 0))) : (w.setCell ⟨A, 0, none⟩ y).heap[A]? = some (.cells #[y, fin, op, sv] ty (0, 0)) := by
  simp [World.setCell, Array.getElem?_modify, h]
theorem atw_open {w : World} {A : Nat} {fin op : Value} {sv x y : Value} {ty : TypeId} (h : w.heap[A]? = some (.cells #[x, fin, op, sv] ty (0, 0))) : (w.setCell ⟨A, 2, none⟩ y).heap[A]? = some (.cells #[x, fin, y, sv] ty (0, 0)) := by
  simp [World.setCell, Array.getElem?_modify, h]
theorem TRow.other {A B : Nat} {ao : Option Addr} {l : List Tok} {w : World} (h : TRow A ao l w) (hB : A ≤ B) (j : Nat) (v : Value) : TRow A ao l (w.setCell ⟨B, j, none⟩ v) :=
  h.kept fun k hk => Below.heap_setCell _ _ _ _ (by show k ≠ B; omega)

abbrev frT (w : World) : World := w.alloc (.cells #[.int .u8 0, .string ⟨#[]⟩, .int .i64 0, .int .i64 0] 79)
abbrev tkT (w : World) (t : Tok) : World := w.alloc (.cells #[.int .u8 t.k, .string t.s, .int .i64 t.n, .int .i64 t.a] 79)
/-- what holds when take has its token -/
structure Taken (A : Nat) (l : List Tok) (fin op : Int) (sv : Value) (t : Tok) (w w2 : World) : Prop where
  at_ : AtW A l fin op sv w2
  size : w.heap.size < w2.heap.size
  lt : A < w.heap.size
  below : Below w.heap.size w w2
  res : Cell4 w.heap.size Tok.no w2
theorem Taken.mk' {A : Nat} {l : List Tok} {fin op : Int} {sv : Value} {w w2 : World} {t : Tok} (h : AtW A l fin op sv w) (hb : Below (frT w).heap.size (frT w) w2) : Taken A l fin op sv t w w2 := by
  have hb0 : Below w.heap.size w (frT w) := (Below.refl _ w).alloc (Nat.le_refl _) _
  have hsz := hb.size
  have hs1 : (frT w).heap.size = w.heap.size + 1 := by simp [frT]
  refine ⟨(h.below hb0).below hb, by omega, h.lt, below_self hb0 hb, ?_⟩
  have hc : Cell4 w.heap.size Tok.no (frT w) := by
    unfold Cell4
    rw [heap_alloc_new]
    rfl
  exact hc.below hb (by omega)
theorem Taken.tk {A : Nat} {l : List Tok} {fin op : Int} {sv : Value} {w w2 : World} {t : Tok} (h : Taken A l fin op sv t w w2) : AtW A l fin op sv (tkT w2 t) := h.at_.below ((Below.refl w2.heap.size w2).alloc (Nat.le_refl _) _)
theorem Taken.c2 {A : Nat} {l : List Tok} {fin op : Int} {sv : Value} {w w2 : World} {t : Tok} (h : Taken A l fin op sv t w w2) : w2.cell? ⟨A, 2, none⟩ = some (.int .i64 op) := by
  obtain ⟨ao, cap, hA, _⟩ := h.at_; rw [Lib.cell_of_heap hA]; rfl
theorem Taken.gb {A : Nat} {l : List Tok} {fin op : Int} {sv : Value} {w w2 w3 : World} {t : Tok} (h : Taken A l fin op sv t w w2) (hb : Below (tkT w2 t).heap.size (tkT w2 t) w3) : w.grownBy w3 (some A) :=
  below_gb (below_self (h.below.alloc h.below.size _) hb)

set_option maxHeartbeats 8000000 in
set_option maxRecDepth 100000 in
/-- too deep -/
theorem take_deep {A : Nat} {l : List Tok} {fin op k : Int} {sv may : Value} {w : World} (h : AtW A l fin op sv w) (h1 : (tokAt l fin).k = 1) (h8 : ¬ op < 8) :
    Calls Tryz.prog 58 #[.pointer (some ⟨A, 0, none⟩), .int .u8 k, may] w fun e w' => e = .panicked [flt 10 (tokAt l fin).a] ∧ w.grownBy w' (some A) := by
  have hp := wpeek_any (h.below ((Below.refl _ w).alloc (Nat.le_refl _) (.cells #[.int .u8 0, .string ⟨#[]⟩, .int .i64 0, .int .i64 0] 79)))
  have HT := Lib.hid fun w2 hb => Taken.mk' (w2 := w2) (t := tokAt l fin) h hb
  have HM := Lib.hid fun w2 (H : AtW A l fin op sv w2) => must_no (why := 10) (is := decide (op < 8)) (decide_eq_false h8) H
  have HL := Lib.hid h.lt
  generalize tokAt l fin = t at hp h1 HT HM ⊢
  obtain ⟨tk, ts, tn, ta⟩ := t
  unfold Tok.v at hp
  simp only at h1 hp
  subst h1
  clear h
  go_enter Tryz.func58, Tryz.ntmps58
  go_wp2_with (go_at_call 86; refine hp.mono ?_; rintro e w2 ⟨rfl, hb2⟩; refine Hid.out ?_)
  refine Lib.hid ?_
  have ht := HT.out w2 hb2
  have c2 := ht.c2
  have hlt2 : A < w2.heap.size := ht.at_.lt
  have HTk := Lib.hid ht
  clear hp hb2 HT ht
  go_wp2_with (go_at_call 71; refine (HM.out _ HTk.out.tk).mono ?_; rintro e w3 ⟨rfl, hb3⟩; refine Hid.out ?_)
  refine Lib.hid ?_
  exact ⟨rfl, rfl, HTk.out.gb hb3⟩

set_option maxHeartbeats 8000000 in
set_option maxRecDepth 100000 in
/-- of another kind -/
theorem take_kind {A : Nat} {l : List Tok} {fin op k : Int} {sv may : Value} {w : World} (h : AtW A l fin op sv w) (h1 : ¬ ((tokAt l fin).k = 1 ∧ ¬ op < 8)) (hk : (tokAt l fin).k ≠ k) :
    Calls Tryz.prog 58 #[.pointer (some ⟨A, 0, none⟩), .int .u8 k, may] w fun e w' => e = .panicked [flt 13 (tokAt l fin).a] ∧ w.grownBy w' (some A) := by
  have hp := wpeek_any (h.below ((Below.refl _ w).alloc (Nat.le_refl _) (.cells #[.int .u8 0, .string ⟨#[]⟩, .int .i64 0, .int .i64 0] 79)))
  have HT := Lib.hid fun w2 hb => Taken.mk' (w2 := w2) (t := tokAt l fin) h hb
  have HM := Lib.hid fun w2 is (hi : is = false) (H : AtW A l fin op sv w2) => must_no (why := 13) (is := is) hi H
  generalize tokAt l fin = t at hp h1 hk HT HM ⊢
  obtain ⟨tk, ts, tn, ta⟩ := t
  unfold Tok.v at hp
  simp only at h1 hp hk HM
  clear h
  by_cases htk : tk = 1
  · have h8 : op < 8 := by by_cases h8 : op < 8; exact h8; exact absurd ⟨htk, h8⟩ h1
    subst htk
    have HY := Lib.hid fun w2 p is (hi : is = true) => must_yes (w := w2) (p := p) (why := 10) (is := is) hi
    clear h1
    go_enter Tryz.func58, Tryz.ntmps58
    go_wp2_with (go_at_call 86; refine hp.mono ?_; rintro e w2 ⟨rfl, hb2⟩; refine Hid.out ?_)
    refine Lib.hid ?_
    have ht := HT.out w2 hb2
    have c2 := ht.c2
    have hlt2 : A < w2.heap.size := ht.at_.lt
    have HTk := Lib.hid ht
    clear hp hb2 HT ht
    go_wp2_with (go_at_call 71; refine (HY.out _ _ _ (by first | rfl | simpa using h8)).mono ?_; rintro e w3 ⟨rfl, rfl⟩; refine Hid.out ?_)
    refine Lib.hid ?_
    go_wp2_with (go_at_call 71; refine (HM.out _ _ (by simpa using hk) HTk.out.tk).mono ?_; rintro e w3 ⟨rfl, hb3⟩; refine Hid.out ?_)
    refine Lib.hid ?_
    exact ⟨rfl, rfl, HTk.out.gb hb3⟩
  · have hne : (tk != 1) = true := by simp [htk]
    have HY := Lib.hid fun w2 p is (hi : is = true) => must_yes (w := w2) (p := p) (why := 10) (is := is) hi
    clear h1
    go_enter Tryz.func58, Tryz.ntmps58
    go_wp2_with (go_at_call 86; refine hp.mono ?_; rintro e w2 ⟨rfl, hb2⟩; refine Hid.out ?_)
    refine Lib.hid ?_
    have ht := HT.out w2 hb2
    have c2 := ht.c2
    have hlt2 : A < w2.heap.size := ht.at_.lt
    have HTk := Lib.hid ht
    clear hp hb2 HT ht
    go_wp2_with (go_at_call 71; refine (HY.out _ _ _ (by first | rfl | simp [htk])).mono ?_; rintro e w3 ⟨rfl, rfl⟩; refine Hid.out ?_)
    refine Lib.hid ?_
    go_wp2_with (go_at_call 71; refine (HM.out _ _ (by simpa using hk) HTk.out.tk).mono ?_; rintro e w3 ⟨rfl, hb3⟩; refine Hid.out ?_)
    refine Lib.hid ?_
    exact ⟨rfl, rfl, HTk.out.gb hb3⟩
end Go.Proofs.YtegnoaejlhbpbaaGreatDoor.lx
namespace Go.Proofs.YtegnoaejlhbpbaaGreatDoor.lx
open Go.RowKit

theorem Taken.c0 {A : Nat} {l : List Tok} {fin op : Int} {sv : Value} {w w2 : World} {t : Tok} (h : Taken A l fin op sv t w w2) : ∃ ao cap, w2.cell? ⟨A, 0, none⟩ = some (.slice ao l.length cap) ∧ w2.heap[A]? = some (.cells #[.slice ao l.length cap, .int .i64 fin, .int .i64 op, sv] 70 (0, 0)) ∧ l.length ≤ cap ∧ cap ≤ 9223372036854775807 ∧ TRow A ao l w2 := by
  obtain ⟨ao, cap, hA, h1, h2, h3⟩ := h.at_
  exact ⟨ao, cap, by rw [Lib.cell_of_heap hA]; rfl, hA, h1, h2, h3⟩
theorem Taken.f {A : Nat} {l : List Tok} {fin op : Int} {sv : Value} {w w2 : World} {t : Tok} (h : Taken A l fin op sv t w w2) (j : Nat) : w2.frozen? ⟨A, j, none⟩ = false := by
  obtain ⟨ao, cap, hA, _⟩ := h.at_
  exact Lib.frozen_of_heap hA j
theorem Cell4.set {B A : Nat} {t : Tok} {w : World} (h : Cell4 B t w) (hne : B ≠ A) (j : Nat) (v : Value) : Cell4 B t (w.setCell ⟨A, j, none⟩ v) := (Below.heap_setCell _ _ _ _ hne).trans h
theorem Cell4.alloc {B : Nat} {t : Tok} {w : World} (h : Cell4 B t w) (o : Obj) : Cell4 B t (w.alloc o) := (Lib.alloc_old _ _ _ (Array.getElem?_eq_some_iff.1 h).1).trans h
theorem setCell_size (w : World) (a : Addr) (v : Value) : (w.setCell a v).heap.size = w.heap.size := by simp [World.setCell]
/-- the walk with its first token gone, and the token's cell -/
abbrev leftT (A : Nat) (w : World) (t : Tok) (v : Value) : World := (w.setCell ⟨A, 0, none⟩ v).alloc (.cells #[.int .u8 t.k, .string t.s, .int .i64 t.n, .int .i64 t.a] 79)
/-- what holds when take has taken, ahead of handing its token on -/
structure Took (A R : Nat) (rest : List Tok) (fin op : Int) (sv : Value) (t : Tok) (w w2 W : World) : Prop where
  at_ : AtW A rest fin op sv W
  gb : w.grownBy W (some A)
  res : Cell4 w.heap.size Tok.no W
  tok : Cell4 R t W
theorem Took.of {A : Nat} {l rest : List Tok} {fin op op' : Int} {sv : Value} {t : Tok} {w w2 : World} {ao : Option Addr} {cap : Nat} {x : Value} (h : Taken A l fin op sv t w w2) 
    (w3 : World) (h3 : ∀ k, k ≠ A → w3.heap[k]? = w2.heap[k]?) (h3A : w3.heap[A]? = some (.cells #[x, .int .i64 fin, .int .i64 op', sv] 70 (0, 0))) (hsz : w3.heap.size = w2.heap.size) (hos : w3.os = w2.os) (htp : w3.tape = w2.tape) (hou : w3.output = w2.output)
    (hc : rest.length ≤ cap) (hm : cap ≤ 9223372036854775807) (hT : TRow A ao rest w2) : Took A w2.heap.size rest fin op' sv t w w2 (leftT A w3 t (.slice ao rest.length cap)) := by
  have hlt := h.lt
  have hsz2 := h.size
  have hb : ∀ k, k ≠ A → k < w2.heap.size → (leftT A w3 t (.slice ao rest.length cap)).heap[k]? = w2.heap[k]? := fun k hk hl => by
    rw [leftT, Lib.alloc_old _ _ _ (by rw [setCell_size, hsz]; exact hl), Below.heap_setCell _ _ _ _ hk, h3 k hk]
  refine ⟨⟨ao, cap, ?_, hc, hm, hT.kept fun k hk => hb k (by omega) (by omega)⟩, ⟨hos.trans h.below.os, htp.trans h.below.tape, hou.trans h.below.output, ?_, fun k hk hne => ?_⟩, ?_, ?_⟩
  · rw [leftT, Lib.alloc_old _ _ _ (by rw [setCell_size, hsz]; omega)]
    exact atw_left h3A
  · show _ ≤ ((w3.setCell _ _).heap.push _).size; rw [Array.size_push, setCell_size, hsz]; omega
  · exact (hb k (fun e => hne (by rw [e])) (by omega)).trans (h.below.block k hk)
  · exact (hb _ (by omega) hsz2).trans h.res
  · unfold Cell4
    have : (w3.setCell ⟨A, 0, none⟩ (.slice ao rest.length cap)).heap.size = w2.heap.size := by rw [setCell_size, hsz]
    rw [← this, leftT, heap_alloc_new]
theorem Took.of2 {A : Nat} {l rest : List Tok} {fin op op' : Int} {sv : Value} {t : Tok} {w w2 : World} {ao : Option Addr} {cap : Nat} {x : Value} (h : Taken A l fin op sv t w w2) (hA : w2.heap[A]? = some (.cells #[x, .int .i64 fin, .int .i64 op, sv] 70 (0, 0)))
    (hc : rest.length ≤ cap) (hm : cap ≤ 9223372036854775807) (hT : TRow A ao rest w2) : Took A w2.heap.size rest fin op' sv t w w2 (leftT A (w2.setCell ⟨A, 2, none⟩ (.int .i64 op')) t (.slice ao rest.length cap)) := by
  exact Took.of (op' := op') h (x := x) _ (fun k hk => Below.heap_setCell _ _ _ _ hk) (atw_open hA) (setCell_size _ _ _) rfl rfl rfl hc hm hT
theorem AtW.put4w {A R : Nat} {l : List Tok} {fin op : Int} {sv : Value} {w : World} (h : AtW A l fin op sv w) (hR : A < R) (t : Tok) : AtW A l fin op sv (put4 R t w) := h.kept fun k hk => put4_other R t w k (by omega)

set_option maxHeartbeats 1000000 in
set_option maxRecDepth 100000 in
theorem take_atom {A : Nat} {t : Tok} {rest : List Tok} {fin op k : Int} {sv : Value} {w : World} (h : AtW A (t :: rest) fin op sv w) (hk : t.k = k) (h1 : t.k ≠ 1) (h2 : t.k ≠ 2) :
    Calls Tryz.prog 58 #[.pointer (some ⟨A, 0, none⟩), .int .u8 k, .slice none 0 0] w fun e w' => e = .returned t.v ∧ AtW A rest fin op sv w' ∧ w.grownBy w' (some A) := by
  have hp := wpeek_any (h.below ((Below.refl _ w).alloc (Nat.le_refl _) (.cells #[.int .u8 0, .string ⟨#[]⟩, .int .i64 0, .int .i64 0] 79)))
  have HT := Lib.hid fun w2 hb => Taken.mk' (w2 := w2) (t := t) h hb
  have HY := Lib.hid fun w2 p y is (hi : is = true) => must_yes (w := w2) (p := p) (why := y) (is := is) hi
  rw [show tokAt (t :: rest) fin = t from rfl] at hp
  subst hk
  obtain ⟨tk, ts, tn, ta⟩ := t
  unfold Tok.v at hp
  simp only at h1 h2 hp ⊢
  have e1 : (tk != 1) = true := by simp [h1]
  have e2 : (tk == 1) = false := by simp [h1]
  have e3 : (tk == 2) = false := by simp [h2]
  clear h
  go_enter Tryz.func58, Tryz.ntmps58
  go_wp2_with (go_at_call 86; refine hp.mono ?_; rintro e w2 ⟨rfl, hb2⟩; refine Hid.out ?_)
  refine Lib.hid ?_
  have ht := HT.out w2 hb2
  obtain ⟨ao, cap, c0, hA, hc, hm, hR⟩ := ht.c0
  obtain ⟨b, o, rfl, hbA, d0, d1, d2, d3, hR'⟩ := hR.cons
  have c2 := ht.c2
  have f0 := ht.f 0
  have f2 := ht.f 2
  have hlt2 : A < w2.heap.size := ht.at_.lt
  have hRlt := ht.size
  have hlt := ht.lt
  simp only [List.length_cons] at c0 hc hA
  have HTk := Lib.hid ht
  have HA := Lib.hid hA
  have HR := Lib.hid hR'
  clear hp hb2 HT ht hA hR hR' d0 d1 d2 d3
  go_wp2_with (go_at_call 71; refine (HY.out _ _ _ _ (by first | rfl | simp [h1])).mono ?_; rintro e w3 ⟨rfl, rfl⟩; refine Hid.out ?_)
  refine Lib.hid ?_
  go_wp2_with (go_at_call 71; refine (HY.out _ _ _ _ (by first | rfl | simp)).mono ?_; rintro e w3 ⟨rfl, rfl⟩; refine Hid.out ?_)
  refine Lib.hid ?_
  go_wp2_with fail
  go_loopw [32] (fun v wr => v = .int .i64 0 ∧ wr = w2.alloc (.cells #[.int .u8 tk, .string ts, .int .i64 tn, .int .i64 ta] 79)) (fun _ _ => 0)
  case atStart => exact ⟨rfl, rfl⟩
  case round =>
    obtain ⟨rfl, rfl⟩ := hrel
    go_upto_region 14 with fail
    by_cases hcp : cap = 1
    · have hr0 : rest.length = 0 := by omega
      subst hcp
      rw [hr0] at c0
      have HK : Took A w2.heap.size rest fin op sv ⟨tk, ts, tn, ta⟩ w w2 (leftT A w2 ⟨tk, ts, tn, ta⟩ (.slice (some ⟨b, o, none⟩) 0 0)) := by
        have h0 := Took.of (ao := some ⟨b, o, none⟩) (cap := 0) HTk.out w2 (fun _ _ => rfl) HA.out rfl rfl rfl rfl (by omega) (by omega) (.inl hr0)
        rw [hr0] at h0
        exact h0
      go_upto_region 15 with fail
      have HKT := Lib.hid HK
      obtain ⟨W, hW⟩ : ∃ W, leftT A w2 ⟨tk, ts, tn, ta⟩ (.slice (some ⟨b, o, none⟩) 0 0) = W := ⟨_, rfl⟩
      rw [hW] at HK HKT
      unfold leftT at hW
      rw [hW]
      have r0 := HK.res.c0
      have r1 := HK.res.c1
      have r2 := HK.res.c2
      have r3 := HK.res.c3
      have fr := HK.res.f
      have q0 := HK.tok.c0
      have q1 := HK.tok.c1
      have q2 := HK.tok.c2
      have q3 := HK.tok.c3
      clear hW HK HTk HA HR HY c0 c2 f0 f2
      go_wp2_with fail
      exact bodyPost_ret (v := (⟨tk, ts, tn, ta⟩ : Tok).v) (results1 rfl (put4_cell HKT.out.res ⟨tk, ts, tn, ta⟩) rfl) rfl ⟨rfl, HKT.out.at_.put4w hlt ⟨tk, ts, tn, ta⟩, put4_gbw HKT.out.gb (Nat.le_refl _) ⟨tk, ts, tn, ta⟩⟩
    · skip
      have HK : Took A w2.heap.size rest fin op sv ⟨tk, ts, tn, ta⟩ w w2 (leftT A w2 ⟨tk, ts, tn, ta⟩ (.slice (some ⟨b, o + 4, none⟩) rest.length (cap - 1))) := by
        have h0 := Took.of (ao := some ⟨b, o + 4, none⟩) (cap := cap - 1) HTk.out w2 (fun _ _ => rfl) HA.out rfl rfl rfl rfl (by omega) (by omega) HR.out
        exact h0
      go_upto_region 15 with fail
      have HKT := Lib.hid HK
      obtain ⟨W, hW⟩ : ∃ W, leftT A w2 ⟨tk, ts, tn, ta⟩ (.slice (some ⟨b, o + 4, none⟩) rest.length (cap - 1)) = W := ⟨_, rfl⟩
      rw [hW] at HK HKT
      unfold leftT at hW
      rw [hW]
      have r0 := HK.res.c0
      have r1 := HK.res.c1
      have r2 := HK.res.c2
      have r3 := HK.res.c3
      have fr := HK.res.f
      have q0 := HK.tok.c0
      have q1 := HK.tok.c1
      have q2 := HK.tok.c2
      have q3 := HK.tok.c3
      clear hW HK HTk HA HR HY c0 c2 f0 f2
      go_wp2_with fail
      exact bodyPost_ret (v := (⟨tk, ts, tn, ta⟩ : Tok).v) (results1 rfl (put4_cell HKT.out.res ⟨tk, ts, tn, ta⟩) rfl) rfl ⟨rfl, HKT.out.at_.put4w hlt ⟨tk, ts, tn, ta⟩, put4_gbw HKT.out.gb (Nat.le_refl _) ⟨tk, ts, tn, ta⟩⟩

set_option maxHeartbeats 1000000 in
set_option maxRecDepth 100000 in
theorem take_open {A : Nat} {t : Tok} {rest : List Tok} {fin op : Int} {sv : Value} {w : World} (h : AtW A (t :: rest) fin op sv w) (hk : t.k = 1) (h8 : op < 8) (hlo : -4611686018427387904 ≤ op) :
    Calls Tryz.prog 58 #[.pointer (some ⟨A, 0, none⟩), .int .u8 1, .slice none 0 0] w fun e w' => e = .returned t.v ∧ AtW A rest fin (op + 1) sv w' ∧ w.grownBy w' (some A) := by
  have hp := wpeek_any (h.below ((Below.refl _ w).alloc (Nat.le_refl _) (.cells #[.int .u8 0, .string ⟨#[]⟩, .int .i64 0, .int .i64 0] 79)))
  have HT := Lib.hid fun w2 hb => Taken.mk' (w2 := w2) (t := t) h hb
  have HY := Lib.hid fun w2 p y is (hi : is = true) => must_yes (w := w2) (p := p) (why := y) (is := is) hi
  rw [show tokAt (t :: rest) fin = t from rfl] at hp
  obtain ⟨tk, ts, tn, ta⟩ := t
  unfold Tok.v at hp
  simp only at hk hp ⊢
  subst hk
  clear h
  go_enter Tryz.func58, Tryz.ntmps58
  go_wp2_with (go_at_call 86; refine hp.mono ?_; rintro e w2 ⟨rfl, hb2⟩; refine Hid.out ?_)
  refine Lib.hid ?_
  have ht := HT.out w2 hb2
  obtain ⟨ao, cap, c0, hA, hc, hm, hR⟩ := ht.c0
  obtain ⟨b, o, rfl, hbA, d0, d1, d2, d3, hR'⟩ := hR.cons
  have c2 := ht.c2
  have f0 := ht.f 0
  have f2 := ht.f 2
  have hlt2 : A < w2.heap.size := ht.at_.lt
  have hRlt := ht.size
  have hlt := ht.lt
  simp only [List.length_cons] at c0 hc hA
  have HTk := Lib.hid ht
  have HA := Lib.hid hA
  have HR := Lib.hid hR'
  clear hp hb2 HT ht hA hR hR' d0 d1 d2 d3
  go_wp2_with (go_at_call 71; refine (HY.out _ _ _ _ (by first | rfl | simpa using h8)).mono ?_; rintro e w3 ⟨rfl, rfl⟩; refine Hid.out ?_)
  refine Lib.hid ?_
  go_wp2_with (go_at_call 71; refine (HY.out _ _ _ _ (by first | rfl | simp)).mono ?_; rintro e w3 ⟨rfl, rfl⟩; refine Hid.out ?_)
  refine Lib.hid ?_
  go_wp2_with fail
  go_loopw [32] (fun v wr => v = .int .i64 0 ∧ wr = w2.alloc (.cells #[.int .u8 1, .string ts, .int .i64 tn, .int .i64 ta] 79)) (fun _ _ => 0)
  case atStart => exact ⟨rfl, rfl⟩
  case round =>
    obtain ⟨rfl, rfl⟩ := hrel
    go_upto_region 14 with fail
    by_cases hcp : cap = 1
    · have hr0 : rest.length = 0 := by omega
      subst hcp
      rw [hr0] at c0
      have HK : Took A w2.heap.size rest fin (op + 1) sv ⟨1, ts, tn, ta⟩ w w2 (leftT A (w2.setCell ⟨A, 2, none⟩ (.int .i64 (op + 1))) ⟨1, ts, tn, ta⟩ (.slice (some ⟨b, o, none⟩) 0 0)) := by
        have h0 := Took.of2 (op' := (op + 1)) (ao := some ⟨b, o, none⟩) (cap := 0) HTk.out HA.out (by omega) (by omega) (.inl hr0)
        rw [hr0] at h0
        exact h0
      go_upto_region 15 with fail
      have HKT := Lib.hid HK
      obtain ⟨W, hW⟩ : ∃ W, leftT A (w2.setCell ⟨A, 2, none⟩ (.int .i64 (op + 1))) ⟨1, ts, tn, ta⟩ (.slice (some ⟨b, o, none⟩) 0 0) = W := ⟨_, rfl⟩
      rw [hW] at HK HKT
      unfold leftT at hW
      rw [hW]
      have r0 := HK.res.c0
      have r1 := HK.res.c1
      have r2 := HK.res.c2
      have r3 := HK.res.c3
      have fr := HK.res.f
      have q0 := HK.tok.c0
      have q1 := HK.tok.c1
      have q2 := HK.tok.c2
      have q3 := HK.tok.c3
      clear hW HK HTk HA HR HY c0 c2 f0 f2
      go_wp2_with fail
      exact bodyPost_ret (v := (⟨1, ts, tn, ta⟩ : Tok).v) (results1 rfl (put4_cell HKT.out.res ⟨1, ts, tn, ta⟩) rfl) rfl ⟨rfl, HKT.out.at_.put4w hlt ⟨1, ts, tn, ta⟩, put4_gbw HKT.out.gb (Nat.le_refl _) ⟨1, ts, tn, ta⟩⟩
    · skip
      have HK : Took A w2.heap.size rest fin (op + 1) sv ⟨1, ts, tn, ta⟩ w w2 (leftT A (w2.setCell ⟨A, 2, none⟩ (.int .i64 (op + 1))) ⟨1, ts, tn, ta⟩ (.slice (some ⟨b, o + 4, none⟩) rest.length (cap - 1))) := by
        have h0 := Took.of2 (op' := (op + 1)) (ao := some ⟨b, o + 4, none⟩) (cap := cap - 1) HTk.out HA.out (by omega) (by omega) HR.out
        exact h0
      go_upto_region 15 with fail
      have HKT := Lib.hid HK
      obtain ⟨W, hW⟩ : ∃ W, leftT A (w2.setCell ⟨A, 2, none⟩ (.int .i64 (op + 1))) ⟨1, ts, tn, ta⟩ (.slice (some ⟨b, o + 4, none⟩) rest.length (cap - 1)) = W := ⟨_, rfl⟩
      rw [hW] at HK HKT
      unfold leftT at hW
      rw [hW]
      have r0 := HK.res.c0
      have r1 := HK.res.c1
      have r2 := HK.res.c2
      have r3 := HK.res.c3
      have fr := HK.res.f
      have q0 := HK.tok.c0
      have q1 := HK.tok.c1
      have q2 := HK.tok.c2
      have q3 := HK.tok.c3
      clear hW HK HTk HA HR HY c0 c2 f0 f2
      go_wp2_with fail
      exact bodyPost_ret (v := (⟨1, ts, tn, ta⟩ : Tok).v) (results1 rfl (put4_cell HKT.out.res ⟨1, ts, tn, ta⟩) rfl) rfl ⟨rfl, HKT.out.at_.put4w hlt ⟨1, ts, tn, ta⟩, put4_gbw HKT.out.gb (Nat.le_refl _) ⟨1, ts, tn, ta⟩⟩

set_option maxHeartbeats 1000000 in
set_option maxRecDepth 100000 in
theorem take_close {A : Nat} {t : Tok} {rest : List Tok} {fin op : Int} {sv : Value} {w : World} (h : AtW A (t :: rest) fin op sv w) (hk : t.k = 2) (hlo : -4611686018427387904 ≤ op) (hhi : op ≤ 4611686018427387904) :
    Calls Tryz.prog 58 #[.pointer (some ⟨A, 0, none⟩), .int .u8 2, .slice none 0 0] w fun e w' => e = .returned t.v ∧ AtW A rest fin (op - 1) sv w' ∧ w.grownBy w' (some A) := by
  have hp := wpeek_any (h.below ((Below.refl _ w).alloc (Nat.le_refl _) (.cells #[.int .u8 0, .string ⟨#[]⟩, .int .i64 0, .int .i64 0] 79)))
  have HT := Lib.hid fun w2 hb => Taken.mk' (w2 := w2) (t := t) h hb
  have HY := Lib.hid fun w2 p y is (hi : is = true) => must_yes (w := w2) (p := p) (why := y) (is := is) hi
  rw [show tokAt (t :: rest) fin = t from rfl] at hp
  obtain ⟨tk, ts, tn, ta⟩ := t
  unfold Tok.v at hp
  simp only at hk hp ⊢
  subst hk
  clear h
  go_enter Tryz.func58, Tryz.ntmps58
  go_wp2_with (go_at_call 86; refine hp.mono ?_; rintro e w2 ⟨rfl, hb2⟩; refine Hid.out ?_)
  refine Lib.hid ?_
  have ht := HT.out w2 hb2
  obtain ⟨ao, cap, c0, hA, hc, hm, hR⟩ := ht.c0
  obtain ⟨b, o, rfl, hbA, d0, d1, d2, d3, hR'⟩ := hR.cons
  have c2 := ht.c2
  have f0 := ht.f 0
  have f2 := ht.f 2
  have hlt2 : A < w2.heap.size := ht.at_.lt
  have hRlt := ht.size
  have hlt := ht.lt
  simp only [List.length_cons] at c0 hc hA
  have HTk := Lib.hid ht
  have HA := Lib.hid hA
  have HR := Lib.hid hR'
  clear hp hb2 HT ht hA hR hR' d0 d1 d2 d3
  go_wp2_with (go_at_call 71; refine (HY.out _ _ _ _ (by first | rfl | simp)).mono ?_; rintro e w3 ⟨rfl, rfl⟩; refine Hid.out ?_)
  refine Lib.hid ?_
  go_wp2_with (go_at_call 71; refine (HY.out _ _ _ _ (by first | rfl | simp)).mono ?_; rintro e w3 ⟨rfl, rfl⟩; refine Hid.out ?_)
  refine Lib.hid ?_
  go_wp2_with fail
  go_loopw [32] (fun v wr => v = .int .i64 0 ∧ wr = w2.alloc (.cells #[.int .u8 2, .string ts, .int .i64 tn, .int .i64 ta] 79)) (fun _ _ => 0)
  case atStart => exact ⟨rfl, rfl⟩
  case round =>
    obtain ⟨rfl, rfl⟩ := hrel
    go_upto_region 14 with fail
    by_cases hcp : cap = 1
    · have hr0 : rest.length = 0 := by omega
      subst hcp
      rw [hr0] at c0
      have HK : Took A w2.heap.size rest fin (op - 1) sv ⟨2, ts, tn, ta⟩ w w2 (leftT A (w2.setCell ⟨A, 2, none⟩ (.int .i64 (op - 1))) ⟨2, ts, tn, ta⟩ (.slice (some ⟨b, o, none⟩) 0 0)) := by
        have h0 := Took.of2 (op' := (op - 1)) (ao := some ⟨b, o, none⟩) (cap := 0) HTk.out HA.out (by omega) (by omega) (.inl hr0)
        rw [hr0] at h0
        exact h0
      go_upto_region 15 with fail
      have HKT := Lib.hid HK
      obtain ⟨W, hW⟩ : ∃ W, leftT A (w2.setCell ⟨A, 2, none⟩ (.int .i64 (op - 1))) ⟨2, ts, tn, ta⟩ (.slice (some ⟨b, o, none⟩) 0 0) = W := ⟨_, rfl⟩
      rw [hW] at HK HKT
      unfold leftT at hW
      rw [hW]
      have r0 := HK.res.c0
      have r1 := HK.res.c1
      have r2 := HK.res.c2
      have r3 := HK.res.c3
      have fr := HK.res.f
      have q0 := HK.tok.c0
      have q1 := HK.tok.c1
      have q2 := HK.tok.c2
      have q3 := HK.tok.c3
      clear hW HK HTk HA HR HY c0 c2 f0 f2
      go_wp2_with fail
      exact bodyPost_ret (v := (⟨2, ts, tn, ta⟩ : Tok).v) (results1 rfl (put4_cell HKT.out.res ⟨2, ts, tn, ta⟩) rfl) rfl ⟨rfl, HKT.out.at_.put4w hlt ⟨2, ts, tn, ta⟩, put4_gbw HKT.out.gb (Nat.le_refl _) ⟨2, ts, tn, ta⟩⟩
    · skip
      have HK : Took A w2.heap.size rest fin (op - 1) sv ⟨2, ts, tn, ta⟩ w w2 (leftT A (w2.setCell ⟨A, 2, none⟩ (.int .i64 (op - 1))) ⟨2, ts, tn, ta⟩ (.slice (some ⟨b, o + 4, none⟩) rest.length (cap - 1))) := by
        have h0 := Took.of2 (op' := (op - 1)) (ao := some ⟨b, o + 4, none⟩) (cap := cap - 1) HTk.out HA.out (by omega) (by omega) HR.out
        exact h0
      go_upto_region 15 with fail
      have HKT := Lib.hid HK
      obtain ⟨W, hW⟩ : ∃ W, leftT A (w2.setCell ⟨A, 2, none⟩ (.int .i64 (op - 1))) ⟨2, ts, tn, ta⟩ (.slice (some ⟨b, o + 4, none⟩) rest.length (cap - 1)) = W := ⟨_, rfl⟩
      rw [hW] at HK HKT
      unfold leftT at hW
      rw [hW]
      have r0 := HK.res.c0
      have r1 := HK.res.c1
      have r2 := HK.res.c2
      have r3 := HK.res.c3
      have fr := HK.res.f
      have q0 := HK.tok.c0
      have q1 := HK.tok.c1
      have q2 := HK.tok.c2
      have q3 := HK.tok.c3
      clear hW HK HTk HA HR HY c0 c2 f0 f2
      go_wp2_with fail
      exact bodyPost_ret (v := (⟨2, ts, tn, ta⟩ : Tok).v) (results1 rfl (put4_cell HKT.out.res ⟨2, ts, tn, ta⟩) rfl) rfl ⟨rfl, HKT.out.at_.put4w hlt ⟨2, ts, tn, ta⟩, put4_gbw HKT.out.gb (Nat.le_refl _) ⟨2, ts, tn, ta⟩⟩
end Go.Proofs.YtegnoaejlhbpbaaGreatDoor.lx
namespace Go.Proofs.YtegnoaejlhbpbaaGreatDoor.lx
open Go.RowKit

theorem Glob.db_at {w : World} (h : Glob w) (j : Nat) (hj : j < 64) : w.cell? ⟨9, j, none⟩ = some (.int .u8 ((Lib.deBruijn64tab.map fun (n : Nat) => (n : Int)).getD j 0)) :=
  Lib.TabIs.cell h.db g_db j hj

set_option maxHeartbeats 1000000 in
set_option maxRecDepth 100000 in
theorem TZ64_16 (w : World) (hG : Glob w) :
    Calls Tryz.prog 149 #[.int .u64 16] w fun e w' => e = .returned (.int .i64 4) ∧ w' = w := by
  have key : IntKind.u64.wrap (bits BinOp.and IntKind.u64 16 (IntKind.u64.wrap (-16)) * 285870213051353865) / 288230376151711744 = 15 := by decide +kernel
  have hc : w.cell? ⟨9, 15, none⟩ = some (.int .u8 4) := hG.db_at 15 (by decide)
  go_enter Tryz.func149, Tryz.ntmps149
  go_wp2_with (simp only [key])
  go_ret
  exact ⟨rfl, rfl⟩
set_option maxHeartbeats 1000000 in
set_option maxRecDepth 100000 in
theorem TZ_16 (w : World) (hG : Glob w) :
    Calls Tryz.prog 130 #[.int .u64 16] w fun e w' => e = .returned (.int .i64 4) ∧ w' = w := by
  go_enter Tryz.func130, Tryz.ntmps130
  go_wp2_with (go_at_call 149; refine (TZ64_16 _ hG).mono ?_; rintro e w1 ⟨rfl, rfl⟩)
  go_ret
  exact ⟨rfl, rfl⟩
set_option maxHeartbeats 1000000 in
set_option maxRecDepth 100000 in
theorem isPow2_16 (w : World) :
    Calls Tryz.prog 129 #[.int .i64 16] w fun e w' => e = .returned (.bool true) ∧ w' = w := by
  have key : bits BinOp.and IntKind.i64 16 15 = 0 := by decide +kernel
  go_enter Tryz.func129, Tryz.ntmps129
  go_wp2_with (simp only [key])
  go_ret
  exact ⟨rfl, rfl⟩

/-- the digit of a number below 16 -/
def hexD (u : Nat) : UInt8 := UInt8.ofNat (if u < 10 then 48 + u else 87 + u)

theorem hexD_fin : ∀ u : Fin 16, (⟨#[48, 49, 50, 51, 52, 53, 54, 55, 56, 57, 97, 98, 99, 100, 101, 102, 103, 104, 105, 106, 107, 108, 109, 110, 111, 112, 113, 114, 115, 116, 117, 118, 119, 120, 121, 122]⟩ : ByteArray)[u.val]'(Nat.lt_of_lt_of_le u.isLt (by decide)) = hexD u.val := by decide +kernel
theorem hexD_at (u : Nat) (hu : u < 16) (h : u < (⟨#[48, 49, 50, 51, 52, 53, 54, 55, 56, 57, 97, 98, 99, 100, 101, 102, 103, 104, 105, 106, 107, 108, 109, 110, 111, 112, 113, 114, 115, 116, 117, 118, 119, 120, 121, 122]⟩ : ByteArray).size) :
    (⟨#[48, 49, 50, 51, 52, 53, 54, 55, 56, 57, 97, 98, 99, 100, 101, 102, 103, 104, 105, 106, 107, 108, 109, 110, 111, 112, 113, 114, 115, 116, 117, 118, 119, 120, 121, 122]⟩ : ByteArray)[u]'h = hexD u := hexD_fin ⟨u, hu⟩
theorem zero65_eq : Tryz.zeroCells181 = (List.replicate 65 (Value.int .u8 0)).toArray := by kernel_rfl
theorem zero65 (j : Nat) (hj : j < 65) : Tryz.zeroCells181[j]? = some (.int .u8 0) := by
  rw [zero65_eq, List.getElem?_toArray]; exact List.getElem?_replicate_of_lt hj
theorem size65 : Tryz.zeroCells181.size = 65 := by rw [zero65_eq]; simp
/-- the digits of a number below 256 at base 16 -/
def hexN2 (u : Nat) : List UInt8 := if u < 16 then [hexD u] else [hexD (u / 16), hexD (u % 16)]

theorem conv_at (wr : World) (b off cap : Nat) (l : List UInt8) (hc : ∀ j (hj : j < l.length), wr.cell? ⟨b, off + j, none⟩ = some (.int .u8 (l[j].toNat : Int))) :
    (convert 110 9 (.slice (some ⟨b, off, none⟩) l.length cap)).run Tryz.prog wr = .ok (.string ⟨l.toArray⟩) wr :=
  run_convert_bytes_back wr 110 9 5 ⟨b, off, none⟩ cap l Tryz.underlying110 Tryz.underlying5 Tryz.underlying9 (fun j hj => by rw [Lib.add_plain]; exact hc j hj)

set_option maxHeartbeats 2000000 in
set_option maxRecDepth 100000 in
theorem fb_any (u : Nat) (hu : u < 256) (w : World) (hG : Glob w) :
    Calls Tryz.prog 113 #[.slice none 0 0, .int .u64 u, .int .i64 16, .bool false, .bool false] w fun e w' => e = .returned (.tuple #[.slice none 0 0, .string ⟨(hexN2 u).toArray⟩]) ∧ Below w.heap.size w w' := by
  have hG1 : Glob (w.alloc (Obj.cells Tryz.zeroCells181 181)) := hG.self ((Below.refl _ w).alloc (Nat.le_refl _) _)
  have c0 : (w.alloc (Obj.cells Tryz.zeroCells181 181)).cell? ⟨w.heap.size, 64, none⟩ = some (.int .u8 0) := by
    rw [World.cell?_alloc_new]; exact zero65 64 (by omega)
  have hb0 : ∀ o, Below w.heap.size w (w.alloc o) := fun o => (Below.refl _ w).alloc (Nat.le_refl _) _
  go_enter Tryz.func113, Tryz.ntmps113
  go_wp2_with (go_at_call 129; refine (isPow2_16 _).mono ?_; rintro e w1 ⟨rfl, rfl⟩)
  go_wp2_with (go_at_call 130; refine (TZ_16 _ hG1).mono ?_; rintro e w1 ⟨rfl, rfl⟩)
  go_wp2_with fail
  go_loopw [1, 13] (fun v i wr => (v = .int .u64 u ∧ i = .int .i64 65 ∧ wr = w.alloc (Obj.cells Tryz.zeroCells181 181)) ∨
      (16 ≤ u ∧ v = .int .u64 (u / 16 : Nat) ∧ i = .int .i64 64 ∧ wr = w.alloc (Obj.cells (Tryz.zeroCells181.setIfInBounds 64 (.int .u8 (hexD (u % 16)).toNat)) 181))) (fun _ i _ => match i with | .int _ n => n.toNat | _ => 0)
  case atStart => exact .inl ⟨rfl, rfl, rfl⟩
  case round =>
    rcases hrel with ⟨rfl, rfl, rfl⟩ | ⟨h16, rfl, rfl, rfl⟩
    · by_cases h16 : 16 ≤ u
      · have hI : (u : Int) ≥ 16 := by omega
        have hand : bits BinOp.and IntKind.u64 (u : Int) 15 = ((u % 16 : Nat) : Int) := by
          have h : ∀ v : Fin 256, bits BinOp.and IntKind.u64 ((v.val : Nat) : Int) 15 = ((v.val % 16 : Nat) : Int) := by decide +kernel
          exact h ⟨u, hu⟩
        go_wp2_with (simp only [hand])
        refine ⟨.inr ⟨h16, by simp, rfl, ?_⟩, by simp⟩
        rw [hexD_at _ (Nat.mod_lt _ (by decide))]
      · have hI : ¬ ((u : Int) ≥ 16) := by omega
        go_wp2_with fail
        rw [hexD_at _ (by omega)]
        have hcv : (convert 110 9 (.slice (some ⟨w.heap.size, 64, none⟩) 1 1)).run Tryz.prog (w.alloc (Obj.cells (Tryz.zeroCells181.setIfInBounds 64 (.int .u8 (hexD u).toNat)) 181)) = .ok (.string ⟨#[hexD u]⟩) _ := conv_at _ w.heap.size 64 1 [hexD u] (fun j hj => by
          have : j = 0 := by simpa using hj
          subst this
          rw [World.cell?_alloc_new, Array.getElem?_setIfInBounds, size65]
          rfl)
        rw [hcv]
        simp only [Result.andThen]
        rw [Oper.upon_value]
        go_wp2
        go_ret2
        exact ⟨by simp [hexN2]; omega, hb0 _⟩
    · have hI : ¬ (((u / 16 : Nat) : Int) ≥ 16) := by omega
      have c1 : (w.alloc (Obj.cells (Tryz.zeroCells181.setIfInBounds 64 (.int .u8 (hexD (u % 16)).toNat)) 181)).cell? ⟨w.heap.size, 63, none⟩ = some (.int .u8 0) := by
        rw [World.cell?_alloc_new]
        rw [Array.getElem?_setIfInBounds]
        exact zero65 63 (by omega)
      go_wp2_with fail
      rw [hexD_at _ (by omega)]
      have hcv : (convert 110 9 (.slice (some ⟨w.heap.size, 63, none⟩) 2 2)).run Tryz.prog (w.alloc (Obj.cells ((Tryz.zeroCells181.setIfInBounds 64 (.int .u8 (hexD (u % 16)).toNat)).setIfInBounds 63 (.int .u8 (hexD (u / 16)).toNat)) 181)) = .ok (.string ⟨#[hexD (u / 16), hexD (u % 16)]⟩) _ := conv_at _ w.heap.size 63 2 [hexD (u / 16), hexD (u % 16)] (fun j hj => by
        have hj2 : j < 2 := hj
        rw [World.cell?_alloc_new, Array.getElem?_setIfInBounds, Array.size_setIfInBounds, size65]
        obtain rfl | rfl : j = 0 ∨ j = 1 := by omega
        · rfl
        · rw [if_neg (by omega), Array.getElem?_setIfInBounds, size65]; rfl)
      rw [hcv]
      simp only [Result.andThen]
      rw [Oper.upon_value]
      go_wp2
      go_ret2
      exact ⟨by simp [hexN2]; omega, hb0 _⟩

set_option maxHeartbeats 2000000 in
set_option maxRecDepth 100000 in
theorem iFI_any (u : Nat) (hu : u < 256) (w : World) (hG : Glob w) :
    Calls Tryz.prog 91 #[.int .i64 u, .int .i64 16] w fun e w' => e = .returned (.string ⟨(hexN2 u).toArray⟩) ∧ Below w.heap.size w w' := by
  have hI : ¬ ((u : Int) < 0) := by omega
  have hw : IntKind.u64.wrap (u : Int) = u := by rw [IntKind.wrap_u64]; omega
  go_enter Tryz.func91, Tryz.ntmps91
  go_wp2_with (go_at_call 113; refine (fb_any u hu _ hG).mono ?_; rintro e w1 ⟨rfl, hb⟩)
  go_ret
  exact ⟨rfl, hb⟩
set_option maxHeartbeats 2000000 in
set_option maxRecDepth 100000 in
/-- strconv.FormatInt at base 16, below 256 -/
theorem FI_any (u : Nat) (hu : u < 256) (w : World) (hG : Glob w) :
    Calls Tryz.prog 75 #[.int .i64 u, .int .i64 16] w fun e w' => e = .returned (.string ⟨(hexN2 u).toArray⟩) ∧ Below w.heap.size w w' := by
  go_enter Tryz.func75, Tryz.ntmps75
  go_wp2_with (go_at_call 91; refine (iFI_any u hu _ hG).mono ?_; rintro e w1 ⟨rfl, hb⟩)
  go_ret
  exact ⟨rfl, hb⟩
end Go.Proofs.YtegnoaejlhbpbaaGreatDoor.lx
