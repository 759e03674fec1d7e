/-
  Escapes as laws on glyphs: plain laws, no program in sight.
-/
import Derived.Test.YtfndfhhimhcakaaDoorGlyph
import Derived.Lib.TrimAscii
namespace Go.Proofs.YtfndfhhimhcakaaDoor.lx
open Go.RowKit

theorem gl_ascii {b : UInt8} (t : List UInt8) (h : b.toNat < 128) : gl (b :: t) = (((b.toNat : Nat) : Int), true) :: gl t := by
  rw [gl_cons (by simp), Lib.decodeL_ascii b t h]
  have : ¬ b.toNat = 65533 := by omega
  simp [this]
theorem gl_asciis : ∀ (ds t : List UInt8), (∀ b ∈ ds, b.toNat < 128) → gl (ds ++ t) = (ds.map fun b => (((b.toNat : Nat) : Int), true)) ++ gl t
  | [], t, _ => rfl
  | b :: ds, t, h => by
    rw [List.cons_append, gl_ascii _ (h b (by simp)), gl_asciis ds t (fun x hx => h x (by simp [hx]))]
    rfl
/-- a glyph below 128 is its byte -/
theorem gl_low {l : List UInt8} {r : Int} {o : Bool} {gs : List G} (h : gl l = (r, o) :: gs) (hr : r < 128) : ∃ b t, l = b :: t ∧ ((b.toNat : Nat) : Int) = r ∧ o = true ∧ gl t = gs := by
  cases l with
  | nil => rw [gl_nil] at h; cases h
  | cons b t =>
    have h' := h
    rw [gl_cons (by simp)] at h
    injection h with h1 h2
    injection h1 with h3 h4
    have hb : b.toNat < 128 := by
      rw [Lib.decodeL_N] at h3
      rcases Lib.decodeN_shape (b :: t).length ((b :: t).getD 0 0).toNat ((b :: t).getD 1 0).toNat ((b :: t).getD 2 0).toNat ((b :: t).getD 3 0).toNat with ⟨c, e⟩ | ⟨c1, c2, c3, cv, e⟩ | ⟨c1, c2, c3, c4, cv, cs, e⟩ | ⟨c1, c2, c3, c4, c5, cv, cw, e⟩ | e
      · simpa using c
      all_goals (rw [e] at h3; simp only at h3; omega)
    rw [gl_ascii t hb] at h'
    injection h' with h5 h6
    injection h5 with h7 h8
    exact ⟨b, t, rfl, h7, h8.symm, h6⟩

def isHexR (r : Int) : Bool := decide (48 ≤ r ∧ r ≤ 57) || decide (97 ≤ r ∧ r ≤ 102)
def hexR (r : Int) : Nat := if r ≤ 57 then (r - 48).toNat else (r - 87).toNat
def hexG (gs : List G) : Nat := gs.foldl (fun x g => 16 * x + hexR g.1) 0
/-- what stands between the brackets of an escape, and what is behind -/
def codeG (gs : List G) : Option (Nat × List G) :=
  match gs with
  | [] => none
  | g :: gs => if g.1 = 123 then
      (match gs.dropWhile fun g => isHexR g.1 with
      | [] => none
      | e :: rest => if e.1 = 125 ∧ 1 ≤ (gs.takeWhile fun g => isHexR g.1).length ∧ (gs.takeWhile fun g => isHexR g.1).length ≤ 6 ∧ Lib.validRune (hexG (gs.takeWhile fun g => isHexR g.1)) = true
          then some (hexG (gs.takeWhile fun g => isHexR g.1), rest) else none)
    else none

def isHexB (b : UInt8) : Bool := cset.contains b
theorem isHexB_iff : ∀ b : UInt8, isHexB b = isHexR ((b.toNat : Nat) : Int) := by
  intro b
  have : ∀ k : Fin 256, isHexB (UInt8.ofNat k.val) = isHexR (((UInt8.ofNat k.val).toNat : Nat) : Int) := by decide +kernel
  have h := this ⟨b.toNat, b.toNat_lt⟩
  simpa using h
theorem isHexB_lt {b : UInt8} (h : isHexB b = true) : b.toNat < 128 := by
  rw [isHexB_iff] at h
  simp [isHexR] at h
  omega
theorem hexv_hex {b : UInt8} (h : isHexB b = true) : hexv b.toNat = some (hexR ((b.toNat : Nat) : Int)) := by
  have : ∀ k : Fin 256, isHexB (UInt8.ofNat k.val) = true → hexv (UInt8.ofNat k.val).toNat = some (hexR (((UInt8.ofNat k.val).toNat : Nat) : Int)) := by decide +kernel
  have h' := this ⟨b.toNat, b.toNat_lt⟩
  simp only [UInt8.ofNat_toNat] at h'
  exact h' h
theorem hexN_hex : ∀ (ds : List UInt8) (x : Nat), (∀ b ∈ ds, isHexB b = true) → hexN x ds = some ((ds.map fun b => ((((b.toNat : Nat) : Int), true) : G)).foldl (fun x g => 16 * x + hexR g.1) x)
  | [], x, _ => rfl
  | b :: ds, x, h => by
    rw [hexN_cons_some (hexv_hex (h b (by simp))), hexN_hex ds _ (fun c hc => h c (by simp [hc])), Nat.mul_comm]
    rfl

theorem hexN_hexG (ds : List UInt8) (h : ∀ b ∈ ds, isHexB b = true) : hexN 0 ds = some (hexG (ds.map fun b => ((((b.toNat : Nat) : Int), true) : G))) := hexN_hex ds 0 h

theorem mem_dropWhile {α : Type} {p : α → Bool} {b : α} : ∀ {l : List α}, b ∈ l → p b = false → b ∈ l.dropWhile p
  | [], h, _ => by cases h
  | x :: l, h, hp => by
    rw [List.dropWhile_cons]
    split
    · rename_i hx
      rcases List.mem_cons.1 h with rfl | h
      · rw [hp] at hx; cases hx
      · exact mem_dropWhile h hp
    · exact h
theorem mem_takeWhile {α : Type} {p : α → Bool} {b : α} : ∀ {l : List α}, b ∈ l.takeWhile p → p b = true
  | [], h => by cases h
  | x :: l, h => by
    rw [List.takeWhile_cons] at h
    split at h
    · rename_i hx
      rcases List.mem_cons.1 h with rfl | h
      · exact hx
      · exact mem_takeWhile h
    · cases h
theorem dropWhile_all {α : Type} {p : α → Bool} : ∀ {l : List α}, (∀ b ∈ l, p b = true) → l.dropWhile p = []
  | [], _ => rfl
  | x :: l, h => by rw [List.dropWhile_cons, if_pos (h x (by simp))]; exact dropWhile_all fun b hb => h b (by simp [hb])
theorem trimS_nil {l cs : List UInt8} (h : ∀ b ∈ l, cs.contains b = true) : Lib.trimS l cs = [] := by
  have e : Lib.trimRightS l cs = [] := by
    unfold Lib.trimRightS
    rw [dropWhile_all (fun b hb => h b (by simpa using hb))]
    rfl
  unfold Lib.trimS
  rw [e]
  rfl
theorem trimS_ne {l cs : List UInt8} {b : UInt8} (hb : b ∈ l) (h : cs.contains b = false) : Lib.trimS l cs ≠ [] := by
  have e : b ∈ Lib.trimRightS l cs := by
    unfold Lib.trimRightS
    rw [List.mem_reverse]
    exact mem_dropWhile (by simpa using hb) h
  have : b ∈ Lib.trimS l cs := mem_dropWhile e h
  intro e
  rw [e] at this
  cases this

theorem indexByte_at (c : UInt8) : ∀ (ds t : List UInt8), (∀ b ∈ ds, b ≠ c) → Lib.indexByte (ds ++ c :: t) c = (ds.length : Int)
  | [], t, _ => by simp [Lib.indexByte]
  | b :: ds, t, h => by
    have hb : (b == c) = false := by simpa using h b (by simp)
    have ih := indexByte_at c ds t (fun x hx => h x (by simp [hx]))
    rw [List.cons_append, Lib.indexByte, hb, ih]
    have : ((ds.length : Int) == -1) = false := by simp
    simp [this]

/-- takeWhile and dropWhile of glyphs are of bytes, where all that is taken is ASCII -/
theorem gl_while (p : Int → Bool) (hp : ∀ r, p r = true → r < 128) : ∀ l : List UInt8,
    (gl l).takeWhile (fun g => p g.1) = (l.takeWhile fun b => p ((b.toNat : Nat) : Int)).map (fun b => ((((b.toNat : Nat) : Int), true) : G)) ∧
    (gl l).dropWhile (fun g => p g.1) = gl (l.dropWhile fun b => p ((b.toNat : Nat) : Int))
  | [] => by simp [gl_nil]
  | b :: t => by
    cases hb : p ((b.toNat : Nat) : Int) with
    | true =>
      have hlt := hp _ hb
      obtain ⟨ih1, ih2⟩ := gl_while p hp t
      rw [gl_ascii t (by omega)]
      simp [hb, ih1, ih2]
    | false =>
      have hg : ∀ g gs, gl (b :: t) = g :: gs → p g.1 = false := by
        intro g gs hg
        cases hpg : p g.1 with
        | false => rfl
        | true =>
          obtain ⟨b', t', e, h1, h2, h3⟩ := gl_low (r := g.1) (o := g.2) (gs := gs) hg (hp _ hpg)
          injection e with e1 e2
          rw [← h1, ← e1, hb] at hpg
          exact hpg.symm
      obtain ⟨g, gs, hgg⟩ : ∃ g gs, gl (b :: t) = g :: gs := ⟨_, _, gl_cons (by simp)⟩
      have := hg g gs hgg
      rw [List.takeWhile_cons, List.dropWhile_cons, hgg, List.takeWhile_cons, List.dropWhile_cons]
      simp [hb, this, hgg]

theorem isHexR_lt (r : Int) (h : isHexR r = true) : r < 128 := by simp [isHexR] at h; omega

/-- code, of bytes -/
theorem codeF_gl (l : ByteArray) : match codeF l with
    | none => codeG (gl (B l)) = none
    | some (n, m) => codeG (gl (B l)) = some (n, gl (B (l.extract (m + 1) l.size))) ∧ m + 1 + (gl (B (l.extract (m + 1) l.size))).length = (gl (B l)).length := by
  unfold codeF
  by_cases hpf : Lib.hasPrefix (B l) [123] = false
  · rw [if_pos hpf]
    simp only
    unfold codeG
    cases hgl : gl (B l) with
    | nil => rfl
    | cons g gs =>
      simp only
      rw [if_neg]
      intro hg
      obtain ⟨b, t, e, h1, h2, h3⟩ := gl_low (r := g.1) (o := g.2) (gs := gs) hgl (by omega)
      rw [e] at hpf
      have hb : b = 123 := by
        apply UInt8.toNat_inj.1
        have : b.toNat = 123 := by omega
        simpa using this
      subst hb
      simp [Lib.hasPrefix] at hpf
  · rw [if_neg hpf]
    obtain ⟨t, ht⟩ : ∃ t, B l = 123 :: t := by
      cases hB : B l with
      | nil => rw [hB] at hpf; simp [Lib.hasPrefix] at hpf
      | cons b t =>
        rw [hB] at hpf
        simp [Lib.hasPrefix] at hpf
        exact ⟨t, by rw [hpf]⟩
    have hX : ∀ e, (codeX l e).data.toList = (t.take (e - 1)) := by
      intro e
      show (l.extract 1 e).data.toList = _
      rw [ByteArray.data_extract, Array.toList_extract, List.extract_eq_take_drop, show l.data.toList = 123 :: t from ht]
      rfl
    have hE : ∀ m, B (l.extract (m + 1) l.size) = t.drop m := by intro m; rw [B_drop, ht]; rfl
    have hg0 : gl (B l) = ((((123 : UInt8).toNat : Nat) : Int), true) :: gl t := by rw [ht, gl_ascii t (by decide)]
    rw [show l.data.toList = 123 :: t from ht, hg0]
    obtain ⟨hw1, hw2⟩ := gl_while isHexR isHexR_lt t
    have hfun : (fun b : UInt8 => isHexR ((b.toNat : Nat) : Int)) = isHexB := by funext b; rw [isHexB_iff]
    rw [hfun] at hw1 hw2
    have hall : ∀ b ∈ t.takeWhile isHexB, isHexB b = true := fun b hb => mem_takeWhile hb
    have hsplit := List.takeWhile_append_dropWhile (p := isHexB) (l := t)
    have hhead : ∀ b r', t.dropWhile isHexB = b :: r' → isHexB b = false := by
      intro b r' hb
      have := List.head?_dropWhile_not isHexB t
      rw [hb] at this
      simpa using this
    have hcg : codeG (((((123 : UInt8).toNat : Nat) : Int), true) :: gl t) = match gl (t.dropWhile isHexB) with
      | [] => none
      | e :: rest => if e.1 = 125 ∧ 1 ≤ (t.takeWhile isHexB).length ∧ (t.takeWhile isHexB).length ≤ 6 ∧ Lib.validRune (hexG ((t.takeWhile isHexB).map fun b => ((((b.toNat : Nat) : Int), true) : G))) = true
          then some (hexG ((t.takeWhile isHexB).map fun b => ((((b.toNat : Nat) : Int), true) : G)), rest) else none := by
      unfold codeG
      simp only
      rw [if_pos (by decide), hw1, hw2]
      simp only [List.length_map]
    rw [hcg]
    generalize t.takeWhile isHexB = ds at *
    generalize t.dropWhile isHexB = r at *
    subst hsplit
    clear hcg hw1 hw2 hpf hg0
    by_cases hr : ∃ rest, r = 125 :: rest
    · obtain ⟨rest, rfl⟩ := hr
      have hidx : Lib.indexByte (123 :: (ds ++ 125 :: rest)) 125 = ((ds.length + 1 : Nat) : Int) := by
        have := indexByte_at 125 (123 :: ds) rest (by
          intro b hb
          rcases List.mem_cons.1 hb with rfl | hb
          · decide
          · rintro rfl
            have := hall _ hb
            revert this; decide)
        simpa using this
      rw [hidx, gl_ascii rest (by decide)]
      simp only
      by_cases hlen : 1 ≤ ds.length ∧ ds.length ≤ 6
      · rw [if_neg (by omega)]
        have hx : (codeX l ((ds.length + 1 : Nat) : Int).toNat).data.toList = ds := by
          rw [hX]; simp
        have hrest : B (l.extract ((((ds.length + 1 : Nat) : Int).toNat) + 1) l.size) = rest := by
          rw [hE]; simp
        have hlg : ((ds.length + 1 : Nat) : Int).toNat + 1 + (gl rest).length = (((((123 : UInt8).toNat : Nat) : Int), true) :: gl (ds ++ 125 :: rest)).length := by
          rw [gl_asciis ds _ (fun b hb => isHexB_lt (hall b hb)), gl_ascii rest (by decide)]
          simp
          omega
        rw [hx, hexN_hexG ds hall]
        simp only
        rw [if_neg (not_not_intro (trimS_nil (l := ds) (cs := cset) hall))]
        generalize hexG (ds.map fun b => ((((b.toNat : Nat) : Int), true) : G)) = V
        cases hv : Lib.validRune (V : Int) with
        | true =>
          rw [if_neg (by simp)]
          simp only
          rw [if_pos ⟨by decide, hlen.1, hlen.2, by trivial⟩, hrest]
          exact ⟨rfl, hlg⟩
        | false =>
          rw [if_pos rfl]
          simp only
          rw [if_neg (by intro hh; cases hh.2.2.2)]
      · rw [if_pos (by omega)]
        simp only
        rw [if_neg (by intro hh; exact hlen ⟨hh.2.1, hh.2.2.1⟩)]
    · have hnone : (match gl r with
        | [] => none
        | e :: rest => if e.1 = 125 ∧ 1 ≤ ds.length ∧ ds.length ≤ 6 ∧ Lib.validRune (hexG (ds.map fun b => ((((b.toNat : Nat) : Int), true) : G))) = true
            then some (hexG (ds.map fun b => ((((b.toNat : Nat) : Int), true) : G)), rest) else none) = none := by
        cases hg : gl r with
        | nil => rfl
        | cons e rest =>
          simp only
          rw [if_neg]
          intro hh
          obtain ⟨b, t', e1, h1, h2, h3⟩ := gl_low (r := e.1) (o := e.2) (gs := rest) hg (by omega)
          have hb : b = 125 := by
            apply UInt8.toNat_inj.1
            have : b.toNat = 125 := by omega
            simpa using this
          subst hb
          exact hr ⟨t', e1⟩
      by_cases hi : Lib.indexByte (123 :: (ds ++ r)) 125 < 2 ∨ 7 < Lib.indexByte (123 :: (ds ++ r)) 125
      · rw [if_pos hi]; exact hnone
      · rw [if_neg hi]
        obtain ⟨i, hii⟩ : ∃ i : Nat, Lib.indexByte (123 :: (ds ++ r)) 125 = ((i + 1 : Nat) : Int) := ⟨(Lib.indexByte (123 :: (ds ++ r)) 125).toNat - 1, by omega⟩
        obtain ⟨h1, h2⟩ := Lib.indexByte_some hii
        have h1' : (ds ++ r)[i]? = some 125 := by simpa using h1
        have hid : ds.length ≤ i := by
          apply Nat.le_of_not_lt
          intro hlt
          rw [List.getElem?_append_left hlt] at h1'
          have := hall _ (List.mem_of_getElem? h1')
          revert this; decide
        rw [List.getElem?_append_right hid] at h1'
        cases r with
        | nil => simp at h1'
        | cons b r' =>
          have hb := hhead b r' rfl
          have hne : i ≠ ds.length := by
            intro e
            rw [e, Nat.sub_self] at h1'
            simp at h1'
            exact hr ⟨r', by rw [h1']⟩
          have hx : (codeX l (Lib.indexByte (123 :: (ds ++ b :: r')) 125).toNat).data.toList = ds ++ b :: r'.take (i - ds.length - 1) := by
            rw [hX, hii]
            have : ((i + 1 : Nat) : Int).toNat - 1 = ds.length + (i - ds.length - 1 + 1) := by omega
            rw [this, List.take_append, List.take_of_length_le (by omega)]
            have : ds.length + (i - ds.length - 1 + 1) - ds.length = i - ds.length - 1 + 1 := by omega
            rw [this]
            rfl
          rw [hx]
          have htr : Lib.trimS (ds ++ b :: r'.take (i - ds.length - 1)) cset ≠ [] := trimS_ne (b := b) (by simp) hb
          cases hexN 0 (ds ++ b :: r'.take (i - ds.length - 1)) with
          | none => exact hnone
          | some n => simp only; rw [if_pos htr]; exact hnone

end Go.Proofs.YtfndfhhimhcakaaDoor.lx
