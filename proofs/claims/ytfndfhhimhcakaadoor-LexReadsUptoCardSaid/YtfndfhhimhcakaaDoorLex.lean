/-
  The lexer: Lex, for every text: its tokens, or why it has none, and where. Conditions: the package-level variables are laid.
-/
import Derived.Test.YtfndfhhimhcakaaDoorToken
import Derived.Maps.AppendAt
namespace Go.Proofs.YtfndfhhimhcakaaDoor.lx
open Go.RowKit

theorem skipF_spec (n : Nat) : ∀ (note : Bool) (l : ByteArray) (p : Nat), l.size = n →
    (skipF note l p).1.size ≤ l.size ∧ p ≤ (skipF note l p).2 ∧ (skipF note l p).2 + (skipF note l p).1.size ≤ p + l.size ∧
    ((skipF note l p).1.size = 0 ∨ (noted false (dr (skipF note l p).1) || blankR (dr (skipF note l p).1)) = false) := by
  induction n using Nat.strongRecOn with
  | _ n ih =>
    intro note l p hn
    by_cases h0 : l.size = 0
    · rw [skipF_end h0]; exact ⟨Nat.le_refl _, Nat.le_refl _, Nat.le_refl _, .inl h0⟩
    · cases hc : (noted note (dr l) || blankR (dr l)) with
      | true =>
        rw [skipF_go h0 hc]
        have hlt := adv_lt l h0
        obtain ⟨a, b, c, d⟩ := ih (adv l).size (by omega) (noted note (dr l)) (adv l) (p + 1) rfl
        exact ⟨by omega, by omega, by omega, d⟩
      | false =>
        rw [skipF_stop h0 hc]
        refine ⟨Nat.le_refl _, Nat.le_refl _, Nat.le_refl _, .inr ?_⟩
        cases note with
        | false => exact hc
        | true =>
          simp [noted, blankR] at hc ⊢
          omega

theorem textF_size (n : Nat) : ∀ (fine : Bool) (acc : List UInt8) (l : ByteArray) (p : Nat), l.size = n →
    (textF fine acc l p).2.1.size ≤ l.size ∧ p ≤ (textF fine acc l p).2.2 ∧ (textF fine acc l p).2.2 + (textF fine acc l p).2.1.size ≤ p + l.size := by
  induction n using Nat.strongRecOn with
  | _ n ih =>
    intro fine acc l p hn
    by_cases h0 : l.size = 0
    · rw [textF_end h0]; exact ⟨Nat.le_refl _, Nat.le_refl _, Nat.le_refl _⟩
    · have hlt := adv_lt l h0
      by_cases h34 : dr l = 34
      · rw [textF_close h0 h34]; simp only; omega
      · by_cases h92 : dr l = 92
        · have he := escF_size (adv l) (p + 1)
          cases hes : (escF (adv l) (p + 1)).1.isSome with
          | false => rw [textF_bad h0 h92 hes]; simp only; omega
          | true =>
            rw [textF_esc h0 h92 hes]
            have := ih (escF (adv l) (p + 1)).2.1.size (by omega) fine (acc ++ Lib.encodeRune ((escF (adv l) (p + 1)).1.getD 0)) (escF (adv l) (p + 1)).2.1 (escF (adv l) (p + 1)).2.2 rfl
            omega
        · rw [textF_rune h0 h34 h92]
          have := ih (adv l).size (by omega) (fine && stepOk l) (acc ++ Lib.encodeRune (dr l)) (adv l) (p + 1) rfl
          omega

theorem endF_of {l : ByteArray} (h0 : l.size ≠ 0) (hnb : (noted false (dr l) || blankR (dr l)) = false) (h40 : dr l ≠ 40) (h41 : dr l ≠ 41) (h34 : dr l ≠ 34) : endF l = false := by
  have hnb' : ¬ (dr l = 59 ∨ dr l = 32 ∨ dr l = 9 ∨ dr l = 13 ∨ dr l = 10) := by
    intro hh
    simp [noted, blankR] at hnb
    omega
  cases hc : endR (dr l) with
  | false => simp [endF, h0, hc]
  | true => rw [endR_iff] at hc; omega

theorem tokF_size (l : ByteArray) (p : Nat) (h0 : l.size ≠ 0) (hnb : (noted false (dr l) || blankR (dr l)) = false) :
    (tokF l p).2.1.size < l.size ∧ p + 1 ≤ (tokF l p).2.2 ∧ (tokF l p).2.2 + (tokF l p).2.1.size ≤ p + l.size := by
  have hlt := adv_lt l h0
  unfold tokF
  split
  · simp only; omega
  rename_i h40
  split
  · simp only; omega
  rename_i h41
  split
  · have := textF_size _ (stepOk l) [] (adv l) (p + 1) rfl
    omega
  rename_i h34
  have he := endF_of h0 hnb h40 h41 h34
  simp only [wordF]
  rw [bareF_go he]
  have := bareF_size _ (stepOk l && true) (adv l) (p + 1) rfl
  omega

def Tok.at (t : Tok) (p : Nat) : Tok := ⟨t.k, t.s, t.n, p⟩
/-- what Lex gathers from a place on that is no blank: the tokens, the error's number, the place -/
def lexF (out : List Tok) (l : ByteArray) (p : Nat) : List Tok × Int × Int :=
  if l.size = 0 then (out, 0, 0)
  else if (tokF l p).1.2 ≠ 0 then ([], (tokF l p).1.2, p)
  else if _h : (skipF false (tokF l p).2.1 (tokF l p).2.2).1.size < l.size then
    lexF (out ++ [(tokF l p).1.1.at p]) (skipF false (tokF l p).2.1 (tokF l p).2.2).1 (skipF false (tokF l p).2.1 (tokF l p).2.2).2
  else ([], 0, 0)
termination_by l.size
/-- Lex: the tokens, the error's number, the place -/
def lexR (s : ByteArray) : List Tok × Int × Int := if 2048 < s.size then ([], 4, 0) else lexF [] (skipF false s 0).1 (skipF false s 0).2

theorem lexF_end {out : List Tok} {l : ByteArray} {p : Nat} (h : l.size = 0) : lexF out l p = (out, 0, 0) := by rw [lexF, if_pos h]
theorem lexF_bad {out : List Tok} {l : ByteArray} {p : Nat} (h : l.size ≠ 0) (hw : (tokF l p).1.2 ≠ 0) : lexF out l p = ([], (tokF l p).1.2, (p : Int)) := by rw [lexF, if_neg h, if_pos hw]
theorem lexF_go {out : List Tok} {l : ByteArray} {p : Nat} (h : l.size ≠ 0) (hnb : (noted false (dr l) || blankR (dr l)) = false) (hw : (tokF l p).1.2 = 0) :
    lexF out l p = lexF (out ++ [(tokF l p).1.1.at p]) (skipF false (tokF l p).2.1 (tokF l p).2.2).1 (skipF false (tokF l p).2.1 (tokF l p).2.2).2 := by
  have h1 := tokF_size l p h hnb
  have h2 := skipF_spec _ false (tokF l p).2.1 (tokF l p).2.2 rfl
  rw [lexF, if_neg h, if_neg (by simp [hw]), dif_pos (by omega)]

def Tok.cells (t : Tok) : List Value := [.int .u8 t.k, .string t.s, .int .i64 t.n, .int .i64 t.a]
def tokCells (ts : List Tok) : List Value := ts.flatMap Tok.cells
theorem tokCells_length (ts : List Tok) : (tokCells ts).length = ts.length * 4 := by
  induction ts with
  | nil => rfl
  | cons t ts ih => simp [tokCells] at ih ⊢; rw [ih]; simp [Tok.cells]; omega
theorem tokCells_snoc (ts : List Tok) (t : Tok) : tokCells (ts ++ [t]) = tokCells ts ++ t.cells := by simp [tokCells]

theorem infoT : (Tryd.prog.info? 24).map (fun i => (i.zero, i.size, i.bytes)) = some (some (.agg #[.int .u8 0, .string ⟨#[]⟩, .int .i64 0, .int .i64 0]), 4, 40) := by kernel_rfl

theorem own_le {w : World} {B B' : Nat} {e : TypeId} {size : Nat} {v : Value} {n : Nat} {xs : List Value} (h : w.ownsRow B e size v n xs) (hB : B' ≤ B) : w.ownsRow B' e size v n xs := by
  refine ⟨h.1, ?_⟩
  rcases h.2 with hn | ⟨g, cap, cur, hv, hg, rest⟩
  · exact .inl hn
  · exact .inr ⟨g, cap, cur, hv, Nat.le_trans hB hg, rest⟩
theorem own_base {w : World} {base : Nat} {e : TypeId} {size n : Nat} {v : Value} {xs : List Value} (h : w.ownsRow base e size v n xs) : ∀ k, v.ownBlock = some k → base ≤ k := by
  intro k hk
  rcases h.2 with ⟨rfl, _⟩ | ⟨g, cap, cur, rfl, hb, _⟩
  · simp [Value.ownBlock] at hk
  · have : g = k := by simpa [Value.ownBlock] using hk
    omega
theorem own_gb {w w' : World} {base tb : Nat} {e : TypeId} {size n : Nat} {v : Value} {xs : List Value} (h : w.ownsRow base e size v n xs) (hg : w.grownBy w' (some tb)) (ht : tb < base) : w'.ownsRow base e size v n xs := by
  refine h.kept hg ?_
  cases hv : v.ownBlock with
  | none => exact .inl rfl
  | some k =>
    have := own_base h k hv
    exact .inr (by intro e; injection e; omega)

set_option maxHeartbeats 8000000 in
set_option maxRecDepth 100000 in
theorem Lex_long (s : ByteArray) (w : World) (h : 2048 < s.size) (hmax : s.size ≤ 9223372036854775807) :
    Calls Tryd.prog 4 #[.string s] w fun e w' => e = .returned (.tuple #[.slice none 0 0, .int .i64 4, .int .i64 0]) ∧ w = w' := by
  have hI : (2048 : Int) < (s.size : Int) := by omega
  go_enter Tryd.func4, Tryd.ntmps4
  go_wp2_with fail
  go_ret3
  exact ⟨rfl, rfl⟩

set_option maxHeartbeats 8000000 in
set_option maxRecDepth 100000 in
theorem Lex_short (s : ByteArray) (w : World) (hG : Glob w) (h : ¬ 2048 < s.size) :
    Calls Tryd.prog 4 #[.string s] w fun e w' => ∃ v, e = .returned (.tuple #[v, .int .i64 (lexR s).2.1, .int .i64 (lexR s).2.2]) ∧
      w'.ownsRow w.heap.size 24 4 v (lexR s).1.length (tokCells (lexR s).1) ∧ Below w.heap.size w w' := by
  have hI : ¬ (2048 : Int) < (s.size : Int) := by omega
  obtain ⟨R, hR⟩ : ∃ R, lexR s = R := ⟨_, rfl⟩
  rw [hR]
  have hR2 : lexF [] (skipF false s 0).1 (skipF false s 0).2 = R := by rw [← hR, lexR, if_neg h]
  have HR := Lib.hid hR2
  have hT0 : Tape w.heap.size s 0 (w.alloc (.cells #[.string s, .int .i64 0] 36)) := by
    unfold Tape; rw [heap_alloc_new]; rfl
  have hW2 : Below w.heap.size w (w.alloc (.cells #[.string s, .int .i64 0] 36)) := (Below.refl w.heap.size w).alloc (Nat.le_refl _) _
  have hGW := hG.self hW2
  have hGs := hG.size
  clear hR hR2
  go_enter Tryd.func4, Tryd.ntmps4
  go_wp2_with (go_at_call 10; refine (skip_any w.heap.size s 0 _ hGW hGs hT0 (by omega)).mono ?_; rintro e w1 ⟨rfl, ht1, hg1⟩; refine Hid.out ?_)
  refine Lib.hid ?_
  have hsp := skipF_spec _ false s 0 rfl
  have hb1 : Below w.heap.size w w1 := hW2.trans (gb_below hg1 (Nat.le_refl _) (by simp))
  have hsz1 : w.heap.size + 1 ≤ w1.heap.size := ht1.lt
  clear hT0 hW2 hGW hg1
  go_wp2_with fail
  go_loopw [5] (fun v wr => ∃ (ts : List Tok) (l : ByteArray) (p : Nat), wr.ownsRow (w.heap.size + 1) 24 4 v ts.length (tokCells ts) ∧ Tape w.heap.size l p wr ∧ Below w.heap.size w wr ∧ Hid (lexF ts l p = R) ∧ p + l.size ≤ 2048 ∧ ts.length + l.size ≤ 2048 ∧ Hid (l.size = 0 ∨ (noted false (dr l) || blankR (dr l)) = false)) (fun _ wr => tlen w.heap.size wr)
  case atStart =>
    exact ⟨[], _, _, World.ownsRow_nil _ _ _ _, ht1, hb1, HR, by omega, by simp; omega, Lib.hid hsp.2.2.2⟩
  case round =>
    clear ht1 hb1 hsz1 hsp HR w1
    obtain ⟨ts, l, p, hown, ht, hb, HS, hp, hlen, HNB⟩ := hrel
    have hGr := hG.self hb
    have c0 := ht.c0
    have c1 := ht.c1
    have hsz := ht.lt
    by_cases h0 : l.size = 0
    · have he : l.toList = [] := by
        rw [Lib.toList_data]; exact List.eq_nil_of_length_eq_zero (by rw [← Lib.size_eq]; exact h0)
      have hi : (!l.toList.isEmpty) = false := by rw [he]; rfl
      have hfin : R = (ts, 0, 0) := by rw [← HS.out]; exact lexF_end h0
      have HF := Lib.hid hfin
      clear hfin
      go_wp2_with fail
      go_ret3
      rw [HF.out]
      exact ⟨u5, rfl, own_le hown (by omega), hb⟩
    · have he : ¬ l.toList = [] := by
        intro he
        rw [Lib.toList_data] at he
        exact h0 (by rw [Lib.size_eq, he]; rfl)
      have hi : (!l.toList.isEmpty) = true := by simp [he]
      have hnb : (noted false (dr l) || blankR (dr l)) = false := HNB.out.resolve_left h0
      have hts := tokF_size l p h0 hnb
      have hss := skipF_spec _ false (tokF l p).2.1 (tokF l p).2.2 rfl
      have HSS := Lib.hid hss
      have HNX := Lib.hid hnb
      have HM := Lib.hid (tlen_of ht)
      clear hss hnb HNB
      by_cases hw : (tokF l p).1.2 = 0
      · have hnext : lexF (ts ++ [(tokF l p).1.1.at p]) (skipF false (tokF l p).2.1 (tokF l p).2.2).1 (skipF false (tokF l p).2.1 (tokF l p).2.2).2 = R := by rw [← HS.out, lexF_go h0 HNX.out hw]
        have htk := token_any w.heap.size l p wr hGr hG.size ht (by omega) h0 HNX.out
        obtain ⟨K, hK⟩ : ∃ K, tokF l p = K := ⟨_, rfl⟩
        rw [hK] at hnext htk hw hts HSS
        rw [hw] at htk
        obtain ⟨t, hT⟩ : ∃ t, K.1.1 = t := ⟨_, rfl⟩
        rw [hT] at hnext htk
        have HT := Lib.hid htk
        have HN := Lib.hid hnext
        clear hnext htk hK hw hT
        go_wp2_with (go_at_call 11; refine HT.out.mono ?_; rintro e w2 ⟨rfl, ht2, hg2⟩; refine Hid.out ?_)
        refine Lib.hid ?_
        have hown2 := own_gb hown hg2 (by omega)
        have hb2 : Below w.heap.size w w2 := hb.trans (gb_below hg2 (Nat.le_refl _) (by omega))
        have hsz2 := ht2.lt
        clear hown ht hb hg2 hGr c0 c1
        unfold Tok.v
        obtain ⟨i0, hi0, hz0, hz1, hz2⟩ := info_parts infoT
        go_wp2_with (at_builtin; refine wpList_append_own_at _ rfl _ _ 25 rfl (w.heap.size + 1) 24 i0 _ 4 40 Tryd.underlying25 hi0 hz0 hz1 hz2 rfl (by decide) u5 ts.length (tokCells ts) rfl ((hown2.alloc _).alloc _) ⟨w2.heap.size + 1, 0, none⟩ 1 1 [.int .u8 t.k, .string t.s, .int .i64 t.n, .int .i64 p] rfl rfl ?c1 ?c2 ?c3 ?c4 ?c5 ?_)
        case c1 =>
          intro j u hj
          match j, hj with
          | 0, hj => simp at hj; subst hj; simp [Addr.add]
          | 1, hj => simp at hj; subst hj; simp [Addr.add]
          | 2, hj => simp at hj; subst hj; simp [Addr.add]
          | 3, hj => simp at hj; subst hj; simp [Addr.add]
          | (j + 4), hj => simp at hj
        case c2 => intro u hu; simp at hu; rcases hu with rfl | rfl | rfl | rfl <;> rfl
        case c3 => unfold maxLen; omega
        case c4 => omega
        case c5 => simp; omega
        intro v' w3 hown3 hg3 _ _
        have hne : u5.ownBlock ≠ some w.heap.size := fun e => by have := own_base hown2 _ e; omega
        have ht3 : Tape w.heap.size K.2.1 K.2.2 w3 := by
          refine (hg3.block w.heap.size (by simp; omega) (fun e => hne e.symm)).trans ?_
          rw [Lib.alloc_old _ _ _ (by simp; omega), Lib.alloc_old _ _ _ hsz2]
          exact ht2
        have hb3 : Below w.heap.size w w3 := ((hb2.alloc (by omega) _).alloc (by simp; omega) _).grown hg3 (by simp; omega) (fun k hk => by have := own_base hown2 k hk; omega)
        have hown3' : w3.ownsRow (w.heap.size + 1) 24 4 v' (ts ++ [t.at p]).length (tokCells (ts ++ [t.at p])) := by
          rw [tokCells_snoc]
          simpa [Tok.cells, Tok.at] using hown3
        have hG3 := hG.self hb3
        clear hne hown2 hown3 hg3 ht2 hb2 hsz2 hi0 hz0 hz1 hz2
        go_wp2_with (go_at_call 10; refine (skip_any w.heap.size K.2.1 K.2.2 _ hG3 hG.size ht3 (by omega)).mono ?_; rintro e w4 ⟨rfl, ht4, hg4⟩; refine Hid.out ?_)
        refine Lib.hid ?_
        have hown4 := own_gb hown3' hg4 (by omega)
        have hb4 : Below w.heap.size w w4 := hb3.trans (gb_below hg4 (Nat.le_refl _) (by have := ht3.lt; omega))
        obtain ⟨s1, s2, s3, s4⟩ := HSS.out
        go_wp2_with fail
        go_roundw
        case rel => exact ⟨ts ++ [t.at p], _, _, hown4, ht4, hb4, HN, by omega, by simp; omega, Lib.hid s4⟩
        case measure => rw [HM.out, tlen_of ht4]; omega
      · have hfin : R = ([], (tokF l p).1.2, (p : Int)) := by rw [← HS.out]; exact lexF_bad h0 hw
        have htk := token_any w.heap.size l p wr hGr hG.size ht (by omega) h0 HNX.out
        obtain ⟨K, hK⟩ : ∃ K, tokF l p = K := ⟨_, rfl⟩
        rw [hK] at hfin htk hw
        obtain ⟨t, hT⟩ : ∃ t, K.1.1 = t := ⟨_, rfl⟩
        obtain ⟨y, hY⟩ : ∃ y, K.1.2 = y := ⟨_, rfl⟩
        rw [hT, hY] at htk
        rw [hY] at hw hfin
        have hyb : (y != 0) = true := by simpa using hw
        have HT := Lib.hid htk
        have HF := Lib.hid hfin
        clear hfin htk hK hw hT hY hts HSS
        go_wp2_with (go_at_call 11; refine HT.out.mono ?_; rintro e w2 ⟨rfl, ht2, hg2⟩; refine Hid.out ?_)
        refine Lib.hid ?_
        have hb2 : Below w.heap.size w w2 := hb.trans (gb_below hg2 (Nat.le_refl _) (by omega))
        clear hown ht hb hg2 hGr c0 c1
        unfold Tok.v
        go_wp2_with fail
        go_ret3
        rw [HF.out]
        exact ⟨_, rfl, World.ownsRow_nil _ _ _ _, hb2.alloc hb2.size _⟩
end Go.Proofs.YtfndfhhimhcakaaDoor.lx
