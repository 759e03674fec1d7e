/-
  LexNumbers: the plain laws. No program in sight.
-/
import Derived.Test.YtfndfhhimhcakaaDoorGApp
import Derived.Test.YtfndfhhimhcakaaDoorNumLaw
import Derived.Test.YtfndfhhimhcakaaDoorShow
namespace Go.Proofs.YtfndfhhimhcakaaDoor.lx
open Go.RowKit

def asc (D : List UInt8) : List G := D.map fun b => ((((b.toNat : Nat) : Int), true) : G)
theorem gl_asc {D : List UInt8} (h : ∀ b ∈ D, b.toNat < 128) : gl D = asc D := by
  have := gl_asciis D [] h
  rw [List.append_nil, gl_nil, List.append_nil] at this
  exact this
theorem enc_ascii (b : UInt8) (h : b.toNat < 128) : Lib.encodeRune ((b.toNat : Nat) : Int) = [b] := by
  unfold Lib.encodeRune
  rw [Lib.encodeRuneZ_one (by omega) (by omega)]
  simp only [List.map_cons, List.map_nil]
  rw [Lib.toByte _ b rfl]
theorem runeB_asc : ∀ D : List UInt8, (∀ b ∈ D, b.toNat < 128) → runeB (asc D) = D
  | [], _ => rfl
  | b :: D, h => by
    have := runeB_asc D (fun x hx => h x (by simp [hx]))
    show Lib.encodeRune ((b.toNat : Nat) : Int) ++ runeB (asc D) = _
    rw [this, enc_ascii b (h b (by simp))]
    rfl
/-- bytes of a number -/
def numB (b : UInt8) : Prop := b.toNat = 45 ∨ 48 ≤ b.toNat ∧ b.toNat ≤ 57
theorem itoa_bytes (n : Int) : Lib.itoa n ≠ [] ∧ ∀ b ∈ Lib.itoa n, numB b := by
  unfold Lib.itoa
  split
  · refine ⟨by simp, fun b hb => ?_⟩
    rcases List.mem_cons.1 hb with rfl | hb
    · exact .inl (by decide)
    · exact .inr ((dec_digits n.natAbs n.natAbs rfl).2 b hb)
  · exact ⟨(dec_digits n.toNat n.toNat rfl).1, fun b hb => .inr ((dec_digits n.toNat n.toNat rfl).2 b hb)⟩
theorem itoa_start (n : Int) : numStart (Lib.itoa n) = true := by
  have hdig : ∀ b : UInt8, 48 ≤ b.toNat ∧ b.toNat ≤ 57 → digB b = true := fun b h => by simp [digB]; omega
  unfold Lib.itoa
  split
  · obtain ⟨hne, hd⟩ := dec_digits n.natAbs n.natAbs rfl
    cases hx : Lib.decDigits n.natAbs with
    | nil => exact absurd hx hne
    | cons d r => simp [numStart, hdig d (hd d (by rw [hx]; simp))]
  · obtain ⟨hne, hd⟩ := dec_digits n.toNat n.toNat rfl
    cases hx : Lib.decDigits n.toNat with
    | nil => exact absurd hx hne
    | cons d r => simp [numStart, hdig d (hd d (by rw [hx]; simp))]
theorem numB_lt {b : UInt8} (h : numB b) : b.toNat < 128 := by rcases h with h | h <;> omega
theorem numB_end {b : UInt8} (h : numB b) : endR ((b.toNat : Nat) : Int) = false := by
  cases hc : endR ((b.toNat : Nat) : Int) with
  | false => rfl
  | true => rw [endR_iff] at hc; rcases h with h | h <;> omega

def numT (n : Int) (p : Nat) : Tok := ⟨4, ⟨#[]⟩, n, p⟩
theorem tok_num (n : Int) (h0 : -9223372036854775808 ≤ n) (h1 : n ≤ 9223372036854775807) :
    ∃ g gs, asc (Lib.itoa n) = g :: gs ∧ tokG (g :: gs) = ((numT n 0, 0), []) ∧ firm (g :: gs) := by
  obtain ⟨hne, hb⟩ := itoa_bytes n
  have hend : ∀ g ∈ asc (Lib.itoa n), (!endR g.1) = true := by
    intro g hg
    obtain ⟨b, hb', rfl⟩ := List.mem_map.1 hg
    simp [numB_end (hb b hb')]
  have hok : (asc (Lib.itoa n)).all (·.2) = true := by simp [asc]
  have hrune := runeB_asc (Lib.itoa n) (fun b h => numB_lt (hb b h))
  have htake : bareG (asc (Lib.itoa n)) = asc (Lib.itoa n) := by
    unfold bareG
    exact takeWhile_all hend
  have hdrop : bareR (asc (Lib.itoa n)) = [] := dropWhile_all hend
  have hw : wordG (asc (Lib.itoa n)) = (numT n 0, 0) := by
    rw [wordG, if_pos hok, hrune, wordTok, if_neg (by simp), if_pos (itoa_start n), numTok]
    show (match Lib.parseIntB 64 (Lib.itoa n) with
      | .ok m => if Lib.itoa m = Lib.itoa n then _ else _
      | _ => _) = _
    rw [parse_itoa n h0 h1]
    simp only [if_true]
    rfl
  cases hx : asc (Lib.itoa n) with
  | nil => exact absurd (List.map_eq_nil_iff.1 hx) hne
  | cons g gs =>
    have hg : ∃ b, numB b ∧ g.1 = ((b.toNat : Nat) : Int) := by
      have : g ∈ asc (Lib.itoa n) := by rw [hx]; simp
      obtain ⟨b, hb', rfl⟩ := List.mem_map.1 this
      exact ⟨b, hb b hb', rfl⟩
    obtain ⟨b, hnb, hgb⟩ := hg
    refine ⟨g, gs, rfl, ?_, ?_⟩
    · rw [tokG_cons, if_neg (by rcases hnb with h | h <;> omega), if_neg (by rcases hnb with h | h <;> omega), if_neg (by rcases hnb with h | h <;> omega), ← hx, htake, hw, hdrop]
    · show (noted false g.1 || blankR g.1) = false
      rw [hgb]
      rcases hnb with h | h <;> simp [noted, blankR] <;> omega

theorem lexR_num (n : Int) (h0 : -9223372036854775808 ≤ n) (h1 : n ≤ 9223372036854775807) : lexR ⟨(Lib.itoa n).toArray⟩ = ([numT n 0], 0, 0) := by
  obtain ⟨g, gs, hx, ht, hf⟩ := tok_num n h0 h1
  have hlen := itoa_len n h0 h1
  obtain ⟨hne, hb⟩ := itoa_bytes n
  rw [lexR_gl _ (by simp [ByteArray.size]; omega)]
  show lexG (gl (Lib.itoa n)) = _
  rw [gl_asc (fun b h => numB_lt (hb b h)), hx, lexG, skipG_of_firm hf, lexK_step hf (by rw [ht]), ht]
  simp [skipG, lexK_nil, numT, Tok.at]

theorem show_num (n : Int) (h0 : -9223372036854775808 ≤ n) (h1 : n ≤ 9223372036854775807) : showF ⟨4, ⟨#[]⟩, n, 0⟩ = (⟨(Lib.itoa n).toArray⟩, 0) := by
  have hS : showS ⟨4, ⟨#[]⟩, n, 0⟩ = ⟨(Lib.itoa n).toArray⟩ := rfl
  rw [showF, if_pos (by rw [showOk, hS, lexR_num n h0 h1]; exact ⟨rfl, rfl⟩), hS]

theorem lexR_two (a b : Int) (ha0 : -9223372036854775808 ≤ a) (ha1 : a ≤ 9223372036854775807) (hb0 : -9223372036854775808 ≤ b) (hb1 : b ≤ 9223372036854775807) :
    lexR ⟨(Lib.itoa a ++ 32 :: Lib.itoa b).toArray⟩ = ([numT a 0, numT b ((Lib.itoa a).length + 1)], 0, 0) := by
  obtain ⟨g, gs, hx, ht, hf⟩ := tok_num a ha0 ha1
  obtain ⟨g', gs', hx', ht', hf'⟩ := tok_num b hb0 hb1
  have hlen := itoa_len a ha0 ha1
  have hlen' := itoa_len b hb0 hb1
  obtain ⟨hne, hb⟩ := itoa_bytes a
  obtain ⟨hne', hb'⟩ := itoa_bytes b
  rw [lexR_gl _ (by simp [ByteArray.size]; omega)]
  show lexG (gl (Lib.itoa a ++ 32 :: Lib.itoa b)) = _
  have hgl : gl (Lib.itoa a ++ 32 :: Lib.itoa b) = (g :: gs) ++ (32, true) :: (g' :: gs') := by
    rw [gl_app _ _ _ _ rfl (by decide), gl_asc (fun b h => numB_lt (hb b h)), hx, gl_ascii _ (by decide), gl_asc (fun b h => numB_lt (hb' b h)), hx']
    rfl
  have hst : stops ((32, true) : G) := by refine ⟨by decide, by decide, by decide⟩
  have happ := tokG_app (32, true) (g' :: gs') hst g gs (by rw [ht])
  rw [ht] at happ
  have hfa : firm (g :: gs ++ (32, true) :: (g' :: gs')) := hf
  have hsk : skipG false ((32, true) :: (g' :: gs')) = g' :: gs' := by
    rw [skipG, if_pos (by decide)]
    exact skipG_of_firm hf'
  have hl1 : (g :: gs).length = (Lib.itoa a).length := by rw [← hx]; simp [asc]
  rw [hgl, lexG, skipG_of_firm hfa]
  rw [List.cons_append] at happ hfa ⊢
  rw [lexK_step hfa (by rw [happ]), happ]
  simp only [List.nil_append]
  rw [hsk, lexK_step hf' (by rw [ht']), ht']
  simp only [skipG, lexK_nil]
  simp [numT, Tok.at] at hl1 ⊢
  omega
end Go.Proofs.YtfndfhhimhcakaaDoor.lx
