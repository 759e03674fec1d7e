/-
  A rune's UTF-8 form in the model and on the shelf. No condition.
-/
import Derived.Test.YtfndfhhimhcakaaDoorQuoted
namespace Go.Proofs.YtfndfhhimhcakaaDoor.lx
open Go.RowKit

theorem utf8_enc (r : Nat) : (Utf8.encode (r : Int)).data.toList = Lib.encodeRune (r : Int) := by
  have h := Go.Extern.FmtText.encode_eq r
  unfold Lib.encodeRune
  rw [← h]
  unfold Go.Extern.FmtText.nums
  rw [List.map_map]
  refine (List.map_id _).symm.trans (List.map_congr_left fun b _ => ?_)
  simp
theorem utf8_size (r : Nat) : 1 ≤ (Utf8.encode (r : Int)).size ∧ (Utf8.encode (r : Int)).size ≤ 4 := by
  have := Lib.encodeRuneZ_length (r : Int)
  rw [Lib.size_eq, utf8_enc]
  simp only [Lib.encodeRune, List.length_map]
  exact this
end Go.Proofs.YtfndfhhimhcakaaDoor.lx
