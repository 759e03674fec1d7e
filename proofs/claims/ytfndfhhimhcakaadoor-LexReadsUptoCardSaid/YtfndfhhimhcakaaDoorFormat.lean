/-
  strconv.FormatInt at base 16, for a number of at most two digits. Conditions: the package-level variables are laid.
-/
import Derived.Test.YtfndfhhimhcakaaDoorBase
namespace Go.Proofs.YtfndfhhimhcakaaDoor.lx
open Go.RowKit

theorem Glob.db_at {w : World} (h : Glob w) (j : Nat) (hj : j < 64) : w.cell? ⟨6, j, none⟩ = some (.int .u8 ((Lib.deBruijn64tab.map fun (n : Nat) => (n : Int)).getD j 0)) :=
  Lib.TabIs.cell h.db g_db j hj

set_option maxHeartbeats 1000000 in
set_option maxRecDepth 100000 in
theorem TZ64_16 (w : World) (hG : Glob w) :
    Calls Tryd.prog 72 #[.int .u64 16] w fun e w' => e = .returned (.int .i64 4) ∧ w' = w := by
  have key : IntKind.u64.wrap (bits BinOp.and IntKind.u64 16 (IntKind.u64.wrap (-16)) * 285870213051353865) / 288230376151711744 = 15 := by decide +kernel
  have hc : w.cell? ⟨6, 15, none⟩ = some (.int .u8 4) := hG.db_at 15 (by decide)
  go_enter Tryd.func72, Tryd.ntmps72
  go_wp2_with (simp only [key])
  go_ret
  exact ⟨rfl, rfl⟩
set_option maxHeartbeats 1000000 in
set_option maxRecDepth 100000 in
theorem TZ_16 (w : World) (hG : Glob w) :
    Calls Tryd.prog 58 #[.int .u64 16] w fun e w' => e = .returned (.int .i64 4) ∧ w' = w := by
  go_enter Tryd.func58, Tryd.ntmps58
  go_wp2_with (go_at_call 72; refine (TZ64_16 _ hG).mono ?_; rintro e w1 ⟨rfl, rfl⟩)
  go_ret
  exact ⟨rfl, rfl⟩
set_option maxHeartbeats 1000000 in
set_option maxRecDepth 100000 in
theorem isPow2_16 (w : World) :
    Calls Tryd.prog 57 #[.int .i64 16] w fun e w' => e = .returned (.bool true) ∧ w' = w := by
  have key : bits BinOp.and IntKind.i64 16 15 = 0 := by decide +kernel
  go_enter Tryd.func57, Tryd.ntmps57
  go_wp2_with (simp only [key])
  go_ret
  exact ⟨rfl, rfl⟩

/-- the digit of a number below 16 -/
def hexD (u : Nat) : UInt8 := UInt8.ofNat (if u < 10 then 48 + u else 87 + u)

theorem hexD_fin : ∀ u : Fin 16, (⟨#[48, 49, 50, 51, 52, 53, 54, 55, 56, 57, 97, 98, 99, 100, 101, 102, 103, 104, 105, 106, 107, 108, 109, 110, 111, 112, 113, 114, 115, 116, 117, 118, 119, 120, 121, 122]⟩ : ByteArray)[u.val]'(Nat.lt_of_lt_of_le u.isLt (by decide)) = hexD u.val := by decide +kernel
theorem hexD_at (u : Nat) (hu : u < 16) (h : u < (⟨#[48, 49, 50, 51, 52, 53, 54, 55, 56, 57, 97, 98, 99, 100, 101, 102, 103, 104, 105, 106, 107, 108, 109, 110, 111, 112, 113, 114, 115, 116, 117, 118, 119, 120, 121, 122]⟩ : ByteArray).size) :
    (⟨#[48, 49, 50, 51, 52, 53, 54, 55, 56, 57, 97, 98, 99, 100, 101, 102, 103, 104, 105, 106, 107, 108, 109, 110, 111, 112, 113, 114, 115, 116, 117, 118, 119, 120, 121, 122]⟩ : ByteArray)[u]'h = hexD u := hexD_fin ⟨u, hu⟩
theorem zero65_eq : Tryd.zeroCells94 = (List.replicate 65 (Value.int .u8 0)).toArray := by kernel_rfl
theorem zero65 (j : Nat) (hj : j < 65) : Tryd.zeroCells94[j]? = some (.int .u8 0) := by
  rw [zero65_eq, List.getElem?_toArray]; exact List.getElem?_replicate_of_lt hj
theorem size65 : Tryd.zeroCells94.size = 65 := by rw [zero65_eq]; simp
/-- the digits of a number below 256 at base 16 -/
def hexN2 (u : Nat) : List UInt8 := if u < 16 then [hexD u] else [hexD (u / 16), hexD (u % 16)]

theorem conv_at (wr : World) (b off cap : Nat) (l : List UInt8) (hc : ∀ j (hj : j < l.length), wr.cell? ⟨b, off + j, none⟩ = some (.int .u8 (l[j].toNat : Int))) :
    (convert 52 9 (.slice (some ⟨b, off, none⟩) l.length cap)).run Tryd.prog wr = .ok (.string ⟨l.toArray⟩) wr :=
  run_convert_bytes_back wr 52 9 5 ⟨b, off, none⟩ cap l Tryd.underlying52 Tryd.underlying5 Tryd.underlying9 (fun j hj => by rw [Lib.add_plain]; exact hc j hj)

set_option maxHeartbeats 2000000 in
set_option maxRecDepth 100000 in
theorem fb_any (u : Nat) (hu : u < 256) (w : World) (hG : Glob w) :
    Calls Tryd.prog 45 #[.slice none 0 0, .int .u64 u, .int .i64 16, .bool false, .bool false] w fun e w' => e = .returned (.tuple #[.slice none 0 0, .string ⟨(hexN2 u).toArray⟩]) ∧ Below w.heap.size w w' := by
  have hG1 : Glob (w.alloc (Obj.cells Tryd.zeroCells94 94)) := hG.self ((Below.refl _ w).alloc (Nat.le_refl _) _)
  have c0 : (w.alloc (Obj.cells Tryd.zeroCells94 94)).cell? ⟨w.heap.size, 64, none⟩ = some (.int .u8 0) := by
    rw [World.cell?_alloc_new]; exact zero65 64 (by omega)
  have hb0 : ∀ o, Below w.heap.size w (w.alloc o) := fun o => (Below.refl _ w).alloc (Nat.le_refl _) _
  go_enter Tryd.func45, Tryd.ntmps45
  go_wp2_with (go_at_call 57; refine (isPow2_16 _).mono ?_; rintro e w1 ⟨rfl, rfl⟩)
  go_wp2_with (go_at_call 58; refine (TZ_16 _ hG1).mono ?_; rintro e w1 ⟨rfl, rfl⟩)
  go_wp2_with fail
  go_loopw [1, 13] (fun v i wr => (v = .int .u64 u ∧ i = .int .i64 65 ∧ wr = w.alloc (Obj.cells Tryd.zeroCells94 94)) ∨
      (16 ≤ u ∧ v = .int .u64 (u / 16 : Nat) ∧ i = .int .i64 64 ∧ wr = w.alloc (Obj.cells (Tryd.zeroCells94.setIfInBounds 64 (.int .u8 (hexD (u % 16)).toNat)) 94))) (fun _ i _ => match i with | .int _ n => n.toNat | _ => 0)
  case atStart => exact .inl ⟨rfl, rfl, rfl⟩
  case round =>
    rcases hrel with ⟨rfl, rfl, rfl⟩ | ⟨h16, rfl, rfl, rfl⟩
    · by_cases h16 : 16 ≤ u
      · have hI : (u : Int) ≥ 16 := by omega
        have hand : bits BinOp.and IntKind.u64 (u : Int) 15 = ((u % 16 : Nat) : Int) := by
          have h : ∀ v : Fin 256, bits BinOp.and IntKind.u64 ((v.val : Nat) : Int) 15 = ((v.val % 16 : Nat) : Int) := by decide +kernel
          exact h ⟨u, hu⟩
        go_wp2_with (simp only [hand])
        refine ⟨.inr ⟨h16, by simp, rfl, ?_⟩, by simp⟩
        rw [hexD_at _ (Nat.mod_lt _ (by decide))]
      · have hI : ¬ ((u : Int) ≥ 16) := by omega
        go_wp2_with fail
        rw [hexD_at _ (by omega)]
        have hcv : (convert 52 9 (.slice (some ⟨w.heap.size, 64, none⟩) 1 1)).run Tryd.prog (w.alloc (Obj.cells (Tryd.zeroCells94.setIfInBounds 64 (.int .u8 (hexD u).toNat)) 94)) = .ok (.string ⟨#[hexD u]⟩) _ := conv_at _ w.heap.size 64 1 [hexD u] (fun j hj => by
          have : j = 0 := by simpa using hj
          subst this
          rw [World.cell?_alloc_new, Array.getElem?_setIfInBounds, size65]
          rfl)
        rw [hcv]
        simp only [Result.andThen]
        rw [Oper.upon_value]
        go_wp2
        go_ret2
        exact ⟨by simp [hexN2]; omega, hb0 _⟩
    · have hI : ¬ (((u / 16 : Nat) : Int) ≥ 16) := by omega
      have c1 : (w.alloc (Obj.cells (Tryd.zeroCells94.setIfInBounds 64 (.int .u8 (hexD (u % 16)).toNat)) 94)).cell? ⟨w.heap.size, 63, none⟩ = some (.int .u8 0) := by
        rw [World.cell?_alloc_new]
        rw [Array.getElem?_setIfInBounds]
        exact zero65 63 (by omega)
      go_wp2_with fail
      rw [hexD_at _ (by omega)]
      have hcv : (convert 52 9 (.slice (some ⟨w.heap.size, 63, none⟩) 2 2)).run Tryd.prog (w.alloc (Obj.cells ((Tryd.zeroCells94.setIfInBounds 64 (.int .u8 (hexD (u % 16)).toNat)).setIfInBounds 63 (.int .u8 (hexD (u / 16)).toNat)) 94)) = .ok (.string ⟨#[hexD (u / 16), hexD (u % 16)]⟩) _ := conv_at _ w.heap.size 63 2 [hexD (u / 16), hexD (u % 16)] (fun j hj => by
        have hj2 : j < 2 := hj
        rw [World.cell?_alloc_new, Array.getElem?_setIfInBounds, Array.size_setIfInBounds, size65]
        obtain rfl | rfl : j = 0 ∨ j = 1 := by omega
        · rfl
        · rw [if_neg (by omega), Array.getElem?_setIfInBounds, size65]; rfl)
      rw [hcv]
      simp only [Result.andThen]
      rw [Oper.upon_value]
      go_wp2
      go_ret2
      exact ⟨by simp [hexN2]; omega, hb0 _⟩

set_option maxHeartbeats 2000000 in
set_option maxRecDepth 100000 in
theorem iFI_any (u : Nat) (hu : u < 256) (w : World) (hG : Glob w) :
    Calls Tryd.prog 25 #[.int .i64 u, .int .i64 16] w fun e w' => e = .returned (.string ⟨(hexN2 u).toArray⟩) ∧ Below w.heap.size w w' := by
  have hI : ¬ ((u : Int) < 0) := by omega
  have hw : IntKind.u64.wrap (u : Int) = u := by rw [IntKind.wrap_u64]; omega
  go_enter Tryd.func25, Tryd.ntmps25
  go_wp2_with (go_at_call 45; refine (fb_any u hu _ hG).mono ?_; rintro e w1 ⟨rfl, hb⟩)
  go_ret
  exact ⟨rfl, hb⟩
set_option maxHeartbeats 2000000 in
set_option maxRecDepth 100000 in
/-- strconv.FormatInt at base 16, below 256 -/
theorem FI_any (u : Nat) (hu : u < 256) (w : World) (hG : Glob w) :
    Calls Tryd.prog 15 #[.int .i64 u, .int .i64 16] w fun e w' => e = .returned (.string ⟨(hexN2 u).toArray⟩) ∧ Below w.heap.size w w' := by
  go_enter Tryd.func15, Tryd.ntmps15
  go_wp2_with (go_at_call 25; refine (iFI_any u hu _ hG).mono ?_; rintro e w1 ⟨rfl, hb⟩)
  go_ret
  exact ⟨rfl, hb⟩
end Go.Proofs.YtfndfhhimhcakaaDoor.lx
