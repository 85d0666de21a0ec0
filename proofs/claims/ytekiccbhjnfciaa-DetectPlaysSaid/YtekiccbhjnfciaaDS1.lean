/- Are two lists alike? -/
import Derived.Test.YtekiccbhjnfciaaDP8
namespace Go.Proofs.Ytekiccbhjnfciaa
open Go.RowKit

set_option maxRecDepth 100000 in
set_option maxHeartbeats 4000000 in
/-- two lists of numbers that are alike -/
theorem same47 (w : World) (u v : Value) (xs : List Int) (hu : OwnS w 3 1 u xs.length (xs.map (Value.int .i64))) (hv : OwnS w 3 1 v xs.length (xs.map (Value.int .i64))) (hl : xs.length ≤ 12) :
    Calls Try.prog 47 #[u, v] w fun e w' => e = .returned (.bool true) ∧ Same w w' := by
  obtain ⟨a, c, rfl, hc, -⟩ := hu.form
  obtain ⟨a', c', rfl, hc', -⟩ := hv.form
  go_enter Try.func47, Try.ntmps47
  go_wp2
  go_loopw [5] (fun s5 wr => ∃ i : Nat, s5 = .int .i64 i ∧ i ≤ xs.length ∧ Same w wr) (fun s5 _ => xs.length - (intOf s5).toNat)
  case atStart => exact ⟨0, rfl, by omega, Same.refl _⟩
  case round =>
    obtain ⟨i, rfl, hil, hS⟩ := hrel
    by_cases hlt : i < xs.length
    · have hx1 : (i : Int) < (xs.length : Int) := by omega
      have hx2 : (0 : Int) ≤ (i : Int) := by omega
      have hx3 : ((i : Int)).toNat = i := by omega
      have hne : 0 < xs.length := by omega
      obtain ⟨ad, rfl⟩ : ∃ ad, a = some ad := by
        rcases hu.2 with ⟨h, h'⟩ | ⟨gg, o, cap, cur, h, -⟩
        · omega
        · injection h with h _ _; exact ⟨_, h⟩
      obtain ⟨ad', rfl⟩ : ∃ ad, a' = some ad := by
        rcases hv.2 with ⟨h, h'⟩ | ⟨gg, o, cap, cur, h, -⟩
        · omega
        · injection h with h _ _; exact ⟨_, h⟩
      have k1 : wr.cell? (ad.add i) = some (.int .i64 xs[i]) := (hu.same hS).cells rfl i _ (by simp [hlt])
      have k2 : wr.cell? (ad'.add i) = some (.int .i64 xs[i]) := (hv.same hS).cells rfl i _ (by simp [hlt])
      generalize xs[i] = x at k1 k2
      go_wp2_with fail
      go_still (by kernel_rfl)
      go_wp2
      go_roundw
      case measure => simp only [intOf]; omega
      case rel => exact ⟨i + 1, rfl, by omega, Fr.drew (S := fun _ => False) hS⟩
    · obtain rfl : i = xs.length := by omega
      go_wp2
      go_ret
      exact ⟨rfl, hS⟩
end Go.Proofs.Ytekiccbhjnfciaa
