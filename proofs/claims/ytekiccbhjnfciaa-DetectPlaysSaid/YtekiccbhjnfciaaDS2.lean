/- Are two lists alike? -/
import Derived.Test.YtekiccbhjnfciaaDP8
namespace Go.Proofs.Ytekiccbhjnfciaa
open Go.RowKit

set_option maxRecDepth 100000 in
set_option maxHeartbeats 4000000 in
/-- two lists of changes that are alike -/
theorem same50 (w : World) (u v : Value) (xs : List (Int × Bool)) (hu : OwnS w 108 2 u xs.length (xs.flatMap chCells)) (hv : OwnS w 108 2 v xs.length (xs.flatMap chCells)) (hl : xs.length ≤ 12) :
    Calls Try.prog 50 #[u, v] w fun e w' => e = .returned (.bool true) ∧ Same w w' := by
  obtain ⟨a, c, rfl, hc, -⟩ := hu.form
  obtain ⟨a', c', rfl, hc', -⟩ := hv.form
  go_enter Try.func50, Try.ntmps50
  go_wp2
  go_loopw [5] (fun s5 wr => ∃ i : Nat, s5 = .int .i64 i ∧ i ≤ xs.length ∧ Same w wr) (fun s5 _ => xs.length - (intOf s5).toNat)
  case atStart => exact ⟨0, rfl, by omega, Same.refl _⟩
  case round =>
    obtain ⟨i, rfl, hil, hS⟩ := hrel
    by_cases hlt : i < xs.length
    · have hx1 : (i : Int) < (xs.length : Int) := by omega
      have hx2 : (0 : Int) ≤ (i : Int) := by omega
      have hx3 : ((i : Int)).toNat = i := by omega
      have hne : 0 < xs.length := by omega
      obtain ⟨gg, o, rfl⟩ : ∃ gg o, a = some ⟨gg, o, none⟩ := by
        rcases hu.2 with ⟨h, h'⟩ | ⟨gg, o, cap, cur, h, -⟩
        · omega
        · injection h with h _ _; exact ⟨_, _, h⟩
      obtain ⟨gh, oh, rfl⟩ : ∃ gg o, a' = some ⟨gg, o, none⟩ := by
        rcases hv.2 with ⟨h, h'⟩ | ⟨gg, o, cap, cur, h, -⟩
        · omega
        · injection h with h _ _; exact ⟨_, _, h⟩
      have hf : ∀ (L : List (Int × Bool)) (i : Nat) (x : Int × Bool), L[i]? = some x → (L.flatMap chCells)[i * 2]? = some (.int .i64 x.1) ∧ (L.flatMap chCells)[i * 2 + 1]? = some (.bool x.2) := by
        intro L
        induction L with
        | nil => intro i x h; simp at h
        | cons y L ih =>
          intro i x h
          cases i with
          | zero =>
            have : y = x := by simpa using h
            subst this
            simp [chCells]
          | succ i =>
            obtain ⟨h1, h2⟩ := ih i x (by simpa using h)
            have e : (i + 1) * 2 = i * 2 + 1 + 1 := by omega
            have e' : (i + 1) * 2 + 1 = i * 2 + 1 + 1 + 1 := by omega
            simp only [List.flatMap_cons, chCells, List.cons_append, List.nil_append, e, List.getElem?_cons_succ]
            exact ⟨h1, h2⟩
      obtain ⟨f1, f2⟩ := hf xs i xs[i] (by simp [hlt])
      have k1 : wr.cell? ((⟨gg, o, none⟩ : Addr).add (i * 2)) = some (.int .i64 xs[i].1) := (hu.same hS).cells rfl _ _ f1
      have k1' : wr.cell? ((⟨gg, o, none⟩ : Addr).add (i * 2 + 1)) = some (.bool xs[i].2) := (hu.same hS).cells rfl _ _ f2
      have k2 : wr.cell? ((⟨gh, oh, none⟩ : Addr).add (i * 2)) = some (.int .i64 xs[i].1) := (hv.same hS).cells rfl _ _ f1
      have k2' : wr.cell? ((⟨gh, oh, none⟩ : Addr).add (i * 2 + 1)) = some (.bool xs[i].2) := (hv.same hS).cells rfl _ _ f2
      rw [add_at] at k1 k1' k2 k2'
      rw [← Nat.add_assoc] at k1' k2'
      clear f1 f2 hf
      generalize xs[i] = x at k1 k2 k1' k2'
      go_wp2_with fail
      go_still (by kernel_rfl)
      go_wp2
      go_roundw
      case measure => simp only [intOf]; omega
      case rel => exact ⟨i + 1, rfl, by omega, Fr.drew (S := fun _ => False) hS⟩
    · obtain rfl : i = xs.length := by omega
      go_wp2
      go_ret
      exact ⟨rfl, hS⟩
end Go.Proofs.Ytekiccbhjnfciaa
