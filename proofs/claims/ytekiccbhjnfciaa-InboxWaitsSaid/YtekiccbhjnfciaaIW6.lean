/- The waits double from the base up to the most, and stay there: the plain law, and the walk of the statement's function. -/
import Derived.Test.YtekiccbhjnfciaaIW5
namespace Go.Proofs.Ytekiccbhjnfciaa
open Go.RowKit
theorem waitI_pos {a b k : Int} (hw : waitI a b k ≠ 0) : (1 ≤ a ∧ a ≤ b ∧ b ≤ 1073741824) ∧ 0 ≤ k := by
  unfold waitI at hw
  split at hw
  · rename_i h; exact ⟨⟨h.1, h.2.1, h.2.2.1⟩, h.2.2.2⟩
  · exact absurd rfl hw
/-- THE PLAIN LAW -/
theorem waits {a b k : Int} (hw : waitI a b k ≠ 0) : a ≤ waitI a b k ∧ waitI a b k ≤ b ∧ 1 ≤ a ∧ b ≤ 1073741824 ∧ waitI a b k ≤ waitI a b (k + 1) ∧ (waitI a b (k + 1) = 2 * waitI a b k ∨ waitI a b (k + 1) = b) ∧ (0 < k ∨ waitI a b k = a) := by
  obtain ⟨hv, hk⟩ := waitI_pos hw
  have h0 := waitI_of hv hk
  have h1 := waitI_of hv (k := k + 1) (by omega)
  have hp : ∀ n : Nat, (1 : Int) ≤ 2 ^ n := fun n => by
    have := Int.ofNat_le.2 (Nat.one_le_two_pow (n := n))
    simpa using this
  have hge : ∀ n : Nat, a ≤ a * 2 ^ n := fun n => by
    have := Int.mul_le_mul_of_nonneg_left (hp n) (show 0 ≤ a by omega)
    omega
  have g0 := hge (min k 30).toNat
  by_cases h30 : k < 30
  · have e : (min (k + 1) 30).toNat = (min k 30).toNat + 1 := by omega
    rw [e, Int.pow_succ, ← Int.mul_assoc] at h1
    have hx0 : k = 0 → a * 2 ^ (min k 30).toNat = a := by
      rintro rfl
      have e0 : (min (0 : Int) 30).toNat = 0 := by decide
      rw [e0]
      omega
    generalize a * 2 ^ (min k 30).toNat = x at *
    refine ⟨by omega, by omega, hv.1, hv.2.2, by omega, by omega, ?_⟩
    by_cases hk0 : 0 < k
    · exact .inl hk0
    · right
      have := hx0 (by omega)
      omega
  · have e : (min (k + 1) 30).toNat = (min k 30).toNat := by omega
    have e2 : (min k 30).toNat = 30 := by omega
    rw [e] at h1
    rw [e2] at h0 h1 g0
    have : (1 : Int) * 2 ^ 30 ≤ a * 2 ^ 30 := Int.mul_le_mul_of_nonneg_right hv.1 (by decide)
    have e3 : (1 : Int) * 2 ^ 30 = 1073741824 := by decide
    refine ⟨by omega, by omega, hv.1, hv.2.2, by omega, by omega, .inl (by omega)⟩

def TrueSame (w : World) (e : Ending) (w' : World) : Prop := e = .returned (.bool true) ∧ Same w w'
set_option maxRecDepth 100000 in
theorem waits3 (a b k : Int) (hk : k ≤ 9223372036854775807) (w : World) : Calls Try.prog 3 #[.int .i64 a, .int .i64 b, .int .i64 k] w (TrueSame w) := by
  have hl := @waits a b k
  have hL := Lib.hid hl
  have hz := Lib.hid (@waitI_pos a b k)
  clear hl
  have c9 : ∀ w, Calls Try.prog 9 #[.int .i64 a, .int .i64 b, .int .i64 k] w fun e w' => e = .returned (.int .i64 (waitI a b k)) ∧ w = w' := wait9 a b k
  have c9' : ∀ w, Calls Try.prog 9 #[.int .i64 a, .int .i64 b, .int .i64 (k + 1)] w fun e w' => e = .returned (.int .i64 (waitI a b (k + 1))) ∧ w = w' := wait9 a b (k + 1)
  have c10 : ∀ w, Calls Try.prog 10 #[.int .i64 a, .int .i64 b, .int .i64 k] w fun e w' => e = .returned (.int .i64 (waitI a b k)) ∧ w = w' := wait10 a b k hk
  generalize waitI a b k = W at *
  generalize waitI a b (k + 1) = N at *
  have C9 := Lib.hid c9
  have C9' := Lib.hid c9'
  have C10 := Lib.hid c10
  clear c9 c9' c10
  by_cases hW : W = 0
  · subst hW
    go_enter Try.func3, Try.ntmps3
    go_wp2_with fail
    refine (awake8 _).mono ?_
    rintro e w1 ⟨rfl, hs⟩
    go_wp2_with (first | (go_at_call 9; refine (C9.out _).mono ?_; rintro e w' ⟨rfl, rfl⟩) | (go_at_call 10; refine (C10.out _).mono ?_; rintro e w' ⟨rfl, rfl⟩))
    go_ret
    exact ⟨rfl, hs⟩
  · obtain ⟨h1, h2, h3, h4, h5, h6, h7⟩ := hL.out hW
    have h0k := (hz.out hW).2
    have hw0 : (W == 0) = false := by simpa using hW
    have hkb : (0 < k ∨ (W == a) = true) := by simpa using h7
    have hnb : ((N == 2 * W) = true ∨ (N == b) = true) := by simpa using h6
    clear hW h6 h7
    by_cases hb : k ≤ 1073741824
    · rcases hkb with hkb | hkb <;> rcases hnb with hnb | hnb
      all_goals
        go_enter Try.func3, Try.ntmps3
        go_wp2_with fail
        refine (awake8 _).mono ?_
        rintro e w1 ⟨rfl, hs⟩
        go_wp2_with fail
        refine (C9.out _).mono ?_
        rintro e w' ⟨rfl, rfl⟩
        go_wp2_with fail
        refine (C10.out _).mono ?_
        rintro e w' ⟨rfl, rfl⟩
        go_wp2_with fail
        refine (C9'.out _).mono ?_
        rintro e w' ⟨rfl, rfl⟩
        go_wp2
      all_goals go_ret
      all_goals exact ⟨by simp [*], hs⟩
    · go_enter Try.func3, Try.ntmps3
      go_wp2_with fail
      refine (awake8 _).mono ?_
      rintro e w1 ⟨rfl, hs⟩
      go_wp2_with (first | (go_at_call 9; refine (C9.out _).mono ?_; rintro e w' ⟨rfl, rfl⟩) | (go_at_call 10; refine (C10.out _).mono ?_; rintro e w' ⟨rfl, rfl⟩))
      go_ret
      exact ⟨rfl, hs⟩
end Go.Proofs.Ytekiccbhjnfciaa
