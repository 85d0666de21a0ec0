/- The waits of calls: the program's and the document's come to one number. -/
import Derived.Test.YtekiccbhjnfciaaProg
import Derived.WalkKit
import Derived.WalkLawsBesides
import Derived.WalkSpells
import Derived.StillTactics
import Derived.Lib.Hide
namespace Go.Proofs.Ytekiccbhjnfciaa
open Go.RowKit
def fairB (a b : Int) : Bool := decide (1 ≤ a) && decide (a ≤ b) && decide (b ≤ 1073741824)
theorem fair37 (a b : Int) (w : World) : Calls Try.prog 37 #[.int .i64 a, .int .i64 b] w fun e w' => e = .returned (.bool (fairB a b)) ∧ w = w' := by
  go_enter Try.func37, Try.ntmps37
  go_wp2
  all_goals go_ret
  all_goals exact ⟨by congr 2; simp [fairB]; omega, rfl⟩
theorem fair38 (a b : Int) (w : World) : Calls Try.prog 38 #[.int .i64 a, .int .i64 b] w fun e w' => e = .returned (.bool (fairB a b)) ∧ w = w' := by
  go_enter Try.func38, Try.ntmps38
  go_wp2
  all_goals go_ret
  all_goals exact ⟨by congr 2; simp [fairB]; omega, rfl⟩
theorem fairB_t {a b : Int} (h : 1 ≤ a ∧ a ≤ b ∧ b ≤ 1073741824) : fairB a b = true := by simp [fairB, h]
theorem fairB_f {a b : Int} (h : ¬ (1 ≤ a ∧ a ≤ b ∧ b ≤ 1073741824)) : fairB a b = false := by simp [fairB]; omega
theorem fair37t (a b : Int) (h : 1 ≤ a ∧ a ≤ b ∧ b ≤ 1073741824) (w : World) : Calls Try.prog 37 #[.int .i64 a, .int .i64 b] w fun e w' => e = .returned (.bool true) ∧ w = w' :=
  (fair37 a b w).mono fun e w' ⟨h1, h2⟩ => ⟨by rw [h1, fairB_t h], h2⟩
theorem fair37f (a b : Int) (h : ¬ (1 ≤ a ∧ a ≤ b ∧ b ≤ 1073741824)) (w : World) : Calls Try.prog 37 #[.int .i64 a, .int .i64 b] w fun e w' => e = .returned (.bool false) ∧ w = w' :=
  (fair37 a b w).mono fun e w' ⟨h1, h2⟩ => ⟨by rw [h1, fairB_f h], h2⟩
theorem fair38t (a b : Int) (h : 1 ≤ a ∧ a ≤ b ∧ b ≤ 1073741824) (w : World) : Calls Try.prog 38 #[.int .i64 a, .int .i64 b] w fun e w' => e = .returned (.bool true) ∧ w = w' :=
  (fair38 a b w).mono fun e w' ⟨h1, h2⟩ => ⟨by rw [h1, fairB_t h], h2⟩
theorem fair38f (a b : Int) (h : ¬ (1 ≤ a ∧ a ≤ b ∧ b ≤ 1073741824)) (w : World) : Calls Try.prog 38 #[.int .i64 a, .int .i64 b] w fun e w' => e = .returned (.bool false) ∧ w = w' :=
  (fair38 a b w).mono fun e w' ⟨h1, h2⟩ => ⟨by rw [h1, fairB_f h], h2⟩

def waitI (a b k : Int) : Int := if 1 ≤ a ∧ a ≤ b ∧ b ≤ 1073741824 ∧ 0 ≤ k then min (a * 2 ^ (min k 30).toNat) b else 0
theorem waitI_of {a b k : Int} (h : 1 ≤ a ∧ a ≤ b ∧ b ≤ 1073741824) (hk : 0 ≤ k) : waitI a b k = min (a * 2 ^ (min k 30).toNat) b := by simp [waitI, h, hk]
theorem waitI_none {a b k : Int} (h : ¬ (1 ≤ a ∧ a ≤ b ∧ b ≤ 1073741824 ∧ 0 ≤ k)) : waitI a b k = 0 := by unfold waitI; rw [if_neg h]
theorem pow_le30 (n : Nat) (h : n ≤ 30) : (1 : Int) ≤ 2 ^ n ∧ (2 : Int) ^ n ≤ 1073741824 := by
  have h1 : (2 : Nat) ^ n ≤ 2 ^ 30 := Nat.pow_le_pow_right (by omega) h
  have h2 : 1 ≤ (2 : Nat) ^ n := Nat.one_le_two_pow
  have h3 : ((2 ^ n : Nat) : Int) = (2 : Int) ^ n := by simp
  rw [← h3]; omega
theorem mul_bd {a c : Int} (h1 : 1 ≤ a) (h2 : a ≤ 1073741824) (h3 : 1 ≤ c) (h4 : c ≤ 1073741824) : 1 ≤ a * c ∧ a * c ≤ 1152921504606846976 := by
  have h5 : 1 * 1 ≤ a * c := Int.mul_le_mul h1 h3 (by omega) (by omega)
  have h6 : a * c ≤ 1073741824 * 1073741824 := Int.mul_le_mul h2 h4 (by omega) (by omega)
  omega
theorem wrap_mul {a b : Int} (h : 1 ≤ a ∧ a ≤ b ∧ b ≤ 1073741824) (n : Nat) (hn : n ≤ 30) : wrap64 (a * 2 ^ n) = a * 2 ^ n := by
  obtain ⟨h1, h2⟩ := pow_le30 n hn
  obtain ⟨h3, h4⟩ := mul_bd h.1 (by omega) h1 h2
  unfold wrap64
  omega
theorem waitI_full {a b k : Int} {i : Nat} (h : 1 ≤ a ∧ a ≤ b ∧ b ≤ 1073741824) (hk : (i : Int) ≤ k) (hw : b ≤ a * 2 ^ i) : waitI a b k = b := by
  rw [waitI_of h (by omega)]
  have hle : b ≤ a * 2 ^ (min k 30).toNat := by
    by_cases hi : i ≤ 30
    · have h1 : (2 : Nat) ^ i ≤ 2 ^ (min k 30).toNat := Nat.pow_le_pow_right (by omega) (by omega)
      have h2 : (2 : Int) ^ i ≤ 2 ^ (min k 30).toNat := by
        have := Int.ofNat_le.2 h1
        simpa using this
      exact Int.le_trans hw (Int.mul_le_mul_of_nonneg_left h2 (by omega))
    · have : (min k 30).toNat = 30 := by omega
      rw [this]
      have : (1 : Int) * 2 ^ 30 ≤ a * 2 ^ 30 := Int.mul_le_mul_of_nonneg_right h.1 (by decide)
      have e : (1 : Int) * 2 ^ 30 = 1073741824 := by decide
      omega
  omega
theorem waitI_part {a b : Int} {i : Nat} (h : 1 ≤ a ∧ a ≤ b ∧ b ≤ 1073741824) (hw : a * 2 ^ i < b) : waitI a b i = a * 2 ^ i := by
  rw [waitI_of h (by omega)]
  have hi : i < 30 := by
    rcases Nat.lt_or_ge i 30 with h1 | h1
    · exact h1
    · exfalso
      have h1 : (2 : Nat) ^ 30 ≤ 2 ^ i := Nat.pow_le_pow_right (by omega) h1
      have h2 : (2 : Int) ^ 30 ≤ 2 ^ i := by
        have := Int.ofNat_le.2 h1
        simpa using this
      have h3 : (1 : Int) * 2 ^ 30 ≤ a * 2 ^ i := Int.mul_le_mul h.1 h2 (by decide) (by omega)
      have e : (1 : Int) * 2 ^ 30 = 1073741824 := by decide
      omega
  have : (min (i : Int) 30).toNat = i := by omega
  rw [this]
  omega
theorem ret_int {k : IntKind} {a b : Int} (h : a = b) : Ending.returned (.int k a) = .returned (.int k b) := by rw [h]

theorem wait9 (a b k : Int) (w : World) : Calls Try.prog 9 #[.int .i64 a, .int .i64 b, .int .i64 k] w fun e w' => e = .returned (.int .i64 (waitI a b k)) ∧ w = w' := by
  by_cases hf : 1 ≤ a ∧ a ≤ b ∧ b ≤ 1073741824
  · by_cases hk : 0 ≤ k
    · have hw : waitI a b k = min (wrap64 (a * 2 ^ (min k 30).toNat)) b := by rw [waitI_of hf hk, wrap_mul hf _ (by omega)]
      have hw30 : wrap64 (a * 1073741824) = a * 1073741824 := wrap_mul hf 30 (by omega)
      have HW := Lib.hid hw
      clear hw
      have hw30' := Lib.hid hw30
      clear hw30
      by_cases hk3 : k ≤ 30
      · go_enter Try.func9, Try.ntmps9
        go_wp2_with (go_at_call 37; refine (fair37t a b hf _).mono ?_; rintro e w' ⟨rfl, rfl⟩)
        all_goals go_ret
        all_goals (refine ⟨ret_int ?_, rfl⟩; rw [HW.out])
        all_goals (have e1 : (min k 30).toNat = k.toNat := by omega)
        all_goals (rw [e1]; omega)
      · go_enter Try.func9, Try.ntmps9
        go_wp2_with (go_at_call 37; refine (fair37t a b hf _).mono ?_; rintro e w' ⟨rfl, rfl⟩)
        all_goals go_ret
        all_goals (refine ⟨ret_int ?_, rfl⟩; rw [HW.out])
        all_goals (have e1 : (min k 30).toNat = 30 := by omega)
        all_goals (rw [e1]; have h30 := hw30'.out; have h31 := wrap_mul hf 30 (by omega); omega)
    · go_enter Try.func9, Try.ntmps9
      go_wp2_with (go_at_call 37; refine (fair37t a b hf _).mono ?_; rintro e w' ⟨rfl, rfl⟩)
      go_ret
      exact ⟨ret_int (waitI_none (by omega)).symm, rfl⟩
  · go_enter Try.func9, Try.ntmps9
    go_wp2_with (go_at_call 37; refine (fair37f a b hf _).mono ?_; rintro e w' ⟨rfl, rfl⟩)
    go_ret
    exact ⟨ret_int (waitI_none (by omega)).symm, rfl⟩

theorem wait10 (a b k : Int) (hkm : k ≤ 9223372036854775807) (w : World) : Calls Try.prog 10 #[.int .i64 a, .int .i64 b, .int .i64 k] w fun e w' => e = .returned (.int .i64 (waitI a b k)) ∧ w = w' := by
  by_cases hf : 1 ≤ a ∧ a ≤ b ∧ b ≤ 1073741824
  · by_cases hk : 0 ≤ k
    · go_enter Try.func10, Try.ntmps10
      go_wp2_with (go_at_call 38; refine (fair38t a b hf _).mono ?_; rintro e w' ⟨rfl, rfl⟩)
      go_loop [8, 9] (fun v i => ∃ n : Nat, (n : Int) ≤ k ∧ i = .int .i64 n ∧ v = .int .i64 (a * 2 ^ n) ∧ a * 2 ^ n ≤ 2 * b) (fun _ i => (k - intOf i).toNat)
      case atStart => exact ⟨0, by omega, rfl, by simp, by simp; omega⟩
      case round =>
        obtain ⟨n, hn, rfl, rfl, hb⟩ := hrel
        have hp : 1 ≤ a * 2 ^ n := by
          have h1 : (1 : Int) ≤ 2 ^ n := by
            have := Int.ofNat_le.2 (Nat.one_le_two_pow (n := n))
            simpa using this
          have := Int.mul_le_mul hf.1 h1 (by omega) (by omega)
          omega
        have H1 := Lib.hid (show a * 2 ^ (n + 1) = 2 * (a * 2 ^ n) by rw [Int.pow_succ, ← Int.mul_assoc]; omega)
        have HF := Lib.hid (@waitI_full a b k n hf hn)
        have HP := Lib.hid (@waitI_part a b n hf)
        generalize hx : a * 2 ^ n = x at *
        have HX := Lib.hid hx
        clear hx
        by_cases hlt : (n : Int) < k
        · by_cases hxb : x < b
          · go_wp2
            go_round
            case rel => exact ⟨n + 1, by omega, by go_num, by rw [H1.out], by rw [H1.out]; omega⟩
            case measure => simp [intOf]; omega
          · go_wp2
            all_goals go_ret
            all_goals (refine ⟨ret_int ?_, rfl⟩; rw [HF.out (by omega)]; try omega)
        · obtain rfl : k = n := by omega
          by_cases hxb : x < b
          · go_wp2
            all_goals go_ret
            all_goals (refine ⟨ret_int ?_, rfl⟩; rw [HP.out (by omega)])
          · go_wp2
            all_goals go_ret
            all_goals (refine ⟨ret_int ?_, rfl⟩; rw [HF.out (by omega)]; try omega)
    · go_enter Try.func10, Try.ntmps10
      go_wp2_with (go_at_call 38; refine (fair38t a b hf _).mono ?_; rintro e w' ⟨rfl, rfl⟩)
      go_ret
      exact ⟨ret_int (waitI_none (by omega)).symm, rfl⟩
  · go_enter Try.func10, Try.ntmps10
    go_wp2_with (go_at_call 38; refine (fair38f a b hf _).mono ?_; rintro e w' ⟨rfl, rfl⟩)
    go_ret
    exact ⟨ret_int (waitI_none (by omega)).symm, rfl⟩
end Go.Proofs.Ytekiccbhjnfciaa
