/- Steps of the inbox: a copy of bytes, a new inbox, its length. -/
import Derived.Test.YtekiccbhjnfciaaProg
import Derived.Test.YtekiccbhjnfciaaBase2
namespace Go.Proofs.Ytekiccbhjnfciaa
open Go.RowKit
theorem info5 : (Try.prog.info? 5).map (fun i => (i.zero, i.size, i.bytes)) = some (some (.int .u8 0), 1, 1) := by kernel_rfl
/-- slices.Clone of bytes -/
def Cloned (w : World) (n : Nat) (xs : List Value) (e : Ending) (w' : World) : Prop :=
  ∃ a c, e = .returned (.slice a n c) ∧ OwnS w' 5 1 (.slice a n c) n xs ∧ Same w w' ∧ ∀ g, (Value.slice a n c).ownBlock = some g → w.heap.size ≤ g
theorem clone54 (w : World) (B : Nat) (a : Option Addr) (n c : Nat) (xs : List Value) (h : RdS w B 1 (.slice a n c) n xs) (hB : B ≤ w.heap.size) (h1 : ∀ u ∈ xs, u.oneCell' = true) (hn : n ≤ 140737488355328) :
    Calls Try.prog 54 #[.slice a n c] w (Cloned w n xs) := by
  obtain ⟨i0, hi, hz0, hz1, hz2⟩ := info_parts info5
  cases a with
  | none =>
    have hx : n = 0 := by
      obtain ⟨_, a', c', he, _, h3⟩ := h
      cases he
      rcases Nat.eq_zero_or_pos n with h0 | h0
      · exact h0
      · obtain ⟨_, _, h4, _⟩ := h3 h0
        cases h4
    subst hx
    have hxs : xs = [] := List.eq_nil_of_length_eq_zero (by simpa using h.1)
    subst hxs
    have heq := Lib.run_eql_slice_nil (P := Try.prog) w 47 5 none 0 c 0 0 Try.underlying47
    go_enter Try.func54, Try.ntmps54
    go_wp2
    go_ret
    exact ⟨none, 0, rfl, OwnS.nil _ _ _, Same.refl _, fun g hg => by cases hg⟩
  | some ad =>
    have heq := Lib.run_eql_slice_nil (P := Try.prog) w 47 5 (some ad) n c 0 0 Try.underlying47
    have hown0 : OwnS (w.alloc (.cells #[] 5)) 5 1 (.slice (some ⟨w.heap.size, 0, none⟩) 0 0) 0 [] :=
      ⟨rfl, .inr ⟨w.heap.size, 0, 0, #[], rfl, heap_alloc_new w _, Nat.le_refl _, by simp, by simp, by simp⟩⟩
    have hrd : RdS (w.alloc (.cells #[] 5)) B 1 (.slice (some ad) n c) n xs := h.alloc hB _
    go_enter Try.func54, Try.ntmps54
    go_wp2_with (at_builtin; go_must (refine wpList_append_S rfl (.tmp 5) (.tmp 6) _ rfl 5 i0 _ 1 1 Try.underlying47 hi hz0 hz1 hz2 rfl hown0 rfl hrd rfl h1 (by simp only [maxLen]; omega) (by omega) ?_); intro v2 w2 hown2 hf2 hv2 hn2)
    go_ret
    obtain ⟨a2, c2, rfl, -⟩ := hown2.form
    simp only [Nat.zero_add, List.nil_append] at hown2 hv2
    refine ⟨a2, c2, by simp, hown2, Fr.trans' (S := fun _ => False) ((Fr.refl _ _).alloc _) hf2 (fun _ h => h) (fun i hi h => ?_), fun g hg => ?_⟩
    · have : w.heap.size = i := by simpa [Value.ownBlock] using h
      omega
    · rcases hv2 with h2 | h2
      · rw [hg] at h2
        have : g = w.heap.size := by simpa [Value.ownBlock] using h2
        omega
      · rw [hg] at h2
        have : g = w.heap.size + 1 := by simpa using h2
        omega
end Go.Proofs.Ytekiccbhjnfciaa
