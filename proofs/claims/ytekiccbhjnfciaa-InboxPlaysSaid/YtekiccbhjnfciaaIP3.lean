/- Steps of the inbox: the first of some packets is struck. -/
import Derived.Test.YtekiccbhjnfciaaIP2
namespace Go.Proofs.Ytekiccbhjnfciaa
open Go.RowKit
theorem zero49 (w : World) : (zeroValue 49).run Try.prog w = .ok (.agg #[.int .u64 0, .int .i64 0, .int .i64 0, .slice none 0 0]) w := by kernel_rfl
/-- the end of the deletion: behind the shift the last place is cleared -/
def Struck (w : World) (a0 : Option Addr) (n cc : Nat) (xs : List Value) (e : Ending) (w' : World) : Prop :=
  ∃ a c, e = .returned (.slice a n c) ∧ OwnS w' 49 4 (.slice a n c) n (xs.drop 4) ∧ Fr (fun k => (Value.slice a0 (n + 1) cc).ownBlock = some k) w w' ∧
    (∀ g, (Value.slice a n c).ownBlock = some g → (Value.slice a0 (n + 1) cc).ownBlock = some g ∨ w.heap.size ≤ g)
set_option maxRecDepth 100000 in
theorem delete55_more (w : World) (g o n cc : Nat) (xs : List Value) (ho : OwnS w 49 4 (.slice (some ⟨g, o, none⟩) (n + 1) cc) (n + 1) xs) (h1 : ∀ u ∈ xs, u.oneCell' = true) (hn : n ≤ 256) (hc1 : ¬ cc = 1) :
    Calls Try.prog 55 #[.slice (some ⟨g, o, none⟩) (n + 1) cc, .int .i64 0, .int .i64 1] w (Struck w (some ⟨g, o, none⟩) n cc xs) := by
  obtain ⟨i0, hi, hz0, hz1, hz2⟩ := info_parts info49
  have hform := ho.form
  obtain ⟨_, _, hv, hcc, hcm⟩ := hform
  cases hv
  have ht := ho.take (k := 0) (by omega)
  have hd0 := ho.drop (k := 1) (by omega)
  have hd : OwnS w 49 4 (.slice (some ⟨g, o + 4, none⟩) n (cc - 1)) n (xs.drop 4) := by simpa [sliced, hc1, add_at] using hd0
  have hrd := hd.rd (B := w.heap.size) (fun g' hg => hd.lt hg)
  have hb : ¬ ((n : Int) + 1 < 1) := by omega
  clear hd0 hd
  go_enter Try.func55, Try.ntmps55
  go_wp2_with fail
  go_region_law (refine step_append_fit rfl (.tmp 22) (.tmp 25) _ (by rfl) 49 i0 _ 4 48 Try.underlying45 hi hz0 hz1 hz2 rfl (OwnS.drew ht) (by simp [Act.eval, Act.put]) (RdS.drew hrd) (by simp [Act.eval, Act.put]) (fun u hu => h1 u (List.mem_of_mem_drop hu)) (by omega) (by simp only [maxLen]; omega) (by omega) ?_; intro w4 hown4 hf4)
  have hb2 : ¬ (cc = n) := by omega
  have hown5 : OwnS w4 49 4 (.slice (some ⟨g, o, none⟩) n cc) n (xs.drop 4) := by simpa using hown4
  have hf5 : Fr (fun k => (Value.slice (some ⟨g, o, none⟩) n cc).ownBlock = some k) w w4 := hf4.undrew
  clear hown4 hf4 hrd ht ho
  go_wp2_with (refine wpList_clear_S (size := 4) rfl (.tmp 31) _ (by rfl) Try.underlying45 zero49 rfl (by decide) (by simp [Value.oneCell', Value.cells]) hown5 (m := n + 1) (c := cc) (by simp [Act.eval, sliced, hb2, add_at]) (by omega) (by omega) (by omega) ?_; intro w6 hown6 hf6)
  go_ret
  exact ⟨_, _, rfl, hown6, hf5.trans hf6, fun g' hg => .inl hg⟩
set_option maxRecDepth 100000 in
theorem delete55_one (w : World) (g o : Nat) (xs : List Value) (ho : OwnS w 49 4 (.slice (some ⟨g, o, none⟩) 1 1) 1 xs) :
    Calls Try.prog 55 #[.slice (some ⟨g, o, none⟩) 1 1, .int .i64 0, .int .i64 1] w (Struck w (some ⟨g, o, none⟩) 0 1 xs) := by
  obtain ⟨i0, hi, hz0, hz1, hz2⟩ := info_parts info49
  have ht : OwnS w 49 4 (.slice (some ⟨g, o, none⟩) 0 1) 0 [] := by simpa using ho.take (k := 0) (by omega)
  have hx : xs.drop 4 = [] := List.drop_of_length_le (by rw [ho.1]; omega)
  have hrd : RdS w w.heap.size 4 (.slice (some ⟨g, o, none⟩) 0 0) 0 [] := ⟨rfl, _, 0, rfl, Nat.le_refl _, fun h => absurd h (by omega)⟩
  clear ho
  have HX := Lib.hid hx
  clear hx
  go_enter Try.func55, Try.ntmps55
  go_wp2_with fail
  go_region_law (refine step_append_fit rfl (.tmp 22) (.tmp 25) _ (by rfl) 49 i0 _ 4 48 Try.underlying45 hi hz0 hz1 hz2 rfl (OwnS.drew ht) (by simp [Act.eval, Act.put]) (RdS.drew hrd) (by simp [Act.eval, Act.put]) (fun u hu => by cases hu) (by omega) (by simp only [maxLen]; omega) (by omega) ?_; intro w4 hown4 hf4)
  have hown5 : OwnS w4 49 4 (.slice (some ⟨g, o, none⟩) 0 1) 0 [] := by simpa using hown4
  have hf5 : Fr (fun k => (Value.slice (some ⟨g, o, none⟩) 0 1).ownBlock = some k) w w4 := hf4.undrew
  clear hown4 hf4 hrd ht
  go_wp2_with (refine wpList_clear_S (size := 4) rfl (.tmp 31) _ (by rfl) Try.underlying45 zero49 rfl (by decide) (by simp [Value.oneCell', Value.cells]) hown5 (m := 1) (c := 1) (by simp [Act.eval, sliced, add_at]) (by omega) (by omega) (by omega) ?_; intro w6 hown6 hf6)
  go_ret
  exact ⟨_, _, rfl, by rw [HX.out]; exact hown6, hf5.trans hf6, fun g' hg => .inl hg⟩
theorem delete55 (w : World) (a0 : Option Addr) (n cc : Nat) (xs : List Value) (ho : OwnS w 49 4 (.slice a0 (n + 1) cc) (n + 1) xs) (h1 : ∀ u ∈ xs, u.oneCell' = true) (hn : n ≤ 256) :
    Calls Try.prog 55 #[.slice a0 (n + 1) cc, .int .i64 0, .int .i64 1] w (Struck w a0 n cc xs) := by
  have h2 := ho
  rcases ho.2 with ⟨h, _⟩ | ⟨g, o, cap, cur, h, _, hc, _⟩
  · cases h
  · cases h
    by_cases h1c : cc = 1
    · subst h1c
      obtain rfl : n = 0 := by omega
      exact delete55_one w g o xs h2
    · exact delete55_more w g o n cc xs h2 h1 hn h1c
end Go.Proofs.Ytekiccbhjnfciaa
