/- The program's failure detector: Peers, Suspects. -/
import Derived.Test.YtekiccbhjnfciaaDP3
import Derived.Test.YtekiccbhjnfciaaQTail
namespace Go.Proofs.Ytekiccbhjnfciaa
open Go.RowKit

theorem ownS_of_row {w : World} {B : Nat} {e : TypeId} {size n : Nat} {v : Value} {xs : List Value} (h : w.ownsRow B e size v n xs) : OwnS w e size v n xs ∧ ∀ k, v.ownBlock = some k → B ≤ k := by
  obtain ⟨h1, h2⟩ := h
  rcases h2 with ⟨rfl, h3⟩ | ⟨g, cap, cur, rfl, h3, h4, h5, h6, h7, h8⟩
  · exact ⟨⟨h1, .inl ⟨rfl, h3⟩⟩, fun k hk => by cases hk⟩
  · exact ⟨⟨h1, .inr ⟨g, 0, cap, cur, rfl, h4, h5, h6, by omega, by simpa using h8⟩⟩, fun k hk => by
      have : g = k := by simpa [Value.ownBlock] using hk
      omega⟩

theorem keys82 (mb : Nat) (w : World) : Calls Try.prog 82 #[.map (some mb)] w fun e w' => e = .returned (.func (.func 95) #[] #[.pointer (some ⟨w.heap.size, 0, none⟩)]) ∧ w' = w.alloc (.cells #[.map (some mb)] 99) := by
  go_enter Try.func82, Try.ntmps82
  go_wp2
  go_ret
  exact ⟨rfl, rfl⟩

theorem collect93 (Bm mb : Nat) (M : List (Int × Value)) (w : World) (hBm : Bm < w.heap.size) (hm : w.cell? ⟨Bm, 0, none⟩ = some (.map (some mb))) (hM : MapIs (Value.int .i64) w mb M) (hlen : M.length ≤ 1000) :
    Calls Try.prog 93 #[.func (.func 95) #[] #[.pointer (some ⟨Bm, 0, none⟩)]] w fun e w' => ∃ (v : Value) (ss : List Int), e = .returned v ∧ ss.Perm (M.map (·.1)) ∧ OwnS w' 3 1 v ss.length (ss.map (Value.int .i64)) ∧ (∀ k, v.ownBlock = some k → w.heap.size ≤ k) ∧ Same w w' := by
  have h := callsIn_wide.1 (iterI.appendSeq Bm mb M w hBm hm hM hlen)
  go_enter Try.func93, Try.ntmps93
  go_wp2_with (go_at_call 102; refine h.mono ?_; rintro e w' ⟨v, ss, rfl, h1, h2, h3⟩)
  go_ret
  exact ⟨v, ss, rfl, h1, (ownS_of_row h2).1, (ownS_of_row h2).2, Fr.of_below h3 _⟩

theorem sorted81 (Bm mb : Nat) (M : List (Int × Value)) (w : World) (hBm : Bm < w.heap.size) (hm : w.cell? ⟨Bm, 0, none⟩ = some (.map (some mb))) (hM : MapIs (Value.int .i64) w mb M) (hlen : M.length ≤ 12) :
    Calls Try.prog 81 #[.func (.func 95) #[] #[.pointer (some ⟨Bm, 0, none⟩)]] w fun e w' => ∃ (v : Value) (ss : List Int), e = .returned v ∧ ss.Perm (M.map (·.1)) ∧ ss.Pairwise (· ≤ ·) ∧ OwnS w' 3 1 v ss.length (ss.map (Value.int .i64)) ∧ (∀ k, v.ownBlock = some k → w.heap.size ≤ k) ∧ Same w w' := by
  go_enter Try.func81, Try.ntmps81
  go_wp2_with (first | (go_at_call 93; refine (collect93 Bm mb M w hBm hm hM (by omega)).mono ?_; rintro e w1 ⟨v, ss, rfl, h1, h2, h3, h4⟩; have hl : ss.length ≤ 12 := by have := h1.length_eq; simp at this; omega) | (go_at_call 94; refine (insI.sort12 _ v ss hl h2).mono ?_; rintro e w2 ⟨rfl, ys, g1, g2, g3, g4, g5⟩))
  go_ret
  exact ⟨v, ys, rfl, g1.trans h1, g2, g3, h3, Fr.trans' (S := fun _ => False) h4 g4 (fun _ h => h) (fun k hk hv => by have := h3 k hv; omega)⟩

theorem peers52 (w : World) (d mb : Nat) (g : Int) (L : List PeerI) (hG : Good L) (hI : Imp w d mb g L) : Calls Try.prog 52 #[.pointer (some ⟨d, 0, none⟩)] w fun e w' =>
    ∃ v, e = .returned v ∧ OwnS w' 3 1 v L.length ((L.map (·.id)).map (Value.int .i64)) ∧ (∀ k, v.ownBlock = some k → w.heap.size ≤ k) ∧ Same w w' := by
  obtain ⟨hb, M, hM, hR⟩ := hI
  have c1 : w.cell? ⟨d, 1, none⟩ = some (.map (some mb)) := hb.cell 1
  have hB := Boxed.new w 99 (.map (some mb))
  go_enter Try.func52, Try.ntmps52
  go_wp2_with (first | (go_at_call 82; refine (keys82 _ _).mono ?_; rintro e w1 ⟨rfl, rfl⟩) | (go_at_call 81; refine (sorted81 _ mb M _ (by simp) hB.cell (hM.alloc _) (by rw [hR.len]; exact hG.len)).mono ?_; rintro e w2 ⟨v, ss, rfl, g1, g2, g3, g4, g5⟩))
  go_ret
  have e1 : ss = L.map (·.id) := sorted_unique (g1.trans hR.keys) g2 (by rw [List.pairwise_map]; exact hG.sorted)
  subst e1
  exact ⟨v, rfl, by simpa using g3, fun k hk => by have := g4 k hk; simp at this; omega, Same.trans ((Same.refl w).alloc _) g5⟩
end Go.Proofs.Ytekiccbhjnfciaa
