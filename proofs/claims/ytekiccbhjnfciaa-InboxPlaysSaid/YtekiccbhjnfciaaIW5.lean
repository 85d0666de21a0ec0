/- The statements' own example of layer 8 comes out as the document says. -/
import Derived.Test.YtekiccbhjnfciaaIW4
namespace Go.Proofs.Ytekiccbhjnfciaa
open Go.RowKit
set_option maxRecDepth 100000 in
theorem next36 (w : World) (b m : Nat) (u x0 x1 x2 x3 x4 : Int) (hc5 : w.cell? ⟨b, 5, none⟩ = some (.map (some m)))
    (hm : MapIs (Value.int .u64) w m [(u, .agg #[.int .u64 x0, .int .i64 x1, .int .i64 x2, .int .i64 x3, .int .i64 x4])]) :
    Calls Try.prog 36 #[.pointer (some ⟨b, 0, none⟩)] w fun e w' => e = .returned (.tuple #[.int .i64 x4, .bool true]) ∧ Same w w' := by
  have hlen : ∀ ty, (Builtin.len_ #[129] ty #[.map (some m)]).run Try.prog w = .ok (.int .i64 1) w := fun ty => run_len_raw (ty := ty) Try.underlying129 hm
  go_enter Try.func36, Try.ntmps36
  go_wp2_with fail
  refine (sorted71 w b m u x0 x1 x2 x3 x4 hc5 hm).mono ?_
  rintro e w1 ⟨v, rfl, hown, hs⟩
  obtain ⟨-, ⟨-, h0⟩ | ⟨g, o, cap, cur, rfl, hg, hn, hm1, hsz, hx⟩⟩ := hown
  · cases h0
  · have hcell : w1.cell? ⟨g, o + 4, none⟩ = some (.int .i64 x4) := by
      rw [cell_of_row w1 g (o + 4) cur 133 (0, 0) hg]
      have h4 : ((cur.toList.drop o).take (1 * 5))[4]? = some (.int .i64 x4) := by rw [hx]; rfl
      simpa [List.getElem?_take, List.getElem?_drop] using h4
    clear hg hx hlen
    go_wp2
    go_ret2
    exact ⟨rfl, hs⟩
theorem newCalls34 (w : World) : Calls Try.prog 34 #[.int .i64 2, .int .i64 10, .int .i64 35, .int .i64 2] w fun e w' =>
    e = .returned (.tuple #[.pointer (some ⟨w.heap.size + 1, 0, none⟩), .int .i64 0]) ∧
    (w.alloc (.map #[] 0)).alloc (.cells #[.int .i64 2, .int .i64 10, .int .i64 35, .int .i64 2, .int .u64 0, .map (some w.heap.size)] 131) = w' := by
  have hmm := @run_makeMap Try.prog
  go_enter Try.func34, Try.ntmps34
  go_wp2_with (go_at_call 37; refine (fair37t _ _ (by decide) _).mono ?_; rintro e w' ⟨rfl, rfl⟩)
  go_ret2
  exact ⟨rfl, rfl⟩
theorem awake8 (w : World) : Calls Try.prog 8 #[] w fun e w' => e = .returned (.bool true) ∧ Same w w' := by
  go_enter Try.func8, Try.ntmps8
  go_wp2_with fail
  refine (newCalls34 _).mono ?_
  rintro e w1 ⟨rfl, hw1⟩
  have hb1 : Blk w1 (w.heap.size + 1) 131 #[.int .i64 2, .int .i64 10, .int .i64 35, .int .i64 2, .int .u64 0, .map (some w.heap.size)] := by
    rw [← hw1]; simpa using Blk.new (w.alloc (.map #[] 0)) 131 #[.int .i64 2, .int .i64 10, .int .i64 35, .int .i64 2, .int .u64 0, .map (some w.heap.size)]
  have hm1 : MapIs (Value.int .u64) w1 w.heap.size [] := by rw [← hw1]; exact (MapIs.new _ w).alloc _
  have hs1 : Same w w1 := by rw [← hw1]; exact ((Fr.refl _ w).alloc _).alloc _
  clear hw1
  obtain ⟨b, hbe⟩ : ∃ b, b = w.heap.size + 1 := ⟨_, rfl⟩
  rw [← hbe] at hb1 ⊢
  have hbl : w.heap.size ≤ b := by omega
  clear hbe
  go_wp2_with fail
  refine (open35 _ _ _ hb1 hm1).mono ?_
  rintro e w2 ⟨rfl, hb2, hm2, hf2⟩
  go_wp2_with fail
  refine (next36 w2 b w.heap.size 1 1 7 100 1 110 (hb2.cell 5) hm2).mono ?_
  rintro e w3 ⟨rfl, hs3⟩
  go_wp2_with fail
  refine (wait9_1 _).mono ?_
  rintro e w4 ⟨rfl, rfl⟩
  go_wp2_with fail
  go_ret
  refine ⟨rfl, ?_⟩
  have h12 : Fr (fun k => w.heap.size ≤ k) w w2 := hs1.trans' hf2 (fun _ h => h.elim) (fun k hk h => by omega)
  exact Fr.mono (Fr.trans' h12 hs3 (T := fun k => w.heap.size ≤ k) (fun _ h => h) (fun _ _ h => h.elim)) (fun k hk h => by omega)
end Go.Proofs.Ytekiccbhjnfciaa
