/- The failure detector: what is known of a node; times, waits, silences; the program's and the document's. -/
import Derived.Test.YtekiccbhjnfciaaProg
import Derived.Test.YtekiccbhjnfciaaBase2
namespace Go.Proofs.Ytekiccbhjnfciaa
open Go.RowKit

structure PeerI where
  id : Int
  last : Int
  mean : Int
  margin : Int
  told : Bool
def PeerI.v (p : PeerI) : Value := .agg #[.int .i64 p.last, .int .i64 p.mean, .int .i64 p.margin, .bool p.told]
def PeerI.cells (p : PeerI) : List Value := [.int .i64 p.id, .int .i64 p.last, .int .i64 p.mean, .int .i64 p.margin, .bool p.told]
def timeI (t : Int) : Bool := decide (0 ≤ t ∧ t ≤ 1099511627776)
def PeerI.sil (p : PeerI) (t : Int) : Int := if t < p.last then 0 else t - p.last
def PeerI.wait (p : PeerI) : Int := if wrap64 (wrap64 (p.mean.tdiv 8) + p.margin) < 4 then 4 else if wrap64 (wrap64 (p.mean.tdiv 8) + p.margin) > 4096 then 4096 else wrap64 (wrap64 (p.mean.tdiv 8) + p.margin)
def PeerI.bad (p : PeerI) (t : Int) : Bool := decide (p.wait < p.sil t)
/-- last is a time -/
def PeerI.ok (p : PeerI) : Prop := 0 ≤ p.last ∧ p.last ≤ 1099511627776

theorem wrap_small {x : Int} (h1 : -9223372036854775808 ≤ x) (h2 : x < 9223372036854775808) : wrap64 x = x := by
  unfold wrap64; omega

theorem time73 (t : Int) (w : World) : Calls Try.prog 73 #[.int .i64 t] w fun e w' => e = .returned (.bool (timeI t)) ∧ w' = w := by
  go_enter Try.func73, Try.ntmps73
  go_wp2
  all_goals go_ret
  all_goals simp [timeI]
  all_goals omega

theorem time77 (t : Int) (w : World) : Calls Try.prog 77 #[.int .i64 t] w fun e w' => e = .returned (.bool (timeI t)) ∧ w' = w := by
  go_enter Try.func77, Try.ntmps77
  go_wp2
  all_goals go_ret
  all_goals simp [timeI]
  all_goals omega

theorem silent75 (p : PeerI) (t : Int) (hp : p.ok) (w : World) : Calls Try.prog 75 #[p.v, .int .i64 t] w fun e w' => (∃ x, e = .returned (.int .i64 x) ∧ (timeI t = true → x = p.sil t)) ∧ Same w w' := by
  obtain ⟨id, l, m, g, b⟩ := p
  unfold PeerI.v
  go_enter Try.func75, Try.ntmps75
  go_wp2
  all_goals go_ret
  all_goals refine ⟨⟨_, rfl, ?_⟩, (Same.refl w).alloc _⟩
  all_goals
    intro ht
    obtain ⟨h0, h1⟩ : 0 ≤ t ∧ t ≤ 1099511627776 := by simpa [timeI] using ht
    obtain ⟨h2, h3⟩ := hp
    dsimp only at h2 h3
    rw [wrap_small (by omega) (by omega)] at *
    simp only [PeerI.sil]
    split <;> omega

theorem wait76 (p : PeerI) (w : World) : Calls Try.prog 76 #[p.v] w fun e w' => e = .returned (.int .i64 p.wait) ∧ Same w w' := by
  obtain ⟨id, l, m, g, b⟩ := p
  unfold PeerI.v
  go_enter Try.func76, Try.ntmps76
  go_wp2
  all_goals go_ret
  all_goals refine ⟨?_, (Same.refl w).alloc _⟩
  all_goals
    simp only [Array.getD_eq_getD_getElem?, List.getElem?_toArray, PeerI.wait, Ending.returned.injEq, List.getElem?_cons_succ, List.getElem?_cons_zero, Option.getD_some, Value.int.injEq, true_and]
    (repeat' split) <;> first | rfl | omega | (exfalso; split at * <;> omega)

theorem wait53 (p : PeerI) (w : World) : Calls Try.prog 53 #[.agg p.cells.toArray] w fun e w' => e = .returned (.int .i64 p.wait) ∧ Same w w' := by
  obtain ⟨id, l, m, g, b⟩ := p
  unfold PeerI.cells
  go_enter Try.func53, Try.ntmps53
  go_wp2
  all_goals go_ret
  all_goals refine ⟨?_, (Same.refl w).alloc _⟩
  all_goals
    simp only [Array.getD_eq_getD_getElem?, List.getElem?_toArray, PeerI.wait, Ending.returned.injEq, List.getElem?_cons_succ, List.getElem?_cons_zero, Option.getD_some, Value.int.injEq, true_and]
    (repeat' split) <;> first | rfl | omega | (exfalso; split at * <;> omega)

theorem silent79 (p : PeerI) (t : Int) (hp : p.ok) (ht0 : 0 ≤ t) (ht1 : t ≤ 1099511627776) (w : World) : Calls Try.prog 79 #[.agg p.cells.toArray, .int .i64 t] w fun e w' => e = .returned (.int .i64 (p.sil t)) ∧ Same w w' := by
  obtain ⟨id, l, m, g, b⟩ := p
  obtain ⟨h2, h3⟩ := hp
  dsimp only at h2 h3
  unfold PeerI.cells
  go_enter Try.func79, Try.ntmps79
  go_wp2
  all_goals go_ret
  all_goals refine ⟨?_, (Same.refl w).alloc _⟩
  all_goals
    simp only [Array.getD_eq_getD_getElem?, List.getElem?_toArray, PeerI.sil, Ending.returned.injEq, List.getElem?_cons_succ, List.getElem?_cons_zero, Option.getD_some, Value.int.injEq, true_and]
  · rw [if_pos (by omega)]
  · rw [if_neg (by omega)]

theorem bad74 (p : PeerI) (t : Int) (hp : p.ok) (w : World) : Calls Try.prog 74 #[p.v, .int .i64 t] w fun e w' => (∃ x, e = .returned (.bool x) ∧ (timeI t = true → x = p.bad t)) ∧ Same w w' := by
  have hS := fun w => silent75 p t hp w
  have hW := fun w => wait76 p w
  have hb0 := Blk.new w 139 #[.int .i64 p.last, .int .i64 p.mean, .int .i64 p.margin, .bool p.told]
  have hF0 : Same w (w.alloc (.cells #[.int .i64 p.last, .int .i64 p.mean, .int .i64 p.margin, .bool p.told] 139)) := (Same.refl w).alloc _
  unfold PeerI.v at *
  go_enter Try.func74, Try.ntmps74
  go_wp2_with fail
  generalize w.alloc (.cells #[.int .i64 p.last, .int .i64 p.mean, .int .i64 p.margin, .bool p.told] 139) = w1 at hb0 hF0 ⊢
  generalize w.heap.size = b at hb0 ⊢
  have hk : ∀ W, Blk W b 139 #[.int .i64 p.last, .int .i64 p.mean, .int .i64 p.margin, .bool p.told] → Same w W → ((W.cell? ⟨b, 0, none⟩ = some (.int .i64 p.last) ∧ W.cell? ⟨b, 1, none⟩ = some (.int .i64 p.mean) ∧ W.cell? ⟨b, 2, none⟩ = some (.int .i64 p.margin) ∧ W.cell? ⟨b, 3, none⟩ = some (.bool p.told)) ∧ Blk W b 139 #[.int .i64 p.last, .int .i64 p.mean, .int .i64 p.margin, .bool p.told] ∧ Same w W) :=
    fun W h h' => ⟨⟨h.cell 0, h.cell 1, h.cell 2, h.cell 3⟩, h, h'⟩
  have hk0 := hk _ (hb0.drew) (Fr.drew (S := fun _ => False) hF0)
  clear hb0 hF0
  have hS' : ∀ W, (W.cell? ⟨b, 0, none⟩ = some (.int .i64 p.last) ∧ W.cell? ⟨b, 1, none⟩ = some (.int .i64 p.mean) ∧ W.cell? ⟨b, 2, none⟩ = some (.int .i64 p.margin) ∧ W.cell? ⟨b, 3, none⟩ = some (.bool p.told)) ∧ Blk W b 139 #[.int .i64 p.last, .int .i64 p.mean, .int .i64 p.margin, .bool p.told] ∧ Same w W → Calls Try.prog 75 #[.agg #[.int .i64 p.last, .int .i64 p.mean, .int .i64 p.margin, .bool p.told], .int .i64 t] W fun e W' => (∃ x, e = .returned (.int .i64 x) ∧ (timeI t = true → x = p.sil t)) ∧ Fr (fun _ => False) W W' :=
    fun W h => hS W
  go_region_held3 (fun W => (W.cell? ⟨b, 0, none⟩ = some (.int .i64 p.last) ∧ W.cell? ⟨b, 1, none⟩ = some (.int .i64 p.mean) ∧ W.cell? ⟨b, 2, none⟩ = some (.int .i64 p.margin) ∧ W.cell? ⟨b, 3, none⟩ = some (.bool p.told)) ∧ Blk W b 139 #[.int .i64 p.last, .int .i64 p.mean, .int .i64 p.margin, .bool p.told] ∧ Same w W)
    (first | assumption | exact hk _ (Blk.same (And.left (And.right (by assumption))) (by assumption)) (Same.trans (And.right (And.right (by assumption))) (by assumption)))
    (first | (go_at_call 75; refine (hS' _ (by assumption)).mono ?_; rintro e w2 ⟨⟨x, rfl, hx⟩, h2⟩) | (go_at_call 76; refine (hW _).mono ?_; rintro e w3 ⟨rfl, h3⟩))
  rename_i hH
  go_wp2
  go_ret
  refine ⟨⟨_, rfl, fun ht => ?_⟩, hH.2.2⟩
  rw [hx ht]; rfl

theorem bad80 (p : PeerI) (t : Int) (hp : p.ok) (ht0 : 0 ≤ t) (ht1 : t ≤ 1099511627776) (w : World) : Calls Try.prog 80 #[.agg p.cells.toArray, .int .i64 t] w fun e w' => e = .returned (.bool (p.bad t)) ∧ Same w w' := by
  have hS := fun w => silent79 p t hp ht0 ht1 w
  have hW := fun w => wait53 p w
  have hb0 := Blk.new w 111 #[.int .i64 p.id, .int .i64 p.last, .int .i64 p.mean, .int .i64 p.margin, .bool p.told]
  have hF0 : Same w (w.alloc (.cells #[.int .i64 p.id, .int .i64 p.last, .int .i64 p.mean, .int .i64 p.margin, .bool p.told] 111)) := (Same.refl w).alloc _
  unfold PeerI.cells at *
  go_enter Try.func80, Try.ntmps80
  go_wp2_with fail
  generalize w.alloc (.cells #[.int .i64 p.id, .int .i64 p.last, .int .i64 p.mean, .int .i64 p.margin, .bool p.told] 111) = w1 at hb0 hF0 ⊢
  generalize w.heap.size = b at hb0 ⊢
  have hk : ∀ W, Blk W b 111 #[.int .i64 p.id, .int .i64 p.last, .int .i64 p.mean, .int .i64 p.margin, .bool p.told] → Same w W → ((W.cell? ⟨b, 0, none⟩ = some (.int .i64 p.id) ∧ W.cell? ⟨b, 1, none⟩ = some (.int .i64 p.last) ∧ W.cell? ⟨b, 2, none⟩ = some (.int .i64 p.mean) ∧ W.cell? ⟨b, 3, none⟩ = some (.int .i64 p.margin) ∧ W.cell? ⟨b, 4, none⟩ = some (.bool p.told)) ∧ Blk W b 111 #[.int .i64 p.id, .int .i64 p.last, .int .i64 p.mean, .int .i64 p.margin, .bool p.told] ∧ Same w W) :=
    fun W h h' => ⟨⟨h.cell 0, h.cell 1, h.cell 2, h.cell 3, h.cell 4⟩, h, h'⟩
  have hk0 := hk _ (hb0.drew) (Fr.drew (S := fun _ => False) hF0)
  clear hb0 hF0
  have hS' : ∀ W, (W.cell? ⟨b, 0, none⟩ = some (.int .i64 p.id) ∧ W.cell? ⟨b, 1, none⟩ = some (.int .i64 p.last) ∧ W.cell? ⟨b, 2, none⟩ = some (.int .i64 p.mean) ∧ W.cell? ⟨b, 3, none⟩ = some (.int .i64 p.margin) ∧ W.cell? ⟨b, 4, none⟩ = some (.bool p.told)) ∧ Blk W b 111 #[.int .i64 p.id, .int .i64 p.last, .int .i64 p.mean, .int .i64 p.margin, .bool p.told] ∧ Same w W → Calls Try.prog 79 #[.agg #[.int .i64 p.id, .int .i64 p.last, .int .i64 p.mean, .int .i64 p.margin, .bool p.told], .int .i64 t] W fun e W' => e = .returned (.int .i64 (p.sil t)) ∧ Fr (fun _ => False) W W' :=
    fun W h => hS W
  go_region_held3 (fun W => (W.cell? ⟨b, 0, none⟩ = some (.int .i64 p.id) ∧ W.cell? ⟨b, 1, none⟩ = some (.int .i64 p.last) ∧ W.cell? ⟨b, 2, none⟩ = some (.int .i64 p.mean) ∧ W.cell? ⟨b, 3, none⟩ = some (.int .i64 p.margin) ∧ W.cell? ⟨b, 4, none⟩ = some (.bool p.told)) ∧ Blk W b 111 #[.int .i64 p.id, .int .i64 p.last, .int .i64 p.mean, .int .i64 p.margin, .bool p.told] ∧ Same w W)
    (first | assumption | exact hk _ (Blk.same (And.left (And.right (by assumption))) (by assumption)) (Same.trans (And.right (And.right (by assumption))) (by assumption)))
    (first | (go_at_call 79; refine (hS' _ (by assumption)).mono ?_; rintro e w2 ⟨rfl, h2⟩) | (go_at_call 53; refine (hW _).mono ?_; rintro e w3 ⟨rfl, h3⟩))
  rename_i hH
  go_wp2
  go_ret
  exact ⟨rfl, hH.2.2⟩
end Go.Proofs.Ytekiccbhjnfciaa
