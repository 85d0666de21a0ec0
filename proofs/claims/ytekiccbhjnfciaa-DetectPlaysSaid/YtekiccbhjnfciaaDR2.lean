/- The document's failure detector: Leave. -/
import Derived.Test.YtekiccbhjnfciaaDR1
import Derived.Deep.DeepCutAuto
namespace Go.Proofs.Ytekiccbhjnfciaa
open Go.RowKit

theorem info111 : (Try.prog.info? 111).map (fun i => (i.zero, i.size, i.bytes)) = some (some (.agg #[.int .i64 0, .int .i64 0, .int .i64 0, .int .i64 0, .bool false]), 5, 40) := by kernel_rfl

theorem cells_take (L : List PeerI) (k : Nat) : (L.flatMap PeerI.cells).take (k * 5) = (L.take k).flatMap PeerI.cells := by
  induction L generalizing k with
  | nil => simp
  | cons p L ih =>
    cases k with
    | zero => simp
    | succ k =>
      rw [List.flatMap_cons, List.take_succ_cons, List.flatMap_cons, List.take_append]
      have : p.cells.length = 5 := rfl
      rw [List.take_of_length_le (by omega), this, show (k + 1) * 5 - 5 = k * 5 by omega, ih]
theorem cells_drop (L : List PeerI) (k : Nat) : (L.flatMap PeerI.cells).drop (k * 5) = (L.drop k).flatMap PeerI.cells := by
  induction L generalizing k with
  | nil => simp
  | cons p L ih =>
    cases k with
    | zero => simp
    | succ k =>
      rw [List.flatMap_cons, List.drop_succ_cons, List.drop_append]
      have : p.cells.length = 5 := rfl
      rw [List.drop_of_length_le (by omega), this, show (k + 1) * 5 - 5 = k * 5 by omega, ih, List.nil_append]
theorem cells_one {L : List PeerI} {u : Value} (h : u ∈ L.flatMap PeerI.cells) : u.oneCell' = true := by
  obtain ⟨p, _, hu⟩ := List.mem_flatMap.1 h
  simp only [PeerI.cells, List.mem_cons, List.not_mem_nil, or_false] at hu
  rcases hu with rfl | rfl | rfl | rfl | rfl <;> rfl

theorem own_len (a : Option Addr) (n m c c' : Nat) : (Value.slice a n c).ownBlock = (Value.slice a m c').ownBlock := by cases a <;> rfl
theorem dropP_eq {L : List PeerI} (hG : Good L) {i : Nat} {p : PeerI} (hp : L[i]? = some p) : dropP L p.id = L.take i ++ L.drop (i + 1) := by
  obtain ⟨hi, he⟩ := List.getElem?_eq_some_iff.1 hp
  have h1 : L = L.take i ++ p :: L.drop (i + 1) := by
    rw [← he, ← List.drop_eq_getElem_cons hi, List.take_append_drop]
  have hs := hG.sorted
  unfold dropP
  rw [h1] at hs
  obtain ⟨_, h3, h4⟩ := List.pairwise_append.1 hs
  have h5 := (List.pairwise_cons.1 h3).1
  conv => lhs; rw [h1]
  rw [List.filter_append, List.filter_cons_of_neg (by simp)]
  rw [List.filter_eq_self.2 (fun q hq => by have := h4 q hq p List.mem_cons_self; simp; omega), List.filter_eq_self.2 (fun q hq => by have := h5 q hq; simp; omega)]

set_option maxRecDepth 100000 in
set_option maxHeartbeats 4000000 in
theorem leave45 (w : World) (B r : Nat) (v : Value) (g : Int) (L : List PeerI) (id : Int) (hG : Good L) (hI : Refd w B r v g L) : Calls Try.prog 45 #[.pointer (some ⟨r, 0, none⟩), .int .i64 id] w fun e w' =>
    e = .returned (.int .i64 (leaveI L id).1) ∧ ∃ v', Refd w' B r v' g (leaveI L id).2 ∧ Fr (RS w B) w w' := by
  obtain ⟨i0, hi, hz0, hz1, hz2⟩ := info_parts info111
  have hpl := place78 w B r v g L id hG.len hI
  have c1 : w.cell? ⟨r, 1, none⟩ = some v := hI.blk.cell 1
  have f1 := hI.blk.frozen 1
  obtain ⟨va, vc, hv, hvc, -⟩ := hI.own.form
  subst hv
  have hll := hG.len
  cases hf : findP L id with
  | none =>
    obtain ⟨hpi, -⟩ := place_none hf
    have e1 : leaveI L id = (92, L) := by simp [leaveI, hf]
    rw [e1]
    rw [hpi] at hpl
    go_enter Try.func45, Try.ntmps45
    go_wp2_with (go_at_call 78; refine hpl.mono ?_; rintro e w' ⟨rfl, rfl⟩)
    go_ret
    exact ⟨rfl, _, hI, Fr.refl _ _⟩
  | some p =>
    obtain ⟨i, hp, hpi, hid, -⟩ := place_some hf
    have e1 : leaveI L id = (0, dropP L id) := by simp [leaveI, hf]
    rw [e1]
    rw [hpi] at hpl
    obtain ⟨hil, -⟩ := List.getElem?_eq_some_iff.1 hp
    have hx1 : (i : Int) ≤ (vc : Int) := by omega
    have hx2 : (0 : Int) ≤ (i : Int) := by omega
    have hx3 : (i : Int) + 1 ≤ (L.length : Int) := by omega
    have hT := (hI.own.take (k := i) (by omega)).rd (B := w.heap.size) (fun gg hgg => hI.own.lt (by rw [own_len va L.length i vc vc]; exact hgg))
    have hD := (hI.own.drop (k := i + 1) (by omega))
    go_enter Try.func45, Try.ntmps45
    have h1T : ∀ u ∈ (L.flatMap PeerI.cells).take (i * 5), u.oneCell' = true := fun u hu => cells_one (List.mem_of_mem_take hu)
    have h1D : ∀ u ∈ (L.flatMap PeerI.cells).drop ((i + 1) * 5), u.oneCell' = true := fun u hu => cells_one (List.mem_of_mem_drop hu)
    go_upto_region 6 with (first | (go_at_call 78; refine hpl.mono ?_; rintro e w' ⟨rfl, rfl⟩) | (at_builtin; go_must (refine wpList_append_S rfl (.tmp 12) (.tmp 18) _ rfl 111 i0 _ 5 40 Try.underlying32 hi hz0 hz1 hz2 rfl (OwnS.nil _ _ _) rfl hT rfl h1T (by simp only [maxLen]; omega) (by omega) ?_); intro v2 w2 hown2 hf2 hv2 hn2; obtain ⟨a2, c2, rfl, -⟩ := hown2.form))
    have hS2 : Same w' w2 := Fr.mono hf2 (fun k _ hk => by cases hk)
    have hI2 := hI.same hS2
    have hDr := (hD.same hS2).rd (B := w2.heap.size) (fun gg hgg => (hD.same hS2).lt hgg)
    simp only [Nat.zero_add, List.nil_append] at hown2 hv2 ⊢
    clear hD hT hf2 hn2 c1 f1 hpl
    have c1 : w2.cell? ⟨r, 1, none⟩ = some (.slice va L.length vc) := hI2.blk.cell 1
    have f1 := hI2.blk.frozen 1
    have hx4 : wrap64 ((i : Int) + 1) = (i : Int) + 1 := wrap_small (by omega) (by omega)
    have hx5 : ((i : Int) + 1).toNat = i + 1 := by omega
    go_wp2_with (at_builtin; go_loud (refine wpList_append_S rfl (.tmp 21) (.tmp 28) _ rfl 111 i0 _ 5 40 Try.underlying32 hi hz0 hz1 hz2 rfl hown2 rfl hDr rfl h1D (by simp only [maxLen]; omega) (by omega) ?_; intro v3 w3 hown3 hf3 hv3 hn3; obtain ⟨a3, c3, rfl, -⟩ := hown3.form; have c1 := (Fr.cell (p := ⟨r, 1, none⟩) hf3 hI2.blk.lt (hown2.ne_blk hI2.blk (by decide))).trans c1; have f1 := (Fr.frozen (p := ⟨r, 1, none⟩) hf3 hI2.blk.lt (hown2.ne_blk hI2.blk (by decide))).trans f1))
    all_goals go_ret
    all_goals
      have hb3 := hI2.blk.fr hf3 (hown2.ne_blk hI2.blk (by decide))
      have hn3' := hown3.ne_blk hb3 (by decide)
      have hb4 := hb3.set_ 1 (.slice a3 (i + (L.length - (i + 1))) c3)
      have ho4 := hown3.setCell (p := ⟨r, 1, none⟩) hn3' (.slice a3 (i + (L.length - (i + 1))) c3)
      have hdl : (dropP L id).length = i + (L.length - (i + 1)) := by
        rw [← hid, dropP_eq hG hp, List.length_append, List.length_take, List.length_drop]; omega
      have hB2 : B ≤ w'.heap.size := by have := hI.ge; have := hI.blk.lt; omega
      have hge : ∀ k, (Value.slice a2 i c2).ownBlock = some k → w'.heap.size ≤ k := fun k hk => by
        rcases hv2 with h | h
        · rw [hk] at h; cases h
        · rw [hk] at h; injection h with h; omega
      refine ⟨rfl, ⟨_, ⟨by simpa using hb4, ?_, hI.ge, fun k hk => ?_⟩⟩, ?_⟩
      · rw [hdl, ← hid, dropP_eq hG hp, List.flatMap_append, ← cells_take, ← cells_drop]
        exact ho4
      · rcases hv3 with h | h
        · rw [hk] at h
          have := hge k h.symm
          omega
        · rw [hk] at h
          injection h with h
          have := hS2.size
          omega
      · refine Fr.trans' (S := fun _ => False) hS2 (S' := fun k => k = r ∨ (Value.slice a2 i c2).ownBlock = some k) ?_ (fun _ h => h.elim) (fun k hk h => ?_)
        · exact Fr.setCell (Fr.mono hf3 (fun _ _ h => .inr h)) (.inl (.inl rfl)) _
        · rcases h with rfl | h
          · exact ⟨hI.ge, _, _, _, hI.blk, .inl rfl⟩
          · have := hge k h
            omega
end Go.Proofs.Ytekiccbhjnfciaa
