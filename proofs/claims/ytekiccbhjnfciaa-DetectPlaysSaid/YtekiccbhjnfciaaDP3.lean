/- The program's failure detector: each of its functions against the plain words. -/
import Derived.Test.YtekiccbhjnfciaaDP2
import Derived.Test.YtekiccbhjnfciaaIterI
import Derived.Test.YtekiccbhjnfciaaInsI
namespace Go.Proofs.Ytekiccbhjnfciaa
open Go.RowKit

theorem keyInt : KeyOk Try.prog 3 (Value.int .i64) := KeyOk.int Try.underlying3
structure Imp (w : World) (d mb : Nat) (g : Int) (L : List PeerI) : Prop where
  blk : Blk w d 101 #[.int .i64 g, .map (some mb)]
  map : ∃ M, MapIs (Value.int .i64) w mb M ∧ Rep M L
theorem Imp.fr {S : Nat → Prop} {w w' : World} {d mb : Nat} {g : Int} {L : List PeerI} (h : Imp w d mb g L) (hf : Fr S w w') (hd : ¬ S d) (hm : ¬ S mb) : Imp w' d mb g L := by
  obtain ⟨h1, M, h2, h3⟩ := h
  exact ⟨h1.fr hf hd, M, h2.fr hf hm, h3⟩
theorem Imp.same {w w' : World} {d mb : Nat} {g : Int} {L : List PeerI} (h : Imp w d mb g L) (hf : Same w w') : Imp w' d mb g L := Imp.fr (S := fun _ => False) h hf (fun h => h) (fun h => h)
theorem Imp.ne {w : World} {d mb : Nat} {g : Int} {L : List PeerI} (h : Imp w d mb g L) : d ≠ mb := by
  obtain ⟨h1, M, h2, h3⟩ := h
  exact h2.ne_blk h1

theorem new12 (g : Int) (hg : 1 ≤ g ∧ g ≤ 4096) (w : World) : Calls Try.prog 12 #[.int .i64 g] w fun e w' => ∃ d mb, w.heap.size ≤ d ∧ w.heap.size ≤ mb ∧ e = .returned (.tuple #[.pointer (some ⟨d, 0, none⟩), .int .i64 0]) ∧ Imp w' d mb g [] ∧ Same w w' := by
  go_enter Try.func12, Try.ntmps12
  have hmm := @run_makeMap Try.prog
  go_wp2
  all_goals first | omega | skip
  go_ret2
  refine ⟨w.heap.size + 1, w.heap.size, by omega, by omega, rfl, ⟨?_, [], (MapIs.new _ w).alloc _, List.Perm.refl _⟩, ((Same.refl w).alloc _).alloc _⟩
  have := Blk.new (w.alloc (.map #[] 0)) 101 #[.int .i64 g, .map (some w.heap.size)]
  simpa using this

theorem new12n (g : Int) (hg : ¬ (1 ≤ g ∧ g ≤ 4096)) (w : World) : Calls Try.prog 12 #[.int .i64 g] w fun e w' => e = .returned (.tuple #[.pointer none, .int .i64 1]) ∧ w' = w := by
  go_enter Try.func12, Try.ntmps12
  have hmm := @run_makeMap Try.prog
  go_wp2
  all_goals first | omega | skip
  all_goals go_ret2
  all_goals exact ⟨rfl, rfl⟩

set_option maxRecDepth 100000 in
theorem watch39 (w : World) (d mb : Nat) (g : Int) (L : List PeerI) (id t : Int) (hI : Imp w d mb g L) : Calls Try.prog 39 #[.pointer (some ⟨d, 0, none⟩), .int .i64 id, .int .i64 t] w fun e w' =>
    e = .returned (.int .i64 (watchI g L id t).1) ∧ Imp w' d mb g (watchI g L id t).2 ∧ Fr (· = mb) w w' := by
  have hI0 := hI
  obtain ⟨hb, M, hM, hR⟩ := hI
  have hget := hR.get hM.nodup id
  have c0 := hb.cell 0
  have c1 := hb.cell 1
  simp only [List.getElem?_toArray, List.getElem?_cons_zero, List.getElem?_cons_succ] at c0 c1
  have a0 : ∀ o, (w.alloc o).cell? ⟨d, 0, none⟩ = some (.int .i64 g) := fun o => (hb.alloc o).cell 0
  have a1 : ∀ o, (w.alloc o).cell? ⟨d, 1, none⟩ = some (.map (some mb)) := fun o => (hb.alloc o).cell 1
  by_cases hg : 0 ≤ id ∧ id ≤ 255 ∧ timeI t = true
  · obtain ⟨g1, g2, g3⟩ := hg
    cases hf : findP L id with
    | some p =>
      have e1 : watchI g L id t = (0, L) := by simp [watchI, g1, g2, g3, hf]
      rw [e1]
      rw [hf] at hget
      simp only [Option.map_some, PeerI.v] at hget
      go_enter Try.func39, Try.ntmps39
      go_wp2_with (first | (go_at_call 73; refine (time73 _ _).mono ?_; rintro e w' ⟨rfl, rfl⟩; rw [g3]) | (at_lookup; refine wpList_lookup_raw rfl _ _ _ _ rfl keyInt Try.underlying99 Try.zeroValue139 rfl hM id rfl ?_; rw [hget]))
      all_goals first | omega | skip
      go_ret
      exact ⟨rfl, hI0.same ((Same.refl _).alloc _), (Fr.refl _ _).alloc _⟩
    | none =>
      rw [hf] at hget
      by_cases hl : L.length = 12
      · have e1 : watchI g L id t = (91, L) := by simp [watchI, g1, g2, g3, hf, hl]
        rw [e1]
        simp only [Option.map_none] at hget
        have hl' : (M.length : Int) = 12 := by rw [hR.len]; omega
        go_enter Try.func39, Try.ntmps39
        go_wp2_with (first | (go_at_call 73; refine (time73 _ _).mono ?_; rintro e w' ⟨rfl, rfl⟩; rw [g3]) | (at_lookup; refine wpList_lookup_raw rfl _ _ _ _ rfl keyInt Try.underlying99 Try.zeroValue139 rfl hM id rfl ?_; rw [hget]) | (at_len; refine wpList_len_raw rfl _ _ rfl Try.underlying99 rfl (hM.alloc _) ?_))
        all_goals first | omega | skip
        go_ret
        exact ⟨rfl, hI0.same ((Same.refl _).alloc _), (Fr.refl _ _).alloc _⟩
      · have e1 : watchI g L id t = (0, insP ⟨id, t, 0, g, false⟩ L) := by simp [watchI, g1, g2, g3, hf, hl]
        rw [e1]
        simp only [Option.map_none] at hget
        have hl' : ¬ ((M.length : Int) = 12) := by rw [hR.len]; omega
        go_enter Try.func39, Try.ntmps39
        go_wp2_with (first | (go_at_call 73; refine (time73 _ _).mono ?_; rintro e w' ⟨rfl, rfl⟩; rw [g3]) | (at_lookup; refine wpList_lookup_raw rfl _ _ _ _ rfl keyInt Try.underlying99 Try.zeroValue139 rfl hM id rfl ?_; rw [hget]) | (at_len; refine wpList_len_raw rfl _ _ rfl Try.underlying99 rfl (hM.alloc _) ?_))
        all_goals first | omega | skip
        have hb1 := hb.alloc (.cells #[.int .i64 0, .int .i64 0, .int .i64 0, .bool false] 139)
        have hM1 := hM.alloc (.cells #[.int .i64 0, .int .i64 0, .int .i64 0, .bool false] 139)
        have hF1 : Fr (· = mb) w' (w'.alloc (.cells #[.int .i64 0, .int .i64 0, .int .i64 0, .bool false] 139)) := (Fr.refl _ _).alloc _
        clear a0 a1 c0 c1
        generalize w'.alloc (.cells #[.int .i64 0, .int .i64 0, .int .i64 0, .bool false] 139) = w1 at hb1 hM1 hF1 ⊢
        have c0 : w1.cell? ⟨d, 0, none⟩ = some (.int .i64 g) := hb1.cell 0
        have c1 : w1.cell? ⟨d, 1, none⟩ = some (.map (some mb)) := hb1.cell 1
        go_still_tail 11, (by kernel_rfl)
        change wpList _ _ _ _ _ w1.drew
        go_wp2_with (at_mapUpdate; refine wpList_mapUpdate_raw rfl _ _ _ _ rfl keyInt Try.underlying99 rfl (hM1.drew) id rfl _ rfl ?_; intro w2 hm2 hf2 hs2)
        go_ret
        refine ⟨rfl, ⟨Blk.fr (S := fun x => x = mb) hb1 hf2.undrew hI0.ne, _, hm2, ?_⟩, hF1.trans hf2.undrew⟩
        exact hR.put_new hM.nodup (p := ⟨id, t, 0, g, false⟩) hf
  · have e1 : watchI g L id t = (1, L) := by unfold watchI; rw [if_pos hg]
    rw [e1]
    go_enter Try.func39, Try.ntmps39
    go_wp2_with (first | (go_at_call 73; refine (time73 _ _).mono ?_; rintro e w' ⟨rfl, rfl⟩))
    all_goals first | (exfalso; apply hg; simp_all; done) | skip
    all_goals go_ret
    all_goals exact ⟨rfl, hI0, Fr.refl _ _⟩

set_option maxRecDepth 100000 in
theorem leave44 (w : World) (d mb : Nat) (g : Int) (L : List PeerI) (id : Int) (hI : Imp w d mb g L) : Calls Try.prog 44 #[.pointer (some ⟨d, 0, none⟩), .int .i64 id] w fun e w' =>
    e = .returned (.int .i64 (leaveI L id).1) ∧ Imp w' d mb g (leaveI L id).2 ∧ Fr (· = mb) w w' := by
  have hI0 := hI
  obtain ⟨hb, M, hM, hR⟩ := hI
  have hget := hR.get hM.nodup id
  have c0 : w.cell? ⟨d, 0, none⟩ = some (.int .i64 g) := hb.cell 0
  have c1 : w.cell? ⟨d, 1, none⟩ = some (.map (some mb)) := hb.cell 1
  have a1 : ∀ o, (w.alloc o).cell? ⟨d, 1, none⟩ = some (.map (some mb)) := fun o => (hb.alloc o).cell 1
  cases hf : findP L id with
  | some p =>
    have e1 : leaveI L id = (0, dropP L id) := by simp [leaveI, hf]
    rw [e1]
    rw [hf] at hget
    simp only [Option.map_some, PeerI.v] at hget
    go_enter Try.func44, Try.ntmps44
    go_wp2_with (first | (at_lookup; refine wpList_lookup_raw rfl _ _ _ _ rfl keyInt Try.underlying99 Try.zeroValue139 rfl hM id rfl ?_; rw [hget]) | (at_delete; refine wpList_delete_raw rfl _ _ _ _ rfl keyInt Try.underlying99 rfl (hM.alloc _) id rfl ?_; intro w2 hm2 hf2 hs2))
    go_ret
    exact ⟨rfl, ⟨Blk.fr (S := fun x => x = mb) (hb.alloc _) hf2 hI0.ne, _, hm2, hR.del id⟩, (Fr.alloc (Fr.refl _ _) _).trans hf2⟩
  | none =>
    have e1 : leaveI L id = (92, L) := by simp [leaveI, hf]
    rw [e1]
    rw [hf] at hget
    simp only [Option.map_none] at hget
    go_enter Try.func44, Try.ntmps44
    go_wp2_with (first | (at_lookup; refine wpList_lookup_raw rfl _ _ _ _ rfl keyInt Try.underlying99 Try.zeroValue139 rfl hM id rfl ?_; rw [hget]))
    go_ret
    exact ⟨rfl, hI0.same ((Same.refl _).alloc _), (Fr.refl _ _).alloc _⟩

set_option maxRecDepth 100000 in
theorem wait42 (w : World) (d mb : Nat) (g : Int) (L : List PeerI) (id : Int) (hI : Imp w d mb g L) : Calls Try.prog 42 #[.pointer (some ⟨d, 0, none⟩), .int .i64 id] w fun e w' =>
    e = .returned (match findP L id with | some p => .tuple #[.int .i64 p.wait, .int .i64 0] | none => .tuple #[.int .i64 0, .int .i64 92]) ∧ Same w w' := by
  obtain ⟨hb, M, hM, hR⟩ := hI
  have hget := hR.get hM.nodup id
  have c1 : w.cell? ⟨d, 1, none⟩ = some (.map (some mb)) := hb.cell 1
  cases hf : findP L id with
  | some p =>
    rw [hf] at hget
    simp only [Option.map_some, PeerI.v] at hget
    have hW : ∀ w, _ := fun w => wait76 p w
    unfold PeerI.v at hW
    go_enter Try.func42, Try.ntmps42
    go_wp2_with (first | (go_at_call 76; refine (hW _).mono ?_; rintro e w' ⟨rfl, h1⟩) | (at_lookup; refine wpList_lookup_raw rfl _ _ _ _ rfl keyInt Try.underlying99 Try.zeroValue139 rfl hM id rfl ?_; rw [hget]))
    go_ret2
    exact ⟨rfl, Same.trans ((Same.refl _).alloc _) h1⟩
  | none =>
    rw [hf] at hget
    simp only [Option.map_none] at hget
    go_enter Try.func42, Try.ntmps42
    go_wp2_with (first | (at_lookup; refine wpList_lookup_raw rfl _ _ _ _ rfl keyInt Try.underlying99 Try.zeroValue139 rfl hM id rfl ?_; rw [hget]))
    go_ret2
    exact ⟨rfl, (Same.refl _).alloc _⟩
end Go.Proofs.Ytekiccbhjnfciaa
