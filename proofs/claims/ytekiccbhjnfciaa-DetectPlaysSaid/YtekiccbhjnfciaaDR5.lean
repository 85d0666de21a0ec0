/- The document's failure detector: Watch. -/
import Derived.Test.YtekiccbhjnfciaaDR4
namespace Go.Proofs.Ytekiccbhjnfciaa
open Go.RowKit

theorem insP_app {p : PeerI} {A C : List PeerI} (h : ∀ q ∈ A, q.id < p.id) : insP p (A ++ C) = A ++ insP p C := by
  induction A with
  | nil => rfl
  | cons q A ih =>
    have := h q List.mem_cons_self
    simp only [List.cons_append, insP]
    rw [if_neg (by omega), ih (fun q hq => h q (List.mem_cons_of_mem _ hq))]

/-- between two rounds: i nodes have been copied; b: the new one is in -/
structure WatchAt (L : List PeerI) (q : PeerI) (i : Nat) (b : Bool) (X : List PeerI) : Prop where
  le : i ≤ L.length
  no : b = false → X = L.take i ∧ ∀ x ∈ L.take i, x.id < q.id
  yes : b = true → X ++ L.drop i = insP q L
  len : X.length ≤ i + 1

theorem WatchAt.start (L : List PeerI) (q : PeerI) : WatchAt L q 0 false [] := ⟨by omega, fun _ => ⟨rfl, by simp⟩, fun h => (by cases h), by simp⟩
theorem WatchAt.copy {L : List PeerI} {q p : PeerI} {i : Nat} {b : Bool} {X : List PeerI} (h : WatchAt L q i b X) (hp : L[i]? = some p) (hb : b = true ∨ p.id < q.id) : WatchAt L q (i + 1) b (X ++ [p]) := by
  obtain ⟨hi, he⟩ := List.getElem?_eq_some_iff.1 hp
  refine ⟨hi, fun hf => ?_, fun ht => ?_, by have := h.len; simp; omega⟩
  · obtain ⟨h1, h2⟩ := h.no hf
    rw [List.take_add_one, hp]
    refine ⟨by rw [h1]; rfl, fun x hx => ?_⟩
    rcases List.mem_append.1 hx with hx | hx
    · exact h2 x hx
    · have : x = p := by simpa using hx
      subst this
      rcases hb with hb | hb
      · rw [hf] at hb; cases hb
      · exact hb
  · rw [← h.yes ht, List.drop_eq_getElem_cons hi, he]
    simp
theorem WatchAt.put {L : List PeerI} {q p : PeerI} {i : Nat} {X : List PeerI} (h : WatchAt L q i false X) (hp : L[i]? = some p) (hlt : q.id < p.id) : WatchAt L q (i + 1) true (X ++ [q] ++ [p]) := by
  obtain ⟨hi, he⟩ := List.getElem?_eq_some_iff.1 hp
  obtain ⟨h1, h2⟩ := h.no rfl
  refine ⟨hi, fun hf => (by cases hf), fun _ => ?_, ?_⟩
  · have e : L = L.take i ++ p :: L.drop (i + 1) := by rw [← he, ← List.drop_eq_getElem_cons hi, List.take_append_drop]
    conv => rhs; rw [e]
    rw [insP_app h2, h1]
    simp [insP, hlt]
  · rw [h1]
    simp
    omega
theorem WatchAt.fin_no {L : List PeerI} {q : PeerI} {X : List PeerI} (h : WatchAt L q L.length false X) : X ++ [q] = insP q L := by
  obtain ⟨h1, h2⟩ := h.no rfl
  rw [List.take_length] at h1 h2
  have := insP_app (p := q) (A := L) (C := []) h2
  rw [List.append_nil] at this
  rw [this, h1]
  rfl
theorem WatchAt.fin_yes {L : List PeerI} {q : PeerI} {X : List PeerI} (h : WatchAt L q L.length true X) : X = insP q L := by
  have := h.yes rfl
  simpa using this

set_option maxRecDepth 100000 in
set_option maxHeartbeats 8000000 in
theorem watch43 (w : World) (B r : Nat) (v : Value) (g : Int) (L : List PeerI) (id t : Int) (hG : Good L) (hI : Refd w B r v g L) : Calls Try.prog 43 #[.pointer (some ⟨r, 0, none⟩), .int .i64 id, .int .i64 t] w fun e w' =>
    e = .returned (.int .i64 (watchI g L id t).1) ∧ (∃ v', Refd w' B r v' g (watchI g L id t).2) ∧ Fr (RS w B) w w' := by
  obtain ⟨i0, hi, hz0, hz1, hz2⟩ := info_parts info111
  have hpl := place78 w B r v g L id hG.len hI
  have c0 : w.cell? ⟨r, 0, none⟩ = some (.int .i64 g) := hI.blk.cell 0
  have c1 : w.cell? ⟨r, 1, none⟩ = some v := hI.blk.cell 1
  obtain ⟨va, vc, hv, hvc, -⟩ := hI.own.form
  subst hv
  have hll := hG.len
  by_cases hg : 0 ≤ id ∧ id ≤ 255 ∧ timeI t = true
  · obtain ⟨g1, g2, g3⟩ := hg
    cases hf : findP L id with
    | some p =>
      obtain ⟨i, hp, hpi, hid, -⟩ := place_some hf
      have e1 : watchI g L id t = (0, L) := by simp [watchI, g1, g2, g3, hf]
      rw [e1]
      rw [hpi] at hpl
      have hx2 : (0 : Int) ≤ (i : Int) := by omega
      go_enter Try.func43, Try.ntmps43
      go_wp2_with (first | (go_at_call 78; refine hpl.mono ?_; rintro e w' ⟨rfl, rfl⟩) | (go_at_call 77; refine (time77 _ _).mono ?_; rintro e w4 ⟨rfl, rfl⟩; rw [g3]))
      all_goals first | omega | skip
      go_ret
      exact ⟨rfl, ⟨_, hI⟩, Fr.refl _ _⟩
    | none =>
      obtain ⟨hpi, hne⟩ := place_none hf
      rw [hpi] at hpl
      by_cases hl : L.length = 12
      · have e1 : watchI g L id t = (91, L) := by simp [watchI, g1, g2, g3, hf, hl]
        rw [e1]
        have hl' : (L.length : Int) = 12 := by omega
        go_enter Try.func43, Try.ntmps43
        go_wp2_with (first | (go_at_call 78; refine hpl.mono ?_; rintro e w' ⟨rfl, rfl⟩) | (go_at_call 77; refine (time77 _ _).mono ?_; rintro e w4 ⟨rfl, rfl⟩; rw [g3]))
        all_goals first | omega | skip
        go_ret
        exact ⟨rfl, ⟨_, hI⟩, Fr.refl _ _⟩
      · have e1 : watchI g L id t = (0, insP ⟨id, t, 0, g, false⟩ L) := by simp [watchI, g1, g2, g3, hf, hl]
        rw [e1]
        have hl' : ¬ (L.length : Int) = 12 := by omega
        go_enter Try.func43, Try.ntmps43
        go_wp2_with (first | (go_at_call 78; refine hpl.mono ?_; rintro e w' ⟨rfl, rfl⟩) | (go_at_call 77; refine (time77 _ _).mono ?_; rintro e w4 ⟨rfl, rfl⟩; rw [g3]))
        all_goals first | omega | skip
        go_loopw [9, 10, 11] (fun s9 s10 s11 wr => ∃ (i : Nat) (b : Bool) (X : List PeerI), s11 = .int .i64 i ∧ s10 = .bool b ∧ WatchAt L ⟨id, t, 0, g, false⟩ i b X ∧ OwnS wr 111 5 s9 X.length (X.flatMap PeerI.cells) ∧ (∀ k, s9.ownBlock = some k → w'.heap.size ≤ k) ∧ Same w' wr) (fun _ _ s11 _ => L.length - (intOf s11).toNat)
        case atStart => exact ⟨0, false, [], rfl, rfl, WatchAt.start _ _, OwnS.nil w' 111 5, fun k hk => (by cases hk), Same.refl _⟩
        case round =>
          obtain ⟨i, b, X, rfl, rfl, hW, ho, hok, hS⟩ := hrel
          have hIr := hI.same hS
          have c0 : wr.cell? ⟨r, 0, none⟩ = some (.int .i64 g) := hIr.blk.cell 0
          have c1 : wr.cell? ⟨r, 1, none⟩ = some (.slice va L.length vc) := hIr.blk.cell 1
          have hXl := hW.len
          have hiL := hW.le
          obtain ⟨oa, oc, rfl, -⟩ := ho.form
          by_cases hlt : i < L.length
          · obtain ⟨p, hp⟩ : ∃ p, L[i]? = some p := ⟨L[i], by simp [hlt]⟩
            obtain ⟨gb, o, cap, hv, k0, k1, k2, k3, k4, kf⟩ := hIr.cells hp
            injection hv with hv1 hv2 hv3
            subst hv1
            have hx1 : (i : Int) < (L.length : Int) := by omega
            have hput : ∀ (y : PeerI) (w1 w3 : World) (a : Option Addr) (c : Nat) (Y : List PeerI), True := fun _ _ _ _ _ _ => trivial
            by_cases hpb : b = false ∧ id < p.id
            · obtain ⟨rfl, hlt2⟩ := hpb
              go_upto_region 17 with (first | (at_builtin; go_must (refine wpList_append_S rfl (.tmp 58) (.tmp 66) _ rfl 111 i0 _ 5 40 Try.underlying32 hi hz0 hz1 hz2 rfl (ho.alloc _) rfl (RdS.new' (by first | rfl | simp) 111 5 1 [.int .i64 id, .int .i64 t, .int .i64 0, .int .i64 g, .bool false] rfl 1 (Nat.le_refl _)) rfl (fun u hu => by simp at hu; rcases hu with rfl | rfl | rfl | rfl | rfl <;> rfl) (by simp only [maxLen]; omega) (by omega) ?_); intro v2 w2 hown2 hf2 hv2 hn2; obtain ⟨a2, c2, rfl, -⟩ := hown2.form))
              obtain ⟨hok2, hS2⟩ := grow_step hS hok hf2 hv2
              have hI2 := hI.same hS2
              clear c1 k0 k1 k2 k3 k4 kf
              have c1 : w2.cell? ⟨r, 1, none⟩ = some (.slice (some ⟨gb, o, none⟩) L.length vc) := hI2.blk.cell 1
              obtain ⟨gb', o', cap', hv', k0, k1, k2, k3, k4, kf⟩ := hI2.cells hp
              injection hv' with hv1' hv2' hv3'
              cases hv1'
              go_wp2_with (first | (at_builtin; go_must (refine wpList_append_S rfl (.tmp 68) (.tmp 76) _ rfl 111 i0 _ 5 40 Try.underlying32 hi hz0 hz1 hz2 rfl (hown2.alloc _) rfl (RdS.new' (by first | rfl | simp) 111 5 1 p.cells rfl 1 (Nat.le_refl _)) rfl (fun u hu => cells_one (L := [p]) (by simpa using hu)) (by simp only [maxLen]; omega) (by omega) ?_); intro v3 w3 hown3 hf3 hv3 hn3; obtain ⟨a3, c3, rfl, -⟩ := hown3.form))
              go_roundw
              case measure => simp only [intOf]; omega
              case rel =>
                obtain ⟨hok3, hS3⟩ := grow_step hS2 hok2 hf3 hv3
                exact ⟨_, _, _, ⟨i + 1, rfl, .inr ⟨rfl, X ++ [⟨id, t, 0, g, false⟩] ++ [p], hW.put hp hlt2, by simpa [List.flatMap_append, PeerI.cells] using hown3, hok3, hS3⟩⟩, rfl, rfl, rfl⟩
            · have hpne : p.id ≠ id := hne p (List.mem_of_getElem? hp)
              have hbp : b = true ∨ p.id < id := by
                cases b with
                | true => exact .inl rfl
                | false => exact .inr (by have : ¬ id < p.id := fun h => hpb ⟨rfl, h⟩; omega)
              have hcopy := hW.copy hp hbp
              cases b with
              | true =>
                go_wp2_with (first | (at_builtin; go_must (refine wpList_append_S rfl (.tmp 68) (.tmp 76) _ rfl 111 i0 _ 5 40 Try.underlying32 hi hz0 hz1 hz2 rfl (ho.alloc _) rfl (RdS.new' (by first | rfl | simp) 111 5 1 p.cells rfl 1 (Nat.le_refl _)) rfl (fun u hu => cells_one (L := [p]) (by simpa using hu)) (by simp only [maxLen]; omega) (by omega) ?_); intro v3 w3 hown3 hf3 hv3 hn3; obtain ⟨a3, c3, rfl, -⟩ := hown3.form))
                go_roundw
                case measure => simp only [intOf]; omega
                case rel =>
                  obtain ⟨hok3, hS3⟩ := grow_step hS hok hf3 hv3
                  exact ⟨_, _, _, ⟨i + 1, rfl, .inr ⟨rfl, X ++ [p], hcopy, by simpa [List.flatMap_append, PeerI.cells] using hown3, hok3, hS3⟩⟩, rfl, rfl, rfl⟩
              | false =>
                have hnlt : ¬ id < p.id := fun h => hpb ⟨rfl, h⟩
                go_wp2_with (first | (at_builtin; go_must (refine wpList_append_S rfl (.tmp 68) (.tmp 76) _ rfl 111 i0 _ 5 40 Try.underlying32 hi hz0 hz1 hz2 rfl (ho.alloc _) rfl (RdS.new' (by first | rfl | simp) 111 5 1 p.cells rfl 1 (Nat.le_refl _)) rfl (fun u hu => cells_one (L := [p]) (by simpa using hu)) (by simp only [maxLen]; omega) (by omega) ?_); intro v3 w3 hown3 hf3 hv3 hn3; obtain ⟨a3, c3, rfl, -⟩ := hown3.form))
                go_roundw
                case measure => simp only [intOf]; omega
                case rel =>
                  obtain ⟨hok3, hS3⟩ := grow_step hS hok hf3 hv3
                  exact ⟨_, _, _, ⟨i + 1, rfl, .inl ⟨rfl, X ++ [p], hcopy, by simpa [List.flatMap_append, PeerI.cells] using hown3, hok3, hS3⟩⟩, rfl, rfl, rfl⟩
          · obtain rfl : i = L.length := by omega
            have f1 : wr.frozen? ⟨r, 1, none⟩ = false := hIr.blk.frozen 1
            have hB2 : B ≤ w'.heap.size := by have := hI.ge; have := hI.blk.lt; omega
            have fin : ∀ (W : World) (a : Option Addr) (c n : Nat) (Y : List PeerI), Y = insP ⟨id, t, 0, g, false⟩ L → Y.length = n → Same w' W → OwnS W 111 5 (.slice a n c) n (Y.flatMap PeerI.cells) → (∀ k, (Value.slice a n c).ownBlock = some k → w'.heap.size ≤ k) →
                (∃ v', Refd (W.setCell ⟨r, 1, none⟩ (.slice a n c)) B r v' g (insP ⟨id, t, 0, g, false⟩ L)) ∧ Fr (RS w' B) w' (W.setCell ⟨r, 1, none⟩ (.slice a n c)) := by
              intro W a c n Y hY hn hSW hoW hokW
              subst hn
              subst hY
              have hbW := hI.blk.same hSW
              refine ⟨⟨_, ⟨by simpa using hbW.set_ 1 (.slice a (insP ⟨id, t, 0, g, false⟩ L).length c), hoW.setCell (p := ⟨r, 1, none⟩) (hoW.ne_blk hbW (by decide)) _, hI.ge, fun k hk => Nat.le_trans hB2 (hokW k hk)⟩⟩, ?_⟩
              exact Fr.trans' (S := fun _ => False) (S' := fun k => k = r) hSW (Fr.setCell (Fr.refl (fun k => k = r) W) (p := ⟨r, 1, none⟩) (.inl rfl) _) (fun _ h => h.elim) (fun k _ hk => by subst hk; exact ⟨hI.ge, _, _, _, hI.blk, .inl rfl⟩)
            cases b with
            | true =>
              go_wp2
              go_ret
              exact ⟨rfl, fin wr _ _ _ X hW.fin_yes rfl hS ho hok⟩
            | false =>
              go_wp2_with (first | (at_builtin; go_must (refine wpList_append_S rfl (.tmp 80) (.tmp 88) _ rfl 111 i0 _ 5 40 Try.underlying32 hi hz0 hz1 hz2 rfl (ho.alloc _) rfl (RdS.new' (by first | rfl | simp) 111 5 1 [.int .i64 id, .int .i64 t, .int .i64 0, .int .i64 g, .bool false] rfl 1 (Nat.le_refl _)) rfl (fun u hu => by simp at hu; rcases hu with rfl | rfl | rfl | rfl | rfl <;> rfl) (by simp only [maxLen]; omega) (by omega) ?_); intro v2 w2 hown2 hf2 hv2 hn2; obtain ⟨a2, c2, rfl, -⟩ := hown2.form; obtain ⟨hok2, hS2⟩ := grow_step hS hok hf2 hv2; have f1 := (hI.same hS2).blk.frozen 1; have c1 : w2.cell? ⟨r, 1, none⟩ = some (.slice va L.length vc) := (hI.same hS2).blk.cell 1))
              go_ret
              exact ⟨rfl, fin w2 _ _ _ (X ++ [⟨id, t, 0, g, false⟩]) hW.fin_no (by simp) hS2 (by simpa [List.flatMap_append, PeerI.cells] using hown2) hok2⟩
  · have e1 : watchI g L id t = (1, L) := by unfold watchI; rw [if_pos hg]
    rw [e1]
    go_enter Try.func43, Try.ntmps43
    go_wp2_with (first | (go_at_call 77; refine (time77 _ _).mono ?_; rintro e w' ⟨rfl, rfl⟩))
    all_goals first | (exfalso; apply hg; simp_all; done) | skip
    all_goals go_ret
    all_goals exact ⟨rfl, ⟨_, hI⟩, Fr.refl _ _⟩
end Go.Proofs.Ytekiccbhjnfciaa
