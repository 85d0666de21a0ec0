/- The program's failure detector: Beat. -/
import Derived.Test.YtekiccbhjnfciaaDP3
import Derived.Deep.DeepCutAuto
import Derived.Test.YtekiccbhjnfciaaQTail
namespace Go.Proofs.Ytekiccbhjnfciaa
open Go.RowKit

set_option maxRecDepth 100000 in
set_option maxHeartbeats 4000000 in
theorem beat41 (w : World) (d mb : Nat) (g : Int) (L : List PeerI) (id t : Int) (hG : Good L) (hI : Imp w d mb g L) : Calls Try.prog 41 #[.pointer (some ⟨d, 0, none⟩), .int .i64 id, .int .i64 t] w fun e w' =>
    e = .returned (.int .i64 (beatI L id t).1) ∧ Imp w' d mb g (beatI L id t).2 ∧ Fr (· = mb) w w' := by
  have hI0 := hI
  obtain ⟨hb, M, hM, hR⟩ := hI
  have hget := hR.get hM.nodup id
  have c1 : w.cell? ⟨d, 1, none⟩ = some (.map (some mb)) := hb.cell 1
  cases hf : findP L id with
  | none =>
    have e1 : beatI L id t = (92, L) := by simp [beatI, hf]
    rw [e1]
    rw [hf] at hget
    simp only [Option.map_none] at hget
    go_enter Try.func41, Try.ntmps41
    go_wp2_with (first | (at_lookup; refine wpList_lookup_raw rfl _ _ _ _ rfl keyInt Try.underlying99 Try.zeroValue139 rfl hM id rfl ?_; rw [hget]))
    go_ret
    exact ⟨rfl, hI0.same ((Same.refl _).alloc _), (Fr.refl _ _).alloc _⟩
  | some p =>
    rw [hf] at hget
    simp only [Option.map_some, PeerI.v] at hget
    cases ht : timeI t with
    | false =>
      have e1 : beatI L id t = (1, L) := by simp [beatI, hf, ht]
      rw [e1]
      go_enter Try.func41, Try.ntmps41
      go_wp2_with (first | (go_at_call 73; refine (time73 _ _).mono ?_; rintro e w' ⟨rfl, rfl⟩; rw [ht]) | (at_lookup; refine wpList_lookup_raw rfl _ _ _ _ rfl keyInt Try.underlying99 Try.zeroValue139 rfl hM id rfl ?_; rw [hget]))
      go_ret
      exact ⟨rfl, hI0.same ((Same.refl _).alloc _), (Fr.refl _ _).alloc _⟩
    | true =>
      have e1 : beatI L id t = (0, setP L (p.beat t)) := by simp [beatI, hf, ht]
      rw [e1]
      have hok := hG.ok p (findP_id hf).2
      have hB := fun w => bad74 p t hok w
      have hS := fun w => silent75 p t hok w
      unfold PeerI.v at hB hS
      have hB' : ∀ w, Calls Try.prog 74 #[.agg #[.int .i64 p.last, .int .i64 p.mean, .int .i64 p.margin, .bool p.told], .int .i64 t] w fun e w' => e = .returned (.bool (p.bad t)) ∧ Same w w' := fun w => (hB w).mono (by
        rintro e w' ⟨⟨x, rfl, hx⟩, h⟩; exact ⟨by rw [hx ht], h⟩)
      have hb1 := hb.alloc (.cells #[.int .i64 p.last, .int .i64 p.mean, .int .i64 p.margin, .bool p.told] 139)
      have hM1 := hM.alloc (.cells #[.int .i64 p.last, .int .i64 p.mean, .int .i64 p.margin, .bool p.told] 139)
      have hF1 : Fr (· = mb) w (w.alloc (.cells #[.int .i64 p.last, .int .i64 p.mean, .int .i64 p.margin, .bool p.told] 139)) := (Fr.refl _ _).alloc _
      have hp1 := Blk.new w 139 #[.int .i64 p.last, .int .i64 p.mean, .int .i64 p.margin, .bool p.told]
      go_enter Try.func41, Try.ntmps41
      go_upto_if 29 with (first | (go_at_call 73; refine (time73 _ _).mono ?_; rintro e w' ⟨rfl, rfl⟩; rw [ht]) | (go_at_call 74; refine (hB' _).mono ?_; rintro e w2 ⟨rfl, h2⟩; have hb2 := hb1.same h2; have hM2 := hM1.same h2; have hp2 := hp1.same h2; have hF2 := hF1.trans (h2.fr _)) | (at_lookup; refine wpList_lookup_raw rfl _ _ _ _ rfl keyInt Try.underlying99 Try.zeroValue139 rfl hM id rfl ?_; rw [hget]))
      have hdb : d ≠ w.heap.size := by have := hb.lt; omega
      have hnew : w.heap.size ≤ w.heap.size := Nat.le_refl _
      clear hb1 hM1 hF1 hp1 h2
      have hS' : ∀ m (w : World), Calls Try.prog 75 #[.agg #[.int .i64 p.last, .int .i64 p.mean, .int .i64 m, .bool p.told], .int .i64 t] w fun e w' => e = .returned (.int .i64 (p.sil t)) ∧ Same w w' := fun m w => (silent75 ⟨p.id, p.last, p.mean, m, p.told⟩ t hok w).mono (by
        rintro e w' ⟨⟨x, rfl, hx⟩, h⟩; exact ⟨by rw [hx ht]; rfl, h⟩)
      obtain ⟨b, hbe⟩ : ∃ b, b = w.heap.size := ⟨_, rfl⟩
      rw [← hbe] at hdb hp2 ⊢
      rw [← hbe] at hnew
      replace hnew : w.heap.size ≤ b := by omega
      clear hbe
      have q2 := hp2.cell 2; have q6 := hp2.frozen 2
      simp only [List.getElem?_toArray, List.getElem?_cons_zero, List.getElem?_cons_succ] at q2
      go_cut [] (fun wx => Blk wx d 101 #[.int .i64 g, .map (some mb)] ∧ MapIs (Value.int .i64) wx mb M ∧ Fr (· = mb) w wx ∧ Blk wx b 139 #[.int .i64 p.last, .int .i64 p.mean, .int .i64 (p.beat t).margin, .bool p.told])
      case first =>
        go_wp2_with fail
        all_goals go_meet
        · exact ⟨hb2.far hdb _, hM2.setCell (hM2.ne_blk hp2).symm _, hF2.setCell (.inr hnew) _, by
            have h := hp2.set_ 2 (.int .i64 (min (wrap64 (2 * p.margin)) 4096))
            have e2 : (p.beat t).margin = min (wrap64 (2 * p.margin)) 4096 := by
              have hbad : p.bad t = true := by assumption
              simp only [PeerI.beat, hbad, if_true]
              split <;> omega
            rw [e2]
            simpa using h⟩
        · exact ⟨hb2, hM2, hF2, by
            have hbad : p.bad t = false := by assumption
            have e2 : (p.beat t).margin = p.margin := by simp [PeerI.beat, hbad]
            rw [e2]; exact hp2⟩
      case rest =>
        obtain ⟨hb3, hM3, hF3, hp3⟩ := hcut
        clear c1 q2 q6 hb2 hM2 hp2 hF2
        have q0 := hp3.cell 0; have q1 := hp3.cell 1; have q2 := hp3.cell 2; have q3 := hp3.cell 3; have q5 := hp3.frozen 1
        simp only [List.getElem?_toArray, List.getElem?_cons_zero, List.getElem?_cons_succ] at q0 q1 q2 q3
        go_wp2_with fail
        refine wp_region_class_tail 12 (fun W => Blk W d 101 #[.int .i64 g, .map (some mb)] ∧ MapIs (Value.int .i64) W mb M ∧ Fr (· = mb) w W ∧ Blk W b 139 #[.int .i64 p.last, .int .i64 p.mean, .int .i64 (p.beat t).margin, .bool p.told]) (by kernel_rfl) (by kernel_rfl) ⟨hb3, hM3, hF3.drew, hp3⟩ ?_
        simp only [List.take_succ_cons, List.take_zero, List.drop_succ_cons, List.drop_zero]
        clear q0 q1 q2 q3 q5
        have e3 : (p.beat t).mean = wrap64 (p.mean + wrap64 (min (p.sil t) 4096 - wrap64 (p.mean.tdiv 8))) := by
          simp only [PeerI.beat]
          have : (if p.sil t > 4096 then 4096 else p.sil t) = min (p.sil t) 4096 := by split <;> omega
          rw [this]
          unfold wrap64
          omega
        have hcall : ∀ W, (Blk W d 101 #[.int .i64 g, .map (some mb)] ∧ MapIs (Value.int .i64) W mb M ∧ Fr (· = mb) w W ∧ Blk W b 139 #[.int .i64 p.last, .int .i64 p.mean, .int .i64 (p.beat t).margin, .bool p.told]) → Calls Try.prog 75 #[.agg #[.int .i64 p.last, .int .i64 p.mean, .int .i64 (p.beat t).margin, .bool p.told], .int .i64 t] W fun e W' => e = .returned (.int .i64 (p.sil t)) ∧ (Blk W' d 101 #[.int .i64 g, .map (some mb)] ∧ MapIs (Value.int .i64) W' mb M ∧ Fr (· = mb) w W' ∧ Blk W' b 139 #[.int .i64 p.last, .int .i64 p.mean, .int .i64 (p.beat t).margin, .bool p.told]) := fun W hW => (hS' _ _).mono (by
          rintro e W' ⟨rfl, h⟩; exact ⟨rfl, hW.1.same h, hW.2.1.same h, hW.2.2.1.trans (h.fr _), hW.2.2.2.same h⟩)
        repeat (
          refine class_step (v := ?_) (by go_simp) (fun W hW => ?_) ?_
          rotate_left
          · have q0 : W.cell? ⟨b, 0, none⟩ = _ := hW.2.2.2.cell 0; have q1 : W.cell? ⟨b, 1, none⟩ = _ := hW.2.2.2.cell 1; have q2 : W.cell? ⟨b, 2, none⟩ = _ := hW.2.2.2.cell 2; have q3 : W.cell? ⟨b, 3, none⟩ = _ := hW.2.2.2.cell 3
            simp only [List.getElem?_toArray, List.getElem?_cons_zero, List.getElem?_cons_succ] at q0 q1 q2 q3
            go_simp
            first | rfl | exact hcall _ hW
          simp only [Act.put, List.setIfInBounds_toArray, List.set_cons_zero, List.set_cons_succ])
        refine wpQuiet_nil ?_
        rintro w3 ⟨hb4, hM4, hF4, hp4⟩
        have q1 : w3.cell? ⟨b, 1, none⟩ = _ := hp4.cell 1; have q5 := hp4.frozen 1
        simp only [List.getElem?_toArray, List.getElem?_cons_zero, List.getElem?_cons_succ] at q1
        go_upto_region 11 with fail
        have hb5 := hb4.far hdb (p := ⟨b, 1, none⟩) (.int .i64 (p.beat t).mean)
        have hM5 := hM4.setCell (p := ⟨b, 1, none⟩) (hM4.ne_blk hp4).symm (.int .i64 (p.beat t).mean)
        have hF5 := hF4.setCell (p := ⟨b, 1, none⟩) (.inr hnew) (.int .i64 (p.beat t).mean)
        have hp5 : Blk (w3.setCell ⟨b, 1, none⟩ (.int .i64 (p.beat t).mean)) b 139 #[.int .i64 p.last, .int .i64 (p.beat t).mean, .int .i64 (p.beat t).margin, .bool p.told] := by
          have h := hp4.set_ 1 (.int .i64 (p.beat t).mean)
          simpa using h
        rw [← e3]
        clear hb4 hM4 hF4 hp4 q1 q5
        generalize w3.setCell ⟨b, 1, none⟩ (.int .i64 (p.beat t).mean) = w5 at hb5 hM5 hF5 hp5 ⊢
        have q0 := hp5.cell 0; have q5 := hp5.frozen 0
        simp only [List.getElem?_toArray, List.getElem?_cons_zero] at q0
        go_upto_region 12 with fail
        have e4 : max p.last t = (p.beat t).last := by simp only [PeerI.beat]; split <;> omega
        rw [e4]
        have hb6 := hb5.far hdb (p := ⟨b, 0, none⟩) (.int .i64 (p.beat t).last)
        have hM6 := hM5.setCell (p := ⟨b, 0, none⟩) (hM5.ne_blk hp5).symm (.int .i64 (p.beat t).last)
        have hF6 := hF5.setCell (p := ⟨b, 0, none⟩) (.inr hnew) (.int .i64 (p.beat t).last)
        have hp6 : Blk (w5.setCell ⟨b, 0, none⟩ (.int .i64 (p.beat t).last)) b 139 #[.int .i64 (p.beat t).last, .int .i64 (p.beat t).mean, .int .i64 (p.beat t).margin, .bool p.told] := by
          have h := hp5.set_ 0 (.int .i64 (p.beat t).last)
          simpa using h
        clear hb5 hM5 hF5 hp5 q0 q5 e3 e4
        generalize w5.setCell ⟨b, 0, none⟩ (.int .i64 (p.beat t).last) = w6 at hb6 hM6 hF6 hp6 ⊢
        have q0 := hp6.cell 0; have q1 := hp6.cell 1; have q2 := hp6.cell 2; have q3 := hp6.cell 3; have q4 := hb6.cell 1
        simp only [List.getElem?_toArray, List.getElem?_cons_zero, List.getElem?_cons_succ] at q0 q1 q2 q3 q4
        go_still_tail 6, (by kernel_rfl)
        change wpList _ _ _ _ _ w6.drew
        go_wp2_with (at_mapUpdate; refine wpList_mapUpdate_raw rfl _ _ _ _ rfl keyInt Try.underlying99 rfl (hM6.drew) id rfl _ rfl ?_; intro w7 hm7 hf7 hs7)
        go_ret
        refine ⟨rfl, ⟨Blk.fr (S := fun x => x = mb) hb6 hf7.undrew hI0.ne, _, hm7, ?_⟩, hF6.trans hf7.undrew⟩
        have hid := (findP_id hf).1
        have h := hR.put_old hM.nodup (p := p.beat t) (q := p) (by rw [show (p.beat t).id = id from hid]; exact hf)
        rw [show (p.beat t).id = id from hid] at h
        exact h
end Go.Proofs.Ytekiccbhjnfciaa
