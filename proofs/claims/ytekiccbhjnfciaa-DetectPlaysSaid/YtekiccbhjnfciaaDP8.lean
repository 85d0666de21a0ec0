/- The program's failure detector: Changes, the walk. -/
import Derived.Test.YtekiccbhjnfciaaDP7
import Derived.Deep.DeepCutAuto
namespace Go.Proofs.Ytekiccbhjnfciaa
open Go.RowKit

theorem grow_step' {S : Nat → Prop} {w1 w3 w4 : World} {o : Obj} {v v4 : Value} (hS : Fr S w1 w3) (hok : ∀ k, v.ownBlock = some k → w1.heap.size ≤ k) (hf : Fr (fun k => v.ownBlock = some k) (w3.alloc o) w4)
    (hv : v4.ownBlock = v.ownBlock ∨ v4.ownBlock = some (w3.alloc o).heap.size) : (∀ k, v4.ownBlock = some k → w1.heap.size ≤ k) ∧ Fr S w1 w4 := by
  refine ⟨fun k hk => ?_, Fr.trans' (Fr.alloc hS o) hf (fun _ h => h) (fun k hk h => by have := hok k h; omega)⟩
  rcases hv with h | h
  · exact hok k (by rw [← h]; exact hk)
  · rw [hk] at h
    have h1 := hS.size
    simp at h
    omega

set_option maxRecDepth 100000 in
set_option maxHeartbeats 8000000 in
theorem changes49 (w : World) (d mb : Nat) (g : Int) (L : List PeerI) (t : Int) (hG : Good L) (hI : Imp w d mb g L) : Calls Try.prog 49 #[.pointer (some ⟨d, 0, none⟩), .int .i64 t] w fun e w' =>
    ∃ v, e = .returned v ∧ OwnS w' 108 2 v (changesI L t).1.length ((changesI L t).1.flatMap chCells) ∧ (∀ k, v.ownBlock = some k → w.heap.size ≤ k) ∧ Imp w' d mb g (changesI L t).2 ∧ Fr (· = mb) w w' := by
  obtain ⟨i0, hi, hz0, hz1, hz2⟩ := info_parts info108
  have hP := peers52 w d mb g L hG hI
  go_enter Try.func49, Try.ntmps49
  go_wp2_with (first | (go_at_call 52; refine hP.mono ?_; rintro e w1 ⟨v, rfl, h1, h2, h3⟩; obtain ⟨va, vc, rfl, hvc, -⟩ := h1.form))
  have hll := hG.len
  have hnm := hI.ne
  have hd1 : d < w1.heap.size := (hI.same h3).blk.lt
  have hmb1 : mb < w1.heap.size := by obtain ⟨M, hM, _⟩ := (hI.same h3).map; exact hM.lt
  go_loopw [5, 13] (fun s5 s13 wr => ∃ (i : Nat), s13 = .int .i64 i ∧ i ≤ L.length ∧ OwnS wr 108 2 s5 (chO L t i).length ((chO L t i).flatMap chCells) ∧ (∀ k, s5.ownBlock = some k → w1.heap.size ≤ k) ∧ Imp wr d mb g (chL L t i) ∧ Fr (· = mb) w1 wr) (fun _ s13 _ => L.length - (intOf s13).toNat)
  case atStart => exact ⟨0, rfl, by omega, by simpa [chO, changesI] using OwnS.nil w1 108 2, fun k hk => (by cases hk), by rw [chL_zero]; exact hI.same h3, Fr.refl _ _⟩
  case round =>
    obtain ⟨i, rfl, hil, ho, hok, hIr, hS⟩ := hrel
    by_cases hlt : i < L.length
    · obtain ⟨p, hp⟩ : ∃ p, L[i]? = some p := ⟨L[i], by simp [hlt]⟩
      have hIr0 := hIr
      obtain ⟨hb, M, hM, hR⟩ := hIr
      have h1r : OwnS wr 3 1 (.slice va L.length vc) L.length ((L.map (·.id)).map (Value.int .i64)) := h1.fr hS (fun k hk hkm => by
        subst hkm
        obtain ⟨M0, hM0, _⟩ := hI.map
        have := h2 _ hk
        have := hM0.lt
        omega)
      have c1 : wr.cell? ⟨d, 1, none⟩ = some (.map (some mb)) := hb.cell 1
      have hget := hR.get hM.nodup p.id
      have hf := find_at (chL_good hG t i) (chL_at (t := t) hp)
      rw [hf] at hget
      simp only [Option.map_some, PeerI.v] at hget
      have hBd := fun w => bad74 p t (hG.ok p (List.mem_of_getElem? hp)) w
      unfold PeerI.v at hBd
      have hne : 0 < L.length := by omega
      obtain ⟨ad, rfl⟩ : ∃ ad, va = some ad := by
        rcases h1.2 with ⟨h, h'⟩ | ⟨gg, o, cap, cur, h, -⟩
        · omega
        · injection h with h _ _; exact ⟨_, h⟩
      have hcell : wr.cell? (ad.add i) = some (.int .i64 p.id) := h1r.cells rfl i _ (by simp [hp])
      have hx1 : (i : Int) < (L.length : Int) := by omega
      have hx2 : (0 : Int) ≤ (i : Int) := by omega
      have hx3 : ((i : Int)).toNat = i := by omega
      obtain ⟨oa, oc, rfl, -⟩ := ho.form
      have hlS : (chO L t i).length ≤ 12 := Nat.le_trans (chO_len L t i) hG.len
      have hsucc := chO_succ (t := t) hp
      have hb1 := hb.alloc (.cells #[.int .i64 p.last, .int .i64 p.mean, .int .i64 p.margin, .bool p.told] 139)
      have hM1 := hM.alloc (.cells #[.int .i64 p.last, .int .i64 p.mean, .int .i64 p.margin, .bool p.told] 139)
      have hF1 := hS.alloc (.cells #[.int .i64 p.last, .int .i64 p.mean, .int .i64 p.margin, .bool p.told] 139)
      have ho1 := ho.alloc (.cells #[.int .i64 p.last, .int .i64 p.mean, .int .i64 p.margin, .bool p.told] 139)
      have hp1 := Blk.new wr 139 #[.int .i64 p.last, .int .i64 p.mean, .int .i64 p.margin, .bool p.told]
      go_upto_region 6 with (at_lookup; refine wpList_lookup_raw rfl _ _ _ _ rfl keyInt Try.underlying99 Try.zeroValue139 rfl hM p.id rfl ?_; rw [hget])
      have hdb : d ≠ wr.heap.size := by have := hb.lt; omega
      have hnew : w1.heap.size ≤ wr.heap.size := hS.size
      have hR' := hR; have hn := hM.nodup
      clear hM hb hIr0 ho c1 hcell h1r
      generalize wr.alloc (.cells #[.int .i64 p.last, .int .i64 p.mean, .int .i64 p.margin, .bool p.told] 139) = w2 at hb1 hM1 hF1 ho1 hp1 ⊢
      generalize wr.heap.size = b at hp1 hdb hnew ⊢
      have q0 := hp1.cell 0; have q1 := hp1.cell 1; have q2 := hp1.cell 2; have q3 := hp1.cell 3
      simp only [List.getElem?_toArray, List.getElem?_cons_zero, List.getElem?_cons_succ] at q0 q1 q2 q3
      go_upto_region 7 with (go_at_call 74; refine (hBd _).mono ?_; rintro e w3 ⟨⟨x, rfl, hx⟩, h4⟩)
      have hb3 := hb1.same h4; have hM3 := hM1.same h4; have hF3 := hF1.trans (h4.fr _); have ho3 := ho1.same h4; have hp3 := hp1.same h4
      clear hb1 hM1 hF1 ho1 hp1 q0 q1 q2 q3 h4
      have q3 := hp3.cell 3; have r3 := hp3.frozen 3
      simp only [List.getElem?_toArray, List.getElem?_cons_zero, List.getElem?_cons_succ] at q3
      by_cases hch : timeI t = true ∧ (p.bad t != p.told) = true
      · obtain ⟨ht, hbt⟩ := hch
        obtain rfl := hx ht
        rw [if_pos ⟨ht, hbt⟩] at hsucc
        have hbt' : (p.bad t == p.told) = false := by simpa using hbt
        go_upto_region 9 with (go_at_call 73; refine (time73 _ _).mono ?_; rintro e w4 ⟨rfl, rfl⟩; rw [ht])
        have hb5 := hb3.far hdb (p := ⟨b, 3, none⟩) (.bool (p.bad t))
        have hM5 := hM3.setCell (p := ⟨b, 3, none⟩) (hM3.ne_blk hp3).symm (.bool (p.bad t))
        have hF5 := hF3.setCell (p := ⟨b, 3, none⟩) (.inr hnew) (.bool (p.bad t))
        have ho5 := ho3.setCell (p := ⟨b, 3, none⟩) (ho3.ne_blk hp3 (by decide)) (.bool (p.bad t))
        have hp5 : Blk (w4.setCell ⟨b, 3, none⟩ (.bool (p.bad t))) b 139 #[.int .i64 p.last, .int .i64 p.mean, .int .i64 p.margin, .bool (p.bad t)] := by
          have h := hp3.set_ 3 (.bool (p.bad t))
          simpa using h
        clear hb3 hM3 hF3 ho3 hp3 q3 r3
        generalize w4.setCell ⟨b, 3, none⟩ (.bool (p.bad t)) = w5 at hb5 hM5 hF5 ho5 hp5 ⊢
        have q0 := hp5.cell 0; have q1 := hp5.cell 1; have q2 := hp5.cell 2; have q3 := hp5.cell 3; have q4 := hb5.cell 1
        simp only [List.getElem?_toArray, List.getElem?_cons_zero, List.getElem?_cons_succ] at q0 q1 q2 q3 q4
        go_still_tail 6, (by kernel_rfl)
        change wpList _ _ _ _ _ w5.drew
        go_wp2_with (first | (at_mapUpdate; refine wpList_mapUpdate_raw rfl _ _ _ _ rfl keyInt Try.underlying99 rfl (hM5.drew) p.id rfl _ rfl ?_; intro w7 hm7 hf7 hs7; clear hs7; have hb7 := Blk.fr (S := fun x => x = mb) hb5 hf7.undrew hnm; have hF7 := hF5.trans hf7.undrew; have ho7 := OwnS.fr (S := fun x => x = mb) ho5 hf7.undrew (fun k hk hkm => by have := hok k hk; omega)) | (at_builtin; go_must (refine wpList_append_S rfl (.tmp 42) (.tmp 46) _ rfl 108 i0 _ 2 16 Try.underlying104 hi hz0 hz1 hz2 rfl (ho7.alloc _) rfl (RdS.new' (by first | rfl | simp) 108 2 1 [.int .i64 p.id, .bool (p.bad t)] rfl 1 (Nat.le_refl _)) rfl (fun u hu => by simp at hu; rcases hu with rfl | rfl <;> rfl) (by simp only [maxLen]; omega) (by omega) ?_); intro v8 w8 hown8 hf8 hv8 hn8; obtain ⟨a8, c8, rfl, -⟩ := hown8.form))
        go_roundw
        case measure => simp only [intOf]; omega
        case rel =>
          obtain ⟨g1, g2⟩ := grow_step' hF7 hok hf8 hv8
          have hm8 : MapIs (Value.int .i64) w8 mb _ := (hm7.alloc _).fr hf8 (fun h => by have := hok mb h; omega)
          have hb8 : Blk w8 d 101 _ := (hb7.alloc _).fr hf8 (fun h => by
            have := hok d h
            omega)
          have hid : (chgP t p).id = p.id := rfl
          have hput := hR'.put_old hn (p := chgP t p) (q := p) hf
          rw [← chL_succ hG hp ht] at hput
          exact ⟨i + 1, rfl, by omega, by rw [hsucc]; simpa [List.flatMap_append, chCells] using hown8, g1, ⟨hb8, _, hm8, hput⟩, g2⟩
      · rw [if_neg hch] at hsucc
        have hst := chL_stay hp hch
        cases ht : timeI t with
        | true =>
          obtain rfl := hx ht
          have hbt : p.bad t = p.told := by
            have h1 : ¬ (p.bad t != p.told) = true := fun h => hch ⟨ht, h⟩
            simpa using h1
          rw [hbt]
          go_wp2_with (go_at_call 73; refine (time73 _ _).mono ?_; rintro e w4 ⟨rfl, rfl⟩; rw [ht])
          go_roundw
          case measure => simp only [intOf]; omega
          case rel => exact ⟨i + 1, rfl, by omega, by rw [hsucc]; exact ho3, hok, ⟨hb3, M, hM3, by rw [hst]; exact hR'⟩, hF3⟩
        | false =>
          go_wp2_with (go_at_call 73; refine (time73 _ _).mono ?_; rintro e w4 ⟨rfl, rfl⟩; rw [ht])
          go_roundw
          case measure => simp only [intOf]; omega
          case rel => exact ⟨i + 1, rfl, by omega, by rw [hsucc]; exact ho3, hok, ⟨hb3, M, hM3, by rw [hst]; exact hR'⟩, hF3⟩
    · obtain rfl : i = L.length := by omega
      go_wp2
      go_ret
      rw [chO_end] at ho
      rw [chL_end] at hIr
      exact ⟨_, rfl, ho, fun k hk => Nat.le_trans h3.size (hok k hk), hIr, (Fr.mono (S := fun _ => False) h3 (fun _ _ h => h.elim)).trans hS⟩
end Go.Proofs.Ytekiccbhjnfciaa
