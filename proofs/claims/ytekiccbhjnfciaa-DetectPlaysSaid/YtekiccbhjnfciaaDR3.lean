/- The document's failure detector: Beat. -/
import Derived.Test.YtekiccbhjnfciaaDR2
import Derived.Test.YtekiccbhjnfciaaQTail
namespace Go.Proofs.Ytekiccbhjnfciaa
open Go.RowKit

theorem cells_set (L : List PeerI) (i : Nat) (hi : i < L.length) (q : PeerI) :
    ((((((L.flatMap PeerI.cells).set (i * 5) (.int .i64 q.id)).set (i * 5 + 1) (.int .i64 q.last)).set (i * 5 + 2) (.int .i64 q.mean)).set (i * 5 + 3) (.int .i64 q.margin)).set (i * 5 + 4) (.bool q.told)) = (L.set i q).flatMap PeerI.cells := by
  induction L generalizing i with
  | nil => simp at hi
  | cons p L ih =>
    cases i with
    | zero => simp [PeerI.cells]
    | succ i =>
      have h := ih i (by simpa using hi)
      simp only [List.set_cons_succ, List.flatMap_cons]
      rw [← h]
      have e0 : (i + 1) * 5 = i * 5 + 1 + 1 + 1 + 1 + 1 := by omega
      simp only [PeerI.cells, List.cons_append, List.nil_append, e0, List.set_cons_succ]
theorem setP_eq {L : List PeerI} (hG : Good L) {i : Nat} {p q : PeerI} (hp : L[i]? = some p) (hq : q.id = p.id) : setP L q = L.set i q := by
  apply List.ext_getElem?
  intro j
  unfold setP
  rw [List.getElem?_map, List.getElem?_set]
  obtain ⟨hi, he⟩ := List.getElem?_eq_some_iff.1 hp
  by_cases hij : i = j
  · subst hij
    rw [hp, if_pos rfl, if_pos hi]
    simp [hq]
  · rw [if_neg hij]
    cases hx : L[j]? with
    | none => rfl
    | some x =>
      obtain ⟨hj, hxe⟩ := List.getElem?_eq_some_iff.1 hx
      have hne : ¬ x.id = q.id := by
        rw [hq]
        rcases Nat.lt_or_ge j i with h2 | h2
        · have := (List.pairwise_iff_getElem.1 hG.sorted) j i hj hi h2
          rw [he, hxe] at this
          omega
        · have := (List.pairwise_iff_getElem.1 hG.sorted) i j hi hj (by omega)
          rw [he, hxe] at this
          omega
      simp [hne]

theorem beat_mem {w4 wc : World} {B r gb o vc : Nat} {g : Int} {L : List PeerI} {i : Nat} {p q : PeerI} (hG : Good L) (hI : Refd w4 B r (.slice (some ⟨gb, o, none⟩) L.length vc) g L) (hp : L[i]? = some p) (hil : i < L.length) (hS : Same w4 wc) (hq : q.id = p.id) :
    Refd (((((wc.setCell ⟨gb, o + i * 5, none⟩ (.int .i64 q.id)).setCell ⟨gb, o + i * 5 + 1, none⟩ (.int .i64 q.last)).setCell ⟨gb, o + i * 5 + 2, none⟩ (.int .i64 q.mean)).setCell ⟨gb, o + i * 5 + 3, none⟩ (.int .i64 q.margin)).setCell ⟨gb, o + i * 5 + 4, none⟩ (.bool q.told)).drew B r (.slice (some ⟨gb, o, none⟩) L.length vc) g (setP L q) ∧
    Fr (RS w4 B) w4 (((((wc.setCell ⟨gb, o + i * 5, none⟩ (.int .i64 q.id)).setCell ⟨gb, o + i * 5 + 1, none⟩ (.int .i64 q.last)).setCell ⟨gb, o + i * 5 + 2, none⟩ (.int .i64 q.mean)).setCell ⟨gb, o + i * 5 + 3, none⟩ (.int .i64 q.margin)).setCell ⟨gb, o + i * 5 + 4, none⟩ (.bool q.told)).drew := by
  have ho : OwnS wc 111 5 (.slice (some ⟨gb, o, none⟩) L.length vc) L.length (L.flatMap PeerI.cells) := hI.own.same hS
  have h5 := ((((ho.store (i * 5) (.int .i64 q.id)).store (i * 5 + 1) (.int .i64 q.last)).store (i * 5 + 2) (.int .i64 q.mean)).store (i * 5 + 3) (.int .i64 q.margin)).store (i * 5 + 4) (.bool q.told)
  rw [cells_set L i hil q, ← setP_eq hG hp hq] at h5
  simp only [← Nat.add_assoc] at h5
  have hb : Blk wc r 34 #[.int .i64 g, .slice (some ⟨gb, o, none⟩) L.length vc] := hI.blk.same hS
  have hF := ((((Fr.setCell (Fr.refl (fun k => k = gb) wc) (p := ⟨gb, o + i * 5, none⟩) (.inl rfl) (.int .i64 q.id)).setCell (p := ⟨gb, o + i * 5 + 1, none⟩) (.inl rfl) (.int .i64 q.last)).setCell (p := ⟨gb, o + i * 5 + 2, none⟩) (.inl rfl) (.int .i64 q.mean)).setCell (p := ⟨gb, o + i * 5 + 3, none⟩) (.inl rfl) (.int .i64 q.margin)).setCell (p := ⟨gb, o + i * 5 + 4, none⟩) (.inl rfl) (.bool q.told)
  generalize ((((wc.setCell ⟨gb, o + i * 5, none⟩ (.int .i64 q.id)).setCell ⟨gb, o + i * 5 + 1, none⟩ (.int .i64 q.last)).setCell ⟨gb, o + i * 5 + 2, none⟩ (.int .i64 q.mean)).setCell ⟨gb, o + i * 5 + 3, none⟩ (.int .i64 q.margin)).setCell ⟨gb, o + i * 5 + 4, none⟩ (.bool q.told) = W at h5 hF ⊢
  have hrg : gb ≠ r := fun h => hI.ne (by rw [h]; rfl)
  have hl5 : (setP L q).length = L.length := by simp [setP]
  refine ⟨⟨(hb.fr hF (fun h => hrg h.symm)).drew, ?_, hI.ge, hI.geo⟩, Fr.drew (Fr.trans' (S := fun _ => False) hS hF (fun _ h => h.elim) (fun k _ hk => ?_))⟩
  · rw [hl5]
    exact h5.drew
  · subst hk
    rcases hI.own.2 with ⟨h, _⟩ | ⟨g1, o1, cap1, cur1, h, h2, _⟩
    · cases h
    · cases h
      exact ⟨hI.geo _ rfl, _, _, _, h2, .inr rfl⟩

set_option maxRecDepth 100000 in
set_option maxHeartbeats 8000000 in
theorem beat46 (w : World) (B r : Nat) (v : Value) (g : Int) (L : List PeerI) (id t : Int) (hG : Good L) (hI : Refd w B r v g L) : Calls Try.prog 46 #[.pointer (some ⟨r, 0, none⟩), .int .i64 id, .int .i64 t] w fun e w' =>
    e = .returned (.int .i64 (beatI L id t).1) ∧ Refd w' B r v g (beatI L id t).2 ∧ Fr (RS w B) w w' := by
  have hpl := place78 w B r v g L id hG.len hI
  have c1 : w.cell? ⟨r, 1, none⟩ = some v := hI.blk.cell 1
  obtain ⟨va, vc, hv, hvc, -⟩ := hI.own.form
  subst hv
  have hll := hG.len
  cases hf : findP L id with
  | none =>
    obtain ⟨hpi, -⟩ := place_none hf
    have e1 : beatI L id t = (92, L) := by simp [beatI, hf]
    rw [e1]
    rw [hpi] at hpl
    go_enter Try.func46, Try.ntmps46
    go_wp2_with (go_at_call 78; refine hpl.mono ?_; rintro e w' ⟨rfl, rfl⟩)
    go_ret
    exact ⟨rfl, hI, Fr.refl _ _⟩
  | some p =>
    obtain ⟨i, hp, hpi, hid, -⟩ := place_some hf
    rw [hpi] at hpl
    subst hid
    obtain ⟨hil, -⟩ := List.getElem?_eq_some_iff.1 hp
    have hx1 : (i : Int) < (L.length : Int) := by omega
    have hx2 : (0 : Int) ≤ (i : Int) := by omega
    cases ht : timeI t with
    | false =>
      have e1 : beatI L p.id t = (1, L) := by simp [beatI, hf, ht]
      rw [e1]
      go_enter Try.func46, Try.ntmps46
      go_wp2_with (first | (go_at_call 78; refine hpl.mono ?_; rintro e w' ⟨rfl, rfl⟩) | (go_at_call 77; refine (time77 _ _).mono ?_; rintro e w4 ⟨rfl, rfl⟩; rw [ht]))
      go_ret
      exact ⟨rfl, hI, Fr.refl _ _⟩
    | true =>
      have e1 : beatI L p.id t = (0, setP L (p.beat t)) := by simp [beatI, hf, ht]
      rw [e1]
      have ⟨ht0, ht1⟩ : 0 ≤ t ∧ t ≤ 1099511627776 := by simpa [timeI] using ht
      have hok := hG.ok p (findP_id hf).2
      have hSi := fun w => silent79 p t hok ht0 ht1 w
      have hWa := fun w => wait53 p w
      unfold PeerI.cells at hSi hWa
      obtain ⟨gb, o, cap, hv, k0, k1, k2, k3, k4, kf⟩ := hI.cells hp
      injection hv with hv1 hv2 hv3
      subst hv1
      subst hv3
      have hp0 := Blk.new w 111 #[.int .i64 p.id, .int .i64 p.last, .int .i64 p.mean, .int .i64 p.margin, .bool p.told]
      have hS0 : Same w (w.alloc (.cells #[.int .i64 p.id, .int .i64 p.last, .int .i64 p.mean, .int .i64 p.margin, .bool p.told] 111)) := (Same.refl _).alloc _
      go_enter Try.func46, Try.ntmps46
      go_upto_region 8 with (first | (go_at_call 78; refine hpl.mono ?_; rintro e w' ⟨rfl, rfl⟩) | (go_at_call 77; refine (time77 _ _).mono ?_; rintro e w4 ⟨rfl, rfl⟩; rw [ht]))
      obtain ⟨b, hbe⟩ : ∃ b, b = w4.heap.size := ⟨_, rfl⟩
      rw [← hbe] at hp0 ⊢
      have hnew : w4.heap.size ≤ b := by omega
      have hgb : gb < w4.heap.size := World.block_lt_of_cell? _ _ k0
      clear hbe hpl hf
      generalize w4.alloc (.cells #[.int .i64 p.id, .int .i64 p.last, .int .i64 p.mean, .int .i64 p.margin, .bool p.told] 111) = w5 at hp0 hS0 ⊢
      have q0 := hp0.cell 0; have q1 := hp0.cell 1; have q2 := hp0.cell 2; have q3 := hp0.cell 3; have q4 := hp0.cell 4; simp only [List.getElem?_toArray, List.getElem?_cons_zero, List.getElem?_cons_succ] at q0 q1 q2 q3 q4
      go_upto_if 33 with (first | (go_at_call 79; refine (hSi _).mono ?_; rintro e w6 ⟨rfl, h6⟩; have hp6 := hp0.same h6; have hS6 := hS0.trans h6; have q0 := hp6.cell 0; have q1 := hp6.cell 1; have q2 := hp6.cell 2; have q3 := hp6.cell 3; have q4 := hp6.cell 4; simp only [List.getElem?_toArray, List.getElem?_cons_zero, List.getElem?_cons_succ] at q0 q1 q2 q3 q4) | (go_at_call 53; refine (hWa _).mono ?_; rintro e w7 ⟨rfl, h7⟩; have hp7 := hp6.same h7; have hS7 := hS6.trans h7))
      clear q0 q1 q2 q3 q4
      clear q0 q1 q2 q3 q4 h6 hp6 hS6 h7 hp0 hS0
      have q0 := hp7.cell 0; have q1 := hp7.cell 1; have q2 := hp7.cell 2; have q3 := hp7.cell 3; have q4 := hp7.cell 4; simp only [List.getElem?_toArray, List.getElem?_cons_zero, List.getElem?_cons_succ] at q0 q1 q2 q3 q4
      have r3 := hp7.frozen 3
      have hbd : p.bad t = decide (p.wait < p.sil t) := rfl
      go_cut [] (fun wx => Same w4 wx ∧ Blk wx b 111 #[.int .i64 p.id, .int .i64 p.last, .int .i64 p.mean, .int .i64 (p.beat t).margin, .bool p.told])
      case first =>
        clear hSi hWa hG hI
        go_wp2_with fail
        all_goals go_meet
        · have hb1 : p.bad t = true := by rw [hbd]; exact decide_eq_true (by assumption)
          have hm : 4096 < wrap64 (2 * p.margin) := by assumption
          have e2 : (p.beat t).margin = 4096 := by simp only [PeerI.beat, hb1, if_true]; rw [if_pos hm]
          have h := (hp7.set_ 3 (.int .i64 (wrap64 (2 * p.margin)))).set_ 3 (.int .i64 4096)
          rw [e2]
          exact ⟨Fr.setCell (S := fun _ => False) (Fr.setCell (S := fun _ => False) hS7 (.inr hnew) _) (.inr hnew) _, by simpa using h⟩
        · have hb1 : p.bad t = true := by rw [hbd]; exact decide_eq_true (by assumption)
          have hm : wrap64 (2 * p.margin) ≤ 4096 := by assumption
          have e2 : (p.beat t).margin = wrap64 (2 * p.margin) := by simp only [PeerI.beat, hb1, if_true]; rw [if_neg (by omega)]
          have h := hp7.set_ 3 (.int .i64 (wrap64 (2 * p.margin)))
          rw [e2]
          exact ⟨Fr.setCell (S := fun _ => False) hS7 (.inr hnew) _, by simpa using h⟩
        · have hle : p.sil t ≤ p.wait := by assumption
          have hb1 : p.bad t = false := by rw [hbd]; exact decide_eq_false (by omega)
          have e2 : (p.beat t).margin = p.margin := by simp [PeerI.beat, hb1]
          rw [e2]
          exact ⟨hS7, hp7⟩
      case rest =>
        obtain ⟨hS8, hp8⟩ := hcut
        clear hS7 hp7 q0 q1 q2 q3 q4 r3 hbd hSi hWa
        go_upto_if 43 with fail
        go_cut [10] (fun s10 wx => wx = wc ∧ s10 = .int .i64 (min (p.sil t) 4096))
        case first =>
          go_wp2_with fail
          all_goals go_meet
          · have : 4096 < p.sil t := by assumption
            exact ⟨rfl, by congr 1; omega⟩
          · have : p.sil t ≤ 4096 := by assumption
            exact ⟨rfl, by congr 1; omega⟩
        case rest =>
          rename_i wc2 _
          obtain ⟨rfl, rfl⟩ := hcut
          have q0 := hp8.cell 0; have q1 := hp8.cell 1; have q2 := hp8.cell 2; have q3 := hp8.cell 3; have q4 := hp8.cell 4; simp only [List.getElem?_toArray, List.getElem?_cons_zero, List.getElem?_cons_succ] at q0 q1 q2 q3 q4
          have r2 := hp8.frozen 2
          go_upto_region 16 with fail
          have e3 : (p.beat t).mean = wrap64 (wrap64 (p.mean + min (p.sil t) 4096) - wrap64 (p.mean.tdiv 8)) := by
            simp only [PeerI.beat]
            have : (if p.sil t > 4096 then 4096 else p.sil t) = min (p.sil t) 4096 := by split <;> omega
            rw [this]
          rw [← e3]
          have hS9 : Same w4 _ := Fr.setCell (S := fun _ => False) hS8 (p := ⟨b, 2, none⟩) (.inr hnew) (.int .i64 (p.beat t).mean)
          have hp9 : Blk (World.setCell wc ⟨b, 2, none⟩ (.int .i64 (p.beat t).mean)) b 111 #[.int .i64 p.id, .int .i64 p.last, .int .i64 (p.beat t).mean, .int .i64 (p.beat t).margin, .bool p.told] := by
            have h := hp8.set_ 2 (.int .i64 (p.beat t).mean)
            simpa using h
          clear hS8 hp8 q0 q1 q2 q3 q4 r2 e3
          obtain ⟨w9, hw9⟩ : ∃ w9, w9 = World.setCell wc ⟨b, 2, none⟩ (.int .i64 (p.beat t).mean) := ⟨_, rfl⟩
          rw [← hw9] at hS9 hp9 ⊢
          clear hw9
          have q0 := hp9.cell 0; have q1 := hp9.cell 1; have q2 := hp9.cell 2; have q3 := hp9.cell 3; have q4 := hp9.cell 4; simp only [List.getElem?_toArray, List.getElem?_cons_zero, List.getElem?_cons_succ] at q0 q1 q2 q3 q4
          have r1 := hp9.frozen 1
          go_upto_if 56 with fail
          go_cut [] (fun wx => Same w4 wx ∧ Blk wx b 111 (p.beat t).cells.toArray)
          case first =>
            clear hG hI
            go_wp2_with fail
            all_goals go_meet
            · have hlt : p.last < t := by assumption
              have e2 : (p.beat t).last = t := by simp only [PeerI.beat]; rw [if_pos hlt]
              have h := hp9.set_ 1 (.int .i64 t)
              refine ⟨Fr.setCell (S := fun _ => False) hS9 (.inr hnew) _, ?_⟩
              unfold PeerI.cells
              rw [e2]
              simpa [show (p.beat t).id = p.id from rfl, show (p.beat t).told = p.told from rfl] using h
            · have hle : t ≤ p.last := by assumption
              have e2 : (p.beat t).last = p.last := by simp only [PeerI.beat]; rw [if_neg (by omega)]
              refine ⟨hS9, ?_⟩
              unfold PeerI.cells
              rw [e2]
              exact hp9
          case rest =>
            obtain ⟨hS10, hp10⟩ := hcut
            clear hS9 hp9 q0 q1 q2 q3 q4 r1
            unfold PeerI.cells at hp10
            have q0 := hp10.cell 0; have q1 := hp10.cell 1; have q2 := hp10.cell 2; have q3 := hp10.cell 3; have q4 := hp10.cell 4; simp only [List.getElem?_toArray, List.getElem?_cons_zero, List.getElem?_cons_succ] at q0 q1 q2 q3 q4
            go_wp2_with fail
            have k0' := (Fr.cell (S := fun _ => False) (p := ⟨gb, o + i * 5, none⟩) hS10 hgb (fun h => h)).trans k0
            have k1' := (Fr.cell (S := fun _ => False) (p := ⟨gb, o + i * 5 + 1, none⟩) hS10 hgb (fun h => h)).trans k1
            have k2' := (Fr.cell (S := fun _ => False) (p := ⟨gb, o + i * 5 + 2, none⟩) hS10 hgb (fun h => h)).trans k2
            have k3' := (Fr.cell (S := fun _ => False) (p := ⟨gb, o + i * 5 + 3, none⟩) hS10 hgb (fun h => h)).trans k3
            have k4' := (Fr.cell (S := fun _ => False) (p := ⟨gb, o + i * 5 + 4, none⟩) hS10 hgb (fun h => h)).trans k4
            have kf' : ∀ j, wc.frozen? ⟨gb, j, none⟩ = false := fun j => (Fr.frozen (S := fun _ => False) (p := ⟨gb, j, none⟩) hS10 hgb (fun h => h)).trans (kf j)
            have c1' : wc.cell? ⟨r, 1, none⟩ = some (.slice (some ⟨gb, o, none⟩) L.length vc) := (Fr.cell (S := fun _ => False) (p := ⟨r, 1, none⟩) hS10 hI.blk.lt (fun h => h)).trans c1
            go_still_tail 7, (by kernel_rfl)
            change wpList _ _ _ _ _ (World.drew _)
            go_wp2_with fail
            go_ret
            exact ⟨rfl, beat_mem hG hI hp hil hS10 (q := p.beat t) rfl⟩
end Go.Proofs.Ytekiccbhjnfciaa
