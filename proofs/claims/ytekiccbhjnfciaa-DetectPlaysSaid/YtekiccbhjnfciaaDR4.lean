/- The document's failure detector: Changes. -/
import Derived.Test.YtekiccbhjnfciaaDR3
import Derived.Test.YtekiccbhjnfciaaDP8
namespace Go.Proofs.Ytekiccbhjnfciaa
open Go.RowKit

theorem cells_told {L : List PeerI} {i : Nat} {p : PeerI} (hp : L[i]? = some p) (b : Bool) : (L.flatMap PeerI.cells).set (i * 5 + 4) (.bool b) = (L.set i { p with told := b }).flatMap PeerI.cells := by
  induction L generalizing i with
  | nil => simp at hp
  | cons q L ih =>
    cases i with
    | zero =>
      have : q = p := by simpa using hp
      subst this
      simp [PeerI.cells]
    | succ i =>
      have h := ih (i := i) (by simpa using hp)
      simp only [List.set_cons_succ, List.flatMap_cons]
      rw [← h]
      have e : (i + 1) * 5 + 4 = i * 5 + 4 + 1 + 1 + 1 + 1 + 1 := by omega
      simp only [PeerI.cells, List.cons_append, List.nil_append, e, List.set_cons_succ]

theorem told_mem {w : World} {B r gb o vc n : Nat} {g : Int} {L : List PeerI} {i : Nat} {p : PeerI} (hG : Good L) (hI : Refd w B r (.slice (some ⟨gb, o, none⟩) n vc) g L) (hn : n = L.length) (hp : L[i]? = some p) (b : Bool) :
    Refd (w.setCell ⟨gb, o + i * 5 + 4, none⟩ (.bool b)) B r (.slice (some ⟨gb, o, none⟩) n vc) g (setP L { p with told := b }) ∧ Fr (fun k => k = gb) w (w.setCell ⟨gb, o + i * 5 + 4, none⟩ (.bool b)) := by
  subst hn
  have h5 := hI.own.store (i * 5 + 4) (.bool b)
  rw [cells_told hp, ← setP_eq hG hp (q := { p with told := b }) rfl] at h5
  simp only [← Nat.add_assoc] at h5
  have hF := Fr.setCell (Fr.refl (fun k => k = gb) w) (p := ⟨gb, o + i * 5 + 4, none⟩) (.inl rfl) (.bool b)
  have hrg : gb ≠ r := fun h => hI.ne (by rw [h]; rfl)
  have hl5 : (setP L { p with told := b }).length = L.length := by simp [setP]
  exact ⟨⟨hI.blk.fr hF (fun h => hrg h.symm), by rw [hl5]; exact h5, hI.ge, hI.geo⟩, hF⟩

set_option maxRecDepth 100000 in
set_option maxHeartbeats 8000000 in
theorem changes51 (w : World) (B r : Nat) (v : Value) (g : Int) (L : List PeerI) (t : Int) (hG : Good L) (hI : Refd w B r v g L) : Calls Try.prog 51 #[.pointer (some ⟨r, 0, none⟩), .int .i64 t] w fun e w' =>
    (∃ u, e = .returned u ∧ OwnS w' 108 2 u (changesI L t).1.length ((changesI L t).1.flatMap chCells) ∧ (∀ k, u.ownBlock = some k → w.heap.size ≤ k)) ∧ Refd w' B r v g (changesI L t).2 ∧ Fr (RS w B) w w' := by
  obtain ⟨i0, hi, hz0, hz1, hz2⟩ := info_parts info108
  have c1 : w.cell? ⟨r, 1, none⟩ = some v := hI.blk.cell 1
  obtain ⟨va, vc, hv, hvc, -⟩ := hI.own.form
  subst hv
  have hll := hG.len
  cases ht : timeI t with
  | false =>
    have e1 : changesI L t = ([], L) := by simp [changesI, ht]
    rw [e1]
    go_enter Try.func51, Try.ntmps51
    go_wp2_with (go_at_call 77; refine (time77 _ _).mono ?_; rintro e w4 ⟨rfl, rfl⟩; rw [ht])
    refine wp_loop_rounds 1 ?_
    rw [rounds_succ]
    by_cases h0 : 0 < L.length
    · have h0' : (0 : Int) < (L.length : Int) := by omega
      go_wp2
      go_ret
      exact ⟨⟨_, rfl, OwnS.nil _ _ _, fun k hk => (by cases hk)⟩, hI, Fr.refl _ _⟩
    · have h0' : ¬ (0 : Int) < (L.length : Int) := by omega
      go_wp2
      go_ret
      exact ⟨⟨_, rfl, OwnS.nil _ _ _, fun k hk => (by cases hk)⟩, hI, Fr.refl _ _⟩
  | true =>
    have ⟨ht0, ht1⟩ : 0 ≤ t ∧ t ≤ 1099511627776 := by simpa [timeI] using ht
    go_enter Try.func51, Try.ntmps51
    go_wp2_with (go_at_call 77; refine (time77 _ _).mono ?_; rintro e w4 ⟨rfl, rfl⟩; rw [ht])
    have hro : ∀ k, (Value.slice va L.length vc).ownBlock = some k → k < w4.heap.size := fun k hk => hI.own.lt hk
    have hrr : r < w4.heap.size := hI.blk.lt
    go_loopw [5, 7] (fun s5 s7 wr => ∃ (i : Nat), s7 = .int .i64 i ∧ i ≤ L.length ∧ OwnS wr 108 2 s5 (chO L t i).length ((chO L t i).flatMap chCells) ∧ (∀ k, s5.ownBlock = some k → w4.heap.size ≤ k) ∧ Refd wr B r (.slice va L.length vc) g (chL L t i) ∧ Fr (RS w4 B) w4 wr) (fun _ s7 _ => L.length - (intOf s7).toNat)
    case atStart => exact ⟨0, rfl, by omega, by simpa [chO, changesI] using OwnS.nil w4 108 2, fun k hk => (by cases hk), by rw [chL_zero]; exact hI, Fr.refl _ _⟩
    case round =>
      obtain ⟨i, rfl, hil, ho, hok, hIr, hS⟩ := hrel
      have c1 : wr.cell? ⟨r, 1, none⟩ = some (.slice va L.length vc) := hIr.blk.cell 1
      by_cases hlt : i < L.length
      · obtain ⟨p, hp⟩ : ∃ p, L[i]? = some p := ⟨L[i], by simp [hlt]⟩
        obtain ⟨gb, o, cap, hv, k0, k1, k2, k3, k4, kf⟩ := hIr.cells (chL_at (t := t) hp)
        injection hv with hv1 hv2 hv3
        subst hv1
        have hx1 : (i : Int) < (L.length : Int) := by omega
        have hBd := fun w => bad80 p t (hG.ok p (List.mem_of_getElem? hp)) ht0 ht1 w
        unfold PeerI.cells at hBd
        have hlS : (chO L t i).length ≤ 12 := Nat.le_trans (chO_len L t i) hG.len
        have hsucc := chO_succ (t := t) hp
        obtain ⟨oa, oc, rfl, -⟩ := ho.form
        go_upto_region 7 with (first | (go_at_call 80; refine (hBd _).mono ?_; rintro e w3 ⟨rfl, h4⟩; have ho3 := ho.same h4; have hS3 := hS.trans (h4.fr _); have hI3 := hIr.same h4))
        obtain ⟨gb', o', cap', hv', k0, k1, k2, k3, k4, kf⟩ := hI3.cells (chL_at (t := t) hp)
        injection hv' with hv1' hv2' hv3'
        cases hv1'
        have c1 : w3.cell? ⟨r, 1, none⟩ = some (.slice (some ⟨gb, o, none⟩) L.length vc) := hI3.blk.cell 1
        by_cases hch : (p.bad t != p.told) = true
        · rw [if_pos ⟨ht, hch⟩] at hsucc
          have hch' : (p.bad t == p.told) = false := by simpa using hch
          go_upto_region 9 with fail
          obtain ⟨hI5, hF5⟩ := told_mem (chL_good hG t i) hI3 (chL_length L t i).symm (chL_at (t := t) hp) (p.bad t)
          have hq : setP (chL L t i) { p with told := p.bad t } = chL L t (i + 1) := (chL_succ hG hp ht).symm
          rw [hq] at hI5
          have hRS : RS w4 B gb := ⟨hI.geo _ rfl, by
            rcases hI.own.2 with ⟨h, _⟩ | ⟨g1, o1, cap1, cur1, h, h2, _⟩
            · cases h
            · cases h; exact ⟨_, _, _, h2, .inr rfl⟩⟩
          have hS5 : Fr (RS w4 B) w4 (w3.setCell ⟨gb, o + i * 5 + 4, none⟩ (.bool (p.bad t))) := hS3.trans' hF5 (fun _ h => h) (fun k _ h => by subst h; exact hRS)
          have ho5 := ho3.fr hF5 (fun k hk h => by
            subst h
            have h1 := hok _ hk
            have h2 : k < w4.heap.size := hro _ rfl
            omega)
          have k0 : (w3.setCell ⟨gb, o + i * 5 + 4, none⟩ (.bool (p.bad t))).cell? ⟨gb, o + i * 5, none⟩ = some (.int .i64 p.id) := by
            rw [World.cell?_setCell_other _ _ _ _ (by intro e; simp only [Addr.mk.injEq] at e; omega)]; exact k0
          clear k1 k2 k3 k4 kf hS3 hF5 ho3 hI3 c1
          generalize w3.setCell ⟨gb, o + i * 5 + 4, none⟩ (.bool (p.bad t)) = w5 at hI5 hS5 ho5 k0 ⊢
          have c1 : w5.cell? ⟨r, 1, none⟩ = some (.slice (some ⟨gb, o, none⟩) L.length vc) := hI5.blk.cell 1
          go_wp2_with (at_builtin; go_must (refine wpList_append_S rfl (.tmp 50) (.tmp 61) _ rfl 108 i0 _ 2 16 Try.underlying104 hi hz0 hz1 hz2 rfl (ho5.alloc _) rfl (RdS.new' (by first | rfl | simp) 108 2 1 [.int .i64 p.id, .bool (p.bad t)] rfl 1 (Nat.le_refl _)) rfl (fun u hu => by simp at hu; rcases hu with rfl | rfl <;> rfl) (by simp only [maxLen]; omega) (by omega) ?_); intro v8 w8 hown8 hf8 hv8 hn8; obtain ⟨a8, c8, rfl, -⟩ := hown8.form)
          go_roundw
          case measure => simp only [intOf]; omega
          case rel =>
            obtain ⟨g1, g2⟩ := grow_step' hS5 hok hf8 hv8
            have hI8 : Refd w8 B r (.slice (some ⟨gb, o, none⟩) L.length vc) g (chL L t (i + 1)) := (hI5.same ((Same.refl _).alloc _)).fr hf8 (fun h => by have := hok r h; omega) (fun k hk h => by have := hok k h; have := hro k hk; omega)
            exact ⟨i + 1, rfl, by omega, by rw [hsucc]; simpa [List.flatMap_append, chCells] using hown8, g1, hI8, g2⟩
        · rw [if_neg (fun h => hch h.2)] at hsucc
          have hst := chL_stay hp (fun h => hch h.2)
          have hbt : p.bad t = p.told := by simpa using hch
          rw [hbt]
          go_wp2_with fail
          go_roundw
          case measure => simp only [intOf]; omega
          case rel => exact ⟨i + 1, rfl, by omega, by rw [hsucc]; exact ho3, hok, by rw [hst]; exact hI3, hS3⟩
      · obtain rfl : i = L.length := by omega
        go_wp2
        go_ret
        rw [chO_end] at ho
        rw [chL_end] at hIr
        exact ⟨⟨_, rfl, ho, hok⟩, hIr, hS⟩
end Go.Proofs.Ytekiccbhjnfciaa
