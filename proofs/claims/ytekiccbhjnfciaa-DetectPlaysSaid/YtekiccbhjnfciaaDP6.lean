/- The program's failure detector: Suspects. -/
import Derived.Test.YtekiccbhjnfciaaDP5
namespace Go.Proofs.Ytekiccbhjnfciaa
open Go.RowKit

theorem info3 : (Try.prog.info? 3).map (fun i => (i.zero, i.size, i.bytes)) = some (some (.int .i64 0), 1, 8) := by kernel_rfl

theorem find_at {L : List PeerI} (hG : Good L) {i : Nat} {p : PeerI} (h : L[i]? = some p) : findP L p.id = some p := by
  obtain ⟨hi, he⟩ := List.getElem?_eq_some_iff.1 h
  unfold findP
  rw [List.find?_eq_some_iff_getElem]
  refine ⟨by simp, i, hi, he, fun j hj => ?_⟩
  have := (List.pairwise_iff_getElem.1 hG.sorted) j i (by omega) hi hj
  rw [he] at this
  simp
  omega

theorem grow_step {w1 w3 w4 : World} {o : Obj} {v v4 : Value} (hS : Same w1 w3) (hok : ∀ k, v.ownBlock = some k → w1.heap.size ≤ k) (hf : Fr (fun k => v.ownBlock = some k) (w3.alloc o) w4)
    (hv : v4.ownBlock = v.ownBlock ∨ v4.ownBlock = some (w3.alloc o).heap.size) : (∀ k, v4.ownBlock = some k → w1.heap.size ≤ k) ∧ Same w1 w4 := by
  refine ⟨fun k hk => ?_, Fr.trans' (S := fun _ => False) (Fr.alloc hS o) hf (fun _ h => h) (fun k hk h => by have := hok k h; omega)⟩
  rcases hv with h | h
  · exact hok k (by rw [← h]; exact hk)
  · rw [hk] at h
    have h1 := hS.size
    simp at h
    omega

def suspTo (L : List PeerI) (t : Int) (i : Nat) : List Int := suspI (L.take i) t
theorem suspTo_succ {L : List PeerI} {t : Int} {i : Nat} {p : PeerI} (h : L[i]? = some p) : suspTo L t (i + 1) = if timeI t = true ∧ p.bad t = true then suspTo L t i ++ [p.id] else suspTo L t i := by
  unfold suspTo suspI
  rw [List.take_add_one, h]
  cases timeI t <;> cases hb : p.bad t <;> simp [hb, List.filter_append]
theorem suspTo_len (L : List PeerI) (t : Int) (i : Nat) : (suspTo L t i).length ≤ L.length := by
  unfold suspTo suspI
  split
  · rw [List.length_map]
    exact Nat.le_trans (List.length_filter_le _ _) (by simp; omega)
  · simp

set_option maxRecDepth 100000 in
set_option maxHeartbeats 4000000 in
theorem susp40 (w : World) (d mb : Nat) (g : Int) (L : List PeerI) (t : Int) (hG : Good L) (hI : Imp w d mb g L) : Calls Try.prog 40 #[.pointer (some ⟨d, 0, none⟩), .int .i64 t] w fun e w' =>
    ∃ v, e = .returned v ∧ OwnS w' 3 1 v (suspI L t).length ((suspI L t).map (Value.int .i64)) ∧ (∀ k, v.ownBlock = some k → w.heap.size ≤ k) ∧ Same w w' := by
  obtain ⟨i0, hi, hz0, hz1, hz2⟩ := info_parts info3
  have hP := peers52 w d mb g L hG hI
  go_enter Try.func40, Try.ntmps40
  go_wp2_with (first | (go_at_call 52; refine hP.mono ?_; rintro e w1 ⟨v, rfl, h1, h2, h3⟩; obtain ⟨va, vc, rfl, hvc, -⟩ := h1.form))
  have hll := hG.len
  go_loopw [5, 11] (fun s5 s11 wr => ∃ (i : Nat), s11 = .int .i64 i ∧ i ≤ L.length ∧ OwnS wr 3 1 s5 (suspTo L t i).length ((suspTo L t i).map (Value.int .i64)) ∧ (∀ k, s5.ownBlock = some k → w1.heap.size ≤ k) ∧ Same w1 wr) (fun _ s11 _ => L.length - (intOf s11).toNat)
  case atStart => exact ⟨0, rfl, by omega, by simpa [suspTo, suspI] using OwnS.nil w1 3 1, fun k hk => (by cases hk), Same.refl _⟩
  case round =>
    obtain ⟨i, rfl, hil, ho, hok, hS⟩ := hrel
    by_cases hlt : i < L.length
    · obtain ⟨p, hp⟩ : ∃ p, L[i]? = some p := ⟨L[i], by simp [hlt]⟩
      have hIr := (hI.same h3).same hS
      have h1r := h1.same hS
      obtain ⟨hb, M, hM, hR⟩ := hIr
      have c1 : wr.cell? ⟨d, 1, none⟩ = some (.map (some mb)) := hb.cell 1
      have hget := hR.get hM.nodup p.id
      rw [find_at hG hp] at hget
      simp only [Option.map_some, PeerI.v] at hget
      have hBd := fun w => bad74 p t (hG.ok p (List.mem_of_getElem? hp)) w
      unfold PeerI.v at hBd
      have hne : 0 < L.length := by omega
      obtain ⟨ad, rfl⟩ : ∃ ad, va = some ad := by
        rcases h1.2 with ⟨h, h'⟩ | ⟨gg, o, cap, cur, h, -⟩
        · omega
        · injection h with h _ _; exact ⟨_, h⟩
      have hcell : wr.cell? (ad.add i) = some (.int .i64 p.id) := h1r.cells rfl i _ (by simp [hp])
      have hx1 : (i : Int) < (L.length : Int) := by omega
      have hx2 : (0 : Int) ≤ (i : Int) := by omega
      have hx3 : ((i : Int)).toNat = i := by omega
      have hlk : (Instr.lookup 99 (.map (some mb)) (.int .i64 p.id) false).run Try.prog wr = .ok (.agg #[.int .i64 p.last, .int .i64 p.mean, .int .i64 p.margin, .bool p.told]) wr := by
        have h := run_lookup_raw keyInt Try.underlying99 hM p.id (Try.zeroValue139 wr) false
        rw [hget] at h
        exact h
      have hlS : (suspTo L t i).length ≤ 12 := Nat.le_trans (suspTo_len L t i) hG.len
      have hsucc := suspTo_succ (t := t) hp
      obtain ⟨oa, oc, rfl, -⟩ := ho.form
      go_wp2_with (first | (go_at_call 73; refine (time73 _ _).mono ?_; rintro e w2 ⟨rfl, rfl⟩) | (go_at_call 74; refine (hBd _).mono ?_; rintro e w3 ⟨⟨x, rfl, hx⟩, h4⟩; obtain rfl : x = p.bad t := hx (by assumption); have ho3 := ho.same h4; have hS3 := hS.trans h4) | (at_builtin; go_must (refine wpList_append_S rfl (.tmp 27) (.tmp 29) _ rfl 3 i0 _ 1 8 Try.underlying95 hi hz0 hz1 hz2 rfl (ho3.alloc _) rfl (RdS.new' (by first | rfl | simp) 3 1 1 [.int .i64 p.id] rfl 1 (Nat.le_refl _)) rfl (by simp [Value.oneCell']) (by simp only [maxLen]; omega) (by omega) ?_); intro v4 w4 hown4 hf4 hv4 hn4; obtain ⟨a4, c4, rfl, -⟩ := hown4.form))
      all_goals go_roundw
      case measure => simp only [intOf]; omega
      case measure => simp only [intOf]; omega
      case measure => simp only [intOf]; omega
      · have hb1 : p.bad t = true := by assumption
        have ht1 : timeI t = true := by assumption
        rw [if_pos ⟨ht1, hb1⟩] at hsucc
        obtain ⟨g1, g2⟩ := grow_step hS3 hok hf4 hv4
        exact ⟨i + 1, rfl, by omega, by rw [hsucc]; simpa using hown4, g1, g2⟩
      · have hb1 : p.bad t = false := by assumption
        rw [if_neg (by simp [hb1])] at hsucc
        exact ⟨i + 1, rfl, by omega, by rw [hsucc]; exact ho3, hok, hS3⟩
      · have ht1 : ¬ timeI t = true := by assumption
        rw [if_neg (by simp [ht1])] at hsucc
        exact ⟨i + 1, rfl, by omega, by rw [hsucc]; exact ho, hok, hS⟩
    · obtain rfl : i = L.length := by omega
      go_wp2
      go_ret
      have e1 : suspTo L t L.length = suspI L t := by unfold suspTo; rw [List.take_length]
      rw [e1] at ho
      exact ⟨_, rfl, ho, fun k hk => Nat.le_trans h3.size (hok k hk), h3.trans hS⟩
end Go.Proofs.Ytekiccbhjnfciaa
