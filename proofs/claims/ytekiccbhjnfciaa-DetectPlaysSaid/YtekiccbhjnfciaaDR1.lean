/- The document's failure detector: what it is in memory; Place, Leave, Suspects. -/
import Derived.Test.YtekiccbhjnfciaaDP6
namespace Go.Proofs.Ytekiccbhjnfciaa
open Go.RowKit

structure Refd (w : World) (B r : Nat) (v : Value) (g : Int) (L : List PeerI) : Prop where
  blk : Blk w r 34 #[.int .i64 g, v]
  own : OwnS w 111 5 v L.length (L.flatMap PeerI.cells)
  ge : B ≤ r
  geo : ∀ k, v.ownBlock = some k → B ≤ k
section
variable {w w' : World} {B r : Nat} {v : Value} {g : Int} {L : List PeerI}
theorem Refd.fr {S : Nat → Prop} (h : Refd w B r v g L) (hf : Fr S w w') (h1 : ¬ S r) (h2 : ∀ k, v.ownBlock = some k → ¬ S k) : Refd w' B r v g L :=
  ⟨h.blk.fr hf h1, h.own.fr hf h2, h.ge, h.geo⟩
theorem Refd.same (h : Refd w B r v g L) (hf : Same w w') : Refd w' B r v g L := Refd.fr (S := fun _ => False) h hf (fun h => h) (fun _ _ h => h)
theorem Refd.ne (h : Refd w B r v g L) : v.ownBlock ≠ some r := h.own.ne_blk h.blk (by decide)
end
/-- what the document's detector may change -/
def RS (w : World) (B k : Nat) : Prop := B ≤ k ∧ ∃ cs ty fz, w.heap[k]? = some (.cells cs ty fz) ∧ (ty = 34 ∨ ty = 111)

def placeI (L : List PeerI) (id : Int) : Int := match L.findIdx? (fun p => decide (p.id = id)) with | some i => (i : Nat) | none => -1
theorem place_some {L : List PeerI} {id : Int} {p : PeerI} (h : findP L id = some p) : ∃ i, L[i]? = some p ∧ placeI L id = (i : Nat) ∧ p.id = id ∧ (∀ j q, j < i → L[j]? = some q → q.id ≠ id) := by
  obtain ⟨i, hi, he, hj⟩ : ∃ i, ∃ (hi : i < L.length), L[i] = p ∧ ∀ j, (hj : j < i) → (L[j]'(by omega)).id ≠ id := by
    unfold findP at h
    obtain ⟨_, i, hi, he, hj⟩ := List.find?_eq_some_iff_getElem.1 h
    exact ⟨i, hi, he, fun j hj' => by simpa using hj j hj'⟩
  have hid := (findP_id h).1
  refine ⟨i, by simp [hi, he], ?_, hid, fun j q hji hq => ?_⟩
  · have : L.findIdx? (fun p => decide (p.id = id)) = some i := by
      rw [List.findIdx?_eq_some_iff_getElem]
      exact ⟨hi, by simp [he, hid], fun j hj' => by simpa using hj j hj'⟩
    simp [placeI, this]
  · obtain ⟨h1, h2⟩ := List.getElem?_eq_some_iff.1 hq
    rw [← h2]
    exact hj j hji
theorem place_none {L : List PeerI} {id : Int} (h : findP L id = none) : placeI L id = -1 ∧ ∀ p ∈ L, p.id ≠ id := by
  have h1 : ∀ p ∈ L, p.id ≠ id := fun p hp => by simpa [findP] using List.find?_eq_none.1 h p hp
  refine ⟨?_, h1⟩
  have : L.findIdx? (fun p => decide (p.id = id)) = none := by
    rw [List.findIdx?_eq_none_iff]
    intro p hp
    simpa using h1 p hp
  simp [placeI, this]

theorem flat_get {L : List PeerI} {i : Nat} {p : PeerI} (h : L[i]? = some p) (j : Nat) (u : Value) (hj : p.cells[j]? = some u) : (L.flatMap PeerI.cells)[i * 5 + j]? = some u := by
  induction L generalizing i with
  | nil => simp at h
  | cons q L ih =>
    have hq : q.cells.length = 5 := rfl
    have hj5 : j < 5 := by
      have := (List.getElem?_eq_some_iff.1 hj).1
      exact this
    cases i with
    | zero =>
      have : q = p := by simpa using h
      subst this
      rw [List.flatMap_cons, List.getElem?_append_left (by omega)]
      simpa using hj
    | succ i =>
      rw [List.flatMap_cons, List.getElem?_append_right (by omega)]
      have := ih (i := i) (by simpa using h)
      rw [hq, show (i + 1) * 5 + j - 5 = i * 5 + j by omega]
      exact this

/-- a node's cells -/
theorem Refd.cells {w : World} {B r : Nat} {v : Value} {g : Int} {L : List PeerI} (h : Refd w B r v g L) {i : Nat} {p : PeerI} (hp : L[i]? = some p) :
    ∃ gb o cap, v = .slice (some ⟨gb, o, none⟩) L.length cap ∧ w.cell? ⟨gb, o + i * 5, none⟩ = some (.int .i64 p.id) ∧ w.cell? ⟨gb, o + i * 5 + 1, none⟩ = some (.int .i64 p.last) ∧ w.cell? ⟨gb, o + i * 5 + 2, none⟩ = some (.int .i64 p.mean) ∧
      w.cell? ⟨gb, o + i * 5 + 3, none⟩ = some (.int .i64 p.margin) ∧ w.cell? ⟨gb, o + i * 5 + 4, none⟩ = some (.bool p.told) ∧ (∀ j, w.frozen? ⟨gb, j, none⟩ = false) := by
  have hi := (List.getElem?_eq_some_iff.1 hp).1
  rcases h.own.2 with ⟨_, h'⟩ | ⟨gb, o, cap, cur, hv, _⟩
  · omega
  · refine ⟨gb, o, cap, hv, ?_⟩
    have hc : ∀ j u, p.cells[j]? = some u → w.cell? ⟨gb, o + i * 5 + j, none⟩ = some u := fun j u hj => by
      have := h.own.cells hv _ u (flat_get hp j u hj)
      rw [add_at] at this
      rw [show o + i * 5 + j = o + (i * 5 + j) by omega]
      exact this
    have ho := h.own
    rw [hv] at ho
    exact ⟨hc 0 _ rfl, hc 1 _ rfl, hc 2 _ rfl, hc 3 _ rfl, hc 4 _ rfl, fun j => OwnS.frozen ho j⟩

theorem place78 (w : World) (B r : Nat) (v : Value) (g : Int) (L : List PeerI) (id : Int) (hl : L.length ≤ 12) (h : Refd w B r v g L) : Calls Try.prog 78 #[.pointer (some ⟨r, 0, none⟩), .int .i64 id] w fun e w' =>
    e = .returned (.int .i64 (placeI L id)) ∧ w' = w := by
  have c1 : w.cell? ⟨r, 1, none⟩ = some v := h.blk.cell 1
  obtain ⟨va, vc, hv, hvc, -⟩ := h.own.form
  subst hv
  go_enter Try.func78, Try.ntmps78
  go_wp2
  go_loopw [5] (fun s5 wr => ∃ (i : Nat), s5 = .int .i64 i ∧ i ≤ L.length ∧ (∀ j q, j < i → L[j]? = some q → q.id ≠ id) ∧ wr = w) (fun s5 _ => L.length - (intOf s5).toNat)
  case atStart => exact ⟨0, rfl, by omega, fun j q hj => by omega, rfl⟩
  case round =>
    obtain ⟨i, rfl, hil, hno, rfl⟩ := hrel
    by_cases hlt : i < L.length
    · obtain ⟨p, hp⟩ : ∃ p, L[i]? = some p := ⟨L[i], by simp [hlt]⟩
      obtain ⟨gb, o, cap, hv, k0, -⟩ := h.cells hp
      injection hv with hv1 hv2 hv3
      subst hv1
      have hx1 : (i : Int) < (L.length : Int) := by omega
      by_cases hid : p.id = id
      · have hid' : (p.id == id) = true := by simpa using hid
        go_wp2
        go_ret
        have : L.findIdx? (fun p => decide (p.id = id)) = some i := by
          obtain ⟨h1, h2⟩ := List.getElem?_eq_some_iff.1 hp
          rw [List.findIdx?_eq_some_iff_getElem]
          exact ⟨h1, by simp [h2, hid], fun j hj => by simpa using hno j (L[j]) hj (by simp)⟩
        exact ⟨by simp [placeI, this], rfl⟩
      · have hid' : (p.id == id) = false := by simpa using hid
        go_wp2
        go_roundw
        case measure => simp only [intOf]; omega
        case rel => exact ⟨i + 1, rfl, by omega, fun j q hj hq => by
          by_cases hji : j = i
          · subst hji; rw [hp] at hq; cases hq; exact hid
          · exact hno j q (by omega) hq, trivial⟩
    · obtain rfl : i = L.length := by omega
      go_wp2
      go_ret
      have : L.findIdx? (fun p => decide (p.id = id)) = none := by
        rw [List.findIdx?_eq_none_iff]
        intro p hp
        obtain ⟨j, hj, he⟩ := List.mem_iff_getElem.1 hp
        simpa using hno j p hj (by simp [he, hj])
      exact ⟨by simp [placeI, this], rfl⟩

set_option maxRecDepth 100000 in
set_option maxHeartbeats 4000000 in
theorem susp48 (w : World) (B r : Nat) (v : Value) (g : Int) (L : List PeerI) (t : Int) (hG : Good L) (hI : Refd w B r v g L) : Calls Try.prog 48 #[.pointer (some ⟨r, 0, none⟩), .int .i64 t] w fun e w' =>
    ∃ v, e = .returned v ∧ OwnS w' 3 1 v (suspI L t).length ((suspI L t).map (Value.int .i64)) ∧ (∀ k, v.ownBlock = some k → w.heap.size ≤ k) ∧ Same w w' := by
  obtain ⟨i0, hi, hz0, hz1, hz2⟩ := info_parts info3
  have c1 : w.cell? ⟨r, 1, none⟩ = some v := hI.blk.cell 1
  obtain ⟨va, vc, hv, hvc, -⟩ := hI.own.form
  subst hv
  have hll := hG.len
  cases ht : timeI t with
  | false =>
    have e1 : suspI L t = [] := by simp [suspI, ht]
    rw [e1]
    go_enter Try.func48, Try.ntmps48
    go_wp2_with (go_at_call 77; refine (time77 _ _).mono ?_; rintro e w4 ⟨rfl, rfl⟩; rw [ht])
    refine wp_loop_rounds 1 ?_
    rw [rounds_succ]
    by_cases h0 : 0 < L.length
    · have h0' : (0 : Int) < (L.length : Int) := by omega
      go_wp2
      go_ret
      exact ⟨_, rfl, OwnS.nil _ _ _, fun k hk => (by cases hk), Same.refl _⟩
    · have h0' : ¬ (0 : Int) < (L.length : Int) := by omega
      go_wp2
      go_ret
      exact ⟨_, rfl, OwnS.nil _ _ _, fun k hk => (by cases hk), Same.refl _⟩
  | true =>
    have ⟨ht0, ht1⟩ : 0 ≤ t ∧ t ≤ 1099511627776 := by simpa [timeI] using ht
    go_enter Try.func48, Try.ntmps48
    go_wp2_with (go_at_call 77; refine (time77 _ _).mono ?_; rintro e w4 ⟨rfl, rfl⟩; rw [ht])
    go_loopw [5, 7] (fun s5 s7 wr => ∃ (i : Nat), s7 = .int .i64 i ∧ i ≤ L.length ∧ OwnS wr 3 1 s5 (suspTo L t i).length ((suspTo L t i).map (Value.int .i64)) ∧ (∀ k, s5.ownBlock = some k → w4.heap.size ≤ k) ∧ Same w4 wr) (fun _ s7 _ => L.length - (intOf s7).toNat)
    case atStart => exact ⟨0, rfl, by omega, by simpa [suspTo, suspI] using OwnS.nil w4 3 1, fun k hk => (by cases hk), Same.refl _⟩
    case round =>
      obtain ⟨i, rfl, hil, ho, hok, hS⟩ := hrel
      have hIr := hI.same hS
      have c1 : wr.cell? ⟨r, 1, none⟩ = some _ := hIr.blk.cell 1
      by_cases hlt : i < L.length
      · obtain ⟨p, hp⟩ : ∃ p, L[i]? = some p := ⟨L[i], by simp [hlt]⟩
        obtain ⟨gb, o, cap, hv, k0, k1, k2, k3, k4, -⟩ := hIr.cells hp
        injection hv with hv1 hv2 hv3
        subst hv1
        have hx1 : (i : Int) < (L.length : Int) := by omega
        have hBd := fun w => bad80 p t (hG.ok p (List.mem_of_getElem? hp)) ht0 ht1 w
        unfold PeerI.cells at hBd
        have hlS : (suspTo L t i).length ≤ 12 := Nat.le_trans (suspTo_len L t i) hG.len
        have hsucc := suspTo_succ (t := t) hp
        obtain ⟨oa, oc, rfl, -⟩ := ho.form
        go_wp2_with (first | (go_at_call 80; refine (hBd _).mono ?_; rintro e w3 ⟨rfl, h4⟩; have ho3 := ho.same h4; have hS3 := hS.trans h4; have hI3 := hIr.same h4; have c1 : w3.cell? ⟨r, 1, none⟩ = some _ := hI3.blk.cell 1; have k0 := (Fr.cell (S := fun _ => False) h4 (World.block_lt_of_cell? _ _ k0) (fun h => h)).trans k0) | (at_builtin; go_must (refine wpList_append_S rfl (.tmp 33) (.tmp 42) _ rfl 3 i0 _ 1 8 Try.underlying95 hi hz0 hz1 hz2 rfl (ho3.alloc _) rfl (RdS.new' (by first | rfl | simp) 3 1 1 [.int .i64 p.id] rfl 1 (Nat.le_refl _)) rfl (by simp [Value.oneCell']) (by simp only [maxLen]; omega) (by omega) ?_); intro v5 w5 hown4 hf4 hv4 hn4; obtain ⟨a4, c4, rfl, -⟩ := hown4.form))
        all_goals go_roundw
        case measure => simp only [intOf]; omega
        case measure => simp only [intOf]; omega
        · have hb1 : p.bad t = true := by assumption
          rw [if_pos ⟨ht, hb1⟩] at hsucc
          obtain ⟨g1, g2⟩ := grow_step hS3 hok hf4 hv4
          exact ⟨i + 1, rfl, by omega, by rw [hsucc]; simpa using hown4, g1, g2⟩
        · have hb1 : p.bad t = false := by assumption
          rw [if_neg (by simp [hb1])] at hsucc
          exact ⟨i + 1, rfl, by omega, by rw [hsucc]; exact ho3, hok, hS3⟩
      · obtain rfl : i = L.length := by omega
        go_wp2
        go_ret
        have e1 : suspTo L t L.length = suspI L t := by unfold suspTo; rw [List.take_length]
        rw [e1] at ho
        exact ⟨_, rfl, ho, hok, hS⟩
end Go.Proofs.Ytekiccbhjnfciaa
