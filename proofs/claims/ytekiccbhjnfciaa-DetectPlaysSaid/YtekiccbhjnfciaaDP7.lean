/- The program's failure detector: Changes. -/
import Derived.Test.YtekiccbhjnfciaaDP6
namespace Go.Proofs.Ytekiccbhjnfciaa
open Go.RowKit

theorem info108 : (Try.prog.info? 108).map (fun i => (i.zero, i.size, i.bytes)) = some (some (.agg #[.int .i64 0, .bool false]), 2, 16) := by kernel_rfl
def chCells (x : Int × Bool) : List Value := [.int .i64 x.1, .bool x.2]

/-- the list when i of its nodes have been looked at -/
def chF (t : Int) (i j : Nat) (p : PeerI) : PeerI := if timeI t = true ∧ j < i then chgP t p else p
def chL (L : List PeerI) (t : Int) (i : Nat) : List PeerI := L.mapIdx (chF t i)
def chO (L : List PeerI) (t : Int) (i : Nat) : List (Int × Bool) := (changesI (L.take i) t).1
theorem chF_id (t : Int) (i j : Nat) (p : PeerI) : (chF t i j p).id = p.id ∧ (chF t i j p).last = p.last := by
  unfold chF chgP
  split <;> exact ⟨rfl, rfl⟩
theorem chL_get (L : List PeerI) (t : Int) (i j : Nat) : (chL L t i)[j]? = (L[j]?).map (chF t i j) := by simp [chL]
theorem chL_zero (L : List PeerI) (t : Int) : chL L t 0 = L := by
  apply List.ext_getElem?
  intro j
  rw [chL_get]
  cases L[j]? <;> simp [chF]
theorem chL_end (L : List PeerI) (t : Int) : chL L t L.length = (changesI L t).2 := by
  apply List.ext_getElem?
  intro j
  rw [chL_get]
  unfold changesI
  split
  · rename_i ht
    rw [List.getElem?_map]
    cases h : L[j]? with
    | none => rfl
    | some p =>
      have hj := (List.getElem?_eq_some_iff.1 h).1
      simp [chF, ht, hj]
  · rename_i ht
    cases h : L[j]? <;> simp [chF, ht]
theorem chO_end (L : List PeerI) (t : Int) : chO L t L.length = (changesI L t).1 := by unfold chO; rw [List.take_length]
theorem chO_succ {L : List PeerI} {t : Int} {i : Nat} {p : PeerI} (h : L[i]? = some p) : chO L t (i + 1) = if timeI t = true ∧ (p.bad t != p.told) = true then chO L t i ++ [(p.id, p.bad t)] else chO L t i := by
  unfold chO changesI
  rw [List.take_add_one, h]
  cases timeI t <;> cases hb : (p.bad t != p.told) <;> simp [hb, List.filter_append]
theorem chO_len (L : List PeerI) (t : Int) (i : Nat) : (chO L t i).length ≤ L.length := by
  unfold chO changesI
  split
  · rw [List.length_map]
    exact Nat.le_trans (List.length_filter_le _ _) (by simp; omega)
  · simp
theorem chL_ids (L : List PeerI) (t : Int) (i : Nat) : (chL L t i).map (·.id) = L.map (·.id) := by
  apply List.ext_getElem?
  intro j
  rw [List.getElem?_map, List.getElem?_map, chL_get, Option.map_map]
  cases L[j]? with
  | none => rfl
  | some p => simp [(chF_id t i j p).1]
theorem chL_length (L : List PeerI) (t : Int) (i : Nat) : (chL L t i).length = L.length := by simp [chL]
theorem chL_at {L : List PeerI} {t : Int} {i : Nat} {p : PeerI} (h : L[i]? = some p) : (chL L t i)[i]? = some p := by
  rw [chL_get, h]
  simp [chF]
theorem chL_good {L : List PeerI} (hG : Good L) (t : Int) (i : Nat) : Good (chL L t i) := by
  refine ⟨?_, fun p hp => ?_, by rw [chL_length]; exact hG.len, fun p hp => ?_⟩
  · have h := hG.sorted
    rw [← List.pairwise_map (f := fun p : PeerI => p.id) (R := fun a b : Int => a < b)] at h ⊢
    rw [chL_ids]
    exact h
  · obtain ⟨j, hj⟩ := List.mem_iff_getElem?.1 hp
    rw [chL_get] at hj
    cases h : L[j]? with
    | none => rw [h] at hj; cases hj
    | some q =>
      rw [h] at hj
      have e : chF t i j q = p := by simpa using hj
      have := hG.ok q (List.mem_of_getElem? h)
      unfold PeerI.ok at this ⊢
      rw [← e, (chF_id t i j q).2]
      exact this
  · obtain ⟨j, hj⟩ := List.mem_iff_getElem?.1 hp
    rw [chL_get] at hj
    cases h : L[j]? with
    | none => rw [h] at hj; cases hj
    | some q =>
      rw [h] at hj
      have e : chF t i j q = p := by simpa using hj
      have := hG.small q (List.mem_of_getElem? h)
      rw [← e, (chF_id t i j q).1]
      exact this
theorem chL_succ {L : List PeerI} (hG : Good L) {t : Int} {i : Nat} {p : PeerI} (h : L[i]? = some p) (ht : timeI t = true) : chL L t (i + 1) = setP (chL L t i) (chgP t p) := by
  apply List.ext_getElem?
  intro j
  unfold setP
  rw [List.getElem?_map, chL_get, chL_get]
  cases hq : L[j]? with
  | none => rfl
  | some q =>
    simp only [Option.map_some, Option.some.injEq]
    obtain ⟨hi, he⟩ := List.getElem?_eq_some_iff.1 h
    obtain ⟨hj, hqe⟩ := List.getElem?_eq_some_iff.1 hq
    rw [(chF_id t i j q).1]
    by_cases hji : j = i
    · subst hji
      have : q = p := by rw [← hqe, ← he]
      subst this
      simp [chF, ht, chgP]
    · have hne : ¬ q.id = (chgP t p).id := by
        have h1 : (chgP t p).id = p.id := rfl
        rw [h1]
        rcases Nat.lt_or_ge j i with h2 | h2
        · have := (List.pairwise_iff_getElem.1 hG.sorted) j i hj hi h2
          rw [he, hqe] at this
          omega
        · have := (List.pairwise_iff_getElem.1 hG.sorted) i j hi hj (by omega)
          rw [he, hqe] at this
          omega
      rw [if_neg hne]
      unfold chF
      have h3 : j < i + 1 ↔ j < i := by omega
      simp only [h3]
theorem chL_stay {L : List PeerI} {t : Int} {i : Nat} {p : PeerI} (h : L[i]? = some p) (hs : ¬ (timeI t = true ∧ (p.bad t != p.told) = true)) : chL L t (i + 1) = chL L t i := by
  apply List.ext_getElem?
  intro j
  rw [chL_get, chL_get]
  cases hq : L[j]? with
  | none => rfl
  | some q =>
    simp only [Option.map_some, Option.some.injEq]
    unfold chF
    by_cases ht : timeI t = true
    · by_cases hji : j = i
      · subst hji
        rw [h] at hq
        cases hq
        have hb : p.bad t = p.told := by
          cases h1 : p.bad t <;> cases h2 : p.told <;> simp_all
        rw [if_pos ⟨ht, by omega⟩, if_neg (by omega)]
        unfold chgP
        rw [hb]
      · have h3 : j < i + 1 ↔ j < i := by omega
        simp only [h3]
    · rw [if_neg (fun h => ht h.1), if_neg (fun h => ht h.1)]
end Go.Proofs.Ytekiccbhjnfciaa
