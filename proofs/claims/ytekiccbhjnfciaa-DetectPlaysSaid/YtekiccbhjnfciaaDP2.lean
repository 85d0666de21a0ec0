/- The failure detector, in plain words: nodes in a list by their numbers, what each deed answers and leaves. Nothing here speaks of a program. -/
import Derived.Test.YtekiccbhjnfciaaDP1
namespace Go.Proofs.Ytekiccbhjnfciaa
open Go.RowKit

def findP (L : List PeerI) (id : Int) : Option PeerI := L.find? fun p => decide (p.id = id)
def insP (p : PeerI) : List PeerI → List PeerI
  | [] => [p]
  | q :: L => if p.id < q.id then p :: q :: L else q :: insP p L
def dropP (L : List PeerI) (id : Int) : List PeerI := L.filter fun p => !decide (p.id = id)
def setP (L : List PeerI) (q : PeerI) : List PeerI := L.map fun p => if p.id = q.id then q else p
def PeerI.beat (p : PeerI) (t : Int) : PeerI :=
  { p with
    margin := if p.bad t then (if wrap64 (2 * p.margin) > 4096 then 4096 else wrap64 (2 * p.margin)) else p.margin
    mean := wrap64 (wrap64 (p.mean + (if p.sil t > 4096 then 4096 else p.sil t)) - wrap64 (p.mean.tdiv 8))
    last := if t > p.last then t else p.last }

structure Good (L : List PeerI) : Prop where
  sorted : L.Pairwise (fun a b => a.id < b.id)
  ok : ∀ p ∈ L, p.ok
  len : L.length ≤ 12
  small : ∀ p ∈ L, p.id ≤ 255

/-- what Watch answers, and leaves -/
def watchI (g : Int) (L : List PeerI) (id t : Int) : Int × List PeerI :=
  if ¬ (0 ≤ id ∧ id ≤ 255 ∧ timeI t = true) then (1, L)
  else if (findP L id).isSome then (0, L)
  else if L.length = 12 then (91, L)
  else (0, insP ⟨id, t, 0, g, false⟩ L)
def leaveI (L : List PeerI) (id : Int) : Int × List PeerI := if (findP L id).isSome then (0, dropP L id) else (92, L)
def beatI (L : List PeerI) (id t : Int) : Int × List PeerI :=
  match findP L id with
  | none => (92, L)
  | some p => if timeI t = true then (0, setP L (p.beat t)) else (1, L)
def suspI (L : List PeerI) (t : Int) : List Int := if timeI t = true then (L.filter fun p => p.bad t).map (·.id) else []
def chgP (t : Int) (p : PeerI) : PeerI := { p with told := p.bad t }
def changesI (L : List PeerI) (t : Int) : List (Int × Bool) × List PeerI :=
  if timeI t = true then ((L.filter fun p => p.bad t != p.told).map fun p => (p.id, p.bad t), L.map (chgP t)) else ([], L)

section
variable {κ : Type} [DecidableEq κ] {M N : List (κ × Value)}
theorem mget_mem (hn : (M.map (·.1)).Nodup) {k : κ} {v : Value} : mget M k = some v ↔ (k, v) ∈ M := by
  induction M with
  | nil => simp [mget]
  | cons x M ih =>
    have hn' : x.1 ∉ M.map (·.1) ∧ (M.map (·.1)).Nodup := List.nodup_cons.1 hn
    by_cases hx : x.1 = k
    · have h0 : (k, v) ∉ M := fun h => hn'.1 (by rw [hx]; exact List.mem_map_of_mem (f := (·.1)) h)
      obtain ⟨a, b⟩ := x
      dsimp only at hx
      subst hx
      simp [mget, h0, eq_comm]
    · have : mget (x :: M) k = mget M k := by simp [mget, hx]
      rw [this, ih hn'.2]
      constructor
      · exact fun h => List.mem_cons_of_mem _ h
      · intro h
        rcases List.mem_cons.1 h with rfl | h
        · exact absurd rfl hx
        · exact h
theorem mget_perm (h : M.Perm N) (hn : (M.map (·.1)).Nodup) (k : κ) : mget M k = mget N k := by
  have hn' : (N.map (·.1)).Nodup := (h.map (·.1)).nodup_iff.1 hn
  apply Option.ext
  intro v
  rw [mget_mem hn, mget_mem hn', h.mem_iff]
end

theorem mget_L (L : List PeerI) (id : Int) : mget (L.map fun p => (p.id, p.v)) id = (findP L id).map PeerI.v := by
  simp only [mget, findP, List.find?_map, Option.map_map]
  rfl

theorem findP_id {L : List PeerI} {id : Int} {p : PeerI} (h : findP L id = some p) : p.id = id ∧ p ∈ L := by
  have h1 := List.find?_some h
  exact ⟨by simpa using h1, List.mem_of_find?_eq_some h⟩
theorem insP_perm (p : PeerI) : ∀ L, (insP p L).Perm (L ++ [p])
  | [] => List.Perm.refl _
  | q :: L => by
    unfold insP
    split
    · exact (List.perm_append_singleton p (q :: L)).symm
    · exact (insP_perm p L).cons q
theorem insP_good {L : List PeerI} {p : PeerI} (h : Good L) (hp : p.ok) (hn : findP L p.id = none) (hl : L.length ≠ 12) (hid : p.id ≤ 255) : Good (insP p L) := by
  have hne : ∀ q ∈ L, q.id ≠ p.id := fun q hq => by simpa [findP] using (List.find?_eq_none.1 hn q hq)
  have hmem : ∀ L, ∀ q ∈ insP p L, q = p ∨ q ∈ L := fun L q hq => by
    have := ((insP_perm p L).mem_iff (a := q)).1 hq
    simp at this
    exact this.symm
  refine ⟨?_, fun q hq => ?_, ?_, fun q hq => ?_⟩
  · have h1 := h.sorted
    clear hn hl h
    induction L with
    | nil => simp [insP]
    | cons q L ih =>
      have h2 := List.pairwise_cons.1 h1
      unfold insP
      split
      · rename_i hlt
        refine List.pairwise_cons.2 ⟨fun r hr => ?_, h1⟩
        rcases List.mem_cons.1 hr with rfl | hr
        · exact hlt
        · have := h2.1 r hr; omega
      · rename_i hge
        refine List.pairwise_cons.2 ⟨fun r hr => ?_, ih (fun q hq => hne q (List.mem_cons_of_mem _ hq)) h2.2⟩
        rcases hmem L r hr with rfl | hr
        · have := hne q List.mem_cons_self; omega
        · exact h2.1 r hr
  · rcases hmem L q hq with rfl | hq
    · exact hp
    · exact h.ok q hq
  · have := (insP_perm p L).length_eq
    have := h.len
    simp at *
    omega
  · rcases hmem L q hq with rfl | hq
    · exact hid
    · exact h.small q hq
theorem dropP_good {L : List PeerI} (h : Good L) (id : Int) : Good (dropP L id) :=
  ⟨h.sorted.sublist List.filter_sublist, fun p hp => h.ok p (List.mem_filter.1 hp).1, Nat.le_trans (List.length_filter_le _ _) h.len, fun p hp => h.small p (List.mem_filter.1 hp).1⟩
theorem map_good {L : List PeerI} (h : Good L) (f : PeerI → PeerI) (hf : ∀ p ∈ L, (f p).id = p.id ∧ (f p).ok) : Good (L.map f) := by
  refine ⟨?_, fun p hp => ?_, by simpa using h.len, fun p hp => ?_⟩
  · rw [List.pairwise_map]
    exact h.sorted.imp_of_mem (fun ha hb hab => by rw [(hf _ ha).1, (hf _ hb).1]; exact hab)
  · obtain ⟨q, hq, rfl⟩ := List.mem_map.1 hp
    exact (hf q hq).2
  · obtain ⟨q, hq, rfl⟩ := List.mem_map.1 hp
    rw [(hf q hq).1]
    exact h.small q hq
theorem beat_ok {p : PeerI} {t : Int} (hp : p.ok) (ht : timeI t = true) : (p.beat t).ok := by
  obtain ⟨h1, h2⟩ := hp
  have ⟨h3, h4⟩ : 0 ≤ t ∧ t ≤ 1099511627776 := by simpa [timeI] using ht
  unfold PeerI.ok PeerI.beat
  dsimp only
  split <;> omega
theorem setP_good {L : List PeerI} (h : Good L) {q : PeerI} (hq : q.ok) : Good (setP L q) :=
  map_good h _ (fun p hp => by
    split
    · rename_i e; exact ⟨e.symm, hq⟩
    · exact ⟨rfl, h.ok p hp⟩)
theorem watchI_good {g : Int} {L : List PeerI} (h : Good L) (id t : Int) : Good (watchI g L id t).2 := by
  unfold watchI
  split
  · exact h
  · rename_i h1
    have h1' : 0 ≤ id ∧ id ≤ 255 ∧ timeI t = true := by simpa using h1
    split
    · exact h
    · rename_i h2
      split
      · exact h
      · rename_i h3
        have ⟨h4, h5⟩ : 0 ≤ t ∧ t ≤ 1099511627776 := by simpa [timeI] using h1'.2.2
        exact insP_good h ⟨h4, h5⟩ (by simpa using h2) h3 h1'.2.1
theorem leaveI_good {L : List PeerI} (h : Good L) (id : Int) : Good (leaveI L id).2 := by
  unfold leaveI
  split
  · exact dropP_good h id
  · exact h
theorem beatI_good {L : List PeerI} (h : Good L) (id t : Int) : Good (beatI L id t).2 := by
  unfold beatI
  split
  · exact h
  · rename_i p hp
    split
    · rename_i ht
      exact setP_good h (beat_ok (h.ok p (findP_id hp).2) ht)
    · exact h
theorem changesI_good {L : List PeerI} (h : Good L) (t : Int) : Good (changesI L t).2 := by
  unfold changesI
  split
  · exact map_good h _ (fun p hp => ⟨rfl, h.ok p hp⟩)
  · exact h

/-- The map says what the list says. -/
def Rep (M : List (Int × Value)) (L : List PeerI) : Prop := M.Perm (L.map fun p => (p.id, p.v))
section
variable {M : List (Int × Value)} {L : List PeerI}
theorem Rep.get (h : Rep M L) (hn : (M.map (·.1)).Nodup) (id : Int) : mget M id = (findP L id).map PeerI.v := by rw [mget_perm h hn, mget_L]
theorem Rep.len (h : Rep M L) : M.length = L.length := by simpa using h.length_eq
theorem Rep.keys (h : Rep M L) : (M.map (·.1)).Perm (L.map (·.id)) := by
  have := List.Perm.map (·.1) h
  simpa [List.map_map, Function.comp_def] using this
theorem Rep.put_new (h : Rep M L) (hn : (M.map (·.1)).Nodup) {p : PeerI} (hp : findP L p.id = none) : Rep (mput M p.id p.v) (insP p L) := by
  have hg : mget M p.id = none := by rw [h.get hn, hp]; rfl
  unfold Rep mput
  rw [hg, Option.isSome_none, if_neg (by simp)]
  refine List.Perm.trans (List.Perm.append_right _ h) ?_
  have := (insP_perm p L).symm.map (fun p => (p.id, p.v))
  simpa using this
theorem Rep.put_old (h : Rep M L) (hn : (M.map (·.1)).Nodup) {p q : PeerI} (hp : findP L p.id = some q) : Rep (mput M p.id p.v) (setP L p) := by
  have hg : mget M p.id = some q.v := by rw [h.get hn, hp]; rfl
  unfold Rep mput
  rw [hg, Option.isSome_some, if_pos rfl]
  refine List.Perm.trans (List.Perm.map _ h) ?_
  rw [List.map_map]
  refine List.Perm.of_eq ?_
  unfold setP
  rw [List.map_map]
  apply List.map_congr_left
  intro r _
  simp only [Function.comp]
  split <;> rfl
theorem Rep.del (h : Rep M L) (id : Int) : Rep (mdel M id) (dropP L id) := by
  unfold Rep mdel dropP
  refine List.Perm.trans (List.Perm.filter _ h) ?_
  rw [List.filter_map]
  exact List.Perm.of_eq rfl
end

theorem sorted_unique : ∀ {xs ys : List Int}, xs.Perm ys → xs.Pairwise (· ≤ ·) → ys.Pairwise (· < ·) → xs = ys
  | [], ys, h, _, _ => (List.nil_perm.1 h).symm
  | x :: xs, [], h, _, _ => absurd h.symm (by simp)
  | x :: xs, y :: ys, h, h1, h2 => by
    have hx := List.pairwise_cons.1 h1
    have hy := List.pairwise_cons.1 h2
    have e : x = y := by
      have m1 : x ∈ y :: ys := (h.mem_iff).1 List.mem_cons_self
      have m2 : y ∈ x :: xs := (h.mem_iff).2 List.mem_cons_self
      rcases List.mem_cons.1 m1 with e | m1
      · exact e
      · rcases List.mem_cons.1 m2 with e | m2
        · exact e.symm
        · have := hx.1 y m2
          have := hy.1 x m1
          omega
    subst e
    rw [sorted_unique ((List.perm_cons x).1 h) hx.2 hy.2]
end Go.Proofs.Ytekiccbhjnfciaa
