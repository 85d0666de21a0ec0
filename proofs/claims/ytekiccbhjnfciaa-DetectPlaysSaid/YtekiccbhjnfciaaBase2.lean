/- Words of our own for slices: a slice that owns its cells from some place of a block on; append onto it. Nothing here speaks of a program. -/
import Derived.Test.YtekiccbhjnfciaaBase
import Derived.Maps.AppendAt
import Derived.Deep.AppendLies
import Derived.OwnWalk
import Derived.Lib.Hide
namespace Go.Proofs.Ytekiccbhjnfciaa
open Go.RowKit

/-- The slice v has n elements of type e (size cells each); its cells are xs; its row lies in a block that is not frozen, to that block's end. -/
def OwnS (w : World) (e : TypeId) (size : Nat) (v : Value) (n : Nat) (xs : List Value) : Prop :=
  xs.length = n * size ∧ ((v = .slice none 0 0 ∧ n = 0) ∨
    ∃ g o cap cur, v = .slice (some ⟨g, o, none⟩) n cap ∧ w.heap[g]? = some (.cells cur e (0, 0)) ∧ n ≤ cap ∧ cap ≤ maxLen ∧ o + cap * size ≤ cur.size ∧ (cur.toList.drop o).take (n * size) = xs)

/-- A slice that is only read: its cells are xs, and lie in a block below B. -/
def RdS (w : World) (B : Nat) (size : Nat) (v : Value) (n : Nat) (xs : List Value) : Prop :=
  xs.length = n * size ∧ ∃ a cap, v = .slice a n cap ∧ n ≤ cap ∧ (0 < n → ∃ g o, a = some ⟨g, o, none⟩ ∧ g < B ∧ ∀ j u, xs[j]? = some u → w.cell? ⟨g, o + j, none⟩ = some u)

section
variable {w w' : World} {e : TypeId} {size n : Nat} {v : Value} {xs : List Value}
theorem OwnS.nil (w : World) (e : TypeId) (size : Nat) : OwnS w e size (.slice none 0 0) 0 [] := ⟨by simp, .inl ⟨rfl, rfl⟩⟩
theorem OwnS.len (h : OwnS w e size v n xs) : xs.length = n * size := h.1
theorem OwnS.form (h : OwnS w e size v n xs) : ∃ a cap, v = .slice a n cap ∧ n ≤ cap ∧ cap ≤ maxLen := by
  rcases h.2 with ⟨rfl, rfl⟩ | ⟨g, o, cap, cur, rfl, _, hn, hm, _⟩
  · exact ⟨none, 0, rfl, Nat.le_refl _, by simp⟩
  · exact ⟨_, cap, rfl, hn, hm⟩
theorem OwnS.of_heap (h : OwnS w e size v n xs) (hb : ∀ g, v.ownBlock = some g → w'.heap[g]? = w.heap[g]?) : OwnS w' e size v n xs := by
  refine ⟨h.1, ?_⟩
  rcases h.2 with h0 | ⟨g, o, cap, cur, rfl, hg, hr⟩
  · exact .inl h0
  · exact .inr ⟨g, o, cap, cur, rfl, (hb g rfl).trans hg, hr⟩
theorem OwnS.lt (h : OwnS w e size v n xs) {g : Nat} (hv : v.ownBlock = some g) : g < w.heap.size := by
  rcases h.2 with ⟨rfl, _⟩ | ⟨g', o, cap, cur, rfl, hg, hr⟩
  · simp [Value.ownBlock] at hv
  · have : g' = g := by simpa [Value.ownBlock] using hv
    subst this
    exact lt_of_heap hg
theorem OwnS.fr {S : Nat → Prop} (h : OwnS w e size v n xs) (hf : Fr S w w') (hn : ∀ g, v.ownBlock = some g → ¬ S g) : OwnS w' e size v n xs :=
  h.of_heap fun g hg => hf.block g (h.lt hg) (hn g hg)
theorem OwnS.same (h : OwnS w e size v n xs) (hf : Same w w') : OwnS w' e size v n xs := OwnS.fr (S := fun _ => False) h hf (fun _ _ h => h)
theorem OwnS.drew (h : OwnS w e size v n xs) : OwnS w.drew e size v n xs := h
theorem OwnS.drewN (h : OwnS w e size v n xs) (k : Nat) : OwnS (w.drewN k) e size v n xs := h
theorem OwnS.alloc (h : OwnS w e size v n xs) (o : Obj) : OwnS (w.alloc o) e size v n xs := h.of_heap fun g hg => Below.heap_alloc w o g (h.lt hg)
theorem OwnS.setCell (h : OwnS w e size v n xs) {p : Addr} (hp : v.ownBlock ≠ some p.block) (u : Value) : OwnS (w.setCell p u) e size v n xs :=
  h.of_heap fun g hg => Below.heap_setCell w p u g (by rintro rfl; exact hp hg)
theorem OwnS.ne_blk (h : OwnS w e size v n xs) {g : Nat} {t : TypeId} {cs : Array Value} (hg : Blk w g t cs) (hne : e ≠ t) : v.ownBlock ≠ some g := by
  intro he
  rcases h.2 with ⟨rfl, _⟩ | ⟨g', o, cap, cur, rfl, hgg, hr⟩
  · simp [Value.ownBlock] at he
  · have : g' = g := by simpa [Value.ownBlock] using he
    subst this
    exact Blk.ne_ (t := e) hgg hg hne rfl
theorem add_at (g o j : Nat) : (⟨g, o, none⟩ : Addr).add j = ⟨g, o + j, none⟩ := by unfold Addr.add; split <;> simp_all
theorem OwnS.ne_ {e' : TypeId} {size' n' : Nat} {v' : Value} {xs' : List Value} (h : OwnS w e size v n xs) (h' : OwnS w e' size' v' n' xs') (hne : e ≠ e') {g : Nat} (hg : v.ownBlock = some g) : v'.ownBlock ≠ some g := by
  intro he
  rcases h.2 with ⟨rfl, _⟩ | ⟨g1, o, cap, cur, rfl, hh, _⟩
  · simp [Value.ownBlock] at hg
  · have e1 : g1 = g := by simpa [Value.ownBlock] using hg
    subst e1
    exact h'.ne_blk (g := g1) (t := e) hh (Ne.symm hne) he
theorem OwnS.cells (h : OwnS w e size v n xs) {ad : Addr} {n' cap : Nat} (hv : v = .slice (some ad) n' cap) : ∀ j u, xs[j]? = some u → w.cell? (ad.add j) = some u := by
  rcases h.2 with ⟨rfl, _⟩ | ⟨g, o, cap', cur, rfl, hg, hn, hm, hs, hx⟩
  · cases hv
  · cases hv
    intro j u hj
    rw [← hx, List.getElem?_take] at hj
    split at hj
    · rw [List.getElem?_drop] at hj
      have e1 : (⟨g, o, none⟩ : Addr).add j = ⟨g, o + j, none⟩ := by unfold Addr.add; split <;> simp_all
      rw [e1, cell_of_row w g (o + j) cur e (0, 0) hg]
      simpa using hj
    · cases hj
theorem OwnS.rd (h : OwnS w e size v n xs) {B : Nat} (hB : ∀ g, v.ownBlock = some g → g < B) : RdS w B size v n xs := by
  obtain ⟨a, cap, rfl, hn, hm⟩ := h.form
  refine ⟨h.1, a, cap, rfl, hn, fun h0 => ?_⟩
  rcases h.2 with ⟨h1, h2⟩ | ⟨g, o, cap', cur, h1, _⟩
  · omega
  · cases h1
    exact ⟨g, o, rfl, hB g rfl, fun j u hj => by rw [← add_at]; exact h.cells rfl j u hj⟩
theorem RdS.len {B : Nat} (h : RdS w B size v n xs) : xs.length = n * size := h.1
theorem RdS.of_cells {B : Nat} (h : RdS w B size v n xs) (hk : ∀ p : Addr, p.block < B → w'.cell? p = w.cell? p) : RdS w' B size v n xs := by
  obtain ⟨h1, a, cap, h2, h3, h4⟩ := h
  refine ⟨h1, a, cap, h2, h3, fun h0 => ?_⟩
  obtain ⟨g, o, h5, h6, h7⟩ := h4 h0
  exact ⟨g, o, h5, h6, fun j u hj => (hk _ h6).trans (h7 j u hj)⟩
theorem RdS.mono {B B' : Nat} (h : RdS w B size v n xs) (hB : B ≤ B') : RdS w B' size v n xs := by
  obtain ⟨h1, a, cap, h2, h3, h4⟩ := h
  refine ⟨h1, a, cap, h2, h3, fun h0 => ?_⟩
  obtain ⟨g, o, h5, h6, h7⟩ := h4 h0
  exact ⟨g, o, h5, by omega, h7⟩
theorem RdS.below {B : Nat} (h : RdS w B size v n xs) (hb : Below B w w') : RdS w' B size v n xs := h.of_cells fun _ hp => hb.cell hp
theorem RdS.fr {B : Nat} {S : Nat → Prop} (h : RdS w B size v n xs) (hf : Fr S w w') (hB : B ≤ w.heap.size) (hn : ∀ k, k < B → ¬ S k) : RdS w' B size v n xs := h.of_cells fun _ hp => hf.cell (by omega) (hn _ hp)
theorem RdS.alloc {B : Nat} (h : RdS w B size v n xs) (hB : B ≤ w.heap.size) (o : Obj) : RdS (w.alloc o) B size v n xs := h.of_cells fun p hp => World.cell?_alloc_lt w o p (by omega)
theorem RdS.drew {B : Nat} (h : RdS w B size v n xs) : RdS w.drew B size v n xs := h
theorem RdS.drewN {B : Nat} (h : RdS w B size v n xs) (k : Nat) : RdS (w.drewN k) B size v n xs := h
theorem RdS.same {B : Nat} (h : RdS w B size v n xs) (hf : Same w w') (hB : B ≤ w.heap.size) : RdS w' B size v n xs := RdS.fr (S := fun _ => False) h hf hB (fun _ _ h => h)
theorem RdS.nil (w : World) (B size : Nat) : RdS w B size (.slice none 0 0) 0 [] := ⟨by simp, none, 0, rfl, Nat.le_refl _, fun h => absurd h (by omega)⟩

theorem OwnS.frozen {g o cap : Nat} (h : OwnS w e size (.slice (some ⟨g, o, none⟩) n cap) n xs) (i : Nat) : w.frozen? ⟨g, i, none⟩ = false := by
  rcases h.2 with ⟨h1, _⟩ | ⟨g', o', cap', cur, h1, hg, _⟩
  · cases h1
  · cases h1
    simp [World.frozen?, hg]
/-- a cell is stored -/
theorem OwnS.store {g o cap : Nat} (h : OwnS w e size (.slice (some ⟨g, o, none⟩) n cap) n xs) (j : Nat) (u : Value) : OwnS (w.setCell ⟨g, o + j, none⟩ u) e size (.slice (some ⟨g, o, none⟩) n cap) n (xs.set j u) := by
  refine ⟨by rw [List.length_set]; exact h.1, ?_⟩
  rcases h.2 with ⟨h1, _⟩ | ⟨g', o', cap', cur, h1, hg, hn, hm, hs, hx⟩
  · cases h1
  · cases h1
    refine .inr ⟨g, o, cap, cur.setIfInBounds (o + j) u, rfl, ?_, hn, hm, by simpa using hs, ?_⟩
    · exact Blk.set_ (t := e) hg (o + j) u
    · rw [← hx, Array.toList_setIfInBounds, List.drop_set, if_neg (by omega), Nat.add_sub_cancel_left, List.take_set]
theorem run_append_room_at {P : Program} (w : World) (t ty e : TypeId) (i : TypeInfo) (ht : P.underlying t = some (.slice e)) (hi : P.info? e = some i)
    (g off sLen sCap : Nat) (cur : Array Value) (hg : w.heap[g]? = some (.cells cur e (0, 0)))
    (a : Addr) (m c : Nat) (news : List Value) (hl : news.length = m * i.size) (hnews : ∀ j u, news[j]? = some u → w.cell? (a.add j) = some u) (h1 : ∀ u ∈ news, u.oneCell' = true)
    (hroom : sLen + m ≤ sCap) (hfit : off + sLen * i.size + news.length ≤ cur.size) :
    (Builtin.append_ #[t, t] ty #[.slice (some ⟨g, off, none⟩) sLen sCap, .slice (some a) m c]).run P w =
      .ok (.slice (some ⟨g, off, none⟩) (sLen + m) sCap) (w.setRow g (cur.toList.take (off + sLen * i.size) ++ news ++ cur.toList.drop (off + sLen * i.size + news.length)).toArray) := by
  have hf := run_firstCells_some (P := P) w i.size m a m c news hl hnews
  have hst := run_storeCells_at P g (off + sLen * i.size) e news 0 cur w hg (by simpa using hfit) h1
  simp only [Nat.add_zero] at hst
  have e1 : (⟨g, off, none⟩ : Addr).add (sLen * i.size) = ⟨g, off + sLen * i.size, none⟩ := by unfold Addr.add; split <;> simp_all
  simp [Builtin.append_, run_underlying ht, sizeOf, typeInfo, hi, Builtin.lenOf, hroom, hf, e1, hst]

/-- 'append(v, x...)', x some cells that are read first. -/
theorem run_append_SS {P : Program} (w : World) (t ty e : TypeId) (i : TypeInfo) (z : Value) (size bytes : Nat) (ht : P.underlying t = some (.slice e)) (hi : P.info? e = some i) (hz : i.zero = some z)
    (hsize : i.size = size) (hby : i.bytes = bytes) (hzs : z.cells.size = size) (v : Value) (n : Nat) (xs : List Value) (hown : OwnS w e size v n xs)
    (B : Nat) (x : Value) (m : Nat) (news : List Value) (hx : RdS w B size x m news) (h1 : ∀ u ∈ news, u.oneCell' = true) (h63 : n + m ≤ maxLen) (hbytes : (n + m) * bytes ≤ 140737488355328) :
    ∃ v' w', (Builtin.append_ #[t, t] ty #[v, x]).run P w = .ok v' w' ∧ OwnS w' e size v' (n + m) (xs ++ news) ∧ Fr (fun k => v.ownBlock = some k) w w' ∧
      (v'.ownBlock = v.ownBlock ∨ v'.ownBlock = some w.heap.size) ∧ (v' = .slice none 0 0 ↔ v = .slice none 0 0 ∧ m = 0) ∧ (∀ a k cap, v = .slice a k cap → n + m ≤ cap → v' = .slice a (n + m) cap) := by
  subst hsize
  subst hby
  have hsmall : n + m ≤ 9223372036854775807 := by simp only [maxLen] at h63; omega
  obtain ⟨hl, a0, c, rfl, hmc, hrd⟩ := hx
  have hlen : (xs ++ news).length = (n + m) * i.size := by rw [List.length_append, hown.1, hl, Nat.add_mul]
  by_cases hm : m = 0
  · subst hm
    have hn : news = [] := List.eq_nil_of_length_eq_zero (by simpa using hl)
    subst hn
    obtain ⟨va, vc, hv0, -⟩ := hown.form
    refine ⟨v, w, ?_, by simpa using hown, Fr.refl _ _, .inl rfl, by simp, fun a k cap hv _ => by rw [hv] at hv0; cases hv0; exact hv⟩
    rcases hown.2 with ⟨rfl, rfl⟩ | ⟨g, o, cap, cur, rfl, hg, hnc, hcm, hcs, hx⟩
    · cases a0 <;> simp [Builtin.append_, run_underlying ht, sizeOf, typeInfo, hi, Builtin.lenOf, Builtin.firstCells, loadCells, loadCellsFrom]
    · cases a0 <;> simp [Builtin.append_, run_underlying ht, sizeOf, typeInfo, hi, Builtin.lenOf, Builtin.firstCells, loadCells, loadCellsFrom, hnc, storeCells]
  obtain ⟨ga, oa, rfl, _, hnews0⟩ := hrd (by omega)
  have hnews : ∀ j u, news[j]? = some u → w.cell? ((⟨ga, oa, none⟩ : Addr).add j) = some u := fun j u hj => by rw [add_at]; exact hnews0 j u hj
  generalize (⟨ga, oa, none⟩ : Addr) = a at hnews ⊢
  have grown : ∀ (old : Nat), old < n + m →
      OwnS (w.drew.alloc (.cells (xs.toArray ++ news.toArray ++ Builtin.zeroCells z.cells (grownCap w (n + m) old e - (n + m))) e)) e i.size
        (.slice (some ⟨w.heap.size, 0, none⟩) (n + m) (grownCap w (n + m) old e)) (n + m) (xs ++ news) := by
    intro old ho
    have hge := grownCap_ge w (n + m) old e
    have hcm : grownCap w (n + m) old e ≤ maxLen := grownCap_le_maxLen w (n + m) old e h63
    refine ⟨hlen, .inr ⟨w.heap.size, 0, _, _, rfl, heap_alloc_new w.drew _, hge, hcm, ?_, ?_⟩⟩
    · simp only [Array.size_append, List.size_toArray, size_zeroCells, hzs, hown.1, hl, ← Nat.add_mul, Nat.zero_add]
      exact Nat.mul_le_mul_right _ (by omega)
    · simp only [Array.toList_append, List.append_assoc, List.drop_zero]
      rw [← List.append_assoc, ← hlen]
      exact List.take_left
  rcases hown.2 with ⟨rfl, rfl⟩ | ⟨g, o, cap, cur, rfl, hg, hnc, hcm, hcs, htake⟩
  · have hx : xs = [] := List.eq_nil_of_length_eq_zero (by simpa using hown.1)
    subst hx
    have hr := run_append_nil (P := P) w t ty e i z ht hi hz a m c news hl hnews (by omega) (by omega) (by have hb := hbytes; simp only [Nat.zero_add] at hb; omega)
    have hgr := grown 0 (by omega)
    simp only [Nat.zero_add, List.nil_append, Array.empty_append] at hgr ⊢
    exact ⟨_, _, hr, hgr, ((Fr.refl _ _).drew).alloc _, .inr rfl, by simp [hm], fun a k cap hv hle => by cases hv; omega⟩
  · by_cases hroom : n + m ≤ cap
    · have hmul : (n + m) * i.size ≤ cap * i.size := Nat.mul_le_mul_right _ hroom
      have hfit : o + n * i.size + news.length ≤ cur.size := by rw [hl, Nat.add_assoc, ← Nat.add_mul]; omega
      have hr := run_append_room_at (P := P) w t ty e i ht hi g o n cap cur hg a m c news hl hnews h1 hroom hfit
      refine ⟨_, _, hr, ⟨hlen, .inr ⟨g, o, cap, _, rfl, setRow_heap w g cur _ e _ hg, hroom, hcm, ?_, ?_⟩⟩, ⟨rfl, rfl, rfl, by simp, fun k _ hk => setRow_other w g k _ (fun e => hk (by simp [Value.ownBlock, e]))⟩, .inl rfl, by simp, fun a k c hv _ => by cases hv; rfl⟩
      · simp only [List.size_toArray, List.length_append, List.length_take, List.length_drop, Array.length_toList]
        omega
      · have ht1 : (cur.toList.take (o + n * i.size)) = cur.toList.take o ++ xs := by rw [← htake, List.take_add]
        have hlo : (cur.toList.take o).length = o := by simp; omega
        show List.take _ (List.drop o (cur.toList.take (o + n * i.size) ++ news ++ cur.toList.drop (o + n * i.size + news.length))) = _
        rw [ht1, List.append_assoc, List.append_assoc]
        rw [List.drop_left' hlo]
        rw [← List.append_assoc, ← hlen]
        exact List.take_left
    · have holds : ∀ j u, xs[j]? = some u → w.cell? ((⟨g, o, none⟩ : Addr).add j) = some u := hown.cells rfl
      have hr := run_append_grow (P := P) w t ty e i z ht hi hz ⟨g, o, none⟩ n cap xs hown.1 holds a m c news hl hnews (by omega) (by omega) (growslice_fits (by omega) hbytes)
      exact ⟨_, _, hr, grown cap (by omega), ((Fr.refl _ _).drew).alloc _, .inr rfl, by simp, fun a k c hv hle => by cases hv; omega⟩
/-- 'append(v, x...)', x some cells that are read first. -/
theorem run_append_S {P : Program} (w : World) (t ty e : TypeId) (i : TypeInfo) (z : Value) (size bytes : Nat) (ht : P.underlying t = some (.slice e)) (hi : P.info? e = some i) (hz : i.zero = some z)
    (hsize : i.size = size) (hby : i.bytes = bytes) (hzs : z.cells.size = size) (v : Value) (n : Nat) (xs : List Value) (hown : OwnS w e size v n xs)
    (B : Nat) (x : Value) (m : Nat) (news : List Value) (hx : RdS w B size x m news) (h1 : ∀ u ∈ news, u.oneCell' = true) (h63 : n + m ≤ maxLen) (hbytes : (n + m) * bytes ≤ 140737488355328) :
    ∃ v' w', (Builtin.append_ #[t, t] ty #[v, x]).run P w = .ok v' w' ∧ OwnS w' e size v' (n + m) (xs ++ news) ∧ Fr (fun k => v.ownBlock = some k) w w' ∧
      (v'.ownBlock = v.ownBlock ∨ v'.ownBlock = some w.heap.size) ∧ (v' = .slice none 0 0 ↔ v = .slice none 0 0 ∧ m = 0) := by
  obtain ⟨v', w', h2, h3, h4, h5, h6, _⟩ := run_append_SS (P := P) w t ty e i z size bytes ht hi hz hsize hby hzs v n xs hown B x m news hx h1 h63 hbytes
  exact ⟨v', w', h2, h3, h4, h5, h6⟩
end

section
variable {P : Program} {w : World} {ops : Array Oper} {rest : List Oper} {o : Oper} {a : Act} {Q : Exit → Act → World → Prop}
theorem wpList_append_S (hgd : o.guard = none) (s x : Operand) (t : TypeId) (ho : o.op = .call { callee := .builtin .append, args := #[s, x], argTypes := #[t, t] })
    (e : TypeId) (i : TypeInfo) (z : Value) (size bytes : Nat) (ht : P.underlying t = some (.slice e)) (hi : P.info? e = some i) (hz : i.zero = some z)
    (hsize : i.size = size) (hby : i.bytes = bytes) (hzs : z.cells.size = size) {v : Value} {n : Nat} {xs : List Value} (hown : OwnS w e size v n xs) (hs : a.eval s = v)
    {B : Nat} {xv : Value} {m : Nat} {news : List Value} (hx : RdS w B size xv m news) (hxv : a.eval x = xv) (h1 : ∀ u ∈ news, u.oneCell' = true) (h63 : n + m ≤ maxLen) (hbytes : (n + m) * bytes ≤ 140737488355328)
    (h : ∀ v' w', OwnS w' e size v' (n + m) (xs ++ news) → Fr (fun k => v.ownBlock = some k) w w' → (v'.ownBlock = v.ownBlock ∨ v'.ownBlock = some w.heap.size) → (v' = .slice none 0 0 ↔ v = .slice none 0 0 ∧ m = 0) →
      wpList P ops Q rest (a.put o.dst v') w') : wpList P ops Q (o :: rest) a w := by
  refine wpList_plain hgd fun K hK => ?_
  obtain ⟨v', w', hrun, h2, h3, h4, h5⟩ := run_append_S (P := P) w t o.type e i z size bytes ht hi hz hsize hby hzs v n xs hown B xv m news hx h1 h63 hbytes
  unfold Oper.wp execOp
  simp only [ho, resolve, invoke, builtin, Sem.run_bind, Sem.run_pure, Result.andThen_ok, List.map_toArray, List.map_cons, List.map_nil, hs, hxv, hrun]
  exact hK _ _ (h v' w' h2 h3 h4 h5)
end

section
variable {P : Program} {w : World} {ops : Array Oper} {o : Oper} {a : Act} {K : Act → World → Prop} {Q : Exit → Act → World → Prop} {E : Prop}
/-- the same in a region that draws its order -/
theorem step_append_S (hgd : o.guard = none) (s x : Operand) (t : TypeId) (ho : o.op = .call { callee := .builtin .append, args := #[s, x], argTypes := #[t, t] })
    (e : TypeId) (i : TypeInfo) (z : Value) (size bytes : Nat) (ht : P.underlying t = some (.slice e)) (hi : P.info? e = some i) (hz : i.zero = some z)
    (hsize : i.size = size) (hby : i.bytes = bytes) (hzs : z.cells.size = size) {v : Value} {n : Nat} {xs : List Value} (hown : OwnS w e size v n xs) (hs : a.eval s = v)
    {B : Nat} {xv : Value} {m : Nat} {news : List Value} (hx : RdS w B size xv m news) (hxv : a.eval x = xv) (h1 : ∀ u ∈ news, u.oneCell' = true) (h63 : n + m ≤ maxLen) (hbytes : (n + m) * bytes ≤ 140737488355328)
    (h : ∀ v' w', OwnS w' e size v' (n + m) (xs ++ news) → Fr (fun k => v.ownBlock = some k) w w' → (v'.ownBlock = v.ownBlock ∨ v'.ownBlock = some w.heap.size) → (v' = .slice none 0 0 ↔ v = .slice none 0 0 ∧ m = 0) →
      K (a.put o.dst v') w') : if Region.wanted o (yielded ops a.tmps) = true then Oper.wp P o a w K Q else E := by
  have hw : Region.wanted o (yielded ops a.tmps) = true := by simp [Region.wanted, hgd]
  rw [if_pos hw]
  obtain ⟨v', w', hrun, h2, h3, h4, h5⟩ := run_append_S (P := P) w t o.type e i z size bytes ht hi hz hsize hby hzs v n xs hown B xv m news hx h1 h63 hbytes
  unfold Oper.wp execOp
  simp only [ho, resolve, invoke, builtin, Sem.run_bind, Sem.run_pure, Result.andThen_ok, List.map_toArray, List.map_cons, List.map_nil, hs, hxv, hrun]
  exact h v' w' h2 h3 h4 h5
/-- the same where there is room: in place -/
theorem step_append_fit (hgd : o.guard = none) (s x : Operand) (t : TypeId) (ho : o.op = .call { callee := .builtin .append, args := #[s, x], argTypes := #[t, t] })
    (e : TypeId) (i : TypeInfo) (z : Value) (size bytes : Nat) (ht : P.underlying t = some (.slice e)) (hi : P.info? e = some i) (hz : i.zero = some z)
    (hsize : i.size = size) (hby : i.bytes = bytes) (hzs : z.cells.size = size) {va : Option Addr} {n cap : Nat} {xs : List Value} (hown : OwnS w e size (.slice va n cap) n xs) (hs : a.eval s = .slice va n cap)
    {B : Nat} {xv : Value} {m : Nat} {news : List Value} (hx : RdS w B size xv m news) (hxv : a.eval x = xv) (h1 : ∀ u ∈ news, u.oneCell' = true) (hroom : n + m ≤ cap) (h63 : n + m ≤ maxLen) (hbytes : (n + m) * bytes ≤ 140737488355328)
    (h : ∀ w', OwnS w' e size (.slice va (n + m) cap) (n + m) (xs ++ news) → Fr (fun k => (Value.slice va n cap).ownBlock = some k) w w' →
      K (a.put o.dst (.slice va (n + m) cap)) w') : if Region.wanted o (yielded ops a.tmps) = true then Oper.wp P o a w K Q else E := by
  have hw : Region.wanted o (yielded ops a.tmps) = true := by simp [Region.wanted, hgd]
  rw [if_pos hw]
  obtain ⟨v', w', hrun, h2, h3, h4, h5, h6⟩ := run_append_SS (P := P) w t o.type e i z size bytes ht hi hz hsize hby hzs _ n xs hown B xv m news hx h1 h63 hbytes
  obtain rfl := h6 _ _ _ rfl hroom
  unfold Oper.wp execOp
  simp only [ho, resolve, invoke, builtin, Sem.run_bind, Sem.run_pure, Result.andThen_ok, List.map_toArray, List.map_cons, List.map_nil, hs, hxv, hrun]
  exact h w' h2 h3
end

/-- a new block of just these cells, read as a slice of m elements -/
theorem RdS.new (w : World) (e : TypeId) (size m : Nat) (cs : List Value) (hl : cs.length = m * size) (cap : Nat) (hcap : m ≤ cap) :
    RdS (w.alloc (.cells cs.toArray e)) (w.heap.size + 1) size (.slice (some ⟨w.heap.size, 0, none⟩) m cap) m cs := by
  refine ⟨hl, _, cap, rfl, hcap, fun _ => ⟨_, _, rfl, by omega, fun j u hj => ?_⟩⟩
  rw [World.cell?_alloc_new]
  simpa using hj
theorem RdS.new' {w : World} {g : Nat} (hg : g = w.heap.size) (e : TypeId) (size m : Nat) (cs : List Value) (hl : cs.length = m * size) (cap : Nat) (hcap : m ≤ cap) :
    RdS (w.alloc (.cells cs.toArray e)) (w.heap.size + 1) size (.slice (some ⟨g, 0, none⟩) m cap) m cs := by
  subst hg
  exact RdS.new w e size m cs hl cap hcap

/-! ### Slicing, clearing -/
section
variable {w : World} {e : TypeId} {size n : Nat} {v : Value} {xs : List Value}
theorem sliced_zero (a : Option Addr) (h m s : Nat) : sliced a 0 h m s = .slice a h m := by
  unfold sliced
  simp only [Nat.zero_mul, Nat.sub_zero]
  congr 1
  split
  · rfl
  · cases a <;> simp [Addr.add]
/-- v[:k] -/
theorem OwnS.take {a : Option Addr} {cap : Nat} (h : OwnS w e size (.slice a n cap) n xs) {k : Nat} (hk : k ≤ n) : OwnS w e size (.slice a k cap) k (xs.take (k * size)) := by
  have hmul : k * size ≤ n * size := Nat.mul_le_mul_right _ hk
  refine ⟨by rw [List.length_take, h.1]; omega, ?_⟩
  rcases h.2 with ⟨h1, h2⟩ | ⟨g, o, cap', cur, h1, hg, hn, hm, hs, hx⟩
  · cases h1
    obtain rfl : k = 0 := by omega
    exact .inl ⟨rfl, rfl⟩
  · cases h1
    refine .inr ⟨g, o, cap, cur, rfl, hg, by omega, hm, hs, ?_⟩
    rw [← hx, List.take_take]
    congr 1
    omega
/-- v[k:] -/
theorem OwnS.drop {a : Option Addr} {cap : Nat} (h : OwnS w e size (.slice a n cap) n xs) {k : Nat} (hk : k ≤ n) : OwnS w e size (sliced a k n cap size) (n - k) (xs.drop (k * size)) := by
  refine ⟨by rw [List.length_drop, h.1, Nat.sub_mul], ?_⟩
  unfold sliced
  rcases h.2 with ⟨h1, h2⟩ | ⟨g, o, cap', cur, h1, hg, hn, hm, hs, hx⟩
  · cases h1
    obtain rfl : k = 0 := by omega
    exact .inl ⟨by simp, by omega⟩
  · cases h1
    by_cases hc : cap = k
    · subst hc
      obtain rfl : n = cap := by omega
      refine .inr ⟨g, o, 0, cur, by simp, hg, by omega, by omega, by omega, ?_⟩
      rw [List.drop_of_length_le (l := xs) (by rw [h.1]; omega)]
      simp
    · have hmul : cap * size = k * size + (cap - k) * size := by rw [← Nat.add_mul]; congr 1; omega
      have e1 : (⟨g, o, none⟩ : Addr).add (k * size) = ⟨g, o + k * size, none⟩ := by unfold Addr.add; split <;> simp_all
      refine .inr ⟨g, o + k * size, cap - k, cur, by rw [if_neg hc]; simp [e1], hg, by omega, by omega, by omega, ?_⟩
      rw [← hx, ← List.drop_drop, List.drop_take, Nat.sub_mul]

/-- 'clear(v[n:m])', m - n elements behind v's own: v stands. -/
theorem run_clear_S {P : Program} {t ty : TypeId} {z : Value} (ht : P.underlying t = some (.slice e)) (hz : ∀ w, (zeroValue e).run P w = .ok z w) (hzs : z.cells.size = size) (h0 : 0 < size) (h1 : ∀ u ∈ z.cells.toList, u.oneCell' = true)
    {a : Option Addr} {cap m : Nat} (h : OwnS w e size (.slice a n cap) n xs) (hnm : n ≤ m) (hmc : m ≤ cap) {c : Nat} (hc : n = m ∨ c ≠ n) :
    ∃ w', (Builtin.clear_ #[t] ty #[sliced a n m c size]).run P w = .ok (.tuple #[]) w' ∧ OwnS w' e size (.slice a n cap) n xs ∧ Fr (fun k => (Value.slice a n cap).ownBlock = some k) w w' := by
  by_cases hm0 : n = m
  · subst hm0
    refine ⟨w, ?_, h, Fr.refl _ _⟩
    unfold sliced
    rw [Nat.sub_self]
    split
    · cases a <;> simp [Builtin.clear_, run_underlying ht]
    · cases a <;> simp [Builtin.clear_, run_underlying ht]
  rcases h.2 with ⟨h2, h3⟩ | ⟨g, o, cap', cur, h2, hg, hn, hm, hs, hx⟩
  · cases h2
    omega
  · cases h2
    have e1 : (⟨g, o, none⟩ : Addr).add (n * size) = ⟨g, o + n * size, none⟩ := by unfold Addr.add; split <;> simp_all
    have hmul : m * size = n * size + (m - n) * size := by rw [← Nat.add_mul]; congr 1; omega
    have hmc' : m * size ≤ cap * size := Nat.mul_le_mul_right _ hmc
    have hzl : (Builtin.zeroCells z.cells (m - n)).toList.length = (m - n) * size := by rw [Array.length_toList, size_zeroCells, hzs]
    have hz1 : ∀ u ∈ (Builtin.zeroCells z.cells (m - n)).toList, u.oneCell' = true := by
      intro u hu
      simp only [Builtin.zeroCells, Array.toList_map, List.mem_map] at hu
      obtain ⟨i, _, rfl⟩ := hu
      have hlt : i % z.cells.size < z.cells.size := Nat.mod_lt _ (by omega)
      rw [getElem!_pos z.cells (i % z.cells.size) hlt]
      exact h1 _ (by simp)
    have hst := run_storeCells_at P g (o + n * size) e (Builtin.zeroCells z.cells (m - n)).toList 0 cur w hg (by rw [hzl]; omega) hz1
    simp only [Nat.add_zero, hzl] at hst
    refine ⟨w.setRow g (List.take (o + n * size) cur.toList ++ (Builtin.zeroCells z.cells (m - n)).toList ++ List.drop (o + n * size + (m - n) * size) cur.toList).toArray, ?_, ⟨h.1, .inr ⟨g, o, cap, _, rfl, setRow_heap w g cur _ e _ hg, hn, hm, ?_, ?_⟩⟩, ⟨rfl, rfl, rfl, by simp, fun k _ hk => setRow_other w g k _ (fun e => hk (by simp [Value.ownBlock, e]))⟩⟩
    · have hd : m - n ≠ 0 := by omega
      unfold sliced
      rw [if_neg (by omega)]
      simp only [Option.map_some, e1]
      obtain ⟨d, hd'⟩ : ∃ d, m - n = d + 1 := ⟨m - n - 1, by omega⟩
      rw [hd'] at hst ⊢
      simp [Builtin.clear_, run_underlying ht, hz, hst]
    · simp only [List.size_toArray, List.length_append, List.length_take, List.length_drop, Array.length_toList]
      rw [size_zeroCells, hzs]
      omega
    · rw [← hx]
      show List.take _ (List.drop o (cur.toList.take (o + n * size) ++ _ ++ _)) = _
      have hlo : (cur.toList.take o).length = o := by simp; omega
      rw [List.take_add (i := o) (j := n * size), List.append_assoc, List.append_assoc, List.drop_left' hlo]
      have hl2 : (List.take (n * size) (cur.toList.drop o)).length = n * size := by simp; omega
      exact List.take_left' hl2

theorem wpList_clear_S {P : Program} {ops : Array Oper} {rest : List Oper} {o : Oper} {ac : Act} {Q : Exit → Act → World → Prop} (hgd : o.guard = none) (x : Operand) (t : TypeId) (ho : o.op = .call { callee := .builtin .clear, args := #[x], argTypes := #[t] })
    {z : Value} (ht : P.underlying t = some (.slice e)) (hz : ∀ w, (zeroValue e).run P w = .ok z w) (hzs : z.cells.size = size) (h0 : 0 < size) (h1 : ∀ u ∈ z.cells.toList, u.oneCell' = true)
    {a : Option Addr} {cap m c : Nat} (h : OwnS w e size (.slice a n cap) n xs) (hx : ac.eval x = sliced a n m c size) (hnm : n ≤ m) (hmc : m ≤ cap) (hc : n = m ∨ c ≠ n)
    (hK : ∀ w', OwnS w' e size (.slice a n cap) n xs → Fr (fun k => (Value.slice a n cap).ownBlock = some k) w w' → wpList P ops Q rest (ac.put o.dst (.tuple #[])) w') : wpList P ops Q (o :: rest) ac w := by
  refine wpList_plain hgd fun K' hK' => ?_
  obtain ⟨w', hrun, h2, h3⟩ := run_clear_S (P := P) (t := t) (ty := o.type) ht hz hzs h0 h1 h hnm hmc hc
  unfold Oper.wp
  simp [execOp, ho, resolve, invoke, builtin, hx, hrun, Result.andThen]
  exact hK' _ _ (hK w' h2 h3)
end
end Go.Proofs.Ytekiccbhjnfciaa
