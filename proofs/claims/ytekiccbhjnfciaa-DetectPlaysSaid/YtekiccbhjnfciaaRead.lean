/- How arguments read: a slice whose elements read, a struct whose fields read. Nothing here speaks of a program. -/
import Derived.Test.YtekiccbhjnfciaaBase2
import Derived.Deep.Slices
import Derived.SizedLaws
import Derived.ProofKit
import Derived.OpenShut
namespace Go.Proofs.Ytekiccbhjnfciaa
open Go.RowKit Go.ChangeShapes Go.WideShapes Go.Deep
variable {H : Type} {enc : TypeId × Value → H} {P : Program} {w : World} {base : Nat} {spare : Nat → Bool} {held : Bool}
/-- the cells cs read as d -/
def Reads (enc : TypeId × Value → H) (P : Program) (w : World) (base : Nat) (spare : Nat → Bool) (held : Bool) (t : TypeId) (cs : List Value) (d : DataW H) : Prop :=
  ∃ fuel p, DataW.trod enc P w base spare held fuel t cs = some (d, p)
theorem Reads.of_trod {t : TypeId} {v : Value} {d : DataW H} {p : List MemPlace} (h : DataW.Trod enc P w base spare held t v d p) : Reads enc P w base spare held t v.cells.toList d := by
  obtain ⟨fuel, hf⟩ := h
  exact ⟨fuel, p, hf⟩
theorem Reads.int {t : TypeId} {k : IntKind} (ht : P.underlying t = some (.int k)) {cs : List Value} {d : DataW H} (h : Reads enc P w base spare held t cs d) : ∃ n, cs = [.int k n] ∧ d = .lit (.int k n) ∧ (Lit.int k n).wf = true := by
  obtain ⟨fuel, p, hf⟩ := h
  obtain ⟨n, h1, h2, h3⟩ := DataW.trod_int ht hf
  exact ⟨n, h1, congrArg Prod.fst h2, h3⟩
theorem Reads.bool {t : TypeId} (ht : P.underlying t = some .bool) {cs : List Value} {d : DataW H} (h : Reads enc P w base spare held t cs d) : ∃ b, cs = [.bool b] ∧ d = .lit (.bool b) := by
  obtain ⟨fuel, p, hf⟩ := h
  obtain ⟨n, h1, h2⟩ := DataW.trod_bool ht hf
  exact ⟨n, h1, congrArg Prod.fst h2⟩
theorem Reads.string {t : TypeId} (ht : P.underlying t = some .string) {cs : List Value} {d : DataW H} (h : Reads enc P w base spare held t cs d) : ∃ s : ByteArray, cs = [.string s] ∧ d = .lit (.string s.data.toList) ∧ s.size ≤ maxLen := by
  obtain ⟨fuel, p, hf⟩ := h
  obtain ⟨n, h1, h2, h3⟩ := DataW.trod_string ht hf
  exact ⟨n, h1, congrArg Prod.fst h2, h3⟩
theorem Reads.struct {t : TypeId} {fs : Array Field} (ht : P.underlying t = some (.struct fs)) {cs : List Value} {d : DataW H} (h : Reads enc P w base spare held t cs d) :
    ∃ ds : List (DataW H), d = .agg ds ∧ cs.length = P.cellsOf t ∧ ds.length = fs.size ∧ ∀ (i : Nat) (f : Field) (x : DataW H), fs[i]? = some f → ds[i]? = some x →
      Reads enc P w base spare held f.type ((cs.drop f.offset).take (P.cellsOf f.type)) x ∧ ∀ k ∈ x.weights P f.type, k ∈ d.weights P t := by
  obtain ⟨fuel, p, hf⟩ := h
  obtain ⟨xs, n, _, hx, hcl, hxl, hg⟩ := DataW.trod_struct ht hf
  have hd : d = .agg (xs.map (·.1)) := congrArg Prod.fst hx
  refine ⟨xs.map (·.1), hd, hcl, by simpa using hxl, fun i f x hfi hxi => ?_⟩
  rw [List.getElem?_map] at hxi
  cases hxs : xs[i]? with
  | none => rw [hxs] at hxi; cases hxi
  | some y =>
    rw [hxs] at hxi
    have hy : y.1 = x := by simpa using hxi
    refine ⟨⟨n, y.2, ?_⟩, fun k hk => ?_⟩
    · rw [hg i f hfi, hxs, ← hy]
    · rw [hd]
      have hfl : (fs.toList.map (·.type))[i]? = some f.type := by
        rw [List.getElem?_map, Array.getElem?_toList, hfi]; rfl
      have := DataW.weights_mem_each (P := P) (ts := fs.toList.map (·.type)) (ds := xs.map (·.1)) (j := i) hfl (by rw [List.getElem?_map, hxs]; simp [hy]) k hk
      simpa [DataW.weights, ht] using this
theorem Reads.array {t e : TypeId} {n : Nat} (ht : P.underlying t = some (.array n e)) {cs : List Value} {d : DataW H} (h : Reads enc P w base spare held t cs d) :
    ∃ ds : List (DataW H), d = .agg ds ∧ cs.length = P.cellsOf t ∧ ds.length = n ∧ ∀ (i : Nat) (x : DataW H), ds[i]? = some x → Reads enc P w base spare held e ((cs.drop (i * P.cellsOf e)).take (P.cellsOf e)) x := by
  obtain ⟨fuel, p, hf⟩ := h
  obtain ⟨xs, m, _, hx, hcl, hxl, hg⟩ := DataW.trod_array ht hf
  have hd : d = .agg (xs.map (·.1)) := congrArg Prod.fst hx
  refine ⟨xs.map (·.1), hd, hcl, by simpa using hxl, fun i x hxi => ?_⟩
  rw [List.getElem?_map] at hxi
  cases hxs : xs[i]? with
  | none => rw [hxs] at hxi; cases hxi
  | some y =>
    rw [hxs] at hxi
    have hy : y.1 = x := by simpa using hxi
    have hil : i < n := by have := (List.getElem?_eq_some_iff.1 hxs).1; omega
    exact ⟨m, y.2, by rw [hg i hil, hxs, ← hy]⟩
theorem list1 {α : Type} {l : List α} (h : l.length = 1) : ∃ x0, l = [x0] := by
  match l, h with
  | [x0], _ => exact ⟨x0, rfl⟩
theorem list2 {α : Type} {l : List α} (h : l.length = 2) : ∃ x0 x1, l = [x0, x1] := by
  match l, h with
  | [x0, x1], _ => exact ⟨x0, x1, rfl⟩
theorem list3 {α : Type} {l : List α} (h : l.length = 3) : ∃ x0 x1 x2, l = [x0, x1, x2] := by
  match l, h with
  | [x0, x1, x2], _ => exact ⟨x0, x1, x2, rfl⟩
theorem list4 {α : Type} {l : List α} (h : l.length = 4) : ∃ x0 x1 x2 x3, l = [x0, x1, x2, x3] := by
  match l, h with
  | [x0, x1, x2, x3], _ => exact ⟨x0, x1, x2, x3, rfl⟩
theorem list5 {α : Type} {l : List α} (h : l.length = 5) : ∃ x0 x1 x2 x3 x4, l = [x0, x1, x2, x3, x4] := by
  match l, h with
  | [x0, x1, x2, x3, x4], _ => exact ⟨x0, x1, x2, x3, x4, rfl⟩
theorem list6 {α : Type} {l : List α} (h : l.length = 6) : ∃ x0 x1 x2 x3 x4 x5, l = [x0, x1, x2, x3, x4, x5] := by
  match l, h with
  | [x0, x1, x2, x3, x4, x5], _ => exact ⟨x0, x1, x2, x3, x4, x5, rfl⟩
theorem list7 {α : Type} {l : List α} (h : l.length = 7) : ∃ x0 x1 x2 x3 x4 x5 x6, l = [x0, x1, x2, x3, x4, x5, x6] := by
  match l, h with
  | [x0, x1, x2, x3, x4, x5, x6], _ => exact ⟨x0, x1, x2, x3, x4, x5, x6, rfl⟩
theorem list8 {α : Type} {l : List α} (h : l.length = 8) : ∃ x0 x1 x2 x3 x4 x5 x6 x7, l = [x0, x1, x2, x3, x4, x5, x6, x7] := by
  match l, h with
  | [x0, x1, x2, x3, x4, x5, x6, x7], _ => exact ⟨x0, x1, x2, x3, x4, x5, x6, x7, rfl⟩
theorem weights_all {e : TypeId} : ∀ {l : List (DataW H)} {x : DataW H}, x ∈ l → ∀ k ∈ x.weights P e, k ∈ DataW.weightsAll P e l
  | y :: l, x, h, k, hk => by
    simp only [DataW.weightsAll, List.mem_append]
    rcases List.mem_cons.1 h with rfl | h
    · exact .inl hk
    · exact .inr (weights_all h k hk)
/-- A slice that comes in: its elements, each with its cells and what they read as. -/
theorem Reads.slice {t e : TypeId} {size : Nat} (ht : P.underlying t = some (.slice e)) (hC : P.cellsOf e = size) (h0 : 0 < size) {cs : List Value} {d : DataW H} (h : Reads enc P w base spare held t cs d) :
    ∃ (a : Option Addr) (n cap : Nat) (els : List (List Value × DataW H)), cs = [.slice a n cap] ∧ n ≤ cap ∧ cap ≤ maxLen ∧ els.length = n ∧ RdS w w.heap.size size (.slice a n cap) n (els.flatMap (·.1)) ∧
      (0 < n → ∃ m, n ≤ m ∧ m * P.bytesOf e ∈ d.weights P t) ∧
      ∀ x ∈ els, x.1.length = size ∧ Reads enc P w base spare held e x.1 x.2 ∧ ∀ k ∈ x.2.weights P e, k ∈ d.weights P t := by
  obtain ⟨fuel, p, hf⟩ := h
  rcases open_slice ht hf with ⟨h1, h2⟩ | ⟨a, len, cap, m, n, D, Pl, hcs, hb, hl, hm, hmm, hx, hi⟩
  · exact ⟨none, 0, 0, [], h1, Nat.le_refl _, by simp, rfl, RdS.nil _ _ _, fun h => absurd h (by omega), fun x hx => by cases hx⟩
  · have hlm : len ≤ m := by rw [hmm]; split <;> omega
    have hch : ∀ i, i < len → ∃ c, w.cells? base (a.add (i * P.cellsOf e)) (P.cellsOf e) = some c ∧ DataW.trod enc P w base spare held n e c = some (D i, Pl i) := fun i hil => hi i (by omega)
    obtain ⟨C, hCc⟩ : ∃ C : Nat → List Value, ∀ i, i < len → w.cells? base (a.add (i * P.cellsOf e)) (P.cellsOf e) = some (C i) ∧ DataW.trod enc P w base spare held n e (C i) = some (D i, Pl i) :=
      ⟨fun i => if h : i < len then Classical.choose (hch i h) else [], fun i h => by simp only [h, dif_pos]; exact Classical.choose_spec (hch i h)⟩
    have hd : d = .slice ((List.range len).map D) ((List.range (m - len)).map fun j => D (len + j)) := congrArg Prod.fst hx
    have hlen : ∀ i, i < len → (C i).length = size := fun i hil => by
      obtain ⟨_, h2, _⟩ := World.cells?_some (hCc i hil).1
      rw [h2, hC]
    have hcell : ∀ i j, i < len → j < size → w.cell? (a.add (i * size + j)) = (C i)[j]? := fun i j hil hj => by
      obtain ⟨_, _, h3⟩ := World.cells?_some (hCc i hil).1
      have := h3 j (by rw [hC]; exact hj)
      rw [hC] at this
      rw [Go.Deep.add_add] at this
      exact this
    refine ⟨some a, len, cap, (List.range len).map fun i => (C i, D i), hcs, hl, hm, by simp, ?_, fun _ => ⟨m, hlm, ?_⟩, ?_⟩
    · have hfl : ∀ (l : List Nat), (∀ i ∈ l, i < len) → ((l.map fun i => (C i, D i)).flatMap (·.1)).length = l.length * size := by
        intro l
        induction l with
        | nil => intro _; simp
        | cons i l ih =>
          intro hll
          simp only [List.map_cons, List.flatMap_cons, List.length_append, List.length_cons]
          rw [hlen i (hll i List.mem_cons_self), ih (fun j hj => hll j (List.mem_cons_of_mem _ hj)), Nat.add_mul]
          omega
      refine ⟨by rw [hfl _ (fun i hi => List.mem_range.1 hi)]; simp, some a, cap, rfl, hl, fun hpos => ?_⟩
      have hspot : a.spot = none := by
        have hC0 : 0 < (C 0).length := by rw [hlen 0 hpos]; exact h0
        have h1 := hcell 0 0 hpos h0
        have h2 : (C 0)[0]? = some (C 0)[0] := List.getElem?_eq_getElem hC0
        rw [h2] at h1
        have e1 : a.add (0 * size + 0) = a := by simp [Addr.add]
        rw [e1] at h1
        cases hs : a.spot with
        | none => rfl
        | some s =>
          unfold World.cell? at h1
          simp [hs] at h1
          split at h1 <;> simp_all
      obtain ⟨g, o, s⟩ := a
      simp only at hspot
      subst hspot
      have hlt : g < w.heap.size := by
        have hC0 : 0 < (C 0).length := by rw [hlen 0 hpos]; exact h0
        have h1 := hcell 0 0 hpos h0
        have h2 : (C 0)[0]? = some (C 0)[0] := List.getElem?_eq_getElem hC0
        rw [h2, add_at] at h1
        exact World.block_lt_of_cell? w _ h1
      refine ⟨g, o, rfl, hlt, fun j u hj => ?_⟩
      have hq : j / size < len := by
        have hjl : j < (((List.range len).map fun i => (C i, D i)).flatMap (fun y : List Value × DataW H => y.1)).length := (List.getElem?_eq_some_iff.1 hj).1
        rw [hfl _ (fun i hi => List.mem_range.1 hi), List.length_range] at hjl
        exact Nat.div_lt_of_lt_mul (by rw [Nat.mul_comm]; exact hjl)
      have hr : j % size < size := Nat.mod_lt _ h0
      have hjd : j / size * size + j % size = j := by rw [Nat.mul_comm]; exact Nat.div_add_mod j size
      have hc := hcell (j / size) (j % size) hq hr
      rw [hjd, add_at] at hc
      rw [hc, ← hj]
      have key : ∀ (l : List Nat) (i : Nat), (∀ q ∈ l, q < len) → i < l.length → ((l.map fun i => (C i, D i)).flatMap (·.1))[i * size + j % size]? = (C (l.getD i 0))[j % size]? := by
        intro l
        induction l with
        | nil => intro i _ hi; simp at hi
        | cons q l ih =>
          intro i hll hi
          have hql := hlen q (hll q List.mem_cons_self)
          simp only [List.map_cons, List.flatMap_cons]
          cases i with
          | zero => rw [Nat.zero_mul, Nat.zero_add, List.getElem?_append_left (by rw [hql]; exact hr)]; rfl
          | succ i =>
            rw [List.getElem?_append_right (by rw [hql, Nat.add_mul]; omega), hql, show (i + 1) * size + j % size - size = i * size + j % size by rw [Nat.add_mul]; omega,
              ih i (fun q hq => hll q (List.mem_cons_of_mem _ hq)) (by simpa using hi)]
            rfl
      have := key (List.range len) (j / size) (fun q hq => List.mem_range.1 hq) (by simpa using hq)
      rw [hjd] at this
      rw [this]
      simp [List.getD, hq]
    · rw [hd]
      simp only [DataW.weights, ht, List.length_map, List.length_range]
      rw [show len + (m - len) = m by omega]
      exact List.mem_cons_self
    · intro x hx'
      obtain ⟨i, hir, rfl⟩ := List.mem_map.1 hx'
      have hil := List.mem_range.1 hir
      refine ⟨hlen i hil, ⟨n, Pl i, (hCc i hil).2⟩, fun k hk => ?_⟩
      rw [hd]
      simp only [DataW.weights, ht, List.mem_cons, List.mem_append]
      exact .inr (.inl (weights_all (List.mem_map_of_mem hir) k hk))
end Go.Proofs.Ytekiccbhjnfciaa
