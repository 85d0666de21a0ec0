/- Words of our own for memory: a frame that names what may have changed, a block known whole, a map as a list of keys and values, an iterator over it. Nothing here speaks of a program. -/
import Derived.WalkKit
import Derived.WalkLawsBesides
import Derived.WalkSpells
import Derived.Maps.RangeWalk
import Derived.Maps.OwnSet
import Derived.Deep.QuietTactic
import Derived.BigQuiet
import Derived.StillTailTactics
import Derived.Deep.RegionHeld3
import Derived.Deep.Draws
import Derived.Deep.RegionLaw
namespace Go.Proofs.Ytekiccbhjnfciaa
open Go.RowKit
open Go.ChangeMaps (setBlock)

/-! ### The frame -/
/-- 'w'' is 'w' but for the blocks of S, and new blocks. -/
structure Fr (S : Nat → Prop) (w w' : World) : Prop where
  os : w'.os = w.os
  tape : w'.tape = w.tape
  output : w'.output = w.output
  size : w.heap.size ≤ w'.heap.size
  block : ∀ k, k < w.heap.size → ¬ S k → w'.heap[k]? = w.heap[k]?

theorem Fr.refl (S : Nat → Prop) (w : World) : Fr S w w := ⟨rfl, rfl, rfl, Nat.le_refl _, fun _ _ _ => rfl⟩
theorem Fr.trans' {S S' T : Nat → Prop} {a b c : World} (h : Fr S a b) (k : Fr S' b c) (hS : ∀ i, S i → T i) (hS' : ∀ i, i < a.heap.size → S' i → T i) : Fr T a c :=
  ⟨k.os.trans h.os, k.tape.trans h.tape, k.output.trans h.output, Nat.le_trans h.size k.size, fun i hi hn =>
    (k.block i (Nat.lt_of_lt_of_le hi h.size) (fun hs => hn (hS' i hi hs))).trans (h.block i hi (fun hs => hn (hS i hs)))⟩
theorem Fr.trans {S : Nat → Prop} {a b c : World} (h : Fr S a b) (k : Fr S b c) : Fr S a c := h.trans' k (fun _ h => h) (fun _ _ h => h)
theorem Fr.mono {S T : Nat → Prop} {a b : World} (h : Fr S a b) (hS : ∀ i, i < a.heap.size → S i → T i) : Fr T a b :=
  ⟨h.os, h.tape, h.output, h.size, fun i hi hn => h.block i hi (fun hs => hn (hS i hi hs))⟩
theorem Fr.drew {S : Nat → Prop} {a w : World} (h : Fr S a w) : Fr S a w.drew := ⟨h.os, h.tape, h.output, h.size, h.block⟩
theorem Fr.drewN {S : Nat → Prop} {a w : World} (h : Fr S a w) (n : Nat) : Fr S a (w.drewN n) := ⟨h.os, h.tape, h.output, h.size, h.block⟩
theorem Fr.undrew {S : Nat → Prop} {a w : World} (h : Fr S a.drew w) : Fr S a w := ⟨h.os, h.tape, h.output, h.size, h.block⟩
theorem Fr.alloc {S : Nat → Prop} {a w : World} (h : Fr S a w) (o : Obj) : Fr S a (w.alloc o) :=
  ⟨h.os, h.tape, h.output, Nat.le_trans h.size (by simp), fun i hi hn => (Below.heap_alloc w o i (Nat.lt_of_lt_of_le hi h.size)).trans (h.block i hi hn)⟩
theorem Fr.setCell {S : Nat → Prop} {a w : World} (h : Fr S a w) {p : Addr} (hp : S p.block ∨ a.heap.size ≤ p.block) (u : Value) : Fr S a (w.setCell p u) :=
  ⟨h.os, h.tape, h.output, by simpa [World.setCell] using h.size, fun i hi hn => (Below.heap_setCell w p u i (by
    rintro rfl
    rcases hp with hp | hp
    · exact hn hp
    · omega)).trans (h.block i hi hn)⟩
theorem Fr.setBlock {S : Nat → Prop} {a w : World} (h : Fr S a w) {b : Nat} (hp : S b ∨ a.heap.size ≤ b) (o : Obj) : Fr S a (setBlock w b o) :=
  ⟨h.os, h.tape, h.output, by simpa [Go.ChangeMaps.setBlock] using h.size, fun i hi hn => by
    rw [← h.block i hi hn]
    have hne : b ≠ i := by
      rintro rfl
      rcases hp with hp | hp
      · exact hn hp
      · omega
    simp [Go.ChangeMaps.setBlock, hne]⟩
theorem Fr.of_below {a w : World} (h : Below a.heap.size a w) (S : Nat → Prop) : Fr S a w := ⟨h.os, h.tape, h.output, h.size, fun i hi _ => h.block i hi⟩
theorem Fr.of_below' {a w : World} {B : Nat} (h : Below B a w) {S : Nat → Prop} (hS : ∀ i, i < a.heap.size → B ≤ i → S i) : Fr S a w :=
  ⟨h.os, h.tape, h.output, h.size, fun i hi hn => h.block i (by
    rcases Nat.lt_or_ge i B with h1 | h1
    · exact h1
    · exact absurd (hS i hi h1) hn)⟩
theorem Fr.below {a w : World} {S : Nat → Prop} {B : Nat} (h : Fr S a w) (hB : B ≤ a.heap.size) (hS : ∀ i, i < B → ¬ S i) : Below B a w :=
  ⟨h.os, h.tape, h.output, h.size, fun i hi => h.block i (Nat.lt_of_lt_of_le hi hB) (hS i hi)⟩
theorem Fr.of_grown {a w : World} {row : Option Nat} (h : a.grownBy w row) {S : Nat → Prop} (hS : ∀ i, i < a.heap.size → row = some i → S i) : Fr S a w :=
  ⟨h.os, h.tape, h.output, h.size, fun i hi hn => h.block i hi (fun e => hn (hS i hi e.symm))⟩
theorem Fr.grown {a w w' : World} {row : Option Nat} {S : Nat → Prop} (h : Fr S a w) (hg : w.grownBy w' row) (hS : ∀ i, i < a.heap.size → row = some i → S i) : Fr S a w' :=
  ⟨hg.os.trans h.os, hg.tape.trans h.tape, hg.output.trans h.output, Nat.le_trans h.size hg.size, fun i hi hn =>
    (hg.block i (Nat.lt_of_lt_of_le hi h.size) (fun e => hn (hS i hi e.symm))).trans (h.block i hi hn)⟩
/-- nothing that was there has changed -/
def Same (w w' : World) : Prop := Fr (fun _ => False) w w'
theorem Same.refl (w : World) : Same w w := Fr.refl _ w
theorem Same.undrew {a w : World} (h : Same a.drew w) : Same a w := Fr.undrew (S := fun _ => False) h
theorem Same.trans {a b c : World} (h : Same a b) (k : Same b c) : Same a c := Fr.trans (S := fun _ => False) h k
theorem Same.below {a w : World} (h : Same a w) : Below a.heap.size a w := Fr.below (S := fun _ => False) h (Nat.le_refl _) (fun _ _ h => h)
theorem Same.fr {a w : World} (h : Same a w) (S : Nat → Prop) : Fr S a w := Fr.mono (S := fun _ => False) h (fun _ _ h => h.elim)
theorem Fr.cell {S : Nat → Prop} {a w : World} (h : Fr S a w) {p : Addr} (hp : p.block < a.heap.size) (hn : ¬ S p.block) : w.cell? p = a.cell? p := World.cell?_of_block (h.block _ hp hn)
theorem Fr.frozen {S : Nat → Prop} {a w : World} (h : Fr S a w) {p : Addr} (hp : p.block < a.heap.size) (hn : ¬ S p.block) : w.frozen? p = a.frozen? p := World.frozen?_of_block (h.block _ hp hn)

/-! ### A block known whole -/
def Blk (w : World) (g : Nat) (t : TypeId) (cs : Array Value) : Prop := w.heap[g]? = some (.cells cs t (0, 0))
section
variable {w w' : World} {g : Nat} {t : TypeId} {cs : Array Value}
theorem lt_of_heap {o : Obj} (h : w.heap[g]? = some o) : g < w.heap.size := by
  rcases Nat.lt_or_ge g w.heap.size with hlt | hge
  · exact hlt
  · rw [Array.getElem?_eq_none hge] at h; cases h
theorem Blk.lt (h : Blk w g t cs) : g < w.heap.size := lt_of_heap h
theorem Blk.cell (h : Blk w g t cs) (i : Nat) : w.cell? ⟨g, i, none⟩ = cs[i]? := cell_of_row w g i cs t (0, 0) h
theorem Blk.frozen (h : Blk w g t cs) (i : Nat) : w.frozen? ⟨g, i, none⟩ = false := by
  unfold Blk at h
  simp [World.frozen?, h]
theorem Blk.new (w : World) (t : TypeId) (cs : Array Value) : Blk (w.alloc (.cells cs t)) w.heap.size t cs := heap_alloc_new w _
theorem Blk.drew (h : Blk w g t cs) : Blk w.drew g t cs := h
theorem Blk.drewN (h : Blk w g t cs) (n : Nat) : Blk (w.drewN n) g t cs := h
theorem Blk.alloc (h : Blk w g t cs) (o : Obj) : Blk (w.alloc o) g t cs := (Below.heap_alloc w o g h.lt).trans h
theorem Blk.set_ (h : Blk w g t cs) (i : Nat) (u : Value) : Blk (w.setCell ⟨g, i, none⟩ u) g t (cs.setIfInBounds i u) := by
  unfold Blk at h ⊢
  simp [World.setCell, Array.getElem?_modify, h]
theorem Blk.far (h : Blk w g t cs) {p : Addr} (hp : g ≠ p.block) (u : Value) : Blk (w.setCell p u) g t cs := (Below.heap_setCell w p u g hp).trans h
theorem Blk.fr {S : Nat → Prop} (h : Blk w g t cs) (hb : Fr S w w') (hg : ¬ S g) : Blk w' g t cs := (hb.block g h.lt hg).trans h
theorem Blk.same (h : Blk w g t cs) (hb : Same w w') : Blk w' g t cs := Blk.fr (S := fun _ => False) h hb (fun h => h)
theorem Blk.below {B : Nat} (h : Blk w g t cs) (hb : Below B w w') (hg : g < B) : Blk w' g t cs := (hb.block g hg).trans h
theorem Blk.grown {row : Option Nat} (h : Blk w g t cs) (hb : w.grownBy w' row) (hg : some g ≠ row) : Blk w' g t cs := (hb.block g h.lt hg).trans h
theorem heap_setBlock_ne {b : Nat} (o : Obj) {i : Nat} (h : i ≠ b) : (setBlock w b o).heap[i]? = w.heap[i]? := by
  simp [Go.ChangeMaps.setBlock, Ne.symm h]
theorem heap_setBlock_eq {b : Nat} (o : Obj) (h : b < w.heap.size) : (setBlock w b o).heap[b]? = some o := by
  simp [Go.ChangeMaps.setBlock, h]
theorem size_setBlock (b : Nat) (o : Obj) : (setBlock w b o).heap.size = w.heap.size := by simp [Go.ChangeMaps.setBlock]
theorem Blk.setBlock (h : Blk w g t cs) {b : Nat} (hne : g ≠ b) (o : Obj) : Blk (setBlock w b o) g t cs := (heap_setBlock_ne o hne).trans h
theorem Blk.ne_ {g' : Nat} {t' : TypeId} {cs' : Array Value} (h : Blk w g t cs) (h' : Blk w g' t' cs') (hne : t ≠ t') : g ≠ g' := by
  rintro rfl
  unfold Blk at h h'
  rw [h] at h'
  injection h' with h'
  injection h' with _ ht
  exact hne ht
end

/-! ### Maps: keys of a type κ, written 'enc k' -/
section
variable {P : Program} {κ : Type}

def entOf (enc : κ → Value) (x : κ × Value × Nat) : MapEntry := { key := enc x.1, val := x.2.1, born := x.2.2 }
def kvOf (x : κ × Value × Nat) : κ × Value := (x.1, x.2.1)
/-- Block b is a map that holds M (in the order in which the keys came). -/
def MapIs (enc : κ → Value) (w : World) (b : Nat) (M : List (κ × Value)) : Prop :=
  ∃ (L : List (κ × Value × Nat)) (clock : Nat), w.heap[b]? = some (.map (L.map (entOf enc)).toArray clock) ∧ M = L.map kvOf ∧
    (L.map (·.1)).Nodup ∧ (L.map (·.2.2)).Nodup ∧ ∀ x ∈ L, x.2.2 < clock

variable {enc : κ → Value} {w w' : World} {b : Nat} {M : List (κ × Value)}
theorem MapIs.lt (h : MapIs enc w b M) : b < w.heap.size := by obtain ⟨_, _, h, _⟩ := h; exact lt_of_heap h
theorem MapIs.of_heap (h : MapIs enc w b M) (he : w'.heap[b]? = w.heap[b]?) : MapIs enc w' b M := by
  obtain ⟨L, c, h1, h2⟩ := h
  exact ⟨L, c, he.trans h1, h2⟩
theorem MapIs.fr {S : Nat → Prop} (h : MapIs enc w b M) (hb : Fr S w w') (hn : ¬ S b) : MapIs enc w' b M := h.of_heap (hb.block b h.lt hn)
theorem MapIs.same (h : MapIs enc w b M) (hb : Same w w') : MapIs enc w' b M := MapIs.fr (S := fun _ => False) h hb (fun h => h)
theorem MapIs.drew (h : MapIs enc w b M) : MapIs enc w.drew b M := h
theorem MapIs.drewN (h : MapIs enc w b M) (n : Nat) : MapIs enc (w.drewN n) b M := h
theorem MapIs.alloc (h : MapIs enc w b M) (o : Obj) : MapIs enc (w.alloc o) b M := h.of_heap (Below.heap_alloc w o b h.lt)
theorem MapIs.setCell (h : MapIs enc w b M) {p : Addr} (hp : b ≠ p.block) (u : Value) : MapIs enc (w.setCell p u) b M := h.of_heap (Below.heap_setCell w p u b hp)
theorem MapIs.setBlock (h : MapIs enc w b M) {c : Nat} (hne : b ≠ c) (o : Obj) : MapIs enc (setBlock w c o) b M := h.of_heap (heap_setBlock_ne o hne)
theorem MapIs.new (enc : κ → Value) (w : World) : MapIs enc (w.alloc (.map #[] 0)) w.heap.size [] := ⟨[], 0, heap_alloc_new w _, rfl, by simp, by simp, by simp⟩
theorem MapIs.nodup (h : MapIs enc w b M) : (M.map (·.1)).Nodup := by
  obtain ⟨L, c, _, rfl, h3, _⟩ := h
  simpa [List.map_map, Function.comp_def, kvOf] using h3
theorem MapIs.ne_blk (h : MapIs enc w b M) {g : Nat} {t : TypeId} {cs : Array Value} (hg : Blk w g t cs) : g ≠ b := by
  rintro rfl
  obtain ⟨_, _, h, _⟩ := h
  unfold Blk at hg
  rw [h] at hg
  cases hg
theorem inj_of_nodup {α β : Type} {f : α → β} : ∀ {l : List α}, (l.map f).Nodup → ∀ {x y : α}, x ∈ l → y ∈ l → f x = f y → x = y
  | [], _, _, _, hx, _, _ => by cases hx
  | z :: l, hn, x, y, hx, hy, e => by
    have hn' : f z ∉ l.map f ∧ (l.map f).Nodup := List.nodup_cons.1 hn
    rcases List.mem_cons.1 hx with h1 | h1 <;> rcases List.mem_cons.1 hy with h2 | h2
    · exact h1.trans h2.symm
    · have h := List.mem_map_of_mem (f := f) h2
      rw [← e, h1] at h
      exact absurd h hn'.1
    · have h := List.mem_map_of_mem (f := f) h1
      rw [e, h2] at h
      exact absurd h hn'.1
    · exact inj_of_nodup hn'.2 h1 h2 e

theorem map_modify_ent (L : List (κ × Value × Nat)) (i : Nat) (k : κ) (v : Value) (enc : κ → Value) :
    (L.map (entOf enc)).modify i (fun e => { e with key := enc k, val := v }) = (L.modify i fun x => (k, v, x.2.2)).map (entOf enc) := by
  induction L generalizing i with
  | nil => simp
  | cons x L ih =>
    cases i with
    | zero => simp [entOf]
    | succ i => simp [ih]

theorem modify_map {β : Type} (L : List (κ × Value × Nat)) (i : Nat) (k : κ) (v : Value) (f : κ × Value × Nat → β) (hi : (L[i]?).map (·.1) = some k)
    (hf : ∀ x : κ × Value × Nat, x.1 = k → f (k, v, x.2.2) = f x) : (L.modify i fun x => (k, v, x.2.2)).map f = L.map f := by
  induction L generalizing i with
  | nil => simp
  | cons x L ih =>
    cases i with
    | zero => simp [hf x (by simpa using hi)]
    | succ i => simp [ih i (by simpa using hi)]

theorem run_len_raw {t e kt ty : TypeId} (ht : P.underlying t = some (.map kt e)) (h : MapIs enc w b M) : (Builtin.len_ #[t] ty #[.map (some b)]).run P w = .ok (.int .i64 M.length) w := by
  obtain ⟨L, clock, hb, rfl, -⟩ := h
  simp [Builtin.len_, run_underlying ht, getObj, Sem.run, hb, goInt]
end

section
variable {P : Program} {κ : Type} [DecidableEq κ]
def mget (M : List (κ × Value)) (k : κ) : Option Value := (M.find? (fun x => decide (x.1 = k))).map (·.2)
def mput (M : List (κ × Value)) (k : κ) (v : Value) : List (κ × Value) := if (mget M k).isSome then M.map (fun x => if x.1 = k then (k, v) else x) else M ++ [(k, v)]
def mdel (M : List (κ × Value)) (k : κ) : List (κ × Value) := M.filter (fun x => !decide (x.1 = k))

/-- What the model must say of the keys of a type: they may be keys; two of them are one just where they are one. -/
structure KeyOk (P : Program) (kt : TypeId) (enc : κ → Value) : Prop where
  check : ∀ (e : Bool) (k : κ) (w : World), (Instr.checkKey e 10000 kt (enc k)).run P w = .ok () w
  find : ∀ (k : κ) (L : List (κ × Value × Nat)) (w : World), (Instr.findKey kt (enc k) (L.map (entOf enc))).run P w =
    .ok ((L.findIdx? (fun x => decide (x.1 = k))).bind fun i => (L[i]?).map fun x => (i, x.2.1)) w
  same : ∀ k : κ, Instr.sameBits 10000 (enc k) (enc k) = true

theorem find_idx (L : List (κ × Value × Nat)) (k : κ) :
    ((L.findIdx? (fun x => decide (x.1 = k))).bind fun i => (L[i]?).map fun x => (i, x.2.1)).map (·.2) = mget (L.map kvOf) k := by
  induction L with
  | nil => rfl
  | cons x L ih =>
    by_cases hx : x.1 = k
    · simp [List.findIdx?_cons, hx, mget, kvOf]
    · simp only [List.findIdx?_cons, hx, decide_false, mget, List.map_cons, List.find?_cons, kvOf] at ih ⊢
      rw [← ih]
      cases h : List.findIdx? (fun x => decide (x.1 = k)) L with
      | none => simp
      | some i =>
        simp only [Bool.false_eq_true, if_false, Option.map_some, Option.bind_some, List.getElem?_cons_succ]
        cases h2 : L[i]? <;> simp

variable {enc : κ → Value} {w w' : World} {b : Nat} {M : List (κ × Value)}
theorem run_lookup_raw {t e kt : TypeId} (K : KeyOk P kt enc) (ht : P.underlying t = some (.map kt e)) (h : MapIs enc w b M) (k : κ) {z : Value} (hz : (zeroValue e).run P w = .ok z w) (c : Bool) :
    (Instr.lookup t (.map (some b)) (enc k) c).run P w = .ok (if c then .tuple #[(mget M k).getD z, .bool (mget M k).isSome] else (mget M k).getD z) w := by
  obtain ⟨L, clock, hb, rfl, -⟩ := h
  have hf := K.find k L w
  have hi := find_idx L k
  unfold Instr.lookup
  simp only [Sem.run_bind, run_underlying ht, Result.andThen_ok, getObj, Sem.run, hb, K.check, Sem.run_pure, hf]
  generalize hr : ((L.findIdx? (fun x => decide (x.1 = k))).bind fun i => (L[i]?).map fun x => (i, x.2.1)) = r at hi
  rw [← hi]
  cases r with
  | none => cases c <;> simp [hz, Result.andThen_ok]
  | some iv => cases c <;> simp [Sem.run_pure]

theorem findIdx_none {L : List (κ × Value × Nat)} {k : κ} (h : L.findIdx? (fun x => decide (x.1 = k)) = none) : mget (L.map kvOf) k = none := by
  rw [← find_idx, h]; rfl
theorem findIdx_some {L : List (κ × Value × Nat)} {k : κ} {i : Nat} (h : L.findIdx? (fun x => decide (x.1 = k)) = some i) :
    ∃ v bo, L[i]? = some (k, v, bo) ∧ mget (L.map kvOf) k = some v := by
  obtain ⟨hlt, hk⟩ := List.findIdx?_eq_some_iff_getElem.1 h
  have hk1 : (L[i]).1 = k := by simpa using hk.1
  refine ⟨(L[i]).2.1, (L[i]).2.2, ?_, ?_⟩
  · rw [List.getElem?_eq_getElem hlt, ← hk1]
  · rw [← find_idx, h]
    simp [hlt]

theorem modify_kv (L : List (κ × Value × Nat)) (hn : (L.map (·.1)).Nodup) (i : Nat) (k : κ) (v : Value) (hi : (L[i]?).map (·.1) = some k) :
    (L.modify i fun x => (k, v, x.2.2)).map kvOf = (L.map kvOf).map fun x => if x.1 = k then (k, v) else x := by
  induction L generalizing i with
  | nil => simp
  | cons x L ih =>
    have hn' : x.1 ∉ L.map (·.1) ∧ (L.map (·.1)).Nodup := List.nodup_cons.1 hn
    cases i with
    | zero =>
      have hx : x.1 = k := by simpa using hi
      have hrest : (L.map kvOf).map (fun y => if y.1 = k then (k, v) else y) = L.map kvOf := by
        rw [List.map_map]
        apply List.map_congr_left
        intro y hy
        have hne : y.1 ≠ k := fun e => hn'.1 (by rw [hx, ← e]; exact List.mem_map_of_mem (f := (·.1)) hy)
        simp [kvOf, hne]
      simp only [List.modify_zero_cons, List.map_cons, hrest]
      simp [kvOf, hx]
    | succ i =>
      have hi' : (L[i]?).map (·.1) = some k := by simpa using hi
      have hx : x.1 ≠ k := by
        rintro rfl
        apply hn'.1
        cases h : L[i]? with
        | none => simp [h] at hi'
        | some y =>
          rw [h] at hi'
          have : y.1 = x.1 := by simpa using hi'
          rw [← this]
          exact List.mem_map_of_mem (f := (·.1)) (List.mem_of_getElem? h)
      simp only [List.modify_succ_cons, List.map_cons, ih hn'.2 i hi']
      simp [kvOf, hx]

/-- 'm[k] = v' -/
theorem run_mapUpdate_raw {t e kt : TypeId} (K : KeyOk P kt enc) (ht : P.underlying t = some (.map kt e)) (h : MapIs enc w b M) (k : κ) (v : Value) :
    ∃ o, (Instr.mapUpdate t (.map (some b)) (enc k) v).run P w = .ok () (setBlock w b o) ∧ MapIs enc (setBlock w b o) b (mput M k v) := by
  have hlt := h.lt
  obtain ⟨L, clock, hb, rfl, hk, hbn, hc⟩ := h
  have hf := K.find k L w
  unfold Instr.mapUpdate
  simp only [Sem.run_bind, run_underlying ht, Result.andThen_ok, getObj, Sem.run, hb, K.check, hf]
  cases hr : L.findIdx? (fun x => decide (x.1 = k)) with
  | none =>
    have hg := findIdx_none hr
    refine ⟨.map ((L ++ [(k, v, clock)]).map (entOf enc)).toArray (clock + 1), ?_, L ++ [(k, v, clock)], clock + 1, heap_setBlock_eq _ hlt, ?_, ?_, ?_, ?_⟩
    · simp [setObj, Sem.run, hb, Go.ChangeMaps.setBlock, entOf]
    · simp [mput, hg, kvOf]
    · rw [List.map_append, List.nodup_append]
      refine ⟨hk, by simp, ?_⟩
      intro a ha c hc' e
      subst e
      have hc'' : a = k := by simpa using hc'
      subst hc''
      obtain ⟨x, hx, hxa⟩ := List.mem_map.1 ha
      have := List.findIdx?_eq_none_iff.1 hr x hx
      simp [hxa] at this
    · rw [List.map_append, List.nodup_append]
      refine ⟨hbn, by simp, ?_⟩
      intro a ha c hc' e
      subst e
      have hc'' : a = clock := by simpa using hc'
      obtain ⟨x, hx, hxa⟩ := List.mem_map.1 ha
      have := hc x hx
      omega
    · intro x hx
      rcases List.mem_append.1 hx with hx | hx
      · have := hc x hx; omega
      · have : x = (k, v, clock) := by simpa using hx
        subst this
        simp
  | some i =>
    obtain ⟨v0, bo, hi, hg⟩ := findIdx_some hr
    have hi1 : (L[i]?).map (·.1) = some k := by rw [hi]; rfl
    refine ⟨.map ((L.modify i fun x => (k, v, x.2.2)).map (entOf enc)).toArray clock, ?_, L.modify i fun x => (k, v, x.2.2), clock, heap_setBlock_eq _ hlt, ?_, ?_, ?_, ?_⟩
    · have hm := map_modify_ent L i k v enc
      have hki : (((L.map (entOf enc)).toArray[i]?).map (·.key)).getD (enc k) = enc k := by simp [hi, entOf]
      simp only [Option.bind_some, hi, Option.map_some, hki, Instr.keyThatStays, K.same, if_true, Sem.run_bind, Sem.run_pure, Result.andThen_ok, setObj, Sem.run, hb, Go.ChangeMaps.setBlock]
      simp only [List.modify_toArray, hm]
    · rw [mput, hg, Option.isSome_some, if_pos rfl, modify_kv L hk i k v hi1]
    · rw [modify_map L i k v (·.1) hi1 (fun x hx => hx.symm)]; exact hk
    · rw [modify_map L i k v (·.2.2) hi1 (fun x hx => rfl)]; exact hbn
    · intro x hx
      obtain ⟨j, hj⟩ := List.mem_iff_getElem?.1 hx
      rw [List.getElem?_modify] at hj
      cases hLj : L[j]? with
      | none => simp [hLj] at hj
      | some y =>
        have hy := hc y (List.mem_of_getElem? hLj)
        rw [hLj] at hj
        have hj' : (if i = j then (k, v, y.2.2) else y) = x := by simpa using hj
        subst hj'
        split <;> exact hy

/-! ### delete, len -/
theorem mdel_erase (L : List (κ × Value × Nat)) (hn : (L.map (·.1)).Nodup) (k : κ) (i : Nat) (hi : (L[i]?).map (·.1) = some k) : (L.eraseIdx i).map kvOf = mdel (L.map kvOf) k := by
  induction L generalizing i with
  | nil => simp at hi
  | cons x L ih =>
    have hn' : x.1 ∉ L.map (·.1) ∧ (L.map (·.1)).Nodup := List.nodup_cons.1 hn
    cases i with
    | zero =>
      have hx : x.1 = k := by simpa using hi
      have : mdel (L.map kvOf) k = L.map kvOf := by
        unfold mdel
        rw [List.filter_eq_self]
        intro y hy
        obtain ⟨z, hz, rfl⟩ := List.mem_map.1 hy
        have : z.1 ≠ k := fun e => hn'.1 (by rw [hx, ← e]; exact List.mem_map_of_mem (f := (·.1)) hz)
        simp [kvOf, this]
      simp only [List.eraseIdx_cons_zero, List.map_cons]
      have h0 : mdel (kvOf x :: L.map kvOf) k = mdel (L.map kvOf) k := by simp [mdel, kvOf, hx]
      rw [h0, this]
    | succ i =>
      have hi' : (L[i]?).map (·.1) = some k := by simpa using hi
      have hx : x.1 ≠ k := by
        rintro rfl
        apply hn'.1
        cases h : L[i]? with
        | none => simp [h] at hi'
        | some y =>
          rw [h] at hi'
          have : y.1 = x.1 := by simpa using hi'
          rw [← this]
          exact List.mem_map_of_mem (f := (·.1)) (List.mem_of_getElem? h)
      have := ih hn'.2 i hi'
      simp only [List.eraseIdx_cons_succ, List.map_cons, this]
      simp [mdel, kvOf, hx]

theorem mdel_absent {M : List (κ × Value)} {k : κ} (h : mget M k = none) : mdel M k = M := by
  unfold mdel
  rw [List.filter_eq_self]
  intro y hy
  have h1 : M.find? (fun x => decide (x.1 = k)) = none := by simpa [mget] using h
  have := List.find?_eq_none.1 h1 y hy
  simpa using this

/-- 'delete(m, k)' -/
theorem run_delete_raw {t e kt ty : TypeId} (K : KeyOk P kt enc) (ht : P.underlying t = some (.map kt e)) (h : MapIs enc w b M) (k : κ) :
    ∃ o, (Builtin.delete_ #[t, kt] ty #[.map (some b), enc k]).run P w = .ok (.tuple #[]) (setBlock w b o) ∧ MapIs enc (setBlock w b o) b (mdel M k) := by
  have hlt := h.lt
  obtain ⟨L, clock, hb, rfl, hk, hbn, hc⟩ := h
  have hf := K.find k L w
  unfold Builtin.delete_
  simp only [List.getElem?_toArray, List.getElem?_cons_zero, List.getElem?_cons_succ, Sem.run_bind, run_underlying ht, Result.andThen_ok, getObj, Sem.run, hb, K.check, hf]
  cases hr : L.findIdx? (fun x => decide (x.1 = k)) with
  | none =>
    have hg := findIdx_none hr
    refine ⟨.map (L.map (entOf enc)).toArray clock, ?_, L, clock, heap_setBlock_eq _ hlt, mdel_absent hg, hk, hbn, hc⟩
    simp [setObj, Sem.run, hb, Go.ChangeMaps.setBlock]
  | some i =>
    obtain ⟨v0, bo, hi, hg⟩ := findIdx_some hr
    have hi1 : (L[i]?).map (·.1) = some k := by rw [hi]; rfl
    have hil : i < L.length := (List.getElem?_eq_some_iff.1 hi).1
    refine ⟨.map ((L.eraseIdx i).map (entOf enc)).toArray clock, ?_, L.eraseIdx i, clock, heap_setBlock_eq _ hlt, (mdel_erase L hk k i hi1).symm, ?_, ?_, fun x hx => hc x (List.mem_of_mem_eraseIdx hx)⟩
    · have he : ((L.map (entOf enc)).toArray.eraseIdxIfInBounds i) = ((L.eraseIdx i).map (entOf enc)).toArray := by
        rw [Array.eraseIdxIfInBounds, dif_pos (by simpa using hil), List.eraseIdx_toArray, Go.ChangeMaps.map_eraseIdx]
      simp [hi, setObj, Sem.run, hb, Go.ChangeMaps.setBlock, he]
    · rw [Go.ChangeMaps.map_eraseIdx]; exact hk.sublist (List.eraseIdx_sublist _ _)
    · rw [Go.ChangeMaps.map_eraseIdx]; exact hbn.sublist (List.eraseIdx_sublist _ _)


/-! ### Ranging over a map -/
/-- Block r is an iterator over the map in block b, which holds M; 'left' is still to come. -/
def IterIs (enc : κ → Value) (w : World) (r b : Nat) (M left : List (κ × Value)) : Prop :=
  ∃ (L : List (κ × Value × Nat)) (clock since : Nat) (seen : Array Nat) (c0 : Nat), w.heap[b]? = some (.map (L.map (entOf enc)).toArray clock) ∧ M = L.map kvOf ∧
    (L.map (·.1)).Nodup ∧ (L.map (·.2.2)).Nodup ∧ (∀ x ∈ L, x.2.2 < clock) ∧ w.heap[r]? = some (.mapIter (some b) since seen c0) ∧ (∀ x ∈ L, x.2.2 < since) ∧ since ≤ c0 ∧ since ≤ clock ∧
    left = (L.filter fun x => !seen.contains x.2.2).map kvOf

omit [DecidableEq κ] in
theorem IterIs.map {r : Nat} {left : List (κ × Value)} (h : IterIs enc w r b M left) : MapIs enc w b M := by
  obtain ⟨L, clock, since, seen, c0, h1, h2, h3, h4, h5, _⟩ := h
  exact ⟨L, clock, h1, h2, h3, h4, h5⟩
omit [DecidableEq κ] in
theorem IterIs.lt {r : Nat} {left : List (κ × Value)} (h : IterIs enc w r b M left) : r < w.heap.size := by
  obtain ⟨L, clock, since, seen, c0, h1, h2, h3, h4, h5, h6, _⟩ := h
  exact lt_of_heap h6
omit [DecidableEq κ] in
theorem IterIs.of_heap {r : Nat} {left : List (κ × Value)} (h : IterIs enc w r b M left) (hb : w'.heap[b]? = w.heap[b]?) (hr : w'.heap[r]? = w.heap[r]?) : IterIs enc w' r b M left := by
  obtain ⟨L, clock, since, seen, c0, h1, h2, h3, h4, h5, h6, h7⟩ := h
  exact ⟨L, clock, since, seen, c0, hb.trans h1, h2, h3, h4, h5, hr.trans h6, h7⟩
omit [DecidableEq κ] in
theorem IterIs.fr {r : Nat} {left : List (κ × Value)} {S : Nat → Prop} (h : IterIs enc w r b M left) (hf : Fr S w w') (hb : ¬ S b) (hr : ¬ S r) : IterIs enc w' r b M left :=
  h.of_heap (hf.block b h.map.lt hb) (hf.block r h.lt hr)
omit [DecidableEq κ] in
theorem IterIs.ne_blk {r : Nat} {left : List (κ × Value)} (h : IterIs enc w r b M left) {g : Nat} {t : TypeId} {cs : Array Value} (hg : Blk w g t cs) : g ≠ r := by
  rintro rfl
  obtain ⟨L, clock, since, seen, c0, h1, h2, h3, h4, h5, h6, _⟩ := h
  unfold Blk at hg
  rw [h6] at hg
  cases hg
omit [DecidableEq κ] in
theorem IterIs.ne {r : Nat} {left : List (κ × Value)} (h : IterIs enc w r b M left) : r ≠ b := by
  rintro rfl
  obtain ⟨L, clock, since, seen, c0, h1, h2, h3, h4, h5, h6, _⟩ := h
  rw [h1] at h6
  cases h6
omit [DecidableEq κ] in
theorem IterIs.mem {r : Nat} {left : List (κ × Value)} (h : IterIs enc w r b M left) : ∀ x ∈ left, x ∈ M := by
  obtain ⟨L, clock, since, seen, c0, h1, rfl, h3, h4, h5, h6, h7, h8, h9, rfl⟩ := h
  intro x hx
  obtain ⟨y, hy, rfl⟩ := List.mem_map.1 hx
  exact List.mem_map_of_mem (List.mem_filter.1 hy).1

omit [DecidableEq κ] in
theorem run_range_raw {t e kt : TypeId} (ht : P.underlying t = some (.map kt e)) (h : MapIs enc w b M) :
    ∃ o, (Instr.range t (.map (some b))).run P w = .ok (.pointer (some ⟨w.heap.size, 0, none⟩)) (w.alloc o) ∧ IterIs enc (w.alloc o) w.heap.size b M M := by
  have hlt := h.lt
  obtain ⟨L, clock, hb, rfl, hk, hbn, hc⟩ := h
  refine ⟨.mapIter (some b) clock #[] clock, ?_, L, clock, clock, #[], clock, ?_, rfl, hk, hbn, hc, heap_alloc_new w _, hc, Nat.le_refl _, Nat.le_refl _, ?_⟩
  · simp [Instr.range, run_underlying ht, getObj, newObj, Sem.run, hb, Result.andThen]
  · exact (Below.heap_alloc w _ b hlt).trans hb
  · rw [List.filter_eq_self.2 (by simp)]

theorem filter_push (L : List (κ × Value × Nat)) (hb : (L.map (·.2.2)).Nodup) (hk : (L.map (·.1)).Nodup) (seen : Array Nat) (x : κ × Value × Nat) (hx : x ∈ L) :
    (L.filter fun y => !(seen.push x.2.2).contains y.2.2).map kvOf = mdel ((L.filter fun y => !seen.contains y.2.2).map kvOf) x.1 := by
  unfold mdel
  rw [List.filter_map, List.filter_filter]
  congr 1
  apply List.filter_congr
  intro y hy
  by_cases hxy : y = x
  · subst hxy; simp [kvOf]
  · have hne1 : y.2.2 ≠ x.2.2 := fun e => hxy (inj_of_nodup hb hy hx e)
    have hne2 : y.1 ≠ x.1 := fun e => hxy (inj_of_nodup hk hy hx e)
    simp [kvOf, hne1, hne2]

theorem run_next_raw {r : Nat} {left : List (κ × Value)} (h : IterIs enc w r b M left) (ty : TypeId) :
    (left = [] ∧ (Instr.next (.pointer (some ⟨r, 0, none⟩)) false ty).run P w = .ok (.tuple #[.bool false]) w) ∨
    ∃ x ∈ left, ∃ w', (Instr.next (.pointer (some ⟨r, 0, none⟩)) false ty).run P w = .ok (.tuple #[.bool true, enc x.1, x.2]) w' ∧ IterIs enc w' r b M (mdel left x.1) ∧ Fr (· = r) w w' ∧
      w'.heap.size = w.heap.size ∧ (Instr.entry (.pointer (some ⟨r, 0, none⟩))).run P w' = .ok (.tuple #[enc x.1, x.2]) w' := by
  have hne := h.ne
  have hlt := h.lt
  obtain ⟨L, clock, since, seen, c0, h1, rfl, h3, h4, h5, h6, h7, h8, h9, rfl⟩ := h
  have hleft : (leftOf (L.map (entOf enc)).toArray seen).toList = (L.filter fun x => !seen.contains x.2.2).map (entOf enc) := by
    simp only [leftOf, List.filter_toArray, List.filter_map]
    rfl
  rcases run_next_at (P := P) w ty r b since c0 seen (L.map (entOf enc)).toArray clock h6 h1 (by
      intro x hx
      obtain ⟨y, hy, rfl⟩ := List.mem_map.1 (show x ∈ L.map (entOf enc) from hx)
      exact h7 y hy) h8 with ⟨h0, hrun⟩ | ⟨e, he, w1, hw1, hrun⟩
  · left
    refine ⟨?_, hrun⟩
    have : (leftOf (L.map (entOf enc)).toArray seen).toList = [] := by
      have := Array.eq_empty_of_size_eq_zero h0
      rw [this]
    rw [hleft] at this
    have := List.map_eq_nil_iff.1 this
    rw [this]; rfl
  · right
    rw [hleft] at he
    obtain ⟨x, hx, rfl⟩ := List.mem_map.1 he
    have hxL := (List.mem_filter.1 hx).1
    have hheap : w1.heap = w.heap := by rcases hw1 with rfl | rfl <;> rfl
    have hrest : w1.os = w.os ∧ w1.tape = w.tape ∧ w1.output = w.output := by rcases hw1 with rfl | rfl <;> exact ⟨rfl, rfl, rfl⟩
    have hr' : (setBlock w1 r (.mapIter (some b) since (seen.push x.2.2) clock)).heap[r]? = some (.mapIter (some b) since (seen.push x.2.2) clock) := heap_setBlock_eq _ (by rw [hheap]; exact hlt)
    have hb' : (setBlock w1 r (.mapIter (some b) since (seen.push x.2.2) clock)).heap[b]? = some (.map (L.map (entOf enc)).toArray clock) := (heap_setBlock_ne _ (Ne.symm hne)).trans (by rw [hheap]; exact h1)
    refine ⟨kvOf x, List.mem_map_of_mem hx, _, hrun, ⟨L, clock, since, seen.push x.2.2, clock, hb', rfl, h3, h4, h5, hr', h7, h9, h9, (filter_push L h4 h3 seen x hxL).symm⟩, ⟨hrest.1, hrest.2.1, hrest.2.2, ?_, ?_⟩, ?_, ?_⟩
    · rw [size_setBlock, hheap]; exact Nat.le_refl _
    · intro k _ hk
      rw [heap_setBlock_ne _ hk, hheap]
    · rw [size_setBlock, hheap]
    · exact run_entry_at _ r b since seen _ clock (entOf enc x) hr' hb' (List.mem_map_of_mem hxL) (by simpa [List.map_map, Function.comp_def, entOf] using h4)
end

/-! ### The same at the operation, for the walk -/
section
variable {P : Program} {κ : Type} [DecidableEq κ] {enc : κ → Value} {w : World} {ops : Array Oper} {rest : List Oper} {o : Oper} {a : Act} {Q : Exit → Act → World → Prop}

theorem wpList_lookup_raw (hg : o.guard = none) (m x : Operand) (t : TypeId) (c : Bool) (hop : o.op = Op.lookup t m x c) {e kt : TypeId} (K : KeyOk P kt enc) (ht : P.underlying t = some (.map kt e))
    {z : Value} (hz : ∀ w, (zeroValue e).run P w = .ok z w) {b : Nat} {M : List (κ × Value)} (hm : a.eval m = .map (some b)) (hM : MapIs enc w b M) (k : κ) (hx : a.eval x = enc k)
    (hK : wpList P ops Q rest (a.put o.dst (if c then .tuple #[(mget M k).getD z, .bool (mget M k).isSome] else (mget M k).getD z)) w) : wpList P ops Q (o :: rest) a w := by
  refine wpList_plain hg fun K' hK' => ?_
  have hrun := run_lookup_raw K ht hM k (hz w) c
  unfold Oper.wp
  simp only [execOp, hop, hm, hx, Sem.run_bind, hrun, Result.andThen_ok, Sem.run_pure]
  exact hK' _ _ hK

theorem wpList_mapUpdate_raw (hg : o.guard = none) (m x v : Operand) (t : TypeId) (hop : o.op = Op.mapUpdate t m x v) {e kt : TypeId} (K : KeyOk P kt enc) (ht : P.underlying t = some (.map kt e))
    {b : Nat} {M : List (κ × Value)} (hm : a.eval m = .map (some b)) (hM : MapIs enc w b M) (k : κ) (hx : a.eval x = enc k) (val : Value) (hv : a.eval v = val)
    (hK : ∀ w', MapIs enc w' b (mput M k val) → Fr (· = b) w w' → w'.heap.size = w.heap.size → wpList P ops Q rest (a.put o.dst undef) w') : wpList P ops Q (o :: rest) a w := by
  refine wpList_plain hg fun K' hK' => ?_
  obtain ⟨ob, hrun, h1⟩ := run_mapUpdate_raw K ht hM k val
  unfold Oper.wp
  simp only [execOp, hop, hm, hx, hv, Sem.run_bind, hrun, Result.andThen_ok, Sem.run_pure]
  exact hK' _ _ (hK _ h1 (Fr.setBlock (S := fun x => x = b) (Fr.refl _ _) (.inl rfl) _) (size_setBlock _ _))

theorem wpList_delete_raw (hg : o.guard = none) (m x : Operand) (t kt : TypeId) (hop : o.op = Op.call { callee := Callee.builtin Builtin.delete, args := #[m, x], argTypes := #[t, kt] })
    {e : TypeId} (K : KeyOk P kt enc) (ht : P.underlying t = some (.map kt e)) {b : Nat} {M : List (κ × Value)} (hm : a.eval m = .map (some b)) (hM : MapIs enc w b M) (k : κ) (hx : a.eval x = enc k)
    (hK : ∀ w', MapIs enc w' b (mdel M k) → Fr (· = b) w w' → w'.heap.size = w.heap.size → wpList P ops Q rest (a.put o.dst (.tuple #[])) w') : wpList P ops Q (o :: rest) a w := by
  refine wpList_plain hg fun K' hK' => ?_
  obtain ⟨ob, hrun, h1⟩ := run_delete_raw (ty := o.type) K ht hM k
  unfold Oper.wp
  simp [execOp, hop, resolve, invoke, builtin, hm, hx, hrun, Result.andThen]
  exact hK' _ _ (hK _ h1 (Fr.setBlock (S := fun x => x = b) (Fr.refl _ _) (.inl rfl) _) (size_setBlock _ _))

omit [DecidableEq κ] in
theorem wpList_len_raw (hg : o.guard = none) (m : Operand) (t : TypeId) (hop : o.op = Op.call { callee := Callee.builtin Builtin.len, args := #[m], argTypes := #[t] })
    {e kt : TypeId} (ht : P.underlying t = some (.map kt e)) {b : Nat} {M : List (κ × Value)} (hm : a.eval m = .map (some b)) (hM : MapIs enc w b M)
    (hK : wpList P ops Q rest (a.put o.dst (.int .i64 M.length)) w) : wpList P ops Q (o :: rest) a w := by
  refine wpList_plain hg fun K' hK' => ?_
  have hrun := run_len_raw (ty := o.type) ht hM
  unfold Oper.wp
  simp [execOp, hop, resolve, invoke, builtin, hm, hrun, Result.andThen]
  exact hK' _ _ hK

omit [DecidableEq κ] in
theorem wpList_range_raw (hg : o.guard = none) (m : Operand) (t : TypeId) (hop : o.op = Op.range t m) {e kt : TypeId} (ht : P.underlying t = some (.map kt e)) {b : Nat} {M : List (κ × Value)}
    (hm : a.eval m = .map (some b)) (hM : MapIs enc w b M)
    (hK : ∀ ob, IterIs enc (w.alloc ob) w.heap.size b M M → wpList P ops Q rest (a.put o.dst (.pointer (some ⟨w.heap.size, 0, none⟩))) (w.alloc ob)) : wpList P ops Q (o :: rest) a w := by
  refine wpList_plain hg fun K' hK' => ?_
  obtain ⟨ob, hrun, h1⟩ := run_range_raw ht hM
  unfold Oper.wp
  simp [execOp, hop, hm, hrun, Result.andThen]
  exact hK' _ _ (hK _ h1)

theorem wpList_next_raw (hg : o.guard = none) (it : Operand) (hop : o.op = Op.next it false) {r b : Nat} {M left : List (κ × Value)} (hit : a.eval it = .pointer (some ⟨r, 0, none⟩)) (h : IterIs enc w r b M left)
    (hDone : left = [] → wpList P ops Q rest (a.put o.dst (.tuple #[.bool false])) w)
    (hMore : ∀ x ∈ left, ∀ w', IterIs enc w' r b M (mdel left x.1) → Fr (· = r) w w' → w'.heap.size = w.heap.size → (Instr.entry (.pointer (some ⟨r, 0, none⟩))).run P w' = .ok (.tuple #[enc x.1, x.2]) w' →
      wpList P ops Q rest (a.put o.dst (.tuple #[.bool true, enc x.1, x.2])) w') : wpList P ops Q (o :: rest) a w := by
  refine wpList_plain hg fun K' hK' => ?_
  unfold Oper.wp
  rcases run_next_raw (P := P) h o.type with ⟨h0, hrun⟩ | ⟨x, hx, w', hrun, h1, h2, h3, h4⟩
  · simp [execOp, hop, hit, hrun, Result.andThen]
    exact hK' _ _ (hDone h0)
  · simp [execOp, hop, hit, hrun, Result.andThen]
    exact hK' _ _ (hMore x hx w' h1 h2 h3 h4)
end

/-! ### Keys of some types -/
theorem KeyOk.int {P : Program} {kt : TypeId} {q : IntKind} (hk : P.underlying kt = some (.int q)) : KeyOk P kt (Value.int q) where
  check e k w := by
    have h : ∀ n, (Instr.checkKey e (n + 1) kt (.int q k)).run P w = .ok () w := fun n => by simp [Instr.checkKey, run_underlying hk]
    exact h 9999
  find k L w := by
    have h : ∀ (L : List (Int × Value × Nat)) (i : Nat), Instr.findNow (.int q) (.int q k) (L.map (entOf (Value.int q))) i = some ((L.findIdx? (fun x => decide (x.1 = k))).bind fun j => (L[j]?).map fun x => (j + i, x.2.1)) := by
      intro L
      induction L with
      | nil => intro i; rfl
      | cons x L ih =>
        intro i
        by_cases hx : x.1 = k
        · simp [Instr.findNow, Instr.sameNow, entOf, hx, List.findIdx?_cons]
        · have hx' : (k == x.1) = false := by simpa using fun e => hx e.symm
          simp only [List.map_cons, Instr.findNow, Instr.sameNow, entOf, if_true, hx', ih, List.findIdx?_cons, hx, decide_false, Bool.false_eq_true, if_false]
          cases L.findIdx? (fun x => decide (x.1 = k)) with
          | none => rfl
          | some j => simp [Nat.add_comm, Nat.add_left_comm]
    simp [Instr.findKey, run_underlying hk, h L 0]
  same k := by simp [Instr.sameBits]

theorem KeyOk.of_equal {P : Program} {κ : Type} [DecidableEq κ] {kt : TypeId} {enc : κ → Value} {d : TypeDesc} (hk : P.underlying kt = some d) (hnow : ∀ k k', Instr.sameNow d (enc k) (enc k') = none)
    (hch : ∀ (e : Bool) (k : κ) (w : World), (Instr.checkKey e 10000 kt (enc k)).run P w = .ok () w) (hsame : ∀ k : κ, Instr.sameBits 10000 (enc k) (enc k) = true)
    (heq : ∀ (k k' : κ) (w : World), (Op.equal kt (enc k) (enc k')).run P w = .ok (decide (k = k')) w) : KeyOk P kt enc where
  check := hch
  find k L w := by
    cases L with
    | nil => simp [Instr.findKey, run_underlying hk, Instr.findNow]
    | cons y L =>
      have h0 : Instr.findNow d (enc k) ((y :: L).map (entOf enc)) 0 = none := by simp [Instr.findNow, entOf, hnow]
      have h : ∀ (L : List (κ × Value × Nat)) (i : Nat), (Instr.findAsking kt (enc k) (L.map (entOf enc)) i).run P w = .ok ((L.findIdx? (fun x => decide (x.1 = k))).bind fun j => (L[j]?).map fun x => (j + i, x.2.1)) w := by
        intro L
        induction L with
        | nil => intro i; simp [Instr.findAsking]
        | cons x L ih =>
          intro i
          by_cases hx : x.1 = k
          · simp [Instr.findAsking, entOf, heq, hx, List.findIdx?_cons]
          · have hx' : ¬ k = x.1 := fun e => hx e.symm
            simp only [List.map_cons, Instr.findAsking, entOf, Sem.run_bind, heq, hx', decide_false, Result.andThen_ok, Bool.false_eq_true, if_false, ih, List.findIdx?_cons, hx]
            cases L.findIdx? (fun x => decide (x.1 = k)) with
            | none => rfl
            | some j => simp [Nat.add_comm, Nat.add_left_comm]
      simp only [Instr.findKey, Sem.run_bind, run_underlying hk, Result.andThen_ok, h0, h (y :: L) 0, Nat.add_zero]
  same := hsame
end Go.Proofs.Ytekiccbhjnfciaa
