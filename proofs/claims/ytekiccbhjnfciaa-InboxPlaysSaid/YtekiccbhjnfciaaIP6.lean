/- The script of an inbox: what the two sides hold, act by act. -/
import Derived.Test.YtekiccbhjnfciaaIP5
import Derived.Test.YtekiccbhjnfciaaIW5
namespace Go.Proofs.Ytekiccbhjnfciaa
open Go.RowKit
/-- a packet on both sides: the inbox's own copy of its bytes, and the script's own bytes -/
structure Tw where
  id : Int
  src : Int
  dst : Int
  m : Nat
  bs : List Int
  a1 : Option Addr
  c1 : Nat
  a2 : Option Addr
  c2 : Nat
def Tw.one (t : Tw) : List Value := [.int .u64 t.id, .int .i64 t.src, .int .i64 t.dst, .slice t.a1 t.m t.c1]
def Tw.two (t : Tw) : List Value := [.int .u64 t.id, .int .i64 t.src, .int .i64 t.dst, .slice t.a2 t.m t.c2]
structure TwOk (w : World) (B : Nat) (t : Tw) : Prop where
  own : OwnS w 5 1 (.slice t.a1 t.m t.c1) t.m (t.bs.map (Value.int .u8))
  rd : Bytes w B t.a2 t.m t.c2 t.bs
  room : t.m ≤ 140737488355328
/-- what holds ahead of each act: 'w' is the world ahead of the call -/
structure St (w wr : World) (b : Nat) (room : Int) (L : List Tw) (a0 : Option Addr) (cc : Nat) (la : Option Addr) (lc : Nat) : Prop where
  below : Below w.heap.size w wr
  new : w.heap.size ≤ b
  inbox : InboxIs wr b room (.slice a0 L.length cc) L.length (L.flatMap Tw.one)
  row : ∀ g, (Value.slice a0 L.length cc).ownBlock = some g → w.heap.size ≤ g
  list : OwnS wr 49 4 (.slice la L.length lc) L.length (L.flatMap Tw.two)
  row2 : ∀ g, (Value.slice la L.length lc).ownBlock = some g → w.heap.size ≤ g
  apart : ∀ g, (Value.slice a0 L.length cc).ownBlock = some g → (Value.slice la L.length lc).ownBlock ≠ some g
  tw : ∀ t ∈ L, TwOk wr w.heap.size t
  most : (L.length : Int) ≤ room
/-- an act of the script as it lies in memory -/
structure OpI where
  kind : Int
  id : Int
  src : Int
  dst : Int
  a : Option Addr
  m : Nat
  c : Nat
  bs : List Int
def OpI.cells (o : OpI) : List Value := [.int .i64 o.kind, .int .u64 o.id, .int .i64 o.src, .int .i64 o.dst, .slice o.a o.m o.c]
def Script (w : World) (v : Value) (l : List OpI) : Prop :=
  RdS w w.heap.size 5 v l.length (l.flatMap OpI.cells) ∧ ∀ o ∈ l, Bytes w w.heap.size o.a o.m o.c o.bs ∧ o.m ≤ 140737488355328
theorem flatMap_at {α : Type} (f : α → List Value) (k : Nat) (hf : ∀ x, (f x).length = k) : ∀ (l : List α) (i j : Nat) (x : α), l[i]? = some x → j < k → (l.flatMap f)[i * k + j]? = (f x)[j]?
  | [], i, j, x, h, _ => by simp at h
  | y :: l, 0, j, x, h, hj => by
    have : y = x := by simpa using h
    subst this
    simp only [List.flatMap_cons, Nat.zero_mul, Nat.zero_add]
    rw [List.getElem?_append_left (by rw [hf]; exact hj)]
  | y :: l, i + 1, j, x, h, hj => by
    simp only [List.flatMap_cons]
    rw [List.getElem?_append_right (by rw [hf, Nat.add_mul]; omega), hf, show (i + 1) * k + j - k = i * k + j by rw [Nat.add_mul]; omega]
    exact flatMap_at f k hf l i j x (by simpa using h) hj
theorem Script.at_ {w wr : World} {v : Value} {l : List OpI} (h : Script w v l) (hb : Below w.heap.size w wr) {i : Nat} (hi : i < l.length) :
    ∃ g o c x, v = .slice (some ⟨g, o, none⟩) l.length c ∧ g < w.heap.size ∧ l[i]? = some x ∧ wr.cell? ⟨g, o + i * 5, none⟩ = some (.int .i64 x.kind) ∧ wr.cell? ⟨g, o + i * 5 + 1, none⟩ = some (.int .u64 x.id) ∧
      wr.cell? ⟨g, o + i * 5 + 2, none⟩ = some (.int .i64 x.src) ∧ wr.cell? ⟨g, o + i * 5 + 3, none⟩ = some (.int .i64 x.dst) ∧ wr.cell? ⟨g, o + i * 5 + 4, none⟩ = some (.slice x.a x.m x.c) ∧
      Bytes wr w.heap.size x.a x.m x.c x.bs ∧ x.m ≤ 140737488355328 := by
  obtain ⟨h1, a, cap, he, hc, h3⟩ := RdS.below h.1 hb
  obtain ⟨g, o, rfl, hg, h4⟩ := h3 (by omega)
  have hx : l[i]? = some l[i] := List.getElem?_eq_getElem hi
  have h5 := fun j hj => flatMap_at OpI.cells 5 (fun _ => rfl) l i j l[i] hx hj
  have hm := h.2 l[i] (List.getElem_mem hi)
  refine ⟨g, o, cap, l[i], he, hg, hx, h4 (i * 5) _ (h5 0 (by omega)), ?_, ?_, ?_, ?_, RdS.below hm.1 hb, hm.2⟩
  · exact (h4 (i * 5 + 1) _ (h5 1 (by omega)))
  · exact (h4 (i * 5 + 2) _ (h5 2 (by omega)))
  · exact (h4 (i * 5 + 3) _ (h5 3 (by omega)))
  · exact (h4 (i * 5 + 4) _ (h5 4 (by omega)))

theorem InboxIs.fr {w w' : World} {b : Nat} {room : Int} {lv : Value} {n : Nat} {xs : List Value} {S : Nat → Prop} (h : InboxIs w b room lv n xs) (hf : Fr S w w') (hb : ¬ S b) (hr : ∀ g, lv.ownBlock = some g → ¬ S g) : InboxIs w' b room lv n xs :=
  ⟨h.1.fr hf hb, h.2.fr hf hr⟩
theorem TwOk.fr {w w' : World} {B : Nat} {t : Tw} {S : Nat → Prop} (h : TwOk w B t) (hf : Fr S w w') (hB : B ≤ w.heap.size) (hn : ∀ k, k < B → ¬ S k) (hr : ∀ g, (Value.slice t.a1 t.m t.c1).ownBlock = some g → ¬ S g) : TwOk w' B t :=
  ⟨h.own.fr hf hr, RdS.fr h.rd hf hB hn, h.room⟩
theorem St.same {w wr wr' : World} {b : Nat} {room : Int} {L : List Tw} {a0 : Option Addr} {cc : Nat} {la : Option Addr} {lc : Nat} (h : St w wr b room L a0 cc la lc) (hs : Same wr wr') : St w wr' b room L a0 cc la lc where
  below := h.below.trans (Below.mono (Same.below hs) h.below.size)
  new := h.new
  inbox := InboxIs.fr (S := fun _ => False) h.inbox hs (fun h => h) (fun _ _ h => h)
  row := h.row
  list := h.list.same hs
  row2 := h.row2
  apart := h.apart
  tw := fun t ht => TwOk.fr (S := fun _ => False) (h.tw t ht) hs h.below.size (fun _ _ h => h) (fun _ _ h => h)
  most := h.most
/-- a packet that was put on both sides: what holds then -/
theorem St.put {w wr w4 w5 w6 : World} {b : Nat} {room : Int} {L : List Tw} {a0 : Option Addr} {cc : Nat} {la : Option Addr} {lc : Nat} (h : St w wr b room L a0 cc la lc) (t : Tw) {a' : Option Addr} {c' : Nat} {au : Option Addr} {cu : Nat} {zs : List Value} {la' : Option Addr} {lc' : Nat}
    (hroom : (L.length : Int) < room)
    -- the put
    (hI : InboxIs w4 b room (.slice a' (L.length + 1) c') (L.length + 1) (L.flatMap Tw.one ++ t.one)) (hcl : OwnS w4 5 1 (.slice t.a1 t.m t.c1) t.m (t.bs.map (Value.int .u8))) (hcn : ∀ g, (Value.slice t.a1 t.m t.c1).ownBlock = some g → wr.heap.size ≤ g)
    (hf4 : Fr (fun k => k = b ∨ (Value.slice a0 L.length cc).ownBlock = some k) wr w4) (hr4 : ∀ g, (Value.slice a' (L.length + 1) c').ownBlock = some g → (Value.slice a0 L.length cc).ownBlock = some g ∨ wr.heap.size ≤ g)
    (hby : Bytes wr w.heap.size t.a2 t.m t.c2 t.bs) (hm : t.m ≤ 140737488355328)
    -- the script writes over its own bytes
    (hu : OwnS w4 5 1 (.slice au t.m cu) t.m zs) (hun : ∀ g, (Value.slice au t.m cu).ownBlock = some g → w.heap.size ≤ g) (hu1 : ∀ g, (Value.slice au t.m cu).ownBlock = some g → (Value.slice t.a1 t.m t.c1).ownBlock ≠ some g)
    (hu2 : ∀ s ∈ L, ∀ g, (Value.slice au t.m cu).ownBlock = some g → (Value.slice s.a1 s.m s.c1).ownBlock ≠ some g)
    (hf5 : Fr (fun k => (Value.slice au t.m cu).ownBlock = some k) w4 w5)
    -- the script keeps the packet
    (hl : OwnS w6 49 4 (.slice la' (L.length + 1) lc') (L.length + 1) (L.flatMap Tw.two ++ t.two)) (hf6 : Fr (fun k => (Value.slice la L.length lc).ownBlock = some k) w5 w6)
    (hl6 : ∀ g, (Value.slice la' (L.length + 1) lc').ownBlock = some g → (Value.slice la L.length lc).ownBlock = some g ∨ w5.heap.size ≤ g) :
    St w w6 b room (L ++ [t]) a' c' la' lc' := by
  have hlen : (L ++ [t]).length = L.length + 1 := by simp
  have hx1 : (L ++ [t]).flatMap Tw.one = L.flatMap Tw.one ++ t.one := by simp
  have hx2 : (L ++ [t]).flatMap Tw.two = L.flatMap Tw.two ++ t.two := by simp
  have hsz := h.below.size
  have hlist4 : OwnS w4 49 4 (.slice la L.length lc) L.length (L.flatMap Tw.two) := h.list.fr hf4 (fun g hg hh => by
    rcases hh with rfl | hh
    · exact h.list.ne_blk h.inbox.1 (by decide) hg
    · exact h.apart g hh hg)
  have hlist5 : OwnS w5 49 4 (.slice la L.length lc) L.length (L.flatMap Tw.two) := hlist4.fr hf5 (fun g hg hh => hu.ne_ hlist4 (by decide) hh hg)
  have hI5 : InboxIs w5 b room (.slice a' (L.length + 1) c') (L.length + 1) (L.flatMap Tw.one ++ t.one) := hI.fr hf5 (hu.ne_blk hI.1 (by decide)) (fun g hg hh => hu.ne_ hI.2 (by decide) hh hg)
  have hsz4 := hf4.size
  have hsz5 := hf5.size
  have hap : ∀ g, (Value.slice a' (L.length + 1) c').ownBlock = some g → (Value.slice la L.length lc).ownBlock ≠ some g := fun g hg hh => by
    rcases hr4 g hg with h1 | h1
    · exact h.apart g h1 hh
    · have := h.list.lt hh
      omega
  have hnw : ∀ k, k < w.heap.size → ¬ (k = b ∨ (Value.slice a0 L.length cc).ownBlock = some k) := fun k hk hh => by
    rcases hh with rfl | hh
    · have := h.new
      omega
    · have := h.row k hh
      omega
  have htw4 : ∀ s ∈ L, TwOk w4 w.heap.size s := fun s hs => (h.tw s hs).fr hf4 hsz hnw (fun g hg hh => by
    rcases hh with rfl | hh
    · exact (h.tw s hs).own.ne_blk h.inbox.1 (by decide) hg
    · exact (h.tw s hs).own.ne_ h.inbox.2 (by decide) hg hh)
  have ht4 : TwOk w4 w.heap.size t := ⟨hcl, RdS.fr hby hf4 hsz hnw, hm⟩
  have hn5 : ∀ k, k < w.heap.size → ¬ (Value.slice au t.m cu).ownBlock = some k := fun k hk hh => by
    have := hun k hh
    omega
  have hn6 : ∀ k, k < w.heap.size → ¬ (Value.slice la L.length lc).ownBlock = some k := fun k hk hh => by
    have := h.row2 k hh
    omega
  constructor
  · exact ((h.below.trans (Fr.below hf4 hsz hnw)).trans (Fr.below hf5 (by omega) hn5)).trans (Fr.below hf6 (by omega) hn6)
  · exact h.new
  · rw [hlen, hx1]
    exact hI5.fr hf6 (hlist5.ne_blk hI5.1 (by decide)) hap
  · rw [hlen]
    intro g hg
    rcases hr4 g hg with h1 | h1
    · exact h.row g h1
    · omega
  · rw [hlen, hx2]
    exact hl
  · rw [hlen]
    intro g hg
    rcases hl6 g hg with h1 | h1
    · exact h.row2 g h1
    · omega
  · rw [hlen]
    intro g hg hh
    rcases hl6 g hh with h1 | h1
    · exact hap g hg h1
    · have := hI5.2.lt hg
      omega
  · intro s hs
    have key : ∀ s, TwOk w4 w.heap.size s → (∀ g, (Value.slice au t.m cu).ownBlock = some g → (Value.slice s.a1 s.m s.c1).ownBlock ≠ some g) → TwOk w6 w.heap.size s := fun s h4 hne => by
      have h5 : TwOk w5 w.heap.size s := h4.fr hf5 (by omega) hn5 (fun g hg hh => hne g hh hg)
      exact h5.fr hf6 (by omega) hn6 (fun g hg hh => h5.own.ne_ hlist5 (by decide) hg hh)
    rcases List.mem_append.1 hs with h1 | h1
    · exact key s (htw4 s h1) (fun g hg => hu2 s h1 g hg)
    · obtain rfl := List.mem_singleton.1 h1
      exact key s ht4 hu1
  · rw [hlen]
    omega
end Go.Proofs.Ytekiccbhjnfciaa
