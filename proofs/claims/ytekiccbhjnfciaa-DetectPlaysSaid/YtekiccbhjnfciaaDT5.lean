/- Nodes are watched, heard and suspected as the document says at each step: any guess, any script. -/
import Derived.Test.YtekiccbhjnfciaaDT4
namespace Go.Proofs.Ytekiccbhjnfciaa
open Go.RowKit
def TrueBelowD (w : World) (e : Ending) (w' : World) : Prop := e = .returned (.bool true) ∧ Below w.heap.size w w'
set_option maxRecDepth 100000 in
theorem detect4n (w : World) (g : Int) (hg : ¬ (1 ≤ g ∧ g ≤ 4096)) (v : Value) : Calls Try.prog 4 #[.int .i64 g, v] w (TrueBelowD w) := by
  have hn := fun w => new12n g hg w
  by_cases h1 : 1 ≤ g
  · have h2 : 4096 < g := by omega
    have hd : decide (g ≤ 4096) = false := by simp; omega
    clear hg
    go_enter Try.func4, Try.ntmps4
    go_wp2_with (first | (go_at_call 11; refine (awake11 _).mono ?_; rintro e w1 ⟨rfl, hs⟩) | (go_at_call 12; refine (hn _).mono ?_; rintro e w' ⟨rfl, rfl⟩))
    go_ret
    exact ⟨rfl, hs.below⟩
  · have h2 : g < 1 := by omega
    clear hg h1
    go_enter Try.func4, Try.ntmps4
    go_wp2_with (first | (go_at_call 11; refine (awake11 _).mono ?_; rintro e w1 ⟨rfl, hs⟩) | (go_at_call 12; refine (hn _).mono ?_; rintro e w' ⟨rfl, rfl⟩))
    go_ret
    exact ⟨rfl, hs.below⟩
def ScriptD (w : World) (v : Value) (l : List ActI) : Prop := RdS w w.heap.size 4 v l.length (l.flatMap ActI.cells)
theorem flatMap_at' {α : Type} (f : α → List Value) (k : Nat) (hf : ∀ x, (f x).length = k) : ∀ (l : List α) (i j : Nat) (x : α), l[i]? = some x → j < k → (l.flatMap f)[i * k + j]? = (f x)[j]?
  | [], i, j, x, h, _ => by simp at h
  | y :: l, 0, j, x, h, hj => by
    have : y = x := by simpa using h
    subst this
    simp only [List.flatMap_cons, Nat.zero_mul, Nat.zero_add]
    rw [List.getElem?_append_left (by rw [hf]; exact hj)]
  | y :: l, i + 1, j, x, h, hj => by
    simp only [List.flatMap_cons]
    rw [List.getElem?_append_right (by rw [hf, Nat.add_mul]; omega), hf, show (i + 1) * k + j - k = i * k + j by rw [Nat.add_mul]; omega]
    exact flatMap_at' f k hf l i j x (by simpa using h) hj
theorem ScriptD.at_ {w wr : World} {v : Value} {l : List ActI} (h : ScriptD w v l) (hb : Fr (NW w.heap.size) w wr) {i : Nat} (hi : i < l.length) :
    ∃ (g o c : Nat) (x : ActI), v = .slice (some ⟨g, o, none⟩) l.length c ∧ wr.cell? ⟨g, o + i * 4, none⟩ = some (.int .i64 x.kind) ∧ wr.cell? ⟨g, o + i * 4 + 1, none⟩ = some (.int .i64 x.peer) ∧
      wr.cell? ⟨g, o + i * 4 + 2, none⟩ = some (.int .i64 x.t) ∧ wr.cell? ⟨g, o + i * 4 + 3, none⟩ = some (.bool x.raw) := by
  obtain ⟨h1, a, cap, he, hc, h3⟩ := RdS.below h (hb.below (Nat.le_refl _) (fun i hi h => Nat.lt_irrefl _ (Nat.lt_of_lt_of_le hi h)))
  obtain ⟨g, o, rfl, hg, h4⟩ := h3 (by omega)
  have hx : l[i]? = some l[i] := List.getElem?_eq_getElem hi
  have h5 := fun j hj => flatMap_at' ActI.cells 4 (fun _ => rfl) l i j l[i] hx hj
  exact ⟨g, o, cap, l[i], he, h4 (i * 4) _ (h5 0 (by omega)), h4 (i * 4 + 1) _ (h5 1 (by omega)), h4 (i * 4 + 2) _ (h5 2 (by omega)), h4 (i * 4 + 3) _ (h5 3 (by omega))⟩
set_option maxRecDepth 100000 in
set_option maxHeartbeats 4000000 in
theorem detect4 (w : World) (g : Int) (hg : 1 ≤ g ∧ g ≤ 4096) (sa : Option Addr) (sc : Nat) (l : List ActI) (hsc : ScriptD w (.slice sa l.length sc) l) :
    Calls Try.prog 4 #[.int .i64 g, .slice sa l.length sc] w (TrueBelowD w) := by
  have hn := fun w => new12 g hg w
  obtain ⟨hg1, hg2⟩ := hg
  have HS := Lib.hid hsc
  clear hsc
  go_enter Try.func4, Try.ntmps4
  go_upto_region 9 with (first | (go_at_call 11; refine (awake11 _).mono ?_; rintro e w1 ⟨rfl, hs⟩) | (go_at_call 12; refine (hn _).mono ?_; rintro e w2 ⟨d, mb, hd, hmb, rfl, hI, hs2⟩))
  have hr := Blk.new w2 34 #[.int .i64 g, .slice none 0 0]
  have ht := Blk.new (w2.alloc (.cells #[.int .i64 g, .slice none 0 0] 34)) 36 #[.pointer (some ⟨d, 0, none⟩), .pointer (some ⟨w2.heap.size, 0, none⟩), .int .i64 0]
  rw [World.size_alloc] at ht
  have hr' := hr.alloc (.cells #[.pointer (some ⟨d, 0, none⟩), .pointer (some ⟨w2.heap.size, 0, none⟩), .int .i64 0] 36)
  have hsA : Same w2 ((w2.alloc (.cells #[.int .i64 g, .slice none 0 0] 34)).alloc (.cells #[.pointer (some ⟨d, 0, none⟩), .pointer (some ⟨w2.heap.size, 0, none⟩), .int .i64 0] 36)) := ((Same.refl w2).alloc _).alloc _
  have hz1 := hs.size
  have hz2 := hs2.size
  have HT : Tw ⟨w.heap.size, w2.heap.size + 1, d, mb, w2.heap.size, g⟩ 0 w ((w2.alloc (.cells #[.int .i64 g, .slice none 0 0] 34)).alloc (.cells #[.pointer (some ⟨d, 0, none⟩), .pointer (some ⟨w2.heap.size, 0, none⟩), .int .i64 0] 36)) [] [] :=
    ⟨ht, hI.same hsA, ⟨.slice none 0 0, hr', OwnS.nil _ _ _, by show w.heap.size ≤ w2.heap.size; omega, fun k hk => (by cases hk)⟩, by show w.heap.size ≤ mb; omega, good_nil, good_nil, ((hs.trans hs2).trans hsA).fr _⟩
  obtain ⟨A, hA⟩ : ∃ A : At, A = ⟨w.heap.size, w2.heap.size + 1, d, mb, w2.heap.size, g⟩ := ⟨_, rfl⟩
  have hAB : A.B = w.heap.size := by rw [hA]
  have hAt : A.tb = w2.heap.size + 1 := by rw [hA]
  have htb : A.B ≤ A.tb := by rw [hAB, hAt]; omega
  rw [← hA] at HT
  rw [← hAt]
  have HAB := Lib.hid hAB
  clear hr ht hr' hsA hz1 hz2 hs hs2 hI hA hd hmb hAB hAt
  generalize (w2.alloc (.cells #[.int .i64 g, .slice none 0 0] 34)).alloc (.cells #[.pointer (some ⟨d, 0, none⟩), .pointer (some ⟨w2.heap.size, 0, none⟩), .int .i64 0] 36) = w3 at HT ⊢
  go_wp2_with fail
  go_loopw [10, 11, 12] (fun s10 s11 s12 wx => ∃ (k : Nat) (now : Int) (L : List PeerI), s10 = .int .i64 k ∧ Tw A now w wx L L) (fun s10 _ _ _ => 500 - (intOf s10).toNat)
  case atStart => exact ⟨0, 0, [], rfl, HT⟩
  case round =>
    obtain ⟨k, now, L, rfl, HTr⟩ := hrel
    have hfin : Below w.heap.size w wr := by
      have h := HTr.fr
      rw [HAB.out] at h
      exact h.below (Nat.le_refl _) (fun i hi h => Nat.lt_irrefl _ (Nat.lt_of_lt_of_le hi h))
    by_cases hlt : k < 500 ∧ k < l.length
    · obtain ⟨h500, hkl⟩ := hlt
      have hfr : Fr (NW w.heap.size) w wr := by have h := HTr.fr; rw [HAB.out] at h; exact h
      obtain ⟨sg, so, c, x, hv, c0, c1, c2, c3⟩ := HS.out.at_ hfr hkl
      cases hv
      clear hfr hfin
      go_wp2_with (first | (go_at_call 13; refine (step13 A now w wr L x HTr htb).mono ?_; rintro e w4 ⟨rfl, now', L', HT4⟩) | (go_at_call 14; refine (waits14 A now' w w4 L' HT4).mono ?_; rintro e w5 ⟨rfl, hs5⟩))
      go_roundw
      case measure => simp only [intOf]; omega
      case rel => exact ⟨k + 1, now', L', by go_num, HT4.same hs5⟩
    · by_cases h500 : k < 500
      · have hkl : ¬ k < l.length := fun h => hlt ⟨h500, h⟩
        clear hlt
        go_wp2
        go_ret
        exact ⟨rfl, hfin⟩
      · clear hlt
        by_cases hkl : k < l.length
        · go_wp2
          go_ret
          exact ⟨rfl, hfin⟩
        · go_wp2
          go_ret
          exact ⟨rfl, hfin⟩
end Go.Proofs.Ytekiccbhjnfciaa
